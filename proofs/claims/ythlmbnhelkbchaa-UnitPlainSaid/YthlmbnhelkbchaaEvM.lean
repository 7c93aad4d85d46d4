/- Each operation that calls nothing: the model's run answers what the evaluator tells. -/
import Derived.Test.YthlmbnhelkbchaaEvL
namespace Go.Ev
open Go.RowKit
section
variable {A : Type} {P : Program} {r : A} {ρ : Loc} {N : Zone} {n id : Nat} {h : Heap} {w : World}

theorem sim_fold (f : Int → Int → Int) (g : Value → Value → Sem Value) (hg : ∀ k a b, g (.int k a) (.int k b) = pure (.int k (f a b))) (k : IntKind) : ∀ (a : Int) (vs : List AV) (vs' : List Value) (K : AV → Option A), RL ρ vs vs' → foldI f k a vs K = some r →
    ∃ b, K (.int k b) = some r ∧ ∀ w, (vs'.foldlM g (.int k a) : Sem Value).run P w = .ok (.int k b) w
  | a, [], vs', K, hv, hh => by
    have : vs' = [] := List.eq_nil_of_length_eq_zero (by have := hv.len; simpa using this.symm)
    subst this
    exact ⟨a, hh, fun w => by simp⟩
  | a, v :: vs, vs', K, hv, hh => by
    cases vs' with
    | nil => have := hv.len; simp at this
    | cons v' vs' =>
      simp only [foldI] at hh
      obtain ⟨b, rfl, hk⟩ := asInt_some hh
      have := hv.head.int_inv; subst this
      obtain ⟨c, h1, h2⟩ := sim_fold f g hg k (f a b) vs vs' K hv.tail hk
      exact ⟨c, h1, fun w => by simp [hg, h2]⟩
theorem erase_told {es : List (AV × AV × Nat)} {en : Array MapEntry} (h : RE ρ es en.toList) (j : Nat) : (delEntry es j).length = (en.eraseIdxIfInBounds j).size ∧
    ∀ (i : Nat) (e : AV × AV × Nat) (e' : MapEntry), (delEntry es j)[i]? = some e → (en.eraseIdxIfInBounds j)[i]? = some e' → R ρ e.1 e'.key ∧ R ρ e.2.1 e'.val ∧ e'.born = e.2.2 := by
  have ht : (en.eraseIdxIfInBounds j).toList = en.toList.eraseIdx j := by
    unfold Array.eraseIdxIfInBounds
    split
    · simp
    · rw [List.eraseIdx_of_length_le]; simp; omega
  have hl := h.len
  simp only [Array.length_toList] at hl
  refine ⟨?_, fun i e e' a b => ?_⟩
  · rw [← Array.length_toList, ht, delEntry_eq, List.length_eraseIdx, List.length_eraseIdx]
    simp [hl]
  · rw [delEntry_eq, List.getElem?_eraseIdx] at a
    rw [← Array.getElem?_toList, ht, List.getElem?_eraseIdx] at b
    split at a
    · rename_i hi; rw [if_pos hi] at b; exact h.get _ _ _ a b
    · rename_i hi; rw [if_neg hi] at b; exact h.get _ _ _ a b
theorem sim_builtin {b : Builtin} {tys : Array TypeId} {args : List AV} {args' : List Value} {ty : TypeId} {K : AV → Heap → Option A} (hr : Rep ρ ⟨h.m, n⟩ N w) (hid : b = .append → ρ id = none ∧ id < n) (ha : RL ρ args args')
    (hh : builtinK P b tys.toList args h id K = some r) : ∃ s : Sem Value, (∀ consts, builtin b tys ty consts args'.toArray = (do pure (.value (← s)))) ∧ SimM P ρ N n id h w s K r := by
  have one : ∀ {x : AV} {l : List Value}, RL ρ [x] l → ∃ x', l = [x'] ∧ R ρ x x' := fun {x l} hl => by
    cases l with
    | nil => have := hl.len; simp at this
    | cons x' l =>
      have : l = [] := List.eq_nil_of_length_eq_zero (by have := hl.len; simpa using this.symm)
      subst this
      exact ⟨x', rfl, hl.head⟩
  have two : ∀ {x y : AV} {l : List Value}, RL ρ [x, y] l → ∃ x' y', l = [x', y'] ∧ R ρ x x' ∧ R ρ y y' := fun {x y l} hl => by
    cases l with
    | nil => have := hl.len; simp at this
    | cons x' l =>
      obtain ⟨y', rfl, hy⟩ := one hl.tail
      exact ⟨x', y', rfl, hl.head, hy⟩
  have arr1 : ∀ {t : TypeId}, tys.toList = [t] → tys = #[t] := fun {t} e => by apply Array.ext'; simpa using e
  have arr2 : ∀ {t u : TypeId}, tys.toList = [t, u] → tys = #[t, u] := fun {t u} e => by apply Array.ext'; simpa using e
  unfold builtinK at hh
  split at hh
  · rename_i t x e1
    have := arr1 e1; subst this
    obtain ⟨x', rfl, hx⟩ := one ha
    obtain ⟨d, hd, hk⟩ := tyK_some hh
    refine ⟨Builtin.len_ #[t] ty #[x'], fun _ => rfl, ?_⟩
    split at hk
    · obtain ⟨s, rfl, hk1⟩ := asStr_some hk
      obtain ⟨s', rfl, rfl⟩ := hx.str_inv
      rw [lenS_eq] at hk1
      refine ⟨_, h, _, w, ρ, hk1, rfl, ?_, GrowsS.refl _, fun _ _ => rfl, hr, .int _ _, Low.refl _ _⟩
      simp [Builtin.len_, run_und hd, goInt]
    · rcases asSl2_some hx hk with ⟨p, len, cap, ex, sz, hx, hk1⟩ | ⟨cs, len, ex, sz, hx, hk1⟩
      rotate_left
      · obtain ⟨a, cap', rfl, _⟩ := hx.fz_inv
        refine ⟨_, h, .int .i64 (len : Nat), w, ρ, hk1, rfl, ?_, GrowsS.refl _, fun _ _ => rfl, hr, .int _ _, Low.refl _ _⟩
        simp [Builtin.len_, run_und hd, goInt]
      refine ⟨_, h, .int .i64 (len : Nat), w, ρ, hk1, rfl, ?_, GrowsS.refl _, fun _ _ => rfl, hr, .int _ _, Low.refl _ _⟩
      cases p with
      | none => obtain ⟨rfl, rfl, _⟩ := hx.nils_inv; simp [Builtin.len_, run_und hd, goInt]
      | some q =>
        obtain ⟨p, a, cap', q1, rfl, _⟩ := hx.sl_inv
        simp [Builtin.len_, run_und hd, goInt]
    · refine ⟨_, h, _, w, ρ, hk, rfl, ?_, GrowsS.refl _, fun _ _ => rfl, hr, .int _ _, Low.refl _ _⟩
      simp [Builtin.len_, run_und hd, goInt]
    · obtain ⟨p, rfl, hk1⟩ := asMap_some hk
      cases p with
      | none =>
        cases hx
        simp only [entriesK] at hk1
        refine ⟨_, h, _, w, ρ, hk1, rfl, ?_, GrowsS.refl _, fun _ _ => rfl, hr, .int _ _, Low.refl _ _⟩
        simp [Builtin.len_, run_und hd, goInt]
      | some b =>
        simp only [entriesK] at hk1
        split at hk1
        · rename_i es ck hb
          obtain ⟨p, en, hp, h1, h2, h3⟩ := map_there hr hb
          cases hx with
          | map hp' =>
            rename_i p'
            rw [hp] at hp'; cases hp'
            have hg := getObj_run (P := P) h1 (by simp)
            have hl := h2.len
            simp only [Array.length_toList] at hl
            refine ⟨_, h, _, w, ρ, hk1, rfl, ?_, GrowsS.refl _, fun _ _ => rfl, hr, .int _ _, Low.refl _ _⟩
            simp [Builtin.len_, run_und hd, goInt, hg, hl]
        · cases hk1
    · cases hk
  · rename_i t x e1
    have := arr1 e1; subst this
    obtain ⟨x', rfl, hx⟩ := one ha
    obtain ⟨d, hd, hk⟩ := tyK_some hh
    refine ⟨Builtin.cap_ #[t] ty #[x'], fun _ => rfl, ?_⟩
    split at hk
    · rcases asSl2_some hx hk with ⟨p, len, cap, ex, sz, hx, hk1⟩ | ⟨cs, len, ex, sz, hx, hk1⟩
      rotate_left
      · obtain ⟨hex, hk2⟩ := guardK_some hk1
        obtain ⟨a, cap', rfl, f1, f2, f3, f4, f5⟩ := hx.fz_inv
        have := f5 hex
        subst this
        refine ⟨_, h, .int .i64 (cap' : Nat), w, ρ, hk2, rfl, ?_, GrowsS.refl _, fun _ _ => rfl, hr, .int _ _, Low.refl _ _⟩
        simp [Builtin.cap_, run_und hd, goInt]
      obtain ⟨hex, hk2⟩ := guardK_some hk1
      subst hex
      refine ⟨_, h, .int .i64 (cap : Nat), w, ρ, hk2, rfl, ?_, GrowsS.refl _, fun _ _ => rfl, hr, .int _ _, Low.refl _ _⟩
      cases p with
      | none => obtain ⟨rfl, _, rfl, _⟩ := hx.nils_inv; simp [Builtin.cap_, run_und hd, goInt]
      | some q =>
        obtain ⟨p, a, cap', q1, rfl, _, q3, _⟩ := hx.sl_inv
        have := q3 rfl
        subst this
        simp [Builtin.cap_, run_und hd, goInt]
    · cases hk
  · rename_i t u s x e1
    have := arr2 e1; subst this
    obtain ⟨s', x', rfl, hs, hx⟩ := two ha
    obtain ⟨d, hd, hk⟩ := tyK_some hh
    obtain ⟨du, hdu, hk1⟩ := tyK_some hk
    refine ⟨Builtin.append_ #[t, u] ty #[s', x'], fun _ => rfl, ?_⟩
    split at hk1
    · exact sim_append hr (hid rfl).1 (hid rfl).2 hs hx hd (.inl ⟨rfl, .inl ⟨_, hdu⟩⟩) hk1
    · exact sim_append hr (hid rfl).1 (hid rfl).2 hs hx hd (.inl ⟨rfl, .inr hdu⟩) hk1
    · exact sim_append hr (hid rfl).1 (hid rfl).2 hs hx hd (.inr ⟨rfl, _, hdu⟩) hk1
    · cases hk1
  · rename_i t u d' x e1
    have := arr2 e1; subst this
    obtain ⟨s', x', rfl, hs, hx⟩ := two ha
    obtain ⟨d, hd, hk⟩ := tyK_some hh
    refine ⟨Builtin.copy_ #[t, u] ty #[s', x'], fun _ => rfl, ?_⟩
    split at hk
    · exact sim_copy hr hs hx hd hk
    · cases hk
  · rename_i t x e1
    have := arr1 e1; subst this
    obtain ⟨x', rfl, hx⟩ := one ha
    obtain ⟨d, hd, hk⟩ := tyK_some hh
    refine ⟨Builtin.clear_ #[t] ty #[x'], fun _ => rfl, ?_⟩
    split at hk
    · obtain ⟨h', w', a1, a2, a3, a4, a5⟩ := sim_clear (ty := ty) hr hx hd hk
      exact ⟨.tup [], h', .tuple #[], w', ρ, a1, a2, a3, GrowsS.refl _, fun _ _ => rfl, a4, R.undef _, a5⟩
    · cases hk
  · rename_i t u x k e1
    have := arr2 e1; subst this
    obtain ⟨x', k', rfl, hx, hkk⟩ := two ha
    obtain ⟨d, hd, hk⟩ := tyK_some hh
    refine ⟨Builtin.delete_ #[t, u] ty #[x', k'], fun _ => rfl, ?_⟩
    split at hk
    · rename_i kt et
      obtain ⟨kd, hkt, hk2⟩ := tyK_some hk
      obtain ⟨hok, hk3⟩ := guardK_some hk2
      obtain ⟨p, rfl, hk4⟩ := asMap_some hk3
      clear hk hk2 hk3 hh
      split at hk4
      · cases hx
        refine ⟨_, h, _, w, ρ, hk4, rfl, ?_, GrowsS.refl _, fun _ _ => rfl, hr, R.undef _, Low.refl _ _⟩
        have hck := run_check (P := P) hkk hok hkt true 9999 w
        simp [Builtin.delete_, run_und hd, hck]
        rfl
      · rename_i b
        split at hk4
        · rename_i es ck hb
          obtain ⟨p, en, hp, h1, h2, h3⟩ := map_there hr hb
          have hlt : p.blk < w.heap.size := by
            rcases Nat.lt_or_ge p.blk w.heap.size with h' | h'
            · exact h'
            · simp [Array.getElem?_eq_none h'] at h1
          cases hx with
          | map hp' =>
            rename_i p'
            rw [hp] at hp'; cases hp'
            have hg := getObj_run (P := P) h1 (by simp)
            have hck := run_check (P := P) hkk hok hkt en.isEmpty 9999 w
            split at hk4
            · rename_i j u hfa
              rcases find_now hkk hok es en.toList 0 _ h2 hfa with ⟨a, _⟩ | ⟨j', u1, u', a, b', c, _, e, e', y1, y2, y3, y4⟩
              · cases a
              · cases a
                have hrun := run_find (P := P) hkt b' w
                refine ⟨.tup [], _, .tuple #[], { w with heap := w.heap.setIfInBounds p.blk (.map (en.eraseIdxIfInBounds j) ck) }, ρ, hk4, rfl, ?_, GrowsS.refl _, fun _ _ => rfl, ?_, R.undef _, ?_⟩
                · simp only [Builtin.delete_]
                  simp [run_und hd, hg, hck, hrun, setObj_run (P := P) h1]
                · exact (write_obj (x' := .map (delEntry es j) ck) hr hb rfl hp hlt h3 fun w' hw' => ⟨h3, _, hw', (erase_told h2 j).1, (erase_told h2 j).2⟩).1
                · exact (write_obj (x' := .map (delEntry es j) ck) hr hb rfl hp hlt h3 fun w' hw' => ⟨h3, _, hw', (erase_told h2 j).1, (erase_told h2 j).2⟩).2
            · rename_i hfa
              rcases find_now hkk hok es en.toList 0 _ h2 hfa with ⟨_, b'⟩ | ⟨j', u1, u', a, _⟩
              · have hrun := run_find (P := P) hkt b' w
                have hself : w.heap.setIfInBounds p.blk (.map en ck) = w.heap := by
                  apply Array.ext
                  · simp
                  · intro i h1' h2'
                    rw [Array.getElem_setIfInBounds]
                    split
                    · rename_i e; subst e
                      rw [Array.getElem?_eq_getElem hlt] at h1
                      exact (Option.some.inj h1).symm
                    · rfl
                refine ⟨.tup [], h, .tuple #[], w, ρ, hk4, rfl, ?_, GrowsS.refl _, fun _ _ => rfl, hr, R.undef _, Low.refl _ _⟩
                simp only [Builtin.delete_]
                simp [run_und hd, hg, hck, hrun, setObj_run (P := P) h1, hself]
              · cases a
            · cases hk4
        · cases hk4
    · cases hk
  · rename_i v vs
    cases args' with
    | nil => have := ha.len; simp at this
    | cons v' vs' =>
      obtain ⟨k, a, rfl, hk⟩ := anyInt_some hh
      have := ha.head.int_inv; subst this
      obtain ⟨c, h1, h2⟩ := sim_fold (P := P) minI Builtin.min2 (fun k a b => by simp [Builtin.min2, minI]) k a vs vs' _ ha.tail hk
      refine ⟨Builtin.min_ tys ty _, fun _ => rfl, ⟨_, h, _, w, ρ, h1, rfl, ?_, GrowsS.refl _, fun _ _ => rfl, hr, .int _ _, Low.refl _ _⟩⟩
      simp [Builtin.min_, h2]
  · rename_i v vs
    cases args' with
    | nil => have := ha.len; simp at this
    | cons v' vs' =>
      obtain ⟨k, a, rfl, hk⟩ := anyInt_some hh
      have := ha.head.int_inv; subst this
      obtain ⟨c, h1, h2⟩ := sim_fold (P := P) maxI Builtin.max2 (fun k a b => by simp [Builtin.max2, maxI]) k a vs vs' _ ha.tail hk
      refine ⟨Builtin.max_ tys ty _, fun _ => rfl, ⟨_, h, _, w, ρ, h1, rfl, ?_, GrowsS.refl _, fun _ _ => rfl, hr, .int _ _, Low.refl _ _⟩⟩
      simp [Builtin.max_, h2]
  · cases hh
/-- What one operation that calls nothing comes to. -/
def SimO (P : Program) (ρ : Loc) (N : Zone) (n id : Nat) (h : Heap) (w : World) (s : Sem Next) (K : AV → Heap → Option A) (r : A) : Prop :=
  ∃ v h' v' w' ρ' nx, K v h' = some r ∧ h'.next = h.next ∧ s.run P w = .ok nx w' ∧ (nx = .value v' ∨ (nx = .skip ∧ v' = Go.undef)) ∧ GrowsS ρ ρ' ∧ (∀ b, b ≠ id → ρ' b = ρ b) ∧ Rep ρ' ⟨h'.m, n⟩ N w' ∧ R ρ' v v' ∧ Low N w w'
theorem SimM.op {s : Sem Value} {K : AV → Heap → Option A} (hs : SimM P ρ N n id h w s K r) : SimO P ρ N n id h w (do pure (.value (← s))) K r := by
  obtain ⟨v, h', v', w', ρ', a, b, c, d, e, f, g, i⟩ := hs
  exact ⟨v, h', v', w', ρ', _, a, b, by simp [c], .inl rfl, d, e, f, g, i⟩
theorem SimV.op {s : Sem Value} {K : AV → Heap → Option A} (hr : Rep ρ ⟨h.m, n⟩ N w) (hs : SimV P ρ s (fun v => K v h) r) : SimO P ρ N n id h w (do pure (.value (← s))) K r := (SimV.mem hr hs).op
theorem SimO.val {v : AV} {v' : Value} {s : Sem Next} {K : AV → Heap → Option A} (hr : Rep ρ ⟨h.m, n⟩ N w) (hv : R ρ v v') (hk : K v h = some r) (hs : s.run P w = .ok (.value v') w) : SimO P ρ N n id h w s K r :=
  ⟨v, h, v', w, ρ, _, hk, rfl, hs, .inl rfl, GrowsS.refl _, fun _ _ => rfl, hr, hv, Low.refl _ _⟩
theorem prim_sound {o : Oper} {e : Operand → AV} {e' : Operand → Value} {K : AV → Heap → Option A} (hr : Rep ρ ⟨h.m, n⟩ N w) (he : ∀ x, R ρ (e x) (e' x)) (hid : news o.op = true → ρ id = none ∧ id < n)
    (hh : prim P o e h id K = some r) : SimO P ρ N n id h w (execOp e' o) K r := by
  obtain ⟨dst, op, type, pos, after, guard⟩ := o
  unfold prim at hh
  simp only at hh hid
  split at hh
  · exact SimO.val hr (he _) hh (by simp [execOp])
  · exact SimO.val hr (he _) hh (by simp [execOp])
  · rename_i c a b
    obtain ⟨t, e1, hk⟩ := asBool_some hh
    have hc := he c
    rw [e1] at hc
    have hc := hc.bool_inv
    cases t with
    | true => exact SimO.val hr (he a) hk (by simp [execOp, hc, Go.asBool])
    | false => exact SimO.val hr (he b) hk (by simp [execOp, hc, Go.asBool])
  · exact (sim_alloc hr (hid rfl).1 (hid rfl).2 hh).op
  · exact (sim_box hr (hid rfl).1 (hid rfl).2 (he _) hh).op
  · rename_i t parts
    have := sim_build (ρ := ρ) (Parts.map he parts.toList) hh
    have e2 : (parts.toList.map fun p => (p.1, e' p.2)).toArray = parts.map fun (i, x) => (i, e' x) := by apply Array.ext'; simp
    rw [e2] at this
    exact SimV.op hr this
  · rename_i t k parts
    have := sim_buildSlice hr (hid rfl).1 (hid rfl).2 (Parts.map he parts.toList) hh
    have e2 : (parts.toList.map fun p => (p.1, e' p.2)).toArray = parts.map fun (i, x) => (i, e' x) := by apply Array.ext'; simp
    rw [e2] at this
    exact this.op
  · rename_i t a
    rcases asAdr2_some hh with ⟨⟨b, o⟩, e1, hk⟩ | ⟨cs, o, e1, hk⟩
    rotate_left
    · have ha := he a
      rw [e1] at ha
      obtain ⟨v, v', a', a1, a2, a3, a4⟩ := sim_loadF (P := P) (h := ⟨h.m, n⟩) hr ha (K := fun v => K v h) hk
      refine SimO.val hr a2 a1 ?_
      simp [execOp, Instr.loadAt, a3, Instr.sureAddr, a4]
    have ha := he a
    rw [e1] at ha
    obtain ⟨p, hp, e2⟩ := ha.ptr_inv
    obtain ⟨v, v', a1, a2, a3⟩ := sim_load (P := P) (h := ⟨h.m, n⟩) hr hp (K := fun v => K v h) (by simpa [loadK, ldN, ld1] using hk)
    refine SimO.val hr a2 a1 ?_
    simp [execOp, Instr.loadAt, e2, Instr.sureAddr, a3]
  · rename_i t a x
    obtain ⟨⟨b, o⟩, e1, hk⟩ := asAdr_some hh
    have ha := he a
    rw [e1] at ha
    obtain ⟨p, hp, e2⟩ := ha.ptr_inv
    obtain ⟨cs, cs', hk1, c1, c2, c3⟩ := cellsK_some (he x) hk
    obtain ⟨i, h1, hk2⟩ := sizeK_some hk1
    obtain ⟨g1, hk3⟩ := guardK_some hk2
    obtain ⟨vs, f1, f2, f3⟩ := stN_some hk3
    rw [lenA_eq] at g1
    have g1 := Nat.eq_of_beq_eq_true g1
    have hl := c2.len
    simp only [Array.length_toList] at hl
    obtain ⟨w', s1, s2, s3⟩ := store_cells (P := P) (h := ⟨h.m, n⟩) hr f1 hp f2 c2 c3
    refine ⟨.tup [], _, Go.undef, w', ρ, _, f3, rfl, ?_, .inr ⟨rfl, rfl⟩, GrowsS.refl _, fun _ _ => rfl, s2, R.undef _, s3⟩
    simp only at s1
    have hsz : cs'.size = i.size := by omega
    simp [execOp, Instr.storeAt, e2, Instr.sureAddr, storeVar, run_size h1, c1, hsz, s1]
  · rename_i x
    obtain ⟨hk, hc⟩ := sim_nil (he x) hh
    refine SimO.val hr (he x) hk ?_
    rcases hc with ⟨p, e1⟩ | ⟨f, a, c, e1⟩ | ⟨l, e1⟩ <;> simp [execOp, e1]
  · exact SimV.op hr (sim_binK _ _ (he _) (he _) hh)
  · exact SimV.op hr (sim_unK (he _) hh)
  · exact (sim_conv hr (hid rfl).1 (hid rfl).2 (he _) hh).op
  · rename_i t x
    obtain ⟨d, hd, hk⟩ := tyK_some hh
    split at hk
    · cases hk
    · rename_i hni
      refine SimO.val hr (.iface t (he x)) hk ?_
      simp only [execOp, Instr.makeInterface, Sem.run_bind, run_und hd, Result.andThen_ok]
      cases d <;> first | exact absurd rfl (hni _) | rfl
  · rename_i f first cap
    refine SimO.val (v' := .func (.func f) (first.map e') (cap.map e')) hr ?_ hh (by simp [execOp, Instr.makeFunc])
    have h1 := RL.map (ρ := ρ) e e' first.toList (fun x _ => he x)
    have h2 := RL.map (ρ := ρ) e e' cap.toList (fun x _ => he x)
    exact .fn f (by simp) (fun i v v' a b => h1.get i v v' a (by simpa using b)) (by simp) (fun i v v' a b => h2.get i v v' a (by simpa using b))
  · rename_i t
    have hg : GrowsS ρ (setLoc ρ id ⟨w.heap.size, 0, 0⟩) := setLoc_growsS (hid rfl).1
    refine ⟨_, _, .map (some w.heap.size), { w with heap := w.heap.push (.map #[] 0) }, setLoc ρ id ⟨w.heap.size, 0, 0⟩, _, hh, rfl, by simp [execOp, Instr.makeMap], .inl rfl, hg, fun b hb => by simp [setLoc, hb], ?_, ?_, Low.push hr.old _⟩
    · exact Rep.new (h := ⟨h.m, n⟩) hr (hid rfl).1 (hid rfl).2 _ (.map [] 0) ⟨w.heap.size, 0, 0⟩ rfl rfl ⟨fun hk => absurd (hr.old _ hk) (Nat.lt_irrefl _), #[], push_get _ _, rfl, fun i e e' a _ => by simp at a⟩
    · exact .map (p := ⟨w.heap.size, 0, 0⟩) (by simp [setLoc])
  · exact (sim_makeSlice hr (hid rfl).1 (hid rfl).2 (he _) (he _) hh).op
  · rename_i t x lo hi mx
    obtain ⟨g1, hk⟩ := guardK_some hh
    refine SimV.op hr (sim_slice (he _) (RO.map he lo) (RO.map he hi) (RO.map he mx) (fun hm => ?_) hk)
    cases mx with
    | none => simp at hm
    | some m =>
      cases hi with
      | none => simp [isNone'] at g1
      | some _ => simp
  · exact SimV.op hr (sim_fieldAddr (he _) hh)
  · exact SimV.op hr (sim_field (he _) hh)
  · exact SimV.op hr (sim_indexAddr (he _) (he _) hh)
  · exact SimV.op hr (sim_index (he _) (he _) hh)
  · rename_i t x k ok
    obtain ⟨v, v', a, b, c⟩ := sim_lookup hr (he x) (he k) hh
    exact SimO.val hr b a (by simp [execOp, c])
  · rename_i t m k x
    obtain ⟨h', w', a, b, c, d, f⟩ := sim_mapUpdate hr (he m) (he k) (he x) hh
    exact ⟨.tup [], h', Go.undef, w', ρ, _, a, b, by simp [execOp, c], .inr ⟨rfl, rfl⟩, GrowsS.refl _, fun _ _ => rfl, d, R.undef _, f⟩
  · exact SimV.op hr (sim_assert (he _) hh)
  · exact SimV.op hr (sim_extract (he _) hh)
  · rename_i b args tys
    have ha := RL.map (ρ := ρ) e e' args.toList (fun x _ => he x)
    obtain ⟨s, s1, s2⟩ := sim_builtin (ty := type) hr (fun hb => by subst hb; exact hid rfl) ha hh
    have := s2.op
    have e2 : (args.toList.map e').toArray = args.map e' := by apply Array.ext'; simp
    rw [e2] at s1
    obtain ⟨v, h', v', w', ρ', nx, a1, a2, a3, a4⟩ := this
    refine ⟨v, h', v', w', ρ', nx, a1, a2, ?_, a4⟩
    rw [← a3]
    simp only [execOp, resolve, invoke, Sem.run_bind, Sem.run_pure, Result.andThen_ok, s1]
  · cases hh
end
end Go.Ev
