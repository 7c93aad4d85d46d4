/- Maps, builtins, and each operation that calls nothing: the evaluator's answers are the model's. -/
import Derived.Test.YthlmbnhelkbchaaEvK
namespace Go.Ev
open Go.RowKit
section
variable {A : Type} {P : Program} {r : A} {ρ : Loc} {N : Zone} {n id : Nat} {h : Heap} {w : World}

/-- Entries. -/
structure RE (ρ : Loc) (es : List (AV × AV × Nat)) (en : List MapEntry) : Prop where
  len : es.length = en.length
  get : ∀ (i : Nat) (e : AV × AV × Nat) (e' : MapEntry), es[i]? = some e → en[i]? = some e' → R ρ e.1 e'.key ∧ R ρ e.2.1 e'.val ∧ e'.born = e.2.2
theorem RE.nil (ρ : Loc) : RE ρ [] [] := ⟨rfl, fun i e e' a _ => by simp at a⟩
theorem RE.cons {e : AV × AV × Nat} {e' : MapEntry} {es : List (AV × AV × Nat)} {en : List MapEntry} (h : R ρ e.1 e'.key ∧ R ρ e.2.1 e'.val ∧ e'.born = e.2.2) (hl : RE ρ es en) : RE ρ (e :: es) (e' :: en) :=
  ⟨by simp [hl.len], fun i x x' a b => by
    cases i with
    | zero => simp at a b; subst a; subst b; exact h
    | succ i => exact hl.get i x x' (by simpa using a) (by simpa using b)⟩
theorem RE.head {e : AV × AV × Nat} {e' : MapEntry} {es : List (AV × AV × Nat)} {en : List MapEntry} (h : RE ρ (e :: es) (e' :: en)) : R ρ e.1 e'.key ∧ R ρ e.2.1 e'.val ∧ e'.born = e.2.2 := h.get 0 _ _ (by simp) (by simp)
theorem RE.tail {e : AV × AV × Nat} {e' : MapEntry} {es : List (AV × AV × Nat)} {en : List MapEntry} (h : RE ρ (e :: es) (e' :: en)) : RE ρ es en :=
  ⟨by have := h.len; simpa using this, fun i x x' a b => h.get (i + 1) x x' (by simpa using a) (by simpa using b)⟩
theorem ba_beq (a b : ByteArray) : (a == b) = (a.data.toList == b.data.toList) := by
  show (a.data == b.data) = _
  obtain ⟨⟨x⟩⟩ := a
  obtain ⟨⟨y⟩⟩ := b
  simp
theorem same_now {kd : TypeDesc} {k e : AV} {k' e' : Value} {b : Bool} (hk : R ρ k k') (he : R ρ e e') (hok : keyOk kd k = true) (hs : sameKey k e = some b) : Instr.sameNow kd k' e' = some b := by
  unfold sameKey at hs
  split at hs
  · rename_i j a j' c
    split at hs
    · rename_i hj
      subst hj
      cases hs
      have := hk.int_inv; subst this
      have := he.int_inv; subst this
      cases kd <;> simp [keyOk] at hok
      simp [Instr.sameNow]
    · cases hs
  · cases hs
    obtain ⟨a', rfl, rfl⟩ := hk.str_inv
    obtain ⟨c', rfl, rfl⟩ := he.str_inv
    cases kd <;> simp [keyOk] at hok
    simp [Instr.sameNow, eqS_eq, ba_beq]
  · cases hs
    have := hk.bool_inv; subst this
    have := he.bool_inv; subst this
    cases kd <;> simp [keyOk] at hok
    simp [Instr.sameNow]
  · cases hs
theorem find_now {kd : TypeDesc} {k : AV} {k' : Value} (hk : R ρ k k') (hok : keyOk kd k = true) : ∀ (es : List (AV × AV × Nat)) (en : List MapEntry) (i : Nat) (o : Option (Nat × AV)), RE ρ es en → findA k es i = some o →
    (o = none ∧ Instr.findNow kd k' en i = some none) ∨ ∃ j v v', o = some (j, v) ∧ Instr.findNow kd k' en i = some (some (j, v')) ∧ R ρ v v' ∧ i ≤ j ∧ ∃ e e', es[j - i]? = some e ∧ en[j - i]? = some e' ∧ sameKey k e.1 = some true ∧ R ρ e.1 e'.key
  | [], en, i, o, hr, hf => by
    have : en = [] := List.eq_nil_of_length_eq_zero (by have := hr.len; simpa using this.symm)
    subst this
    simp [findA] at hf
    exact .inl ⟨hf.symm, rfl⟩
  | e :: es, en, i, o, hr, hf => by
    cases en with
    | nil => have := hr.len; simp at this
    | cons e' en =>
      obtain ⟨h1, h2, h3⟩ := hr.head
      simp only [findA] at hf
      split at hf
      · rename_i hs
        cases hf
        have := same_now hk h1 hok hs
        refine .inr ⟨i, _, e'.val, rfl, by simp [Instr.findNow, this], h2, Nat.le_refl _, e, e', by simp, by simp, hs, h1⟩
      · rename_i hs
        have := same_now hk h1 hok hs
        rcases find_now hk hok es en (i + 1) o hr.tail hf with ⟨a, b⟩ | ⟨j, v, v', a, b, c, d, x, x', y1, y2, y3, y4⟩
        · exact .inl ⟨a, by simp [Instr.findNow, this, b]⟩
        · refine .inr ⟨j, v, v', a, by simp [Instr.findNow, this, b], c, by omega, x, x', ?_, ?_, y3, y4⟩
          · rw [show j - i = (j - (i + 1)) + 1 by omega]; simpa using y1
          · rw [show j - i = (j - (i + 1)) + 1 by omega]; simpa using y2
      · cases hf
theorem run_find {kt : TypeId} {kd : TypeDesc} {k' : Value} {en : List MapEntry} {o : Option (Nat × Value)} (hkt : P.underlying kt = some kd) (hf : Instr.findNow kd k' en 0 = some o) (w : World) : (Instr.findKey kt k' en).run P w = .ok o w := by
  simp [Instr.findKey, run_und hkt, hf]
theorem run_check {kt : TypeId} {kd : TypeDesc} {k : AV} {k' : Value} (_hk : R ρ k k') (hok : keyOk kd k = true) (hkt : P.underlying kt = some kd) (b : Bool) (d : Nat) (w : World) : (Instr.checkKey b (d + 1) kt k').run P w = .ok () w := by
  cases kd <;> simp [keyOk] at hok <;> simp [Instr.checkKey, run_und hkt]
theorem map_there {b ck : Nat} {es : List (AV × AV × Nat)} (hr : Rep ρ ⟨h.m, n⟩ N w) (hb : h.m b = some (.map es ck)) : ∃ p en, ρ b = some p ∧ w.heap[p.blk]? = some (.map en ck) ∧ RE ρ es en.toList ∧ ¬ N.keep p.blk := by
  obtain ⟨p, hp, h0, en, h1, h2, h3⟩ := hr.blk b _ hb
  exact ⟨p, en, hp, h1, ⟨by simpa using h2, fun i e e' x y => h3 i e e' x (by simpa using y)⟩, h0⟩
theorem getObj_run {b : Nat} {o : Obj} (ho : w.heap[b]? = some o) (hn : ∀ c e f, o ≠ .cells c e f) : (getObj b).run P w = .ok o w := by
  simp only [getObj, Sem.run, ho]
theorem setObj_run {b : Nat} {o o' : Obj} (ho : w.heap[b]? = some o) (hn : ∀ c e f, o ≠ .cells c e f) : (setObj b o').run P w = .ok () { w with heap := w.heap.setIfInBounds b o' } := by
  simp only [setObj, Sem.run, ho]
theorem write_obj {b : Nat} {x x' : Blk} {p : Pl} {o' : Obj} (hr : Rep ρ ⟨h.m, n⟩ N w) (hb : h.m b = some x) (hwr : x.writes = true) (hp : ρ b = some p) (hlt : p.blk < w.heap.size) (hN : ¬ N.keep p.blk)
    (hx : ∀ w' : World, w'.heap[p.blk]? = some o' → RB ρ N w' p x') : Rep ρ ⟨(h.put b x').m, n⟩ N { w with heap := w.heap.setIfInBounds p.blk o' } ∧ Low N w { w with heap := w.heap.setIfInBounds p.blk o' } := by
  refine ⟨?_, ⟨rfl, rfl, rfl, by simp, fun k hk => by simp only [Array.getElem?_setIfInBounds]; rw [if_neg (fun e : p.blk = k => hN (e ▸ hk))]⟩⟩
  refine Rep.write (h := ⟨h.m, n⟩) hr hb hwr hp (by simp) (fun q hq => by simp only [Array.getElem?_setIfInBounds]; rw [if_neg (by omega)]) (hx _ (by simp [hlt]))
theorem findK_eq {A : Type} {k : AV} {F : Nat → AV → Option A} {G : Option A} : ∀ (es : List (AV × AV × Nat)) (i : Nat), findK k F G es i = match findA k es i with
    | some (some (j, v)) => F j v
    | some none => G
    | none => none
  | [], _ => rfl
  | e :: es, i => by
    simp only [findK, findA]
    cases sameKey k e.1 with
    | none => rfl
    | some b => cases b <;> first | rfl | exact findK_eq es (i + 1)
theorem sim_lookup {t : TypeId} {x k : AV} {x' k' : Value} {ok : Bool} {K : AV → Option A} (hr : Rep ρ ⟨h.m, n⟩ N w) (hx : R ρ x x') (hk : R ρ k k') (hh : lookupK P t x k ok h K = some r) :
    ∃ v v', K v = some r ∧ R ρ v v' ∧ (Instr.lookup t x' k' ok).run P w = .ok v' w := by
  obtain ⟨d, hd, hk1⟩ := tyK_some hh
  clear hh
  split at hk1
  · rename_i kt et
    obtain ⟨kd, hkt, hk2⟩ := tyK_some hk1
    obtain ⟨hok, hk3⟩ := guardK_some hk2
    obtain ⟨p, rfl, hk4⟩ := asMap_some hk3
    clear hk1 hk2 hk3
    simp only [findK_eq] at hk4
    have fin : ∀ (es : List (AV × AV × Nat)) (en : Array MapEntry), RE ρ es en.toList → (∀ w₀ : World, w₀ = w → True) →
        (match findA k es 0 with | some (some (_, v)) => K (bif ok then .tup [v, .bool true] else v) | some none => zeroV P et fun z => K (bif ok then .tup [z, .bool false] else z) | none => none) = some r →
        ∃ v v', K v = some r ∧ R ρ v v' ∧ ((do
          Instr.checkKey en.isEmpty 10000 kt k'
          let (v, ok') ← match ← Instr.findKey kt k' en.toList with
            | some (_, v) => pure (v, true)
            | none => pure (← zeroValue et, false)
          pure (if ok then .tuple #[v, .bool ok'] else v) : Sem Value)).run P w = .ok v' w := by
      intro es en hre _ hf
      have hck := run_check (P := P) hk hok hkt en.isEmpty 9999 w
      split at hf
      · rename_i j v hfa
        rcases find_now hk hok es en.toList 0 _ hre hfa with ⟨a, _⟩ | ⟨j', u, u', a, b, c, _⟩
        · cases a
        · cases a
          have hrun := run_find (P := P) hkt b w
          cases ok with
          | true => exact ⟨_, .tuple #[u', .bool true], hf, RL.two c (.bool true), by simp [hck, hrun]⟩
          | false => exact ⟨_, u', hf, c, by simp [hck, hrun]⟩
      · rename_i hfa
        obtain ⟨i, z, z1, z2, hf1⟩ := zeroV_some hf
        rcases find_now hk hok es en.toList 0 _ hre hfa with ⟨_, b⟩ | ⟨j', u, u', a, b, c, _⟩
        · have hrun := run_find (P := P) hkt b w
          cases ok with
          | true => exact ⟨_, .tuple #[z, .bool false], hf1, RL.two (.ofConst ρ z) (.bool false), by simp [hck, hrun, run_zero z1 z2]⟩
          | false => exact ⟨_, z, hf1, .ofConst ρ z, by simp [hck, hrun, run_zero z1 z2]⟩
        · cases a
      · cases hf
    cases p with
    | none =>
      cases hx
      obtain ⟨v, v', a, b, c⟩ := fin [] #[] (RE.nil ρ) (fun _ _ => trivial) hk4
      refine ⟨v, v', a, b, ?_⟩
      simp only [Instr.lookup, Sem.run_bind, run_und hd, Result.andThen_ok, Sem.run_pure] at c ⊢
      exact c
    | some b =>
      simp only [entriesK] at hk4
      split at hk4
      · rename_i es ck hb
        obtain ⟨p, en, hp, h1, h2, h3⟩ := map_there hr hb
        cases hx with
        | map hp' =>
          rename_i p'
          rw [hp] at hp'; cases hp'
          obtain ⟨v, v', a, b', c⟩ := fin es en h2 (fun _ _ => trivial) hk4
          refine ⟨v, v', a, b', ?_⟩
          have hg := getObj_run (P := P) h1 (by simp)
          simp only [Instr.lookup, Sem.run_bind, run_und hd, Result.andThen_ok, Sem.run_pure, hg] at c ⊢
          exact c
      · cases hk4
  · cases hk1
theorem setEntry_get (es : List (AV × AV × Nat)) (j : Nat) (k v : AV) (i : Nat) : (setEntry es j k v)[i]? = if i = j then (es[i]?).map (fun e => (k, v, e.2.2)) else es[i]? := by
  induction es generalizing j i with
  | nil => simp [setEntry]
  | cons e es ih =>
    cases j with
    | zero => cases i <;> simp [setEntry]
    | succ j =>
      cases i with
      | zero => simp [setEntry]
      | succ i => simp [setEntry, ih]
theorem setEntry_length (es : List (AV × AV × Nat)) (j : Nat) (k v : AV) : (setEntry es j k v).length = es.length := by
  induction es generalizing j with
  | nil => simp [setEntry]
  | cons e es ih => cases j <;> simp [setEntry, ih]
theorem appE_eq (es : List (AV × AV × Nat)) (x : AV × AV × Nat) : appE es x = es ++ [x] := by
  induction es <;> simp_all [appE]
theorem delEntry_eq (es : List (AV × AV × Nat)) (j : Nat) : delEntry es j = es.eraseIdx j := by
  induction es generalizing j with
  | nil => simp [delEntry]
  | cons e es ih => cases j <;> simp_all [delEntry]
theorem stays {k e : AV} {k' e' : Value} (hk : R ρ k k') (he : R ρ e e') (hs : sameKey k e = some true) : Instr.sameBits 10000 e' k' = true := by
  unfold sameKey at hs
  split at hs
  · split at hs
    · rename_i hj
      subst hj
      have := hk.int_inv; subst this
      have := he.int_inv; subst this
      simp at hs
      simp [Instr.sameBits, hs]
    · cases hs
  · obtain ⟨a', rfl, rfl⟩ := hk.str_inv
    obtain ⟨c', rfl, rfl⟩ := he.str_inv
    rw [eqS_eq] at hs
    simp only [Option.some.injEq] at hs
    have : a'.data.toList = c'.data.toList := by simpa using hs
    have := Go.WideShapes.bytes_inj this
    subst this
    show (ByteArray.data _ == ByteArray.data _) = true
    simp
  · have := hk.bool_inv; subst this
    have := he.bool_inv; subst this
    simp at hs
    simp [Instr.sameBits, hs]
  · cases hs
theorem sim_mapUpdate {t : TypeId} {x k v : AV} {x' k' v' : Value} {K : Heap → Option A} (hr : Rep ρ ⟨h.m, n⟩ N w) (hx : R ρ x x') (hk : R ρ k k') (hv : R ρ v v') (hh : mapUpdateK P t x k v h K = some r) :
    ∃ h' w', K h' = some r ∧ h'.next = h.next ∧ (Instr.mapUpdate t x' k' v').run P w = .ok () w' ∧ Rep ρ ⟨h'.m, n⟩ N w' ∧ Low N w w' := by
  obtain ⟨d, hd, hk1⟩ := tyK_some hh
  clear hh
  split at hk1
  · rename_i kt et
    obtain ⟨kd, hkt, hk2⟩ := tyK_some hk1
    obtain ⟨hok, hk3⟩ := guardK_some hk2
    obtain ⟨p, rfl, hk4⟩ := asMap_some hk3
    clear hk1 hk2 hk3
    split at hk4
    · cases hk4
    · rename_i b
      split at hk4
      · rename_i es ck hb
        obtain ⟨p, en, hp, h1, h2, h3⟩ := map_there hr hb
        have hlt : p.blk < w.heap.size := by
          rcases Nat.lt_or_ge p.blk w.heap.size with h' | h'
          · exact h'
          · simp [Array.getElem?_eq_none h'] at h1
        cases hx with
        | map hp' =>
          rename_i p'
          rw [hp] at hp'; cases hp'
          have hg := getObj_run (P := P) h1 (by simp)
          have hck := run_check (P := P) hk hok hkt false 9999 w
          split at hk4
          · rename_i j u hfa
            rcases find_now hk hok es en.toList 0 _ h2 hfa with ⟨a, _⟩ | ⟨j', u1, u', a, b', c, _, e, e', y1, y2, y3, y4⟩
            · cases a
            · cases a
              have hrun := run_find (P := P) hkt b' w
              simp only [Nat.sub_zero] at y1 y2
              have hst := stays hk y4 y3
              have y2' : en[j]? = some e' := by simpa using y2
              have hks : (Instr.keyThatStays (((en[j]?).map (·.key)).getD k') k').run P w = .ok k' w := by
                simp [Instr.keyThatStays, y2', hst]
              refine ⟨_, { w with heap := w.heap.setIfInBounds p.blk (.map (en.modify j fun e => { e with key := k', val := v' }) ck) }, hk4, rfl, ?_, ?_⟩
              · simp only [Instr.mapUpdate, Sem.run_bind, run_und hd, Result.andThen_ok, hg, hck, hrun, hks, setObj_run (P := P) h1 (by simp)]
              · refine write_obj hr hb rfl hp hlt h3 fun w' hw' => ⟨h3, _, hw', ?_, fun i e1 e2 q1 q2 => ?_⟩
                · rw [setEntry_length]; simp; simpa using h2.len
                · rw [setEntry_get] at q1
                  rw [Array.getElem?_modify] at q2
                  by_cases hij : i = j
                  · subst hij
                    rw [if_pos rfl] at q1 q2
                    rw [y1] at q1
                    rw [y2'] at q2
                    cases q1; cases q2
                    have := h2.get i e e' y1 (by simpa using y2')
                    exact ⟨hk, hv, this.2.2⟩
                  · rw [if_neg hij] at q1
                    rw [if_neg (Ne.symm hij)] at q2
                    exact h2.get i e1 e2 q1 (by simpa using q2)
          · rename_i hfa
            rcases find_now hk hok es en.toList 0 _ h2 hfa with ⟨_, b'⟩ | ⟨j', u1, u', a, _⟩
            · have hrun := run_find (P := P) hkt b' w
              refine ⟨_, { w with heap := w.heap.setIfInBounds p.blk (.map (en.push { key := k', val := v', born := ck }) (ck + 1)) }, hk4, rfl, ?_, ?_⟩
              · simp only [Instr.mapUpdate, Sem.run_bind, run_und hd, Result.andThen_ok, hg, hck, hrun, setObj_run (P := P) h1 (by simp)]
              · have hl := h2.len
                simp only [Array.length_toList] at hl
                refine write_obj hr hb rfl hp hlt h3 fun w' hw' => ⟨h3, _, hw', by rw [appE_eq]; simp [hl], fun i e1 e2 q1 q2 => ?_⟩
                rw [appE_eq] at q1
                rw [Array.getElem?_push] at q2
                by_cases hij : i = en.size
                · subst hij
                  rw [if_pos rfl] at q2
                  rw [← hl] at q1
                  simp at q1
                  cases q1; cases q2
                  exact ⟨hk, hv, rfl⟩
                · rw [if_neg hij] at q2
                  have hlt2 : i < es.length := by
                    rcases Nat.lt_or_ge i es.length with h' | h'
                    · exact h'
                    · rw [Array.getElem?_eq_none (by omega)] at q2; cases q2
                  rw [List.getElem?_append_left hlt2] at q1
                  exact h2.get i e1 e2 q1 (by simpa using q2)
            · cases a
          · cases hk4
      · cases hk4
  · cases hk1
end
end Go.Ev
