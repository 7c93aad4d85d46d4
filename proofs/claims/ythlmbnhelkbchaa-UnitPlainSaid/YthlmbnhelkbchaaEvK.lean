/- copy, clear, conversions, maps: the evaluator's answers are the model's. -/
import Derived.Test.YthlmbnhelkbchaaEvJ
import Derived.WideShapes
namespace Go.Ev
open Go.RowKit
section
variable {A : Type} {P : Program} {r : A} {ρ : Loc} {N : Zone} {n id : Nat} {h : Heap} {w : World}

theorem sim_copy {dt xt et : TypeId} {ty : TypeId} {d x : AV} {d' x' : Value} {K : AV → Heap → Option A} (hr : Rep ρ ⟨h.m, n⟩ N w) (hd : R ρ d d') (hx : R ρ x x')
    (hdt : P.underlying dt = some (.slice et)) (hh : copyK P et d x h K = some r) : SimM P ρ N n id h w (Builtin.copy_ #[dt, xt] ty #[d', x']) K r := by
  obtain ⟨i, h1, hk⟩ := sizeK_some hh
  obtain ⟨g1, hk2⟩ := guardK_some hk
  obtain ⟨p, len, cap, ex, sz, hd, hk3⟩ := asSl_some hd hk2
  clear hk hk2 hh
  obtain ⟨k, new, new', hk6, l1, l2, l3, l4⟩ := srcK_some (P := P) hr hx hk3
  clear hk3
  have hrun : ∀ base cap', (Builtin.copy_ #[dt, xt] ty #[.slice base len cap', x']).run P w = ((match base with | some a => storeCells a (new'.take (min k len * i.size)) | none => pure () : Sem Unit).run P w).andThen fun _ w' => .ok (.int .i64 (min k len : Nat)) w' := by
    intro base cap'
    have := l2 w rfl (min k len) (Nat.min_le_left _ _)
    have e : k.min len = min k len := rfl
    cases base <;> simp [Builtin.copy_, run_und hdt, l1, run_size h1, e, this, goInt]
  cases p with
  | none =>
    obtain ⟨rfl, rfl, rfl, rfl⟩ := hd.nils_inv
    refine ⟨_, h, _, w, ρ, hk6, rfl, ?_, GrowsS.refl _, fun _ _ => rfl, hr, .int _ _, Low.refl _ _⟩
    have := hrun none 0
    simpa using this
  | some q =>
    obtain ⟨b, o⟩ := q
    obtain ⟨p, a, cap', q1, rfl, q2, q3, q4, q5⟩ := hd.sl_inv
    simp only at hk6
    by_cases h0 : min k len = 0
    · rw [h0] at hk6
      simp only [Nat.beq_refl, cond_true] at hk6
      refine ⟨_, h, _, w, ρ, hk6, rfl, ?_, GrowsS.refl _, fun _ _ => rfl, hr, .int _ _, Low.refl _ _⟩
      have := hrun (some a) cap'
      rw [h0] at this
      simpa [storeCells] using this
    · rw [beq_false h0] at hk6
      simp only [cond_false] at hk6
      obtain ⟨e1, hk8⟩ := guardK_some hk6
      simp only [Bool.and_eq_true] at e1
      obtain ⟨e1, e2⟩ := e1
      have e1 := Nat.eq_of_beq_eq_true e1
      subst e1
      rw [takeA_eq] at hk8
      obtain ⟨vs, f1, f2, f3⟩ := stN_some hk8
      obtain ⟨ha, hb⟩ := q4 (by omega)
      subst ha
      have l3' := l3.take (min k len * i.size)
      obtain ⟨w', s1, s2, s3⟩ := store_cells (P := P) (h := ⟨h.m, n⟩) hr f1 q1 f2 l3' (fun v hv => flat_cells l3 e2 v (List.mem_of_mem_take hv))
      refine ⟨_, _, _, w', ρ, f3, rfl, ?_, GrowsS.refl _, fun _ _ => rfl, s2, .int _ _, s3⟩
      rw [hrun (some _) cap']
      simp only at s1
      simp only [s1]
      rfl
theorem sim_clear {t et : TypeId} {ty : TypeId} {x : AV} {x' : Value} {K : Heap → Option A} (hr : Rep ρ ⟨h.m, n⟩ N w) (hx : R ρ x x')
    (ht : P.underlying t = some (.slice et)) (hh : clearK P et x h K = some r) : ∃ h' w', K h' = some r ∧ h'.next = h.next ∧ (Builtin.clear_ #[t] ty #[x']).run P w = .ok (.tuple #[]) w' ∧ Rep ρ ⟨h'.m, n⟩ N w' ∧ Low N w w' := by
  obtain ⟨i, h1, hk⟩ := sizeK_some hh
  obtain ⟨i', z, h1', h2, hk2⟩ := zeroK_some hk
  rw [h1] at h1'; cases h1'
  obtain ⟨g1, hk3⟩ := guardK_some hk2
  obtain ⟨p, len, cap, ex, sz, hx, hk4⟩ := asSl_some hx hk3
  clear hh hk hk2 hk3
  rw [lenA_eq] at g1
  have g1 := Nat.eq_of_beq_eq_true g1
  simp only [List.length_map, Array.length_toList] at g1
  by_cases h0 : len = 0
  · subst h0
    simp only [Nat.beq_refl, cond_true] at hk4
    refine ⟨h, w, hk4, rfl, ?_, hr, Low.refl _ _⟩
    cases p with
    | none => obtain ⟨rfl, _⟩ := hx.nils_inv; simp [Builtin.clear_, run_und ht]
    | some q =>
      obtain ⟨p, a, cap', q1, rfl, q2, q3, q4, q5⟩ := hx.sl_inv
      simp [Builtin.clear_, run_und ht]
  · rw [beq_false h0] at hk4
    simp only [cond_false] at hk4
    cases p with
    | none => cases hk4
    | some q =>
      obtain ⟨b, o⟩ := q
      obtain ⟨p, a, cap', q1, rfl, q2, q3, q4, q5⟩ := hx.sl_inv
      obtain ⟨e1, hk8⟩ := guardK_some hk4
      simp only [Bool.and_eq_true] at e1
      obtain ⟨e1, e2⟩ := e1
      have e1 := Nat.eq_of_beq_eq_true e1
      subst e1
      obtain ⟨vs, f1, f2, f3⟩ := stN_some hk8
      obtain ⟨ha, hb⟩ := q4 (by omega)
      subst ha
      have l3 := zeros_told (ρ := ρ) z.cells len
      have hf : ∀ v ∈ ((Array.range (len * z.cells.size)).map fun i => z.cells[i % z.cells.size]!).toList, v.oneCell' = true := by
        refine flat_cells l3 ?_
        rw [flatL_eq, List.all_eq_true] at e2 ⊢
        intro v hv
        obtain ⟨j, hj⟩ := List.getElem?_of_mem hv
        have hlt : j < len * (z.cells.toList.map ofLit1).length := by
          rcases Nat.lt_or_ge j (len * (z.cells.toList.map ofLit1).length) with h' | h'
          · exact h'
          · rw [List.getElem?_eq_none (by rw [repL_length]; exact h')] at hj; cases hj
        rw [repL_get _ _ _ hlt] at hj
        exact e2 v (List.mem_of_getElem? hj)
      obtain ⟨w', s1, s2, s3⟩ := store_cells (P := P) (h := ⟨h.m, n⟩) hr f1 q1 f2 l3 hf
      refine ⟨_, w', f3, rfl, ?_, s2, s3⟩
      simp only [Builtin.clear_]
      simp only at s1
      have hcl : (storeCells ⟨p.blk, p.off + o, none⟩ (Builtin.zeroCells z.cells len).toList).run P w = .ok () w' := s1
      cases len with
      | zero => exact absurd rfl h0
      | succ len => simp [run_und ht, run_zero h1 h2, hcl]

/-! ### Conversions -/
theorem bytesOf_some : ∀ (cs : List AV) (cs' : List Value) (b : List UInt8), RL ρ cs cs' → bytesOf cs = some b → ∃ ns : List Int, cs' = ns.map (Value.int .u8) ∧ b = ns.map fun n => UInt8.ofNat n.toNat
  | [], cs', b, hc, hb => by
    have : cs' = [] := by
      have := hc.len
      exact List.eq_nil_of_length_eq_zero (by simpa using this.symm)
    simp [bytesOf] at hb
    exact ⟨[], by simp [this], by simp [hb]⟩
  | v :: cs, cs', b, hc, hb => by
    cases cs' with
    | nil => have := hc.len; simp at this
    | cons v' cs' =>
      unfold bytesOf at hb
      split at hb
      · rename_i heq; cases heq
      · rename_i n cs₂ heq
        cases heq
        split at hb
        · rename_i s hs
          obtain ⟨ns, e1, e2⟩ := bytesOf_some cs cs' s hc.tail hs
          have := hc.head.int_inv
          cases hb
          exact ⟨n :: ns, by simp [this, e1], by simp [e2]⟩
        · cases hb
      · cases hb
theorem foldl_push : ∀ (ns : List Int) (s : ByteArray), (ns.foldl (fun r n => r.push (UInt8.ofNat n.toNat)) s).data.toList = s.data.toList ++ ns.map fun n => UInt8.ofNat n.toNat
  | [], s => by simp
  | n :: ns, s => by
    simp only [List.foldl_cons]
    rw [foldl_push ns]
    simp [ByteArray.push]
theorem sim_conv {st dt : TypeId} {x : AV} {x' : Value} {K : AV → Heap → Option A} (hr : Rep ρ ⟨h.m, n⟩ N w) (hid : ρ id = none) (hlt : id < n) (hx : R ρ x x') (hh : convK P st dt x h id K = some r) :
    SimM P ρ N n id h w (convert st dt x') K r := by
  obtain ⟨ds, hs, hk⟩ := tyK_some hh
  obtain ⟨dd, hd, hk2⟩ := tyK_some hk
  clear hh hk
  split at hk2
  · obtain ⟨k, m, rfl, hk3⟩ := anyInt_some hk2
    have := hx.int_inv; subst this
    refine ⟨_, h, _, w, ρ, hk3, rfl, ?_, GrowsS.refl _, fun _ _ => rfl, hr, .int _ _, Low.refl _ _⟩
    simp [convert, run_und hs, run_und hd, Conv.intToInt]
  · obtain ⟨b, rfl, hk3⟩ := asStr_some hk2
    obtain ⟨s', rfl, rfl⟩ := hx.str_inv
    refine ⟨_, h, _, w, ρ, hk3, rfl, ?_, GrowsS.refl _, fun _ _ => rfl, hr, .str _, Low.refl _ _⟩
    simp [convert, run_und hs, run_und hd]
  · rename_i e
    obtain ⟨de, he, hk3⟩ := tyK_some hk2
    split at hk3
    · obtain ⟨b, rfl, hk4⟩ := asStr_some hk3
      obtain ⟨s', rfl, rfl⟩ := hx.str_inv
      obtain ⟨g1, hk5⟩ := guardK_some hk4
      have hrun := run_bytes_of_string (P := P) w st dt e s' hs hd he
      have hge : s'.size ≤ grownCap w s'.size 0 e := by simp [grownCap, Question.cut]
      have hsz : (bytesRow s' (grownCap w s'.size 0 e)).size = grownCap w s'.size 0 e := by
        have : s'.data.size = s'.size := rfl
        simp [bytesRow, this]; omega
      have hcs : ∀ l : List UInt8, cellsOfS l = l.map fun b => AV.int .u8 b.toNat := by
        intro l; induction l <;> simp_all [cellsOfS]
      rw [lenS_eq] at hk5
      have hl : s'.data.toList.length = s'.size := by simp
      rw [hl] at hk5
      refine new_slice (w := w.drew) (vs := cellsOfS s'.data.toList) (c := bytesRow s' (grownCap w s'.size 0 e)) (cap' := grownCap w s'.size 0 e) hr.drew hid hlt (fun j v hj => ?_) ?_ (fun j hj => ?_) (Nat.le_refl _) hge (by simp) (by rw [hsz]; omega) hk5 (Low.refl _ _).drew hrun
      · rw [hcs] at hj
        simp only [List.getElem?_map, Option.map_eq_some_iff] at hj
        obtain ⟨u, hu, rfl⟩ := hj
        refine ⟨.int .u8 u.toNat, ?_, .int _ _⟩
        have hjl : j < s'.data.toList.length := by
          rcases Nat.lt_or_ge j s'.data.toList.length with h' | h'
          · exact h'
          · rw [List.getElem?_eq_none h'] at hu; cases hu
        have hu2 : s'.data[j]? = some u := by simpa using hu
        rw [bytesRow, Array.getElem?_append_left (by simpa using hjl)]
        simp [hu2]
      · rw [hsz, hcs]; simpa using hge
      · simp only; omega
    · cases hk3
  · rename_i e
    obtain ⟨de, he, hk3⟩ := tyK_some hk2
    split at hk3
    · rcases asSl2_some hx hk3 with ⟨p, len, cap, ex, sz, hx, hk4⟩ | ⟨cs, len, ex, sz, hx, hk4⟩
      rotate_left
      · obtain ⟨gsz, hk5⟩ := guardK_some hk4
        have gsz := Nat.eq_of_beq_eq_true gsz
        subst gsz
        obtain ⟨a, cap', rfl, f1, f2, f3, f4, f5⟩ := hx.fz_inv
        split at hk5
        · rename_i bs hbs
          have hthere : ∃ cs' : List Value, RL ρ cs cs' ∧ cs'.length = len ∧ (0 < len → ∃ a', a = some a' ∧ (loadCells a' len).run P w = .ok cs'.toArray w) := by
            rcases Nat.eq_zero_or_pos len with h0 | h0
            · subst h0
              have : cs = [] := List.eq_nil_of_length_eq_zero (by simpa using f3)
              subst this
              exact ⟨[], RL.nil ρ, rfl, fun h => absurd h (by omega)⟩
            · obtain ⟨b, q, o, cs0, e1, rfl, e2, e3⟩ := f1 h0
              obtain ⟨cs', r1, r2, r3⟩ := frz_cells hr e1 e3
              rw [← e2] at r1
              rw [Nat.mul_one] at r2
              exact ⟨cs', r1, r2, fun _ => ⟨_, rfl, run_cells (p := ⟨b, q, 0⟩) r2 r3⟩⟩
          obtain ⟨cs', r1, r2, r3⟩ := hthere
          obtain ⟨ns, n1, n2⟩ := bytesOf_some _ _ _ r1 hbs
          have hstr : R ρ (.str bs) (.string (ns.foldl (fun r n => r.push (UInt8.ofNat n.toNat)) ByteArray.empty)) := by
            have := R.str (ρ := ρ) (ns.foldl (fun r n => r.push (UInt8.ofNat n.toNat)) ByteArray.empty)
            rw [foldl_push] at this
            rw [n2]
            simpa using this
          refine ⟨_, h, .string (ns.foldl (fun r n => r.push (UInt8.ofNat n.toNat)) ByteArray.empty), w, ρ, hk5, rfl, ?_, GrowsS.refl _, fun _ _ => rfl, hr, hstr, Low.refl _ _⟩
          cases a with
          | none =>
            have hc := f2 rfl
            have hl0 : len = 0 := by omega
            subst hc
            subst hl0
            have hns : ns = [] := by
              have : cs'.length = 0 := r2
              rw [n1] at this
              exact List.eq_nil_of_length_eq_zero (by simpa using this)
            subst hns
            simp [convert, run_und hs, run_und hd, run_und he, Conv.bytesToString]
          | some a =>
            have hload : (loadCells a len).run P w = .ok (ns.map (Value.int .u8)).toArray w := by
              rcases Nat.eq_zero_or_pos len with h0 | h0
              · subst h0
                have hns : ns = [] := by
                  have : cs'.length = 0 := r2
                  rw [n1] at this
                  exact List.eq_nil_of_length_eq_zero (by simpa using this)
                subst hns
                simp [loadCells, loadCellsFrom]
              · obtain ⟨a', ea, hl⟩ := r3 h0
                cases ea
                rw [← n1]; exact hl
            rw [run_convert_bytes_string w st dt e (some a) len cap' hs he hd]
            exact run_bytesToString w a len cap' ns hload
        · cases hk5
      clear hk3 hk2
      cases p with
      | none =>
        obtain ⟨rfl, rfl, _, _⟩ := hx.nils_inv
        refine ⟨_, h, _, w, ρ, hk4, rfl, ?_, GrowsS.refl _, fun _ _ => rfl, hr, .str .empty, Low.refl _ _⟩
        simp [convert, run_und hs, run_und hd, run_und he, Conv.bytesToString]
      | some q =>
        obtain ⟨b, o⟩ := q
        obtain ⟨p, a, cap', q1, rfl, q2, q3, q4, q5⟩ := hx.sl_inv
        simp only at hk4
        obtain ⟨wr, vs, f1, f2, f3⟩ := ldN_some hk4
        split at f3
        · rename_i bs hbs
          obtain ⟨p', cs', e1, e2, e3, e4⟩ := cells_there (h := ⟨h.m, n⟩) hr f1 f2
          rw [q1] at e1; cases e1
          obtain ⟨ns, n1, n2⟩ := bytesOf_some _ _ _ e3 hbs
          have hload : (loadCells a len).run P w = .ok (ns.map (Value.int .u8)).toArray w := by
            by_cases h0 : cap' = 0
            · have : len = 0 := by omega
              subst this
              have hns : ns = [] := by
                have : cs'.length = 0 := e2
                rw [n1] at this
                exact List.eq_nil_of_length_eq_zero (by simpa using this)
              subst hns
              simp [loadCells, loadCellsFrom]
            · obtain ⟨ha, _⟩ := q4 (by omega)
              subst ha
              rw [← n1]
              exact run_cells e2 e4
          refine ⟨_, h, .string (ns.foldl (fun r n => r.push (UInt8.ofNat n.toNat)) ByteArray.empty), w, ρ, f3, rfl, ?_, GrowsS.refl _, fun _ _ => rfl, hr, ?_, Low.refl _ _⟩
          · rw [run_convert_bytes_string w st dt e (some a) len cap' hs he hd]
            exact run_bytesToString w a len cap' ns hload
          · have := R.str (ρ := ρ) (ns.foldl (fun r n => r.push (UInt8.ofNat n.toNat)) ByteArray.empty)
            rw [foldl_push] at this
            rw [n2]
            simpa using this
        · cases f3
    · cases hk3
  · cases hk2
end
end Go.Ev
