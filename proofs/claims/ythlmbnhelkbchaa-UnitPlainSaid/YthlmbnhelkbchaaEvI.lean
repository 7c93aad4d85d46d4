/- Slices that are made, appended to, copied: the evaluator's answers are the model's. -/
import Derived.Test.YthlmbnhelkbchaaEvH
namespace Go.Ev
open Go.RowKit
section
variable {A : Type} {P : Program} {r : A} {ρ : Loc} {N : Zone} {n id : Nat} {h : Heap} {w : World}

theorem wrap_small {x : Int} (h0 : 0 ≤ x) (h1 : x ≤ 140737488355328) : IntKind.i64.wrap x = x := by
  have e : (2 ^ IntKind.i64.bits : Int) = 18446744073709551616 := rfl
  have e2 : (2 ^ (IntKind.i64.bits - 1) : Int) = 9223372036854775808 := rfl
  have e3 : IntKind.i64.signed = true := rfl
  unfold IntKind.wrap
  rw [e, e2, e3]
  have hm : x % 18446744073709551616 = x := by omega
  simp only [hm, Bool.true_and]
  rw [if_neg (by simp; omega)]
theorem sim_makeSlice {t : TypeId} {l c : AV} {l' c' : Value} {K : AV → Heap → Option A} (hr : Rep ρ ⟨h.m, n⟩ N w) (hid : ρ id = none) (hlt : id < n) (hl : R ρ l l') (hc : R ρ c c')
    (hh : makeSliceK P t l c h id K = some r) : SimM P ρ N n id h w (Instr.makeSlice t l' c') K r := by
  obtain ⟨d, hd, hk⟩ := tyK_some hh
  clear hh
  split at hk
  · rename_i e
    obtain ⟨li, rfl, hk1⟩ := asInt_some hk
    obtain ⟨ci, rfl, hk2⟩ := asInt_some hk1
    have := hl.int_inv; subst this
    have := hc.int_inv; subst this
    clear hk hk1
    obtain ⟨i, h1, hk3⟩ := sizeK_some hk2
    obtain ⟨i', h1', hk4⟩ := bytesK_some hk3
    rw [h1] at h1'; cases h1'
    obtain ⟨i', z, h1', h2, hk5⟩ := zeroK_some hk4
    rw [h1] at h1'; cases h1'
    obtain ⟨g1, hk6⟩ := guardK_some hk5
    obtain ⟨g2, hk7⟩ := guardK_some hk6
    clear hk2 hk3 hk4 hk5 hk6
    have g2 := Nat.eq_of_beq_eq_true g2
    rw [lenA_eq] at g2
    simp only [List.length_map, Array.length_toList] at g2
    simp only [Bool.and_eq_true, decide_eq_true_eq] at g1
    obtain ⟨⟨⟨g3, g4⟩, g5⟩, g6⟩ := g1
    unfold limit at g5 g6
    have g5' : ci ≤ 140737488355328 := g5
    have g6' : (i.bytes : Int) * ci ≤ 140737488355328 := g6
    have w1 := wrap_small g3 (by omega)
    have w2 := wrap_small (by omega : 0 ≤ ci) g5'
    have hz := zeros_told (ρ := ρ) z.cells ci.toNat
    rw [g2] at hz
    have hlz := hz.len
    have hsz : ((Array.range (ci.toNat * i.size)).map fun q => z.cells[q % i.size]!).size = ci.toNat * i.size := by simp
    refine new_slice (c := (Array.range (ci.toNat * i.size)).map fun q => z.cells[q % i.size]!) (e := e) (fz := (0, 0)) (len := li.toNat) (cap := ci.toNat) (cap' := ci.toNat) (sz := i.size) (ex := true) hr hid hlt (fun j v hj => ?_) (by simp only [Array.length_toList] at hlz; omega) (by simp) (by omega) (Nat.le_refl _) (fun _ => rfl) (by omega) hk7 (Low.refl _ _) ?_
    · obtain ⟨v', p, q⟩ := hz.get_some hj
      exact ⟨v', by rw [← Array.getElem?_toList]; exact p, q⟩
    · have hno : ¬ (ci < 0) := by omega
      have hno2 : ¬ (li < 0) := by omega
      have hno3 : ¬ (li > ci) := by omega
      have hno4 : ¬ ((i.bytes : Int) * ci > 281474976710656) := by omega
      have hp : (2 : Int) ^ 48 = 281474976710656 := rfl
      by_cases h0 : ci.toNat * i.size = 0
      · simp [Instr.makeSlice, run_und hd, Go.asInt, Go.asIntOf, run_info h1, run_size h1, w1, w2, hno, hno2, hno3, hno4, h0, newRow]
        have hr0 : ∀ f g : Nat → Value, (Array.range 0).map f = (Array.range 0).map g := fun f g => by apply Array.ext <;> simp
        rw [hr0 (fun _ => default) (fun q => z.cells[q % i.size]!)]
      · simp [Instr.makeSlice, run_und hd, Go.asInt, Go.asIntOf, run_info h1, run_size h1, run_zero h1 h2, w1, w2, hno, hno2, hno3, hno4, h0, newRow, g2]
  · cases hk

/-! ### append -/
theorem growBy_le (newLen B : Nat) (hB : ∀ c, c < newLen → c + (c + 768) / 4 ≤ B) : ∀ (k c : Nat), c ≤ B → Builtin.growBy newLen k c ≤ B
  | 0, c, hc => hc
  | k + 1, c, hc => by
    simp only [Builtin.growBy]
    split
    · exact hc
    · exact growBy_le newLen B hB k _ (hB c (by omega))
theorem nextcap_le {need old : Nat} (hlt : old < need) : Builtin.nextslicecap need old ≤ 2 * need := by
  unfold Builtin.nextslicecap
  split
  · omega
  · split
    · omega
    · exact growBy_le need (2 * need) (fun c hc => by omega) 4 old (by omega)
theorem cell_same {w w' : World} (hw : w'.heap = w.heap) (a : Addr) : w'.cell? a = w.cell? a := by unfold World.cell?; rw [hw]
theorem srcK_some {size : Nat} {x : AV} {x' : Value} {K : Nat → List AV → Option A} (hr : Rep ρ ⟨h.m, n⟩ N w) (hx : R ρ x x') (hh : srcK size x h K = some r) :
    ∃ k cs cs', K k cs = some r ∧ (∀ w, (Builtin.lenOf x').run P w = .ok k w) ∧ (∀ w', w'.heap = w.heap → ∀ j, j ≤ k → (Builtin.firstCells size j x').run P w' = .ok (cs'.take (j * size)).toArray w') ∧ RL ρ cs cs' ∧ cs.length = k * size := by
  have slc : ∀ (p : Nat × Nat) (len cap : Nat) (ex : Bool) (sz : Nat), R ρ (.sl (some p) len cap ex sz) x' → (bif Nat.beq len 0 then K 0 [] else guardK (Nat.beq sz size) (ldN h p (len * size) fun cs => K len cs)) = some r →
      ∃ k cs cs', K k cs = some r ∧ (∀ w, (Builtin.lenOf x').run P w = .ok k w) ∧ (∀ w', w'.heap = w.heap → ∀ j, j ≤ k → (Builtin.firstCells size j x').run P w' = .ok (cs'.take (j * size)).toArray w') ∧ RL ρ cs cs' ∧ cs.length = k * size := by
    intro p len cap ex sz hx hh
    obtain ⟨b, o⟩ := p
    obtain ⟨q, a, cap', q1, rfl, q2, q3, q4, q5⟩ := hx.sl_inv
    by_cases h0 : len = 0
    · subst h0
      simp at hh
      refine ⟨0, [], [], hh, fun w => by simp [Builtin.lenOf], fun w' _ j hj => ?_, RL.nil ρ, by simp⟩
      have : j = 0 := by omega
      subst this
      simp [Builtin.firstCells, loadCells, loadCellsFrom]
    · have hb : Nat.beq len 0 = false := by
        cases hb : Nat.beq len 0 with
        | false => rfl
        | true => exact absurd (Nat.eq_of_beq_eq_true hb) h0
      simp only [hb, cond_false] at hh
      obtain ⟨h1, hk⟩ := guardK_some hh
      have h1 := Nat.eq_of_beq_eq_true h1
      subst h1
      obtain ⟨wr, vs, g1, g2, g3⟩ := ldN_some hk
      obtain ⟨p', cs', e1, e2, e3, e4⟩ := cells_there (h := ⟨h.m, n⟩) hr g1 g2
      rw [q1] at e1; cases e1
      obtain ⟨ha, _⟩ := q4 (by omega)
      subst ha
      refine ⟨len, _, cs', g3, fun w => by simp [Builtin.lenOf], fun w' hw j hj => ?_, e3, by simp; omega⟩
      have hle : j * sz ≤ len * sz := Nat.mul_le_mul_right _ hj
      simp only [Builtin.firstCells]
      exact run_cells (by simp; omega) fun i v hi => by
        rw [cell_same hw]
        refine e4 i v ?_
        simp only [List.getElem?_take] at hi
        split at hi
        · exact hi
        · cases hi
  unfold srcK at hh
  split at hh
  · obtain ⟨h1, hk⟩ := guardK_some hh
    obtain ⟨rfl, rfl, _, _⟩ := hx.nils_inv
    exact ⟨0, [], [], hk, fun w => by simp [Builtin.lenOf], fun w' _ j hj => by simp [Builtin.firstCells], RL.nil ρ, by simp⟩
  · exact slc _ _ _ _ _ hx hh
  · exact slc _ _ _ _ _ hx.gr_sl hh
  · rename_i s
    obtain ⟨h1, hk⟩ := guardK_some hh
    have h1 := Nat.eq_of_beq_eq_true h1
    subst h1
    obtain ⟨s', rfl, rfl⟩ := hx.str_inv
    have hcs : ∀ l : List UInt8, cellsOfS l = l.map fun b => AV.int .u8 b.toNat := by
      intro l; induction l <;> simp_all [cellsOfS]
    refine ⟨_, _, s'.data.toList.map fun b => .int .u8 b.toNat, hk, fun w => by simp [Builtin.lenOf, lenS_eq], fun w' _ j hj => ?_, ?_, by simp [hcs, lenS_eq]⟩
    · rw [lenS_eq] at hj
      simp only [Builtin.firstCells, Sem.run_pure]
      congr 1
      apply Array.ext'
      simp only [Array.toList_map]
      rw [Lib.extract_data]
      simp [List.map_take]
    · rw [hcs]
      exact RL.map _ _ _ fun b _ => .int _ _
  · rename_i cs len ex sz
    obtain ⟨a, cap', rfl, g1, g2, g3, g4, g5⟩ := hx.fz_inv
    by_cases h0 : len = 0
    · subst h0
      simp at hh
      refine ⟨0, [], [], hh, fun w => by simp [Builtin.lenOf], fun w' _ j hj => ?_, RL.nil ρ, by simp⟩
      have : j = 0 := by omega
      subst this
      cases a <;> simp [Builtin.firstCells, loadCells, loadCellsFrom]
    · have hb : Nat.beq len 0 = false := by
        cases hb : Nat.beq len 0 with
        | false => rfl
        | true => exact absurd (Nat.eq_of_beq_eq_true hb) h0
      simp only [hb, cond_false] at hh
      obtain ⟨h1, hk⟩ := guardK_some hh
      have h1 := Nat.eq_of_beq_eq_true h1
      subst h1
      obtain ⟨b, q, o, cs0, f1, rfl, f2, f3⟩ := g1 (by omega)
      obtain ⟨cs', e1, e2, e3⟩ := frz_cells hr f1 f3
      rw [← f2] at e1
      refine ⟨len, cs, cs', hk, fun w => by simp [Builtin.lenOf], fun w' hw j hj => ?_, e1, g3⟩
      have hle : j * sz ≤ len * sz := Nat.mul_le_mul_right _ hj
      simp only [Builtin.firstCells]
      exact run_cells (p := ⟨b, q, 0⟩) (by simp; omega) fun i v hi => by
        rw [cell_same hw]
        refine e3 i v ?_
        simp only [List.getElem?_take] at hi
        split at hi
        · exact hi
        · cases hi
  · cases hh
end
end Go.Ev
