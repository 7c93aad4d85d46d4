/- Units that are valid have the inputs and arguments of their kinds. -/
import Derived.Test.YthlmbnhelkbchaaUkB
namespace Go.Proofs.Ythlmbnhelkbchaa
open Go.Ev
set_option maxRecDepth 100000
theorem shape_no {k r : Int} {xs ys : List Int} (h29 : F 29 [unitV k r xs ys] (.bool false)) (h13 : F 13 [unitV k r xs ys] (.bool false)) (p : Prop) : ∃ v, F 29 [unitV k r xs ys] (.bool v) ∧ F 13 [unitV k r xs ys] (.bool v) ∧ (v = true → p) := ⟨false, h29, h13, fun h => by cases h⟩
theorem shape_1 (r : Int) (xs ys : List Int) : ∃ v, F 29 [unitV 1 r xs ys] (.bool v) ∧ F 13 [unitV 1 r xs ys] (.bool v) ∧ (v = true → xs.length = 1 ∧ ys.length = 0) := by
  by_cases hm : xs.length = 1 ∧ ys.length = 0
  · obtain ⟨v, f29, f13⟩ := valid_1 r xs ys
    exact ⟨v, f29, f13, fun _ => hm⟩
  · refine shape_no (.of (stopAt_ok ok0) rfl fun h => (m29_1 r xs ys h).trans (ch_none _ ?_)) (.of (stopAt_ok ok0) rfl fun h => (m13_1 r xs ys h).trans (ch_none _ ?_)) _ <;>
      (rw [← Bool.not_eq_true]
       simp only [allc, Bool.and_true, Bool.and_eq_true, Bool.not_eq_true', decide_eq_false_iff_not, Bool.not_not, decide_eq_true_eq, beq_iff_eq]
       omega)
theorem shape_2 (r : Int) (xs ys : List Int) : ∃ v, F 29 [unitV 2 r xs ys] (.bool v) ∧ F 13 [unitV 2 r xs ys] (.bool v) ∧ (v = true → xs.length = 2 ∧ ys.length = 0) := by
  by_cases hm : xs.length = 2 ∧ ys.length = 0
  · obtain ⟨v, f29, f13⟩ := valid_2 r xs ys
    exact ⟨v, f29, f13, fun _ => hm⟩
  · refine shape_no (.of (stopAt_ok ok0) rfl fun h => (m29_2 r xs ys h).trans (ch_none _ ?_)) (.of (stopAt_ok ok0) rfl fun h => (m13_2 r xs ys h).trans (ch_none _ ?_)) _ <;>
      (rw [← Bool.not_eq_true]
       simp only [allc, Bool.and_true, Bool.and_eq_true, Bool.not_eq_true', decide_eq_false_iff_not, Bool.not_not, decide_eq_true_eq, beq_iff_eq]
       omega)
theorem shape_3 (r : Int) (xs ys : List Int) : ∃ v, F 29 [unitV 3 r xs ys] (.bool v) ∧ F 13 [unitV 3 r xs ys] (.bool v) ∧ (v = true → xs.length = 1 ∧ ys.length = 0) := by
  by_cases hm : xs.length = 1 ∧ ys.length = 0
  · obtain ⟨v, f29, f13⟩ := valid_3 r xs ys
    exact ⟨v, f29, f13, fun _ => hm⟩
  · refine shape_no (.of (stopAt_ok ok0) rfl fun h => (m29_3 r xs ys h).trans (ch_none _ ?_)) (.of (stopAt_ok ok0) rfl fun h => (m13_3 r xs ys h).trans (ch_none _ ?_)) _ <;>
      (rw [← Bool.not_eq_true]
       simp only [allc, Bool.and_true, Bool.and_eq_true, Bool.not_eq_true', decide_eq_false_iff_not, Bool.not_not, decide_eq_true_eq, beq_iff_eq]
       omega)
theorem shape_4 (r : Int) (xs ys : List Int) : ∃ v, F 29 [unitV 4 r xs ys] (.bool v) ∧ F 13 [unitV 4 r xs ys] (.bool v) ∧ (v = true → xs.length = 0 ∧ ys.length = 1) := by
  by_cases hm : xs.length = 0 ∧ ys.length = 1
  · obtain ⟨v, f29, f13⟩ := valid_4 r xs ys
    exact ⟨v, f29, f13, fun _ => hm⟩
  · refine shape_no (.of (stopAt_ok ok0) rfl fun h => (m29_4 r xs ys h).trans (ch_none _ ?_)) (.of (stopAt_ok ok0) rfl fun h => (m13_4 r xs ys h).trans (ch_none _ ?_)) _ <;>
      (rw [← Bool.not_eq_true]
       simp only [allc, Bool.and_true, Bool.and_eq_true, Bool.not_eq_true', decide_eq_false_iff_not, Bool.not_not, decide_eq_true_eq, beq_iff_eq]
       omega)
theorem shape_5 (r : Int) (xs ys : List Int) : ∃ v, F 29 [unitV 5 r xs ys] (.bool v) ∧ F 13 [unitV 5 r xs ys] (.bool v) ∧ (v = true → xs.length = 0 ∧ ys.length = 3) := by
  by_cases hm : xs.length = 0 ∧ ys.length = 3
  · obtain ⟨v, f29, f13⟩ := valid_5 r xs ys
    exact ⟨v, f29, f13, fun _ => hm⟩
  · refine shape_no (.of (stopAt_ok ok0) rfl fun h => (m29_5 r xs ys h).trans (ch_none _ ?_)) (.of (stopAt_ok ok0) rfl fun h => (m13_5 r xs ys h).trans (ch_none _ ?_)) _ <;>
      (rw [← Bool.not_eq_true]
       simp only [allc, Bool.and_true, Bool.and_eq_true, Bool.not_eq_true', decide_eq_false_iff_not, Bool.not_not, decide_eq_true_eq, beq_iff_eq]
       omega)
theorem shape_6 (r : Int) (xs ys : List Int) : ∃ v, F 29 [unitV 6 r xs ys] (.bool v) ∧ F 13 [unitV 6 r xs ys] (.bool v) ∧ (v = true → xs.length = 1 ∧ ys.length = 4) := by
  by_cases hm : xs.length = 1 ∧ ys.length = 4
  · obtain ⟨v, f29, f13⟩ := valid_6 r xs ys
    exact ⟨v, f29, f13, fun _ => hm⟩
  · refine shape_no (.of (stopAt_ok ok0) rfl fun h => (m29_6 r xs ys h).trans (ch_none _ ?_)) (.of (stopAt_ok ok0) rfl fun h => (m13_6 r xs ys h).trans (ch_none _ ?_)) _ <;>
      (rw [← Bool.not_eq_true]
       simp only [allc, Bool.and_true, Bool.and_eq_true, Bool.not_eq_true', decide_eq_false_iff_not, Bool.not_not, decide_eq_true_eq, beq_iff_eq]
       omega)
theorem shape_7 (r : Int) (xs ys : List Int) : ∃ v, F 29 [unitV 7 r xs ys] (.bool v) ∧ F 13 [unitV 7 r xs ys] (.bool v) ∧ (v = true → xs.length = 2 ∧ ys.length = 0) := by
  by_cases hm : xs.length = 2 ∧ ys.length = 0
  · obtain ⟨v, f29, f13⟩ := valid_7 r xs ys
    exact ⟨v, f29, f13, fun _ => hm⟩
  · refine shape_no (.of (stopAt_ok ok0) rfl fun h => (m29_7 r xs ys h).trans (ch_none _ ?_)) (.of (stopAt_ok ok0) rfl fun h => (m13_7 r xs ys h).trans (ch_none _ ?_)) _ <;>
      (rw [← Bool.not_eq_true]
       simp only [allc, Bool.and_true, Bool.and_eq_true, Bool.not_eq_true', decide_eq_false_iff_not, Bool.not_not, decide_eq_true_eq, beq_iff_eq]
       omega)
theorem shape_8 (r : Int) (xs ys : List Int) : ∃ v, F 29 [unitV 8 r xs ys] (.bool v) ∧ F 13 [unitV 8 r xs ys] (.bool v) ∧ (v = true → xs.length = 2 ∧ ys.length = 0) := by
  by_cases hm : xs.length = 2 ∧ ys.length = 0
  · obtain ⟨v, f29, f13⟩ := valid_8 r xs ys
    exact ⟨v, f29, f13, fun _ => hm⟩
  · refine shape_no (.of (stopAt_ok ok0) rfl fun h => (m29_8 r xs ys h).trans (ch_none _ ?_)) (.of (stopAt_ok ok0) rfl fun h => (m13_8 r xs ys h).trans (ch_none _ ?_)) _ <;>
      (rw [← Bool.not_eq_true]
       simp only [allc, Bool.and_true, Bool.and_eq_true, Bool.not_eq_true', decide_eq_false_iff_not, Bool.not_not, decide_eq_true_eq, beq_iff_eq]
       omega)
theorem shape_9 (r : Int) (xs ys : List Int) : ∃ v, F 29 [unitV 9 r xs ys] (.bool v) ∧ F 13 [unitV 9 r xs ys] (.bool v) ∧ (v = true → xs.length = 2 ∧ ys.length = 0) := by
  by_cases hm : xs.length = 2 ∧ ys.length = 0
  · obtain ⟨v, f29, f13⟩ := valid_9 r xs ys
    exact ⟨v, f29, f13, fun _ => hm⟩
  · refine shape_no (.of (stopAt_ok ok0) rfl fun h => (m29_9 r xs ys h).trans (ch_none _ ?_)) (.of (stopAt_ok ok0) rfl fun h => (m13_9 r xs ys h).trans (ch_none _ ?_)) _ <;>
      (rw [← Bool.not_eq_true]
       simp only [allc, Bool.and_true, Bool.and_eq_true, Bool.not_eq_true', decide_eq_false_iff_not, Bool.not_not, decide_eq_true_eq, beq_iff_eq]
       omega)
theorem shape_10 (r : Int) (xs ys : List Int) : ∃ v, F 29 [unitV 10 r xs ys] (.bool v) ∧ F 13 [unitV 10 r xs ys] (.bool v) ∧ (v = true → xs.length = 2 ∧ ys.length = 0) := by
  by_cases hm : xs.length = 2 ∧ ys.length = 0
  · obtain ⟨v, f29, f13⟩ := valid_10 r xs ys
    exact ⟨v, f29, f13, fun _ => hm⟩
  · refine shape_no (.of (stopAt_ok ok0) rfl fun h => (m29_10 r xs ys h).trans (ch_none _ ?_)) (.of (stopAt_ok ok0) rfl fun h => (m13_10 r xs ys h).trans (ch_none _ ?_)) _ <;>
      (rw [← Bool.not_eq_true]
       simp only [allc, Bool.and_true, Bool.and_eq_true, Bool.not_eq_true', decide_eq_false_iff_not, Bool.not_not, decide_eq_true_eq, beq_iff_eq]
       omega)
theorem shape_11 (r : Int) (xs ys : List Int) : ∃ v, F 29 [unitV 11 r xs ys] (.bool v) ∧ F 13 [unitV 11 r xs ys] (.bool v) ∧ (v = true → ∃ x0 y0, xs = [x0] ∧ ys = [y0] ∧ 1 ≤ y0 ∧ y0 ≤ 2000) := by
  by_cases hm : xs.length = 1 ∧ ys.length = 1
  · obtain ⟨hx, hy⟩ := hm
    rcases xs with _ | ⟨x0, _ | ⟨_, _⟩⟩ <;> simp at hx
    rcases ys with _ | ⟨y0, _ | ⟨_, _⟩⟩ <;> simp at hy
    refine ⟨_, .of ok0 rfl fun h => (v29_11 r x0 y0 h).trans (ch_eq _ _), .of ok0 rfl fun h => (v13_11 r x0 y0 h).trans ((ch_eq _ _).trans ?_), fun h => ?_⟩
    · congr 2
      rw [Bool.eq_iff_iff]
      simp only [allc, Bool.and_true, Bool.and_eq_true, Bool.not_eq_true', decide_eq_false_iff_not, Bool.not_not, decide_eq_true_eq, Int.not_lt]
      omega
    · simp only [allc, Bool.and_true, Bool.and_eq_true, Bool.not_eq_true', decide_eq_false_iff_not, Bool.not_not, decide_eq_true_eq, Int.not_lt] at h
      exact ⟨x0, y0, rfl, rfl, by omega, by omega⟩
  · refine shape_no (.of (stopAt_ok ok0) rfl fun h => (m29_11 r xs ys h).trans (ch_none _ ?_)) (.of (stopAt_ok ok0) rfl fun h => (m13_11 r xs ys h).trans (ch_none _ ?_)) _ <;>
      (rw [← Bool.not_eq_true]
       simp only [allc, Bool.and_true, Bool.and_eq_true, Bool.not_eq_true', decide_eq_false_iff_not, Bool.not_not, decide_eq_true_eq, beq_iff_eq]
       omega)
theorem shape_12 (r : Int) (xs ys : List Int) : ∃ v, F 29 [unitV 12 r xs ys] (.bool v) ∧ F 13 [unitV 12 r xs ys] (.bool v) ∧ (v = true → xs.length = 0 ∧ ys.length = 1) := by
  by_cases hm : xs.length = 0 ∧ ys.length = 1
  · obtain ⟨v, f29, f13⟩ := valid_12 r xs ys
    exact ⟨v, f29, f13, fun _ => hm⟩
  · refine shape_no (.of (stopAt_ok ok0) rfl fun h => (m29_12 r xs ys h).trans (ch_none _ ?_)) (.of (stopAt_ok ok0) rfl fun h => (m13_12 r xs ys h).trans (ch_none _ ?_)) _ <;>
      (rw [← Bool.not_eq_true]
       simp only [allc, Bool.and_true, Bool.and_eq_true, Bool.not_eq_true', decide_eq_false_iff_not, Bool.not_not, decide_eq_true_eq, beq_iff_eq]
       omega)
theorem shape_13 (r : Int) (xs ys : List Int) : ∃ v, F 29 [unitV 13 r xs ys] (.bool v) ∧ F 13 [unitV 13 r xs ys] (.bool v) ∧ (v = true → xs.length = 1 ∧ ys.length = 1) := by
  by_cases hm : xs.length = 1 ∧ ys.length = 1
  · obtain ⟨v, f29, f13⟩ := valid_13 r xs ys
    exact ⟨v, f29, f13, fun _ => hm⟩
  · refine shape_no (.of (stopAt_ok ok0) rfl fun h => (m29_13 r xs ys h).trans (ch_none _ ?_)) (.of (stopAt_ok ok0) rfl fun h => (m13_13 r xs ys h).trans (ch_none _ ?_)) _ <;>
      (rw [← Bool.not_eq_true]
       simp only [allc, Bool.and_true, Bool.and_eq_true, Bool.not_eq_true', decide_eq_false_iff_not, Bool.not_not, decide_eq_true_eq, beq_iff_eq]
       omega)
theorem shape_14 (r : Int) (xs ys : List Int) : ∃ v, F 29 [unitV 14 r xs ys] (.bool v) ∧ F 13 [unitV 14 r xs ys] (.bool v) ∧ (v = true → xs.length = 0 ∧ ys.length = 1) := by
  by_cases hm : xs.length = 0 ∧ ys.length = 1
  · obtain ⟨v, f29, f13⟩ := valid_14 r xs ys
    exact ⟨v, f29, f13, fun _ => hm⟩
  · refine shape_no (.of (stopAt_ok ok0) rfl fun h => (m29_14 r xs ys h).trans (ch_none _ ?_)) (.of (stopAt_ok ok0) rfl fun h => (m13_14 r xs ys h).trans (ch_none _ ?_)) _ <;>
      (rw [← Bool.not_eq_true]
       simp only [allc, Bool.and_true, Bool.and_eq_true, Bool.not_eq_true', decide_eq_false_iff_not, Bool.not_not, decide_eq_true_eq, beq_iff_eq]
       omega)
theorem shape_15 (r : Int) (xs ys : List Int) : ∃ v, F 29 [unitV 15 r xs ys] (.bool v) ∧ F 13 [unitV 15 r xs ys] (.bool v) ∧ (v = true → xs.length = 0 ∧ ys.length = 1) := by
  by_cases hm : xs.length = 0 ∧ ys.length = 1
  · obtain ⟨v, f29, f13⟩ := valid_15 r xs ys
    exact ⟨v, f29, f13, fun _ => hm⟩
  · refine shape_no (.of (stopAt_ok ok0) rfl fun h => (m29_15 r xs ys h).trans (ch_none _ ?_)) (.of (stopAt_ok ok0) rfl fun h => (m13_15 r xs ys h).trans (ch_none _ ?_)) _ <;>
      (rw [← Bool.not_eq_true]
       simp only [allc, Bool.and_true, Bool.and_eq_true, Bool.not_eq_true', decide_eq_false_iff_not, Bool.not_not, decide_eq_true_eq, beq_iff_eq]
       omega)
theorem shape_out {k : Int} (r : Int) (xs ys : List Int) (ho : Out k) : F 29 [unitV k r xs ys] (.bool false) ∧ F 13 [unitV k r xs ys] (.bool false) :=
  ⟨.of (outO_ok ho) rfl fun h => by have := o29_run k r xs ys h; rw [same_self] at this; exact this, .of (know_ok tbOk (ins26_out ho) ok0) rfl fun h => by have := o13_run k r xs ys h; rw [same_self] at this; exact this⟩
end Go.Proofs.Ythlmbnhelkbchaa
