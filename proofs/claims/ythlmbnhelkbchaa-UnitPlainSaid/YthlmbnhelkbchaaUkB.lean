/- UnitKinds, second part: which units are valid. -/
import Derived.Test.YthlmbnhelkbchaaUkA
namespace Go.Proofs.Ythlmbnhelkbchaa
open Go.Ev
set_option maxRecDepth 100000
/-- One thing after another is asked; where one is not as it is to be, the answer is no. -/
def ch : List (Bool × Bool) → Option AV → Option AV
  | [], e => e
  | (c, true) :: l, e => bif c then ch l e else some (.bool false)
  | (c, false) :: l, e => bif c then some (.bool false) else ch l e
def allc : List (Bool × Bool) → Bool
  | [] => true
  | (c, true) :: l => c && allc l
  | (c, false) :: l => !c && allc l
theorem ch_eq (e : Bool) : ∀ l, ch l (some (.bool e)) = some (.bool (allc l && e))
  | [] => by simp [ch, allc]
  | (c, true) :: l => by cases c <;> simp [ch, allc, ch_eq e l]
  | (c, false) :: l => by cases c <;> simp [ch, allc, ch_eq e l]
theorem ch_none : ∀ l, allc l = false → ch l none = some (.bool false)
  | [], h => by simp [allc] at h
  | (c, true) :: l, h => by cases c <;> simp_all [ch, allc, ch_none l]
  | (c, false) :: l, h => by cases c <;> simp_all [ch, allc, ch_none l]
def unitV (k r : Int) (xs ys : List Int) : AV := .agg [int64 k, int64 r, ints xs, ints ys]
noncomputable abbrev run (S : Orc) (f : FuncId) (args : List AV) (h : Heap) : Option AV := evCall Try.prog S tb 100 AV (.fn f) (vwArgs Try.prog [] h (parsOf Try.prog f) args) (mkHeap [] 0) .off rv
theorem v29_1 (r : Int) (x0 : Int) (h : Heap) : run orc0 29 [unitV 1 r [x0] []] h = ch [(decide (r ≥ 1), true), (!decide (r ≤ 3), false), (decide (x0 ≥ 0), true), (!decide (x0 ≤ 199), false)] (some (.bool true)) := by kernel_rfl
theorem v13_1 (r : Int) (x0 : Int) (h : Heap) : run orc0 13 [unitV 1 r [x0] []] h = ch [(decide (r < 1), false), (decide (r > 3), false), (decide (x0 ≥ 0), true), (!decide (x0 ≤ 199), false)] (some (.bool (true))) := by kernel_rfl
theorem m29_1 (r : Int) (xs ys : List Int) (h : Heap) : run (stopAt 29 [6] orc0) 29 [unitV 1 r xs ys] h = ch [(decide (r ≥ 1), true), (!decide (r ≤ 3), false), (!((xs.length : Int) == 1), false), (!((ys.length : Int) == 0), false)] none := by kernel_rfl
theorem m13_1 (r : Int) (xs ys : List Int) (h : Heap) : run (stopAt 13 [4] orc0) 13 [unitV 1 r xs ys] h = ch [(decide (r < 1), false), (decide (r > 3), false), (!((xs.length : Int) == 1), false), (!((ys.length : Int) == 0), false)] none := by kernel_rfl
theorem valid_1 (r : Int) (xs ys : List Int) : ∃ v, F 29 [unitV 1 r xs ys] (.bool v) ∧ F 13 [unitV 1 r xs ys] (.bool v) := by
  by_cases hm : xs.length = 1 ∧ ys.length = 0
  · obtain ⟨hx, hy⟩ := hm
    rcases xs with _ | ⟨x0, _ | ⟨_, _⟩⟩ <;> simp at hx
    rcases ys with _ | ⟨_, _⟩ <;> simp at hy
    refine ⟨_, .of ok0 rfl fun h => (v29_1 r x0 h).trans (ch_eq _ _), .of ok0 rfl fun h => (v13_1 r x0 h).trans ((ch_eq _ _).trans ?_)⟩
    congr 2
    rw [Bool.eq_iff_iff]
    simp only [allc, Bool.and_true, Bool.and_eq_true, Bool.not_eq_true', decide_eq_false_iff_not, Bool.not_not, decide_eq_true_eq, Int.not_lt]
  · refine ⟨false, .of (stopAt_ok ok0) rfl fun h => (m29_1 r xs ys h).trans (ch_none _ ?_), .of (stopAt_ok ok0) rfl fun h => (m13_1 r xs ys h).trans (ch_none _ ?_)⟩ <;>
      (rw [← Bool.not_eq_true]
       simp only [allc, Bool.and_true, Bool.and_eq_true, Bool.not_eq_true', decide_eq_false_iff_not, Bool.not_not, decide_eq_true_eq, beq_iff_eq]
       omega)
theorem v29_2 (r : Int) (x0 x1 : Int) (h : Heap) : run orc0 29 [unitV 2 r [x0, x1] []] h = ch [(decide (r ≥ 1), true), (!decide (r ≤ 3), false), (decide (x0 ≥ 0), true), (!decide (x0 ≤ 199), false), (decide (x1 ≥ 0), true), (!decide (x1 ≤ 199), false)] (some (.bool true)) := by kernel_rfl
theorem v13_2 (r : Int) (x0 x1 : Int) (h : Heap) : run orc0 13 [unitV 2 r [x0, x1] []] h = ch [(decide (r < 1), false), (decide (r > 3), false), (decide (x0 ≥ 0), true), (!decide (x0 ≤ 199), false), (decide (x1 ≥ 0), true), (!decide (x1 ≤ 199), false)] (some (.bool (true))) := by kernel_rfl
theorem m29_2 (r : Int) (xs ys : List Int) (h : Heap) : run (stopAt 29 [6] orc0) 29 [unitV 2 r xs ys] h = ch [(decide (r ≥ 1), true), (!decide (r ≤ 3), false), (!((xs.length : Int) == 2), false), (!((ys.length : Int) == 0), false)] none := by kernel_rfl
theorem m13_2 (r : Int) (xs ys : List Int) (h : Heap) : run (stopAt 13 [4] orc0) 13 [unitV 2 r xs ys] h = ch [(decide (r < 1), false), (decide (r > 3), false), (!((xs.length : Int) == 2), false), (!((ys.length : Int) == 0), false)] none := by kernel_rfl
theorem valid_2 (r : Int) (xs ys : List Int) : ∃ v, F 29 [unitV 2 r xs ys] (.bool v) ∧ F 13 [unitV 2 r xs ys] (.bool v) := by
  by_cases hm : xs.length = 2 ∧ ys.length = 0
  · obtain ⟨hx, hy⟩ := hm
    rcases xs with _ | ⟨x0, _ | ⟨x1, _ | ⟨_, _⟩⟩⟩ <;> simp at hx
    rcases ys with _ | ⟨_, _⟩ <;> simp at hy
    refine ⟨_, .of ok0 rfl fun h => (v29_2 r x0 x1 h).trans (ch_eq _ _), .of ok0 rfl fun h => (v13_2 r x0 x1 h).trans ((ch_eq _ _).trans ?_)⟩
    congr 2
    rw [Bool.eq_iff_iff]
    simp only [allc, Bool.and_true, Bool.and_eq_true, Bool.not_eq_true', decide_eq_false_iff_not, Bool.not_not, decide_eq_true_eq, Int.not_lt]
  · refine ⟨false, .of (stopAt_ok ok0) rfl fun h => (m29_2 r xs ys h).trans (ch_none _ ?_), .of (stopAt_ok ok0) rfl fun h => (m13_2 r xs ys h).trans (ch_none _ ?_)⟩ <;>
      (rw [← Bool.not_eq_true]
       simp only [allc, Bool.and_true, Bool.and_eq_true, Bool.not_eq_true', decide_eq_false_iff_not, Bool.not_not, decide_eq_true_eq, beq_iff_eq]
       omega)
theorem v29_3 (r : Int) (x0 : Int) (h : Heap) : run orc0 29 [unitV 3 r [x0] []] h = ch [(decide (r ≥ 1), true), (!decide (r ≤ 3), false), (decide (x0 ≥ 0), true), (!decide (x0 ≤ 199), false)] (some (.bool true)) := by kernel_rfl
theorem v13_3 (r : Int) (x0 : Int) (h : Heap) : run orc0 13 [unitV 3 r [x0] []] h = ch [(decide (r < 1), false), (decide (r > 3), false), (decide (x0 ≥ 0), true), (!decide (x0 ≤ 199), false)] (some (.bool (true))) := by kernel_rfl
theorem m29_3 (r : Int) (xs ys : List Int) (h : Heap) : run (stopAt 29 [6] orc0) 29 [unitV 3 r xs ys] h = ch [(decide (r ≥ 1), true), (!decide (r ≤ 3), false), (!((xs.length : Int) == 1), false), (!((ys.length : Int) == 0), false)] none := by kernel_rfl
theorem m13_3 (r : Int) (xs ys : List Int) (h : Heap) : run (stopAt 13 [4] orc0) 13 [unitV 3 r xs ys] h = ch [(decide (r < 1), false), (decide (r > 3), false), (!((xs.length : Int) == 1), false), (!((ys.length : Int) == 0), false)] none := by kernel_rfl
theorem valid_3 (r : Int) (xs ys : List Int) : ∃ v, F 29 [unitV 3 r xs ys] (.bool v) ∧ F 13 [unitV 3 r xs ys] (.bool v) := by
  by_cases hm : xs.length = 1 ∧ ys.length = 0
  · obtain ⟨hx, hy⟩ := hm
    rcases xs with _ | ⟨x0, _ | ⟨_, _⟩⟩ <;> simp at hx
    rcases ys with _ | ⟨_, _⟩ <;> simp at hy
    refine ⟨_, .of ok0 rfl fun h => (v29_3 r x0 h).trans (ch_eq _ _), .of ok0 rfl fun h => (v13_3 r x0 h).trans ((ch_eq _ _).trans ?_)⟩
    congr 2
    rw [Bool.eq_iff_iff]
    simp only [allc, Bool.and_true, Bool.and_eq_true, Bool.not_eq_true', decide_eq_false_iff_not, Bool.not_not, decide_eq_true_eq, Int.not_lt]
  · refine ⟨false, .of (stopAt_ok ok0) rfl fun h => (m29_3 r xs ys h).trans (ch_none _ ?_), .of (stopAt_ok ok0) rfl fun h => (m13_3 r xs ys h).trans (ch_none _ ?_)⟩ <;>
      (rw [← Bool.not_eq_true]
       simp only [allc, Bool.and_true, Bool.and_eq_true, Bool.not_eq_true', decide_eq_false_iff_not, Bool.not_not, decide_eq_true_eq, beq_iff_eq]
       omega)
theorem v29_4 (r : Int) (y0 : Int) (h : Heap) : run orc0 29 [unitV 4 r [] [y0]] h = ch [(decide (r ≥ 1), true), (!decide (r ≤ 3), false), (decide (y0 ≥ (0)), true), (!decide (y0 ≤ (2147483647)), false)] (some (.bool true)) := by kernel_rfl
theorem v13_4 (r : Int) (y0 : Int) (h : Heap) : run orc0 13 [unitV 4 r [] [y0]] h = ch [(decide (r < 1), false), (decide (r > 3), false), (decide (y0 ≥ (0)), true)] (some (.bool (decide (y0 ≤ (2147483647))))) := by kernel_rfl
theorem m29_4 (r : Int) (xs ys : List Int) (h : Heap) : run (stopAt 29 [6] orc0) 29 [unitV 4 r xs ys] h = ch [(decide (r ≥ 1), true), (!decide (r ≤ 3), false), (!((xs.length : Int) == 0), false), (!((ys.length : Int) == 1), false)] none := by kernel_rfl
theorem m13_4 (r : Int) (xs ys : List Int) (h : Heap) : run (stopAt 13 [4] orc0) 13 [unitV 4 r xs ys] h = ch [(decide (r < 1), false), (decide (r > 3), false), (!((xs.length : Int) == 0), false), (!((ys.length : Int) == 1), false)] none := by kernel_rfl
theorem valid_4 (r : Int) (xs ys : List Int) : ∃ v, F 29 [unitV 4 r xs ys] (.bool v) ∧ F 13 [unitV 4 r xs ys] (.bool v) := by
  by_cases hm : xs.length = 0 ∧ ys.length = 1
  · obtain ⟨hx, hy⟩ := hm
    rcases xs with _ | ⟨_, _⟩ <;> simp at hx
    rcases ys with _ | ⟨y0, _ | ⟨_, _⟩⟩ <;> simp at hy
    refine ⟨_, .of ok0 rfl fun h => (v29_4 r y0 h).trans (ch_eq _ _), .of ok0 rfl fun h => (v13_4 r y0 h).trans ((ch_eq _ _).trans ?_)⟩
    congr 2
    rw [Bool.eq_iff_iff]
    simp only [allc, Bool.and_true, Bool.and_eq_true, Bool.not_eq_true', decide_eq_false_iff_not, Bool.not_not, decide_eq_true_eq, Int.not_lt]
    omega
  · refine ⟨false, .of (stopAt_ok ok0) rfl fun h => (m29_4 r xs ys h).trans (ch_none _ ?_), .of (stopAt_ok ok0) rfl fun h => (m13_4 r xs ys h).trans (ch_none _ ?_)⟩ <;>
      (rw [← Bool.not_eq_true]
       simp only [allc, Bool.and_true, Bool.and_eq_true, Bool.not_eq_true', decide_eq_false_iff_not, Bool.not_not, decide_eq_true_eq, beq_iff_eq]
       omega)
theorem v29_5 (r : Int) (y0 y1 y2 : Int) (h : Heap) : run orc0 29 [unitV 5 r [] [y0, y1, y2]] h = ch [(decide (r ≥ 1), true), (!decide (r ≤ 3), false), (decide (y0 ≥ (-1099511627776)), true), (!decide (y0 ≤ (1099511627776)), false), (decide (y1 ≥ (-1099511627776)), true), (!decide (y1 ≤ (1099511627776)), false), (decide (y2 ≥ (1)), true), (!decide (y2 ≤ (1000000000)), false)] (some (.bool true)) := by kernel_rfl
theorem v13_5 (r : Int) (y0 y1 y2 : Int) (h : Heap) : run orc0 13 [unitV 5 r [] [y0, y1, y2]] h = ch [(decide (r < 1), false), (decide (r > 3), false), (decide (y0 ≥ (-1099511627776)), true), (decide (y0 ≤ (1099511627776)), true), (decide (y1 ≥ (-1099511627776)), true), (decide (y1 ≤ (1099511627776)), true), (decide (y2 ≥ (1)), true)] (some (.bool (decide (y2 ≤ (1000000000))))) := by kernel_rfl
theorem m29_5 (r : Int) (xs ys : List Int) (h : Heap) : run (stopAt 29 [6] orc0) 29 [unitV 5 r xs ys] h = ch [(decide (r ≥ 1), true), (!decide (r ≤ 3), false), (!((xs.length : Int) == 0), false), (!((ys.length : Int) == 3), false)] none := by kernel_rfl
theorem m13_5 (r : Int) (xs ys : List Int) (h : Heap) : run (stopAt 13 [4] orc0) 13 [unitV 5 r xs ys] h = ch [(decide (r < 1), false), (decide (r > 3), false), (!((xs.length : Int) == 0), false), (!((ys.length : Int) == 3), false)] none := by kernel_rfl
theorem valid_5 (r : Int) (xs ys : List Int) : ∃ v, F 29 [unitV 5 r xs ys] (.bool v) ∧ F 13 [unitV 5 r xs ys] (.bool v) := by
  by_cases hm : xs.length = 0 ∧ ys.length = 3
  · obtain ⟨hx, hy⟩ := hm
    rcases xs with _ | ⟨_, _⟩ <;> simp at hx
    rcases ys with _ | ⟨y0, _ | ⟨y1, _ | ⟨y2, _ | ⟨_, _⟩⟩⟩⟩ <;> simp at hy
    refine ⟨_, .of ok0 rfl fun h => (v29_5 r y0 y1 y2 h).trans (ch_eq _ _), .of ok0 rfl fun h => (v13_5 r y0 y1 y2 h).trans ((ch_eq _ _).trans ?_)⟩
    congr 2
    rw [Bool.eq_iff_iff]
    simp only [allc, Bool.and_true, Bool.and_eq_true, Bool.not_eq_true', decide_eq_false_iff_not, Bool.not_not, decide_eq_true_eq, Int.not_lt]
    omega
  · refine ⟨false, .of (stopAt_ok ok0) rfl fun h => (m29_5 r xs ys h).trans (ch_none _ ?_), .of (stopAt_ok ok0) rfl fun h => (m13_5 r xs ys h).trans (ch_none _ ?_)⟩ <;>
      (rw [← Bool.not_eq_true]
       simp only [allc, Bool.and_true, Bool.and_eq_true, Bool.not_eq_true', decide_eq_false_iff_not, Bool.not_not, decide_eq_true_eq, beq_iff_eq]
       omega)
theorem v29_6 (r : Int) (x0 y0 y1 y2 y3 : Int) (h : Heap) : run orc0 29 [unitV 6 r [x0] [y0, y1, y2, y3]] h = ch [(decide (r ≥ 1), true), (!decide (r ≤ 3), false), (decide (y0 ≥ (1)), true), (!decide (y0 ≤ (1000000000)), false), (decide (y1 ≥ (1)), true), (!decide (y1 ≤ (1000000000)), false), (decide (y2 ≥ (0)), true), (!decide (y2 ≤ (65536)), false), (decide (y3 ≥ (1)), true), (!decide (y3 ≤ (1000000000)), false), (decide (x0 ≥ 0), true), (!decide (x0 ≤ 199), false)] (some (.bool true)) := by kernel_rfl
theorem v13_6 (r : Int) (x0 y0 y1 y2 y3 : Int) (h : Heap) : run orc0 13 [unitV 6 r [x0] [y0, y1, y2, y3]] h = ch [(decide (r < 1), false), (decide (r > 3), false), (decide (x0 ≥ 0), true), (!decide (x0 ≤ 199), false), (decide (y0 ≥ (1)), true), (decide (y0 ≤ (1000000000)), true), (decide (y1 ≥ (1)), true), (decide (y1 ≤ (1000000000)), true), (decide (y2 ≥ (0)), true), (decide (y2 ≤ (65536)), true), (decide (y3 ≥ (1)), true)] (some (.bool (decide (y3 ≤ (1000000000))))) := by kernel_rfl
theorem m29_6 (r : Int) (xs ys : List Int) (h : Heap) : run (stopAt 29 [6] orc0) 29 [unitV 6 r xs ys] h = ch [(decide (r ≥ 1), true), (!decide (r ≤ 3), false), (!((xs.length : Int) == 1), false), (!((ys.length : Int) == 4), false)] none := by kernel_rfl
theorem m13_6 (r : Int) (xs ys : List Int) (h : Heap) : run (stopAt 13 [4] orc0) 13 [unitV 6 r xs ys] h = ch [(decide (r < 1), false), (decide (r > 3), false), (!((xs.length : Int) == 1), false), (!((ys.length : Int) == 4), false)] none := by kernel_rfl
theorem valid_6 (r : Int) (xs ys : List Int) : ∃ v, F 29 [unitV 6 r xs ys] (.bool v) ∧ F 13 [unitV 6 r xs ys] (.bool v) := by
  by_cases hm : xs.length = 1 ∧ ys.length = 4
  · obtain ⟨hx, hy⟩ := hm
    rcases xs with _ | ⟨x0, _ | ⟨_, _⟩⟩ <;> simp at hx
    rcases ys with _ | ⟨y0, _ | ⟨y1, _ | ⟨y2, _ | ⟨y3, _ | ⟨_, _⟩⟩⟩⟩⟩ <;> simp at hy
    refine ⟨_, .of ok0 rfl fun h => (v29_6 r x0 y0 y1 y2 y3 h).trans (ch_eq _ _), .of ok0 rfl fun h => (v13_6 r x0 y0 y1 y2 y3 h).trans ((ch_eq _ _).trans ?_)⟩
    congr 2
    rw [Bool.eq_iff_iff]
    simp only [allc, Bool.and_true, Bool.and_eq_true, Bool.not_eq_true', decide_eq_false_iff_not, Bool.not_not, decide_eq_true_eq, Int.not_lt]
    omega
  · refine ⟨false, .of (stopAt_ok ok0) rfl fun h => (m29_6 r xs ys h).trans (ch_none _ ?_), .of (stopAt_ok ok0) rfl fun h => (m13_6 r xs ys h).trans (ch_none _ ?_)⟩ <;>
      (rw [← Bool.not_eq_true]
       simp only [allc, Bool.and_true, Bool.and_eq_true, Bool.not_eq_true', decide_eq_false_iff_not, Bool.not_not, decide_eq_true_eq, beq_iff_eq]
       omega)
theorem v29_7 (r : Int) (x0 x1 : Int) (h : Heap) : run orc0 29 [unitV 7 r [x0, x1] []] h = ch [(decide (r ≥ 1), true), (!decide (r ≤ 3), false), (decide (x0 ≥ 0), true), (!decide (x0 ≤ 199), false), (decide (x1 ≥ 0), true), (!decide (x1 ≤ 199), false)] (some (.bool true)) := by kernel_rfl
theorem v13_7 (r : Int) (x0 x1 : Int) (h : Heap) : run orc0 13 [unitV 7 r [x0, x1] []] h = ch [(decide (r < 1), false), (decide (r > 3), false), (decide (x0 ≥ 0), true), (!decide (x0 ≤ 199), false), (decide (x1 ≥ 0), true), (!decide (x1 ≤ 199), false)] (some (.bool (true))) := by kernel_rfl
theorem m29_7 (r : Int) (xs ys : List Int) (h : Heap) : run (stopAt 29 [6] orc0) 29 [unitV 7 r xs ys] h = ch [(decide (r ≥ 1), true), (!decide (r ≤ 3), false), (!((xs.length : Int) == 2), false), (!((ys.length : Int) == 0), false)] none := by kernel_rfl
theorem m13_7 (r : Int) (xs ys : List Int) (h : Heap) : run (stopAt 13 [4] orc0) 13 [unitV 7 r xs ys] h = ch [(decide (r < 1), false), (decide (r > 3), false), (!((xs.length : Int) == 2), false), (!((ys.length : Int) == 0), false)] none := by kernel_rfl
theorem valid_7 (r : Int) (xs ys : List Int) : ∃ v, F 29 [unitV 7 r xs ys] (.bool v) ∧ F 13 [unitV 7 r xs ys] (.bool v) := by
  by_cases hm : xs.length = 2 ∧ ys.length = 0
  · obtain ⟨hx, hy⟩ := hm
    rcases xs with _ | ⟨x0, _ | ⟨x1, _ | ⟨_, _⟩⟩⟩ <;> simp at hx
    rcases ys with _ | ⟨_, _⟩ <;> simp at hy
    refine ⟨_, .of ok0 rfl fun h => (v29_7 r x0 x1 h).trans (ch_eq _ _), .of ok0 rfl fun h => (v13_7 r x0 x1 h).trans ((ch_eq _ _).trans ?_)⟩
    congr 2
    rw [Bool.eq_iff_iff]
    simp only [allc, Bool.and_true, Bool.and_eq_true, Bool.not_eq_true', decide_eq_false_iff_not, Bool.not_not, decide_eq_true_eq, Int.not_lt]
  · refine ⟨false, .of (stopAt_ok ok0) rfl fun h => (m29_7 r xs ys h).trans (ch_none _ ?_), .of (stopAt_ok ok0) rfl fun h => (m13_7 r xs ys h).trans (ch_none _ ?_)⟩ <;>
      (rw [← Bool.not_eq_true]
       simp only [allc, Bool.and_true, Bool.and_eq_true, Bool.not_eq_true', decide_eq_false_iff_not, Bool.not_not, decide_eq_true_eq, beq_iff_eq]
       omega)
theorem v29_8 (r : Int) (x0 x1 : Int) (h : Heap) : run orc0 29 [unitV 8 r [x0, x1] []] h = ch [(decide (r ≥ 1), true), (!decide (r ≤ 3), false), (decide (x0 ≥ 0), true), (!decide (x0 ≤ 199), false), (decide (x1 ≥ 0), true), (!decide (x1 ≤ 199), false)] (some (.bool true)) := by kernel_rfl
theorem v13_8 (r : Int) (x0 x1 : Int) (h : Heap) : run orc0 13 [unitV 8 r [x0, x1] []] h = ch [(decide (r < 1), false), (decide (r > 3), false), (decide (x0 ≥ 0), true), (!decide (x0 ≤ 199), false), (decide (x1 ≥ 0), true), (!decide (x1 ≤ 199), false)] (some (.bool (true))) := by kernel_rfl
theorem m29_8 (r : Int) (xs ys : List Int) (h : Heap) : run (stopAt 29 [6] orc0) 29 [unitV 8 r xs ys] h = ch [(decide (r ≥ 1), true), (!decide (r ≤ 3), false), (!((xs.length : Int) == 2), false), (!((ys.length : Int) == 0), false)] none := by kernel_rfl
theorem m13_8 (r : Int) (xs ys : List Int) (h : Heap) : run (stopAt 13 [4] orc0) 13 [unitV 8 r xs ys] h = ch [(decide (r < 1), false), (decide (r > 3), false), (!((xs.length : Int) == 2), false), (!((ys.length : Int) == 0), false)] none := by kernel_rfl
theorem valid_8 (r : Int) (xs ys : List Int) : ∃ v, F 29 [unitV 8 r xs ys] (.bool v) ∧ F 13 [unitV 8 r xs ys] (.bool v) := by
  by_cases hm : xs.length = 2 ∧ ys.length = 0
  · obtain ⟨hx, hy⟩ := hm
    rcases xs with _ | ⟨x0, _ | ⟨x1, _ | ⟨_, _⟩⟩⟩ <;> simp at hx
    rcases ys with _ | ⟨_, _⟩ <;> simp at hy
    refine ⟨_, .of ok0 rfl fun h => (v29_8 r x0 x1 h).trans (ch_eq _ _), .of ok0 rfl fun h => (v13_8 r x0 x1 h).trans ((ch_eq _ _).trans ?_)⟩
    congr 2
    rw [Bool.eq_iff_iff]
    simp only [allc, Bool.and_true, Bool.and_eq_true, Bool.not_eq_true', decide_eq_false_iff_not, Bool.not_not, decide_eq_true_eq, Int.not_lt]
  · refine ⟨false, .of (stopAt_ok ok0) rfl fun h => (m29_8 r xs ys h).trans (ch_none _ ?_), .of (stopAt_ok ok0) rfl fun h => (m13_8 r xs ys h).trans (ch_none _ ?_)⟩ <;>
      (rw [← Bool.not_eq_true]
       simp only [allc, Bool.and_true, Bool.and_eq_true, Bool.not_eq_true', decide_eq_false_iff_not, Bool.not_not, decide_eq_true_eq, beq_iff_eq]
       omega)
theorem v29_9 (r : Int) (x0 x1 : Int) (h : Heap) : run orc0 29 [unitV 9 r [x0, x1] []] h = ch [(decide (r ≥ 1), true), (!decide (r ≤ 3), false), (decide (x0 ≥ 0), true), (!decide (x0 ≤ 199), false), (decide (x1 ≥ 0), true), (!decide (x1 ≤ 199), false)] (some (.bool true)) := by kernel_rfl
theorem v13_9 (r : Int) (x0 x1 : Int) (h : Heap) : run orc0 13 [unitV 9 r [x0, x1] []] h = ch [(decide (r < 1), false), (decide (r > 3), false), (decide (x0 ≥ 0), true), (!decide (x0 ≤ 199), false), (decide (x1 ≥ 0), true), (!decide (x1 ≤ 199), false)] (some (.bool (true))) := by kernel_rfl
theorem m29_9 (r : Int) (xs ys : List Int) (h : Heap) : run (stopAt 29 [6] orc0) 29 [unitV 9 r xs ys] h = ch [(decide (r ≥ 1), true), (!decide (r ≤ 3), false), (!((xs.length : Int) == 2), false), (!((ys.length : Int) == 0), false)] none := by kernel_rfl
theorem m13_9 (r : Int) (xs ys : List Int) (h : Heap) : run (stopAt 13 [4] orc0) 13 [unitV 9 r xs ys] h = ch [(decide (r < 1), false), (decide (r > 3), false), (!((xs.length : Int) == 2), false), (!((ys.length : Int) == 0), false)] none := by kernel_rfl
theorem valid_9 (r : Int) (xs ys : List Int) : ∃ v, F 29 [unitV 9 r xs ys] (.bool v) ∧ F 13 [unitV 9 r xs ys] (.bool v) := by
  by_cases hm : xs.length = 2 ∧ ys.length = 0
  · obtain ⟨hx, hy⟩ := hm
    rcases xs with _ | ⟨x0, _ | ⟨x1, _ | ⟨_, _⟩⟩⟩ <;> simp at hx
    rcases ys with _ | ⟨_, _⟩ <;> simp at hy
    refine ⟨_, .of ok0 rfl fun h => (v29_9 r x0 x1 h).trans (ch_eq _ _), .of ok0 rfl fun h => (v13_9 r x0 x1 h).trans ((ch_eq _ _).trans ?_)⟩
    congr 2
    rw [Bool.eq_iff_iff]
    simp only [allc, Bool.and_true, Bool.and_eq_true, Bool.not_eq_true', decide_eq_false_iff_not, Bool.not_not, decide_eq_true_eq, Int.not_lt]
  · refine ⟨false, .of (stopAt_ok ok0) rfl fun h => (m29_9 r xs ys h).trans (ch_none _ ?_), .of (stopAt_ok ok0) rfl fun h => (m13_9 r xs ys h).trans (ch_none _ ?_)⟩ <;>
      (rw [← Bool.not_eq_true]
       simp only [allc, Bool.and_true, Bool.and_eq_true, Bool.not_eq_true', decide_eq_false_iff_not, Bool.not_not, decide_eq_true_eq, beq_iff_eq]
       omega)
theorem v29_10 (r : Int) (x0 x1 : Int) (h : Heap) : run orc0 29 [unitV 10 r [x0, x1] []] h = ch [(decide (r ≥ 1), true), (!decide (r ≤ 3), false), (decide (x0 ≥ 0), true), (!decide (x0 ≤ 199), false), (decide (x1 ≥ 0), true), (!decide (x1 ≤ 199), false)] (some (.bool true)) := by kernel_rfl
theorem v13_10 (r : Int) (x0 x1 : Int) (h : Heap) : run orc0 13 [unitV 10 r [x0, x1] []] h = ch [(decide (r < 1), false), (decide (r > 3), false), (decide (x0 ≥ 0), true), (!decide (x0 ≤ 199), false), (decide (x1 ≥ 0), true), (!decide (x1 ≤ 199), false)] (some (.bool (true))) := by kernel_rfl
theorem m29_10 (r : Int) (xs ys : List Int) (h : Heap) : run (stopAt 29 [6] orc0) 29 [unitV 10 r xs ys] h = ch [(decide (r ≥ 1), true), (!decide (r ≤ 3), false), (!((xs.length : Int) == 2), false), (!((ys.length : Int) == 0), false)] none := by kernel_rfl
theorem m13_10 (r : Int) (xs ys : List Int) (h : Heap) : run (stopAt 13 [4] orc0) 13 [unitV 10 r xs ys] h = ch [(decide (r < 1), false), (decide (r > 3), false), (!((xs.length : Int) == 2), false), (!((ys.length : Int) == 0), false)] none := by kernel_rfl
theorem valid_10 (r : Int) (xs ys : List Int) : ∃ v, F 29 [unitV 10 r xs ys] (.bool v) ∧ F 13 [unitV 10 r xs ys] (.bool v) := by
  by_cases hm : xs.length = 2 ∧ ys.length = 0
  · obtain ⟨hx, hy⟩ := hm
    rcases xs with _ | ⟨x0, _ | ⟨x1, _ | ⟨_, _⟩⟩⟩ <;> simp at hx
    rcases ys with _ | ⟨_, _⟩ <;> simp at hy
    refine ⟨_, .of ok0 rfl fun h => (v29_10 r x0 x1 h).trans (ch_eq _ _), .of ok0 rfl fun h => (v13_10 r x0 x1 h).trans ((ch_eq _ _).trans ?_)⟩
    congr 2
    rw [Bool.eq_iff_iff]
    simp only [allc, Bool.and_true, Bool.and_eq_true, Bool.not_eq_true', decide_eq_false_iff_not, Bool.not_not, decide_eq_true_eq, Int.not_lt]
  · refine ⟨false, .of (stopAt_ok ok0) rfl fun h => (m29_10 r xs ys h).trans (ch_none _ ?_), .of (stopAt_ok ok0) rfl fun h => (m13_10 r xs ys h).trans (ch_none _ ?_)⟩ <;>
      (rw [← Bool.not_eq_true]
       simp only [allc, Bool.and_true, Bool.and_eq_true, Bool.not_eq_true', decide_eq_false_iff_not, Bool.not_not, decide_eq_true_eq, beq_iff_eq]
       omega)
theorem v29_11 (r : Int) (x0 y0 : Int) (h : Heap) : run orc0 29 [unitV 11 r [x0] [y0]] h = ch [(decide (r ≥ 1), true), (!decide (r ≤ 3), false), (decide (y0 ≥ (1)), true), (!decide (y0 ≤ (2000)), false), (decide (x0 ≥ 0), true), (!decide (x0 ≤ 199), false)] (some (.bool true)) := by kernel_rfl
theorem v13_11 (r : Int) (x0 y0 : Int) (h : Heap) : run orc0 13 [unitV 11 r [x0] [y0]] h = ch [(decide (r < 1), false), (decide (r > 3), false), (decide (x0 ≥ 0), true), (!decide (x0 ≤ 199), false), (decide (y0 ≥ (1)), true)] (some (.bool (decide (y0 ≤ (2000))))) := by kernel_rfl
theorem m29_11 (r : Int) (xs ys : List Int) (h : Heap) : run (stopAt 29 [6] orc0) 29 [unitV 11 r xs ys] h = ch [(decide (r ≥ 1), true), (!decide (r ≤ 3), false), (!((xs.length : Int) == 1), false), (!((ys.length : Int) == 1), false)] none := by kernel_rfl
theorem m13_11 (r : Int) (xs ys : List Int) (h : Heap) : run (stopAt 13 [4] orc0) 13 [unitV 11 r xs ys] h = ch [(decide (r < 1), false), (decide (r > 3), false), (!((xs.length : Int) == 1), false), (!((ys.length : Int) == 1), false)] none := by kernel_rfl
theorem valid_11 (r : Int) (xs ys : List Int) : ∃ v, F 29 [unitV 11 r xs ys] (.bool v) ∧ F 13 [unitV 11 r xs ys] (.bool v) := by
  by_cases hm : xs.length = 1 ∧ ys.length = 1
  · obtain ⟨hx, hy⟩ := hm
    rcases xs with _ | ⟨x0, _ | ⟨_, _⟩⟩ <;> simp at hx
    rcases ys with _ | ⟨y0, _ | ⟨_, _⟩⟩ <;> simp at hy
    refine ⟨_, .of ok0 rfl fun h => (v29_11 r x0 y0 h).trans (ch_eq _ _), .of ok0 rfl fun h => (v13_11 r x0 y0 h).trans ((ch_eq _ _).trans ?_)⟩
    congr 2
    rw [Bool.eq_iff_iff]
    simp only [allc, Bool.and_true, Bool.and_eq_true, Bool.not_eq_true', decide_eq_false_iff_not, Bool.not_not, decide_eq_true_eq, Int.not_lt]
    omega
  · refine ⟨false, .of (stopAt_ok ok0) rfl fun h => (m29_11 r xs ys h).trans (ch_none _ ?_), .of (stopAt_ok ok0) rfl fun h => (m13_11 r xs ys h).trans (ch_none _ ?_)⟩ <;>
      (rw [← Bool.not_eq_true]
       simp only [allc, Bool.and_true, Bool.and_eq_true, Bool.not_eq_true', decide_eq_false_iff_not, Bool.not_not, decide_eq_true_eq, beq_iff_eq]
       omega)
theorem v29_12 (r : Int) (y0 : Int) (h : Heap) : run orc0 29 [unitV 12 r [] [y0]] h = ch [(decide (r ≥ 1), true), (!decide (r ≤ 3), false), (decide (y0 ≥ (0)), true), (!decide (y0 ≤ (15)), false)] (some (.bool true)) := by kernel_rfl
theorem v13_12 (r : Int) (y0 : Int) (h : Heap) : run orc0 13 [unitV 12 r [] [y0]] h = ch [(decide (r < 1), false), (decide (r > 3), false), (decide (y0 ≥ (0)), true)] (some (.bool (decide (y0 ≤ (15))))) := by kernel_rfl
theorem m29_12 (r : Int) (xs ys : List Int) (h : Heap) : run (stopAt 29 [6] orc0) 29 [unitV 12 r xs ys] h = ch [(decide (r ≥ 1), true), (!decide (r ≤ 3), false), (!((xs.length : Int) == 0), false), (!((ys.length : Int) == 1), false)] none := by kernel_rfl
theorem m13_12 (r : Int) (xs ys : List Int) (h : Heap) : run (stopAt 13 [4] orc0) 13 [unitV 12 r xs ys] h = ch [(decide (r < 1), false), (decide (r > 3), false), (!((xs.length : Int) == 0), false), (!((ys.length : Int) == 1), false)] none := by kernel_rfl
theorem valid_12 (r : Int) (xs ys : List Int) : ∃ v, F 29 [unitV 12 r xs ys] (.bool v) ∧ F 13 [unitV 12 r xs ys] (.bool v) := by
  by_cases hm : xs.length = 0 ∧ ys.length = 1
  · obtain ⟨hx, hy⟩ := hm
    rcases xs with _ | ⟨_, _⟩ <;> simp at hx
    rcases ys with _ | ⟨y0, _ | ⟨_, _⟩⟩ <;> simp at hy
    refine ⟨_, .of ok0 rfl fun h => (v29_12 r y0 h).trans (ch_eq _ _), .of ok0 rfl fun h => (v13_12 r y0 h).trans ((ch_eq _ _).trans ?_)⟩
    congr 2
    rw [Bool.eq_iff_iff]
    simp only [allc, Bool.and_true, Bool.and_eq_true, Bool.not_eq_true', decide_eq_false_iff_not, Bool.not_not, decide_eq_true_eq, Int.not_lt]
    omega
  · refine ⟨false, .of (stopAt_ok ok0) rfl fun h => (m29_12 r xs ys h).trans (ch_none _ ?_), .of (stopAt_ok ok0) rfl fun h => (m13_12 r xs ys h).trans (ch_none _ ?_)⟩ <;>
      (rw [← Bool.not_eq_true]
       simp only [allc, Bool.and_true, Bool.and_eq_true, Bool.not_eq_true', decide_eq_false_iff_not, Bool.not_not, decide_eq_true_eq, beq_iff_eq]
       omega)
theorem v29_13 (r : Int) (x0 y0 : Int) (h : Heap) : run orc0 29 [unitV 13 r [x0] [y0]] h = ch [(decide (r ≥ 1), true), (!decide (r ≤ 3), false), (decide (y0 ≥ (0)), true), (!decide (y0 ≤ (15)), false), (decide (x0 ≥ 0), true), (!decide (x0 ≤ 199), false)] (some (.bool true)) := by kernel_rfl
theorem v13_13 (r : Int) (x0 y0 : Int) (h : Heap) : run orc0 13 [unitV 13 r [x0] [y0]] h = ch [(decide (r < 1), false), (decide (r > 3), false), (decide (x0 ≥ 0), true), (!decide (x0 ≤ 199), false), (decide (y0 ≥ (0)), true)] (some (.bool (decide (y0 ≤ (15))))) := by kernel_rfl
theorem m29_13 (r : Int) (xs ys : List Int) (h : Heap) : run (stopAt 29 [6] orc0) 29 [unitV 13 r xs ys] h = ch [(decide (r ≥ 1), true), (!decide (r ≤ 3), false), (!((xs.length : Int) == 1), false), (!((ys.length : Int) == 1), false)] none := by kernel_rfl
theorem m13_13 (r : Int) (xs ys : List Int) (h : Heap) : run (stopAt 13 [4] orc0) 13 [unitV 13 r xs ys] h = ch [(decide (r < 1), false), (decide (r > 3), false), (!((xs.length : Int) == 1), false), (!((ys.length : Int) == 1), false)] none := by kernel_rfl
theorem valid_13 (r : Int) (xs ys : List Int) : ∃ v, F 29 [unitV 13 r xs ys] (.bool v) ∧ F 13 [unitV 13 r xs ys] (.bool v) := by
  by_cases hm : xs.length = 1 ∧ ys.length = 1
  · obtain ⟨hx, hy⟩ := hm
    rcases xs with _ | ⟨x0, _ | ⟨_, _⟩⟩ <;> simp at hx
    rcases ys with _ | ⟨y0, _ | ⟨_, _⟩⟩ <;> simp at hy
    refine ⟨_, .of ok0 rfl fun h => (v29_13 r x0 y0 h).trans (ch_eq _ _), .of ok0 rfl fun h => (v13_13 r x0 y0 h).trans ((ch_eq _ _).trans ?_)⟩
    congr 2
    rw [Bool.eq_iff_iff]
    simp only [allc, Bool.and_true, Bool.and_eq_true, Bool.not_eq_true', decide_eq_false_iff_not, Bool.not_not, decide_eq_true_eq, Int.not_lt]
    omega
  · refine ⟨false, .of (stopAt_ok ok0) rfl fun h => (m29_13 r xs ys h).trans (ch_none _ ?_), .of (stopAt_ok ok0) rfl fun h => (m13_13 r xs ys h).trans (ch_none _ ?_)⟩ <;>
      (rw [← Bool.not_eq_true]
       simp only [allc, Bool.and_true, Bool.and_eq_true, Bool.not_eq_true', decide_eq_false_iff_not, Bool.not_not, decide_eq_true_eq, beq_iff_eq]
       omega)
theorem v29_14 (r : Int) (y0 : Int) (h : Heap) : run orc0 29 [unitV 14 r [] [y0]] h = ch [(decide (r ≥ 1), true), (!decide (r ≤ 3), false), (decide (y0 ≥ (0)), true), (!decide (y0 ≤ (19)), false)] (some (.bool true)) := by kernel_rfl
theorem v13_14 (r : Int) (y0 : Int) (h : Heap) : run orc0 13 [unitV 14 r [] [y0]] h = ch [(decide (r < 1), false), (decide (r > 3), false), (decide (y0 ≥ (0)), true)] (some (.bool (decide (y0 ≤ (19))))) := by kernel_rfl
theorem m29_14 (r : Int) (xs ys : List Int) (h : Heap) : run (stopAt 29 [6] orc0) 29 [unitV 14 r xs ys] h = ch [(decide (r ≥ 1), true), (!decide (r ≤ 3), false), (!((xs.length : Int) == 0), false), (!((ys.length : Int) == 1), false)] none := by kernel_rfl
theorem m13_14 (r : Int) (xs ys : List Int) (h : Heap) : run (stopAt 13 [4] orc0) 13 [unitV 14 r xs ys] h = ch [(decide (r < 1), false), (decide (r > 3), false), (!((xs.length : Int) == 0), false), (!((ys.length : Int) == 1), false)] none := by kernel_rfl
theorem valid_14 (r : Int) (xs ys : List Int) : ∃ v, F 29 [unitV 14 r xs ys] (.bool v) ∧ F 13 [unitV 14 r xs ys] (.bool v) := by
  by_cases hm : xs.length = 0 ∧ ys.length = 1
  · obtain ⟨hx, hy⟩ := hm
    rcases xs with _ | ⟨_, _⟩ <;> simp at hx
    rcases ys with _ | ⟨y0, _ | ⟨_, _⟩⟩ <;> simp at hy
    refine ⟨_, .of ok0 rfl fun h => (v29_14 r y0 h).trans (ch_eq _ _), .of ok0 rfl fun h => (v13_14 r y0 h).trans ((ch_eq _ _).trans ?_)⟩
    congr 2
    rw [Bool.eq_iff_iff]
    simp only [allc, Bool.and_true, Bool.and_eq_true, Bool.not_eq_true', decide_eq_false_iff_not, Bool.not_not, decide_eq_true_eq, Int.not_lt]
    omega
  · refine ⟨false, .of (stopAt_ok ok0) rfl fun h => (m29_14 r xs ys h).trans (ch_none _ ?_), .of (stopAt_ok ok0) rfl fun h => (m13_14 r xs ys h).trans (ch_none _ ?_)⟩ <;>
      (rw [← Bool.not_eq_true]
       simp only [allc, Bool.and_true, Bool.and_eq_true, Bool.not_eq_true', decide_eq_false_iff_not, Bool.not_not, decide_eq_true_eq, beq_iff_eq]
       omega)
theorem v29_15 (r : Int) (y0 : Int) (h : Heap) : run orc0 29 [unitV 15 r [] [y0]] h = ch [(decide (r ≥ 1), true), (!decide (r ≤ 3), false), (decide (y0 ≥ (-1099511627776)), true), (!decide (y0 ≤ (1099511627776)), false)] (some (.bool true)) := by kernel_rfl
theorem v13_15 (r : Int) (y0 : Int) (h : Heap) : run orc0 13 [unitV 15 r [] [y0]] h = ch [(decide (r < 1), false), (decide (r > 3), false), (decide (y0 ≥ (-1099511627776)), true)] (some (.bool (decide (y0 ≤ (1099511627776))))) := by kernel_rfl
theorem m29_15 (r : Int) (xs ys : List Int) (h : Heap) : run (stopAt 29 [6] orc0) 29 [unitV 15 r xs ys] h = ch [(decide (r ≥ 1), true), (!decide (r ≤ 3), false), (!((xs.length : Int) == 0), false), (!((ys.length : Int) == 1), false)] none := by kernel_rfl
theorem m13_15 (r : Int) (xs ys : List Int) (h : Heap) : run (stopAt 13 [4] orc0) 13 [unitV 15 r xs ys] h = ch [(decide (r < 1), false), (decide (r > 3), false), (!((xs.length : Int) == 0), false), (!((ys.length : Int) == 1), false)] none := by kernel_rfl
theorem valid_15 (r : Int) (xs ys : List Int) : ∃ v, F 29 [unitV 15 r xs ys] (.bool v) ∧ F 13 [unitV 15 r xs ys] (.bool v) := by
  by_cases hm : xs.length = 0 ∧ ys.length = 1
  · obtain ⟨hx, hy⟩ := hm
    rcases xs with _ | ⟨_, _⟩ <;> simp at hx
    rcases ys with _ | ⟨y0, _ | ⟨_, _⟩⟩ <;> simp at hy
    refine ⟨_, .of ok0 rfl fun h => (v29_15 r y0 h).trans (ch_eq _ _), .of ok0 rfl fun h => (v13_15 r y0 h).trans ((ch_eq _ _).trans ?_)⟩
    congr 2
    rw [Bool.eq_iff_iff]
    simp only [allc, Bool.and_true, Bool.and_eq_true, Bool.not_eq_true', decide_eq_false_iff_not, Bool.not_not, decide_eq_true_eq, Int.not_lt]
    omega
  · refine ⟨false, .of (stopAt_ok ok0) rfl fun h => (m29_15 r xs ys h).trans (ch_none _ ?_), .of (stopAt_ok ok0) rfl fun h => (m13_15 r xs ys h).trans (ch_none _ ?_)⟩ <;>
      (rw [← Bool.not_eq_true]
       simp only [allc, Bool.and_true, Bool.and_eq_true, Bool.not_eq_true', decide_eq_false_iff_not, Bool.not_not, decide_eq_true_eq, beq_iff_eq]
       omega)
theorem o29_run (k r : Int) (xs ys : List Int) (h : Heap) : run (outO k) 29 [unitV k r xs ys] h = bif same [int64 k] [int64 k] then some (.bool false) else none := by kernel_rfl
noncomputable def insO (k : Int) : Orc := know 26 [int64 k] (.tup [int64 0, int64 0, int64 10]) orc0
theorem o13_run (k r : Int) (xs ys : List Int) (h : Heap) : run (insO k) 13 [unitV k r xs ys] h = bif same [int64 k] [int64 k] then some (.bool false) else none := by kernel_rfl
theorem valid_facts (k r : Int) (xs ys : List Int) : ∃ v, F 29 [unitV k r xs ys] (.bool v) ∧ F 13 [unitV k r xs ys] (.bool v) := by
  by_cases ho : Out k
  · exact ⟨false, .of (outO_ok ho) rfl fun h => by have := o29_run k r xs ys h; rw [same_self] at this; exact this, .of (know_ok tbOk (ins26_out ho) ok0) rfl fun h => by have := o13_run k r xs ys h; rw [same_self] at this; exact this⟩
  · have : k = 1 ∨ k = 2 ∨ k = 3 ∨ k = 4 ∨ k = 5 ∨ k = 6 ∨ k = 7 ∨ k = 8 ∨ k = 9 ∨ k = 10 ∨ k = 11 ∨ k = 12 ∨ k = 13 ∨ k = 14 ∨ k = 15 := by
      unfold Out at ho
      omega
    rcases this with rfl | rfl | rfl | rfl | rfl | rfl | rfl | rfl | rfl | rfl | rfl | rfl | rfl | rfl | rfl
    · exact valid_1 r xs ys
    · exact valid_2 r xs ys
    · exact valid_3 r xs ys
    · exact valid_4 r xs ys
    · exact valid_5 r xs ys
    · exact valid_6 r xs ys
    · exact valid_7 r xs ys
    · exact valid_8 r xs ys
    · exact valid_9 r xs ys
    · exact valid_10 r xs ys
    · exact valid_11 r xs ys
    · exact valid_12 r xs ys
    · exact valid_13 r xs ys
    · exact valid_14 r xs ys
    · exact valid_15 r xs ys
end Go.Proofs.Ythlmbnhelkbchaa
