/- UnitKinds, second part: which units are valid. -/
import Derived.Test.YthlmbnhelkbchaaJ18
import Derived.Test.YthlmbnhelkbchaaEvZ1
import Derived.Test.YthlmbnhelkbchaaEvZ2
import Derived.Test.YthlmbnhelkbchaaJ19
namespace Go.Proofs.Ythlmbnhelkbchaa
open Go.Ev
set_option maxRecDepth 100000
def ch : List (Bool × Bool) → Option AV → Option AV
  | [], e => e
  | (c, true) :: l, e => bif c then ch l e else some (.bool false)
  | (c, false) :: l, e => bif c then some (.bool false) else ch l e
def allc : List (Bool × Bool) → Bool
  | [] => true
  | (c, true) :: l => c && allc l
  | (c, false) :: l => !c && allc l
theorem ch_eq (e : Bool) : ∀ l, ch l (some (.bool e)) = some (.bool (allc l && e))
  | [] => by simp [ch, allc]
  | (c, true) :: l => by cases c <;> simp [ch, allc, ch_eq e l]
  | (c, false) :: l => by cases c <;> simp [ch, allc, ch_eq e l]
theorem ch_none : ∀ l, allc l = false → ch l none = some (.bool false)
  | [], h => by simp [allc] at h
  | (c, true) :: l, h => by cases c <;> simp_all [ch, allc, ch_none l]
  | (c, false) :: l, h => by cases c <;> simp_all [ch, allc, ch_none l]
def unitV (k r : Int) (xs ys : List Int) : AV := .agg [int64 k, int64 r, ints xs, ints ys]
noncomputable abbrev run (S : Orc) (f : FuncId) (args : List AV) (h : Heap) : Option AV := evCall Try.prog S tb 100 AV (.fn f) (vwArgs Try.prog [] h (parsOf Try.prog f) args) (mkHeap [] 0) .off rv
theorem v29_1 (r : Int) (x0 : Int) (h : Heap) : run orc0 29 [unitV 1 r [x0] []] h = ch [(decide (r ≥ 1), true), (!decide (r ≤ 3), false), (decide (x0 ≥ 0), true), (!decide (x0 ≤ 199), false)] (some (.bool true)) := by kernel_rfl
theorem v13_1 (r : Int) (x0 : Int) (h : Heap) : run orc0 13 [unitV 1 r [x0] []] h = ch [(decide (r < 1), false), (decide (r > 3), false), (decide (x0 ≥ 0), true), (!decide (x0 ≤ 199), false)] (some (.bool (true))) := by kernel_rfl
theorem m29_1 (r : Int) (xs ys : List Int) (h : Heap) : run (stopAt 29 [6] orc0) 29 [unitV 1 r xs ys] h = ch [(decide (r ≥ 1), true), (!decide (r ≤ 3), false), (!((xs.length : Int) == 1), false), (!((ys.length : Int) == 0), false)] none := by kernel_rfl
theorem m13_1 (r : Int) (xs ys : List Int) (h : Heap) : run (stopAt 13 [4] orc0) 13 [unitV 1 r xs ys] h = ch [(decide (r < 1), false), (decide (r > 3), false), (!((xs.length : Int) == 1), false), (!((ys.length : Int) == 0), false)] none := by kernel_rfl
theorem v29_2 (r : Int) (x0 x1 : Int) (h : Heap) : run orc0 29 [unitV 2 r [x0, x1] []] h = ch [(decide (r ≥ 1), true), (!decide (r ≤ 3), false), (decide (x0 ≥ 0), true), (!decide (x0 ≤ 199), false), (decide (x1 ≥ 0), true), (!decide (x1 ≤ 199), false)] (some (.bool true)) := by kernel_rfl
theorem v13_2 (r : Int) (x0 x1 : Int) (h : Heap) : run orc0 13 [unitV 2 r [x0, x1] []] h = ch [(decide (r < 1), false), (decide (r > 3), false), (decide (x0 ≥ 0), true), (!decide (x0 ≤ 199), false), (decide (x1 ≥ 0), true), (!decide (x1 ≤ 199), false)] (some (.bool (true))) := by kernel_rfl
theorem m29_2 (r : Int) (xs ys : List Int) (h : Heap) : run (stopAt 29 [6] orc0) 29 [unitV 2 r xs ys] h = ch [(decide (r ≥ 1), true), (!decide (r ≤ 3), false), (!((xs.length : Int) == 2), false), (!((ys.length : Int) == 0), false)] none := by kernel_rfl
theorem m13_2 (r : Int) (xs ys : List Int) (h : Heap) : run (stopAt 13 [4] orc0) 13 [unitV 2 r xs ys] h = ch [(decide (r < 1), false), (decide (r > 3), false), (!((xs.length : Int) == 2), false), (!((ys.length : Int) == 0), false)] none := by kernel_rfl
theorem v29_3 (r : Int) (x0 : Int) (h : Heap) : run orc0 29 [unitV 3 r [x0] []] h = ch [(decide (r ≥ 1), true), (!decide (r ≤ 3), false), (decide (x0 ≥ 0), true), (!decide (x0 ≤ 199), false)] (some (.bool true)) := by kernel_rfl
theorem v13_3 (r : Int) (x0 : Int) (h : Heap) : run orc0 13 [unitV 3 r [x0] []] h = ch [(decide (r < 1), false), (decide (r > 3), false), (decide (x0 ≥ 0), true), (!decide (x0 ≤ 199), false)] (some (.bool (true))) := by kernel_rfl
theorem m29_3 (r : Int) (xs ys : List Int) (h : Heap) : run (stopAt 29 [6] orc0) 29 [unitV 3 r xs ys] h = ch [(decide (r ≥ 1), true), (!decide (r ≤ 3), false), (!((xs.length : Int) == 1), false), (!((ys.length : Int) == 0), false)] none := by kernel_rfl
theorem m13_3 (r : Int) (xs ys : List Int) (h : Heap) : run (stopAt 13 [4] orc0) 13 [unitV 3 r xs ys] h = ch [(decide (r < 1), false), (decide (r > 3), false), (!((xs.length : Int) == 1), false), (!((ys.length : Int) == 0), false)] none := by kernel_rfl
theorem v29_4 (r : Int) (y0 : Int) (h : Heap) : run orc0 29 [unitV 4 r [] [y0]] h = ch [(decide (r ≥ 1), true), (!decide (r ≤ 3), false), (decide (y0 ≥ (0)), true), (!decide (y0 ≤ (2147483647)), false)] (some (.bool true)) := by kernel_rfl
theorem v13_4 (r : Int) (y0 : Int) (h : Heap) : run orc0 13 [unitV 4 r [] [y0]] h = ch [(decide (r < 1), false), (decide (r > 3), false), (decide (y0 ≥ (0)), true)] (some (.bool (decide (y0 ≤ (2147483647))))) := by kernel_rfl
theorem m29_4 (r : Int) (xs ys : List Int) (h : Heap) : run (stopAt 29 [6] orc0) 29 [unitV 4 r xs ys] h = ch [(decide (r ≥ 1), true), (!decide (r ≤ 3), false), (!((xs.length : Int) == 0), false), (!((ys.length : Int) == 1), false)] none := by kernel_rfl
theorem m13_4 (r : Int) (xs ys : List Int) (h : Heap) : run (stopAt 13 [4] orc0) 13 [unitV 4 r xs ys] h = ch [(decide (r < 1), false), (decide (r > 3), false), (!((xs.length : Int) == 0), false), (!((ys.length : Int) == 1), false)] none := by kernel_rfl
theorem v29_5 (r : Int) (y0 y1 y2 : Int) (h : Heap) : run orc0 29 [unitV 5 r [] [y0, y1, y2]] h = ch [(decide (r ≥ 1), true), (!decide (r ≤ 3), false), (decide (y0 ≥ (-1099511627776)), true), (!decide (y0 ≤ (1099511627776)), false), (decide (y1 ≥ (-1099511627776)), true), (!decide (y1 ≤ (1099511627776)), false), (decide (y2 ≥ (1)), true), (!decide (y2 ≤ (1000000000)), false)] (some (.bool true)) := by kernel_rfl
theorem v13_5 (r : Int) (y0 y1 y2 : Int) (h : Heap) : run orc0 13 [unitV 5 r [] [y0, y1, y2]] h = ch [(decide (r < 1), false), (decide (r > 3), false), (decide (y0 ≥ (-1099511627776)), true), (decide (y0 ≤ (1099511627776)), true), (decide (y1 ≥ (-1099511627776)), true), (decide (y1 ≤ (1099511627776)), true), (decide (y2 ≥ (1)), true)] (some (.bool (decide (y2 ≤ (1000000000))))) := by kernel_rfl
theorem m29_5 (r : Int) (xs ys : List Int) (h : Heap) : run (stopAt 29 [6] orc0) 29 [unitV 5 r xs ys] h = ch [(decide (r ≥ 1), true), (!decide (r ≤ 3), false), (!((xs.length : Int) == 0), false), (!((ys.length : Int) == 3), false)] none := by kernel_rfl
theorem m13_5 (r : Int) (xs ys : List Int) (h : Heap) : run (stopAt 13 [4] orc0) 13 [unitV 5 r xs ys] h = ch [(decide (r < 1), false), (decide (r > 3), false), (!((xs.length : Int) == 0), false), (!((ys.length : Int) == 3), false)] none := by kernel_rfl
theorem v29_6 (r : Int) (x0 y0 y1 y2 y3 : Int) (h : Heap) : run orc0 29 [unitV 6 r [x0] [y0, y1, y2, y3]] h = ch [(decide (r ≥ 1), true), (!decide (r ≤ 3), false), (decide (y0 ≥ (1)), true), (!decide (y0 ≤ (1000000000)), false), (decide (y1 ≥ (1)), true), (!decide (y1 ≤ (1000000000)), false), (decide (y2 ≥ (0)), true), (!decide (y2 ≤ (65536)), false), (decide (y3 ≥ (1)), true), (!decide (y3 ≤ (1000000000)), false), (decide (x0 ≥ 0), true), (!decide (x0 ≤ 199), false)] (some (.bool true)) := by kernel_rfl
theorem v13_6 (r : Int) (x0 y0 y1 y2 y3 : Int) (h : Heap) : run orc0 13 [unitV 6 r [x0] [y0, y1, y2, y3]] h = ch [(decide (r < 1), false), (decide (r > 3), false), (decide (x0 ≥ 0), true), (!decide (x0 ≤ 199), false), (decide (y0 ≥ (1)), true), (decide (y0 ≤ (1000000000)), true), (decide (y1 ≥ (1)), true), (decide (y1 ≤ (1000000000)), true), (decide (y2 ≥ (0)), true), (decide (y2 ≤ (65536)), true), (decide (y3 ≥ (1)), true)] (some (.bool (decide (y3 ≤ (1000000000))))) := by kernel_rfl
theorem m29_6 (r : Int) (xs ys : List Int) (h : Heap) : run (stopAt 29 [6] orc0) 29 [unitV 6 r xs ys] h = ch [(decide (r ≥ 1), true), (!decide (r ≤ 3), false), (!((xs.length : Int) == 1), false), (!((ys.length : Int) == 4), false)] none := by kernel_rfl
theorem m13_6 (r : Int) (xs ys : List Int) (h : Heap) : run (stopAt 13 [4] orc0) 13 [unitV 6 r xs ys] h = ch [(decide (r < 1), false), (decide (r > 3), false), (!((xs.length : Int) == 1), false), (!((ys.length : Int) == 4), false)] none := by kernel_rfl
theorem v29_7 (r : Int) (x0 x1 : Int) (h : Heap) : run orc0 29 [unitV 7 r [x0, x1] []] h = ch [(decide (r ≥ 1), true), (!decide (r ≤ 3), false), (decide (x0 ≥ 0), true), (!decide (x0 ≤ 199), false), (decide (x1 ≥ 0), true), (!decide (x1 ≤ 199), false)] (some (.bool true)) := by kernel_rfl
theorem v13_7 (r : Int) (x0 x1 : Int) (h : Heap) : run orc0 13 [unitV 7 r [x0, x1] []] h = ch [(decide (r < 1), false), (decide (r > 3), false), (decide (x0 ≥ 0), true), (!decide (x0 ≤ 199), false), (decide (x1 ≥ 0), true), (!decide (x1 ≤ 199), false)] (some (.bool (true))) := by kernel_rfl
theorem m29_7 (r : Int) (xs ys : List Int) (h : Heap) : run (stopAt 29 [6] orc0) 29 [unitV 7 r xs ys] h = ch [(decide (r ≥ 1), true), (!decide (r ≤ 3), false), (!((xs.length : Int) == 2), false), (!((ys.length : Int) == 0), false)] none := by kernel_rfl
theorem m13_7 (r : Int) (xs ys : List Int) (h : Heap) : run (stopAt 13 [4] orc0) 13 [unitV 7 r xs ys] h = ch [(decide (r < 1), false), (decide (r > 3), false), (!((xs.length : Int) == 2), false), (!((ys.length : Int) == 0), false)] none := by kernel_rfl
theorem v29_8 (r : Int) (x0 x1 : Int) (h : Heap) : run orc0 29 [unitV 8 r [x0, x1] []] h = ch [(decide (r ≥ 1), true), (!decide (r ≤ 3), false), (decide (x0 ≥ 0), true), (!decide (x0 ≤ 199), false), (decide (x1 ≥ 0), true), (!decide (x1 ≤ 199), false)] (some (.bool true)) := by kernel_rfl
theorem v13_8 (r : Int) (x0 x1 : Int) (h : Heap) : run orc0 13 [unitV 8 r [x0, x1] []] h = ch [(decide (r < 1), false), (decide (r > 3), false), (decide (x0 ≥ 0), true), (!decide (x0 ≤ 199), false), (decide (x1 ≥ 0), true), (!decide (x1 ≤ 199), false)] (some (.bool (true))) := by kernel_rfl
theorem m29_8 (r : Int) (xs ys : List Int) (h : Heap) : run (stopAt 29 [6] orc0) 29 [unitV 8 r xs ys] h = ch [(decide (r ≥ 1), true), (!decide (r ≤ 3), false), (!((xs.length : Int) == 2), false), (!((ys.length : Int) == 0), false)] none := by kernel_rfl
theorem m13_8 (r : Int) (xs ys : List Int) (h : Heap) : run (stopAt 13 [4] orc0) 13 [unitV 8 r xs ys] h = ch [(decide (r < 1), false), (decide (r > 3), false), (!((xs.length : Int) == 2), false), (!((ys.length : Int) == 0), false)] none := by kernel_rfl
theorem v29_9 (r : Int) (x0 x1 : Int) (h : Heap) : run orc0 29 [unitV 9 r [x0, x1] []] h = ch [(decide (r ≥ 1), true), (!decide (r ≤ 3), false), (decide (x0 ≥ 0), true), (!decide (x0 ≤ 199), false), (decide (x1 ≥ 0), true), (!decide (x1 ≤ 199), false)] (some (.bool true)) := by kernel_rfl
theorem v13_9 (r : Int) (x0 x1 : Int) (h : Heap) : run orc0 13 [unitV 9 r [x0, x1] []] h = ch [(decide (r < 1), false), (decide (r > 3), false), (decide (x0 ≥ 0), true), (!decide (x0 ≤ 199), false), (decide (x1 ≥ 0), true), (!decide (x1 ≤ 199), false)] (some (.bool (true))) := by kernel_rfl
theorem m29_9 (r : Int) (xs ys : List Int) (h : Heap) : run (stopAt 29 [6] orc0) 29 [unitV 9 r xs ys] h = ch [(decide (r ≥ 1), true), (!decide (r ≤ 3), false), (!((xs.length : Int) == 2), false), (!((ys.length : Int) == 0), false)] none := by kernel_rfl
theorem m13_9 (r : Int) (xs ys : List Int) (h : Heap) : run (stopAt 13 [4] orc0) 13 [unitV 9 r xs ys] h = ch [(decide (r < 1), false), (decide (r > 3), false), (!((xs.length : Int) == 2), false), (!((ys.length : Int) == 0), false)] none := by kernel_rfl
theorem v29_10 (r : Int) (x0 x1 : Int) (h : Heap) : run orc0 29 [unitV 10 r [x0, x1] []] h = ch [(decide (r ≥ 1), true), (!decide (r ≤ 3), false), (decide (x0 ≥ 0), true), (!decide (x0 ≤ 199), false), (decide (x1 ≥ 0), true), (!decide (x1 ≤ 199), false)] (some (.bool true)) := by kernel_rfl
theorem v13_10 (r : Int) (x0 x1 : Int) (h : Heap) : run orc0 13 [unitV 10 r [x0, x1] []] h = ch [(decide (r < 1), false), (decide (r > 3), false), (decide (x0 ≥ 0), true), (!decide (x0 ≤ 199), false), (decide (x1 ≥ 0), true), (!decide (x1 ≤ 199), false)] (some (.bool (true))) := by kernel_rfl
theorem m29_10 (r : Int) (xs ys : List Int) (h : Heap) : run (stopAt 29 [6] orc0) 29 [unitV 10 r xs ys] h = ch [(decide (r ≥ 1), true), (!decide (r ≤ 3), false), (!((xs.length : Int) == 2), false), (!((ys.length : Int) == 0), false)] none := by kernel_rfl
theorem m13_10 (r : Int) (xs ys : List Int) (h : Heap) : run (stopAt 13 [4] orc0) 13 [unitV 10 r xs ys] h = ch [(decide (r < 1), false), (decide (r > 3), false), (!((xs.length : Int) == 2), false), (!((ys.length : Int) == 0), false)] none := by kernel_rfl
theorem v29_11 (r : Int) (x0 y0 : Int) (h : Heap) : run orc0 29 [unitV 11 r [x0] [y0]] h = ch [(decide (r ≥ 1), true), (!decide (r ≤ 3), false), (decide (y0 ≥ (1)), true), (!decide (y0 ≤ (2000)), false), (decide (x0 ≥ 0), true), (!decide (x0 ≤ 199), false)] (some (.bool true)) := by kernel_rfl
theorem v13_11 (r : Int) (x0 y0 : Int) (h : Heap) : run orc0 13 [unitV 11 r [x0] [y0]] h = ch [(decide (r < 1), false), (decide (r > 3), false), (decide (x0 ≥ 0), true), (!decide (x0 ≤ 199), false), (decide (y0 ≥ (1)), true)] (some (.bool (decide (y0 ≤ (2000))))) := by kernel_rfl
theorem m29_11 (r : Int) (xs ys : List Int) (h : Heap) : run (stopAt 29 [6] orc0) 29 [unitV 11 r xs ys] h = ch [(decide (r ≥ 1), true), (!decide (r ≤ 3), false), (!((xs.length : Int) == 1), false), (!((ys.length : Int) == 1), false)] none := by kernel_rfl
theorem m13_11 (r : Int) (xs ys : List Int) (h : Heap) : run (stopAt 13 [4] orc0) 13 [unitV 11 r xs ys] h = ch [(decide (r < 1), false), (decide (r > 3), false), (!((xs.length : Int) == 1), false), (!((ys.length : Int) == 1), false)] none := by kernel_rfl
theorem v29_12 (r : Int) (y0 : Int) (h : Heap) : run orc0 29 [unitV 12 r [] [y0]] h = ch [(decide (r ≥ 1), true), (!decide (r ≤ 3), false), (decide (y0 ≥ (0)), true), (!decide (y0 ≤ (15)), false)] (some (.bool true)) := by kernel_rfl
theorem v13_12 (r : Int) (y0 : Int) (h : Heap) : run orc0 13 [unitV 12 r [] [y0]] h = ch [(decide (r < 1), false), (decide (r > 3), false), (decide (y0 ≥ (0)), true)] (some (.bool (decide (y0 ≤ (15))))) := by kernel_rfl
theorem m29_12 (r : Int) (xs ys : List Int) (h : Heap) : run (stopAt 29 [6] orc0) 29 [unitV 12 r xs ys] h = ch [(decide (r ≥ 1), true), (!decide (r ≤ 3), false), (!((xs.length : Int) == 0), false), (!((ys.length : Int) == 1), false)] none := by kernel_rfl
theorem m13_12 (r : Int) (xs ys : List Int) (h : Heap) : run (stopAt 13 [4] orc0) 13 [unitV 12 r xs ys] h = ch [(decide (r < 1), false), (decide (r > 3), false), (!((xs.length : Int) == 0), false), (!((ys.length : Int) == 1), false)] none := by kernel_rfl
theorem v29_13 (r : Int) (x0 y0 : Int) (h : Heap) : run orc0 29 [unitV 13 r [x0] [y0]] h = ch [(decide (r ≥ 1), true), (!decide (r ≤ 3), false), (decide (y0 ≥ (0)), true), (!decide (y0 ≤ (15)), false), (decide (x0 ≥ 0), true), (!decide (x0 ≤ 199), false)] (some (.bool true)) := by kernel_rfl
theorem v13_13 (r : Int) (x0 y0 : Int) (h : Heap) : run orc0 13 [unitV 13 r [x0] [y0]] h = ch [(decide (r < 1), false), (decide (r > 3), false), (decide (x0 ≥ 0), true), (!decide (x0 ≤ 199), false), (decide (y0 ≥ (0)), true)] (some (.bool (decide (y0 ≤ (15))))) := by kernel_rfl
theorem m29_13 (r : Int) (xs ys : List Int) (h : Heap) : run (stopAt 29 [6] orc0) 29 [unitV 13 r xs ys] h = ch [(decide (r ≥ 1), true), (!decide (r ≤ 3), false), (!((xs.length : Int) == 1), false), (!((ys.length : Int) == 1), false)] none := by kernel_rfl
theorem m13_13 (r : Int) (xs ys : List Int) (h : Heap) : run (stopAt 13 [4] orc0) 13 [unitV 13 r xs ys] h = ch [(decide (r < 1), false), (decide (r > 3), false), (!((xs.length : Int) == 1), false), (!((ys.length : Int) == 1), false)] none := by kernel_rfl
theorem v29_14 (r : Int) (y0 : Int) (h : Heap) : run orc0 29 [unitV 14 r [] [y0]] h = ch [(decide (r ≥ 1), true), (!decide (r ≤ 3), false), (decide (y0 ≥ (0)), true), (!decide (y0 ≤ (19)), false)] (some (.bool true)) := by kernel_rfl
theorem v13_14 (r : Int) (y0 : Int) (h : Heap) : run orc0 13 [unitV 14 r [] [y0]] h = ch [(decide (r < 1), false), (decide (r > 3), false), (decide (y0 ≥ (0)), true)] (some (.bool (decide (y0 ≤ (19))))) := by kernel_rfl
theorem m29_14 (r : Int) (xs ys : List Int) (h : Heap) : run (stopAt 29 [6] orc0) 29 [unitV 14 r xs ys] h = ch [(decide (r ≥ 1), true), (!decide (r ≤ 3), false), (!((xs.length : Int) == 0), false), (!((ys.length : Int) == 1), false)] none := by kernel_rfl
theorem m13_14 (r : Int) (xs ys : List Int) (h : Heap) : run (stopAt 13 [4] orc0) 13 [unitV 14 r xs ys] h = ch [(decide (r < 1), false), (decide (r > 3), false), (!((xs.length : Int) == 0), false), (!((ys.length : Int) == 1), false)] none := by kernel_rfl
theorem v29_15 (r : Int) (y0 : Int) (h : Heap) : run orc0 29 [unitV 15 r [] [y0]] h = ch [(decide (r ≥ 1), true), (!decide (r ≤ 3), false), (decide (y0 ≥ (-1099511627776)), true), (!decide (y0 ≤ (1099511627776)), false)] (some (.bool true)) := by kernel_rfl
theorem v13_15 (r : Int) (y0 : Int) (h : Heap) : run orc0 13 [unitV 15 r [] [y0]] h = ch [(decide (r < 1), false), (decide (r > 3), false), (decide (y0 ≥ (-1099511627776)), true)] (some (.bool (decide (y0 ≤ (1099511627776))))) := by kernel_rfl
theorem m29_15 (r : Int) (xs ys : List Int) (h : Heap) : run (stopAt 29 [6] orc0) 29 [unitV 15 r xs ys] h = ch [(decide (r ≥ 1), true), (!decide (r ≤ 3), false), (!((xs.length : Int) == 0), false), (!((ys.length : Int) == 1), false)] none := by kernel_rfl
theorem m13_15 (r : Int) (xs ys : List Int) (h : Heap) : run (stopAt 13 [4] orc0) 13 [unitV 15 r xs ys] h = ch [(decide (r < 1), false), (decide (r > 3), false), (!((xs.length : Int) == 0), false), (!((ys.length : Int) == 1), false)] none := by kernel_rfl
theorem o29_run (k r : Int) (xs ys : List Int) (h : Heap) : run (outO k) 29 [unitV k r xs ys] h = bif same [int64 k] [int64 k] then some (.bool false) else none := by kernel_rfl
noncomputable def insO (k : Int) : Orc := know 26 [int64 k] (.tup [int64 0, int64 0, int64 10]) orc0
theorem o13_run (k r : Int) (xs ys : List Int) (h : Heap) : run (insO k) 13 [unitV k r xs ys] h = bif same [int64 k] [int64 k] then some (.bool false) else none := by kernel_rfl
end Go.Proofs.Ythlmbnhelkbchaa
/- Envelopes: what an envelope's unit tells, in closed form; when it is valid. -/
namespace Go.Proofs.Ythlmbnhelkbchaa
open Go.Ev
set_option maxRecDepth 100000
def upI (x n : Int) : Int := w64 ((w64 (w64 (x + n) - 1)).tdiv n)
def V103 (a : List AV) : AV := int64 (upI (ar a 0) (ar a 1))
def is103 (a : List AV) : Prop := ∃ x n, a = [int64 x, int64 n] ∧ n ≥ 1
theorem run103 (x n : Int) (h : Heap) : evCall Try.prog orc0 tb 100 AV (.fn 103) (vwArgs Try.prog [] h (parsOf Try.prog 103) [int64 x, int64 n]) (mkHeap [] 0) .off rv =
    bif n == 0 then none else some (int64 (upI x n)) := by kernel_rfl
theorem when103 (a : List AV) (h : isSo (is103 a) = true) : F 103 a (V103 a) := by
  obtain ⟨x, n, rfl, hn⟩ := isSo_iff.1 h
  refine .of ok0 rfl fun h => (run103 x n h).trans ?_
  have e : (n == 0) = false := by simp only [beq_eq_false_iff_ne]; omega
  rw [e]; rfl
noncomputable def hU {A : Type} (x n : Int) (y : Option A) : Option A := bif isSo (is103 [int64 x, int64 n]) then y else none
theorem hU_eq {A : Type} {x n : Int} (h : n ≥ 1) (y : Option A) : hU x n y = y := by unfold hU; rw [isSo_true ⟨x, n, rfl, h⟩]; rfl
noncomputable def h3 {A : Type} (x lo hi : Int) (y : Option A) : Option A := bif isSo (isN3 [int64 x, int64 lo, int64 hi]) then y else none
theorem h3_eq {A : Type} (x lo hi : Int) (y : Option A) : h3 x lo hi y = y := by unfold h3; rw [isSo_true ⟨_, _, _, rfl⟩]; rfl
def E {A : Type} (n : Int) (y : Option A) : Option A := bif n == n then y else none
theorem E_eq {A : Type} (n : Int) (y : Option A) : E n y = y := by unfold E; rw [beq_self_eq_true]; rfl
def kM (n : Int) : Int := kept n (-1099511627776) 1099511627776
noncomputable def swT {A : Type} (a d kp r : Int) (st lv fr : Int) (k : Int → Int → Option A) : Option A :=
  bif st == 1 then hU 65536 a <| E lv <| bif minI 65536 (w64 (lv + upI 65536 a)) == 65536 then k 2 (minI 65536 (w64 (lv + upI 65536 a))) else k st (minI 65536 (w64 (lv + upI 65536 a)))
  else bif st == 2 then hU (w64 (65536 - kp)) d <| E lv <| bif maxI kp (w64 (lv - upI (w64 (65536 - kp)) d)) == kp then k 3 (maxI kp (w64 (lv - upI (w64 (65536 - kp)) d))) else k st (maxI kp (w64 (lv - upI (w64 (65536 - kp)) d)))
  else bif st == 3 then k st kp
  else bif st == 4 then hU fr r <| E lv <| k st (maxI 0 (w64 (lv - upI fr r)))
  else k st lv
noncomputable def envT {A : Type} (a d kp r : Int) (o g : Bool) (st lv fr : Int) (k : Int → Int → Int → Option A) : Option A :=
  bif o then bif !g then swT a d kp r 1 lv fr fun s l => k s l fr else
    bif !o then bif g then swT a d kp r 4 lv lv fun s l => k s l lv else swT a d kp r st lv fr fun s l => k s l fr else swT a d kp r st lv fr fun s l => k s l fr
  else bif !o then bif g then swT a d kp r 4 lv lv fun s l => k s l lv else swT a d kp r st lv fr fun s l => k s l fr else swT a d kp r st lv fr fun s l => k s l fr
structure EnvS where
  st : Int
  lv : Int
  fr : Int
  g : Bool
def swF (a d kp r : Int) (s : EnvS) : EnvS :=
  if s.st = 1 then (if minI 65536 (w64 (s.lv + upI 65536 a)) = 65536 then { s with st := 2, lv := minI 65536 (w64 (s.lv + upI 65536 a)) } else { s with lv := minI 65536 (w64 (s.lv + upI 65536 a)) })
  else if s.st = 2 then (if maxI kp (w64 (s.lv - upI (w64 (65536 - kp)) d)) = kp then { s with st := 3, lv := maxI kp (w64 (s.lv - upI (w64 (65536 - kp)) d)) } else { s with lv := maxI kp (w64 (s.lv - upI (w64 (65536 - kp)) d)) })
  else if s.st = 3 then { s with lv := kp }
  else if s.st = 4 then { s with lv := maxI 0 (w64 (s.lv - upI s.fr r)) }
  else s
def envF (a d kp r : Int) (o : Bool) (s : EnvS) : EnvS :=
  swF a d kp r (if o = true ∧ s.g = false then { s with st := 1, g := o } else if o = false ∧ s.g = true then { s with st := 4, fr := s.lv, g := o } else { s with g := o })
theorem swT_eq {A : Type} {a d kp r : Int} (ha : a ≥ 1) (hd : d ≥ 1) (hr : r ≥ 1) (s : EnvS) (k : Int → Int → Option A) : swT a d kp r s.st s.lv s.fr k = k (swF a d kp r s).st (swF a d kp r s).lv ∧ (swF a d kp r s).fr = s.fr ∧ (swF a d kp r s).g = s.g := by
  unfold swT swF
  simp only [hU_eq ha, hU_eq hd, hU_eq hr, E_eq]
  have e : ∀ (x y : Int), (x == y) = decide (x = y) := fun x y => by rw [Bool.eq_iff_iff]; simp
  simp only [e]
  by_cases h1 : s.st = 1
  · rw [decide_eq_true h1, if_pos h1, cond_true]
    by_cases h : minI 65536 (w64 (s.lv + upI 65536 a)) = 65536
    · rw [decide_eq_true h, if_pos h]; exact ⟨rfl, rfl, rfl⟩
    · rw [decide_eq_false h, if_neg h]; exact ⟨rfl, rfl, rfl⟩
  rw [decide_eq_false h1, if_neg h1, cond_false]
  by_cases h2 : s.st = 2
  · rw [decide_eq_true h2, if_pos h2, cond_true]
    by_cases h : maxI kp (w64 (s.lv - upI (w64 (65536 - kp)) d)) = kp
    · rw [decide_eq_true h, if_pos h]; exact ⟨rfl, rfl, rfl⟩
    · rw [decide_eq_false h, if_neg h]; exact ⟨rfl, rfl, rfl⟩
  rw [decide_eq_false h2, if_neg h2, cond_false]
  by_cases h3 : s.st = 3
  · rw [decide_eq_true h3, if_pos h3]; exact ⟨rfl, rfl, rfl⟩
  rw [decide_eq_false h3, if_neg h3, cond_false]
  by_cases h4 : s.st = 4
  · rw [decide_eq_true h4, if_pos h4]; exact ⟨rfl, rfl, rfl⟩
  rw [decide_eq_false h4, if_neg h4]
  exact ⟨rfl, rfl, rfl⟩
theorem envT_eq {A : Type} {a d kp r : Int} (ha : a ≥ 1) (hd : d ≥ 1) (hr : r ≥ 1) (o : Bool) (s : EnvS) (k : Int → Int → Int → Option A) : envT a d kp r o s.g s.st s.lv s.fr k = k (envF a d kp r o s).st (envF a d kp r o s).lv (envF a d kp r o s).fr ∧ (envF a d kp r o s).g = o := by
  have key : ∀ (s' : EnvS), swT a d kp r s'.st s'.lv s'.fr (fun x l => k x l s'.fr) = k (swF a d kp r s').st (swF a d kp r s').lv (swF a d kp r s').fr ∧ (swF a d kp r s').g = s'.g := fun s' => by
    obtain ⟨h1, h2, h3⟩ := swT_eq (kp := kp) ha hd hr s' (fun x l => k x l s'.fr)
    exact ⟨h1.trans (by rw [h2]), h3⟩
  unfold envT envF
  cases o with
  | true =>
    cases hg : s.g with
    | false => exact key { s with st := 1, g := true }
    | true => exact key { s with g := true }
  | false =>
    cases hg : s.g with
    | false => exact key { s with g := false }
    | true => exact key { s with st := 4, fr := s.lv, g := false }
def envOk (a d kp r : Int) : Bool := decide (1 ≤ a ∧ a ≤ 1000000000 ∧ 1 ≤ d ∧ d ≤ 1000000000 ∧ 0 ≤ kp ∧ kp ≤ 65536 ∧ 1 ≤ r ∧ r ≤ 1000000000)
noncomputable def OE (S : Orc) : Orc := knowW 103 (fun a => isSo (is103 a)) V103 (knowW 73 (fun a => isSo (isN3 a)) V73 S)
end Go.Proofs.Ythlmbnhelkbchaa
/- Envelopes: the plain law. -/
namespace Go.Proofs.Ythlmbnhelkbchaa
open Go.Ev
set_option maxRecDepth 100000
def envN (a d kp r : Int) (g : Nat → Bool) : Nat → EnvS
  | 0 => ⟨0, 0, 0, false⟩
  | i + 1 => envF a d kp r (g i) (envN a d kp r g i)
def outs (a d kp r : Int) (g : Nat → Bool) (n : Nat) : List Int := (List.range n).map fun i => (envN a d kp r g (i + 1)).lv
theorem outs_succ (a d kp r : Int) (g : Nat → Bool) (n : Nat) : outs a d kp r g (n + 1) = outs a d kp r g n ++ [(envN a d kp r g (n + 1)).lv] := by
  unfold outs
  rw [List.range_succ, List.map_append]
  rfl
theorem outs_len (a d kp r : Int) (g : Nat → Bool) (n : Nat) : (outs a d kp r g n).length = n := by simp [outs]
theorem upI_eq {x n : Int} (h0 : 0 ≤ x) (h1 : x ≤ 65536) (h2 : 1 ≤ n) (h3 : n ≤ 1000000000) : upI x n = (x + n - 1) / n := by
  unfold upI w64
  have e1 : IntKind.i64.wrap (x + n) = x + n := by rw [IntKind.wrap_i64]; omega
  have e2 : IntKind.i64.wrap (x + n - 1) = x + n - 1 := by rw [IntKind.wrap_i64]; omega
  rw [e1, e2, Int.tdiv_eq_ediv_of_nonneg (by omega)]
  have a1 : 0 ≤ (x + n - 1) / n := Int.ediv_nonneg (by omega) (by omega)
  have a2 : (x + n - 1) / n ≤ x + n - 1 := Int.ediv_le_self _ (by omega)
  rw [IntKind.wrap_i64]
  omega
theorem upI_spec {x n : Int} (h0 : 0 ≤ x) (h1 : x ≤ 65536) (h2 : 1 ≤ n) (h3 : n ≤ 1000000000) : 0 ≤ upI x n ∧ upI x n ≤ 65536 ∧ x ≤ n * upI x n := by
  rw [upI_eq h0 h1 h2 h3]
  have a1 : 0 ≤ (x + n - 1) / n := Int.ediv_nonneg (by omega) (by omega)
  have a2 : x + n - 1 < n * ((x + n - 1) / n) + n := Int.lt_mul_ediv_self_add (by omega)
  have a3 : n * ((x + n - 1) / n) ≤ x + n - 1 := Int.mul_ediv_self_le (by omega)
  refine ⟨a1, ?_, by omega⟩
  generalize (x + n - 1) / n = q at *
  rcases Int.lt_or_le 65536 q with h | h
  · have := Int.mul_le_mul_of_nonneg_left (show 65537 ≤ q by omega) (show 0 ≤ n by omega)
    omega
  · exact h
variable {a d kp r : Int}
theorem envOk_iff : envOk a d kp r = true ↔ 1 ≤ a ∧ a ≤ 1000000000 ∧ 1 ≤ d ∧ d ≤ 1000000000 ∧ 0 ≤ kp ∧ kp ≤ 65536 ∧ 1 ≤ r ∧ r ≤ 1000000000 := by simp [envOk]
theorem minI_le (x y : Int) : minI x y = min x y := by unfold minI; omega
theorem maxI_le (x y : Int) : maxI x y = max x y := by unfold maxI; omega
def HInv (a d kp : Int) (i : Nat) (s : EnvS) : Prop :=
  s.g = true ∧ 0 ≤ s.lv ∧ s.lv ≤ 65536 ∧
  ((s.st = 1 ∧ s.lv = (i : Int) * upI 65536 a ∧ s.lv < 65536) ∨ (s.st = 2 ∧ kp ≤ s.lv ∧ ∃ j : Int, 1 ≤ j ∧ j ≤ a ∧ j ≤ (i : Int) ∧ s.lv = 65536 - ((i : Int) - j) * upI (65536 - kp) d) ∨ (s.st = 3 ∧ s.lv = kp))
theorem attack_inv (h : envOk a d kp r = true) (i : Nat) (s : EnvS) (hg : s.g = true) (hst : s.st = 1) (h0 : 0 ≤ s.lv) (hlv : s.lv = (i : Int) * upI 65536 a) (hlt : s.lv < 65536) : HInv a d kp (i + 1) (swF a d kp r s) := by
  obtain ⟨a1, a2, d1, d2, k1, k2, r1, r2⟩ := envOk_iff.1 h
  obtain ⟨u1, u2, u3⟩ := upI_spec (x := 65536) (n := a) (by omega) (by omega) a1 a2
  have e : w64 (s.lv + upI 65536 a) = s.lv + upI 65536 a := by unfold w64; rw [IntKind.wrap_i64]; omega
  have e2 : ((i + 1 : Nat) : Int) * upI 65536 a = s.lv + upI 65536 a := by
    rw [hlv, Int.natCast_add, Int.add_mul]; omega
  unfold swF
  rw [if_pos hst, e]
  by_cases hm : minI 65536 (s.lv + upI 65536 a) = 65536
  · rw [if_pos hm]
    refine ⟨hg, by simp only [hm]; omega, by simp only [hm]; omega, .inr (.inl ⟨rfl, by simp only [hm]; omega, (i : Int) + 1, by omega, ?_, by omega, ?_⟩)⟩
    · rcases Int.lt_or_le (i : Int) a with h' | h'
      · omega
      · have := Int.mul_le_mul_of_nonneg_right h' u1
        omega
    · simp only [hm]
      have : ((i + 1 : Nat) : Int) - ((i : Int) + 1) = 0 := by omega
      rw [this, Int.zero_mul]; rfl
  · rw [if_neg hm]
    have hm' : minI 65536 (s.lv + upI 65536 a) = s.lv + upI 65536 a ∧ s.lv + upI 65536 a < 65536 := by
      rw [minI_le] at hm ⊢; omega
    refine ⟨hg, by simp only [hm'.1]; omega, by simp only [hm'.1]; omega, .inl ⟨hst, by simp only [hm'.1, e2], by simp only [hm'.1]; omega⟩⟩
theorem held_step (h : envOk a d kp r = true) (i : Nat) (s : EnvS) (hi : HInv a d kp i s) : HInv a d kp (i + 1) (envF a d kp r true s) := by
  obtain ⟨a1, a2, d1, d2, k1, k2, r1, r2⟩ := envOk_iff.1 h
  obtain ⟨hg, h0, h1, hc⟩ := hi
  have e0 : envF a d kp r true s = swF a d kp r s := by
    unfold envF
    rw [if_neg (by rw [hg]; simp), if_neg (by simp)]
    congr 1
    cases s
    simp only at hg
    rw [hg]
  rw [e0]
  rcases hc with ⟨hst, hlv, hlt⟩ | ⟨hst, hk, j, j1, j2, j3, hlv⟩ | ⟨hst, hlv⟩
  · exact attack_inv h i s hg hst h0 hlv hlt
  · obtain ⟨v1, v2, v3⟩ := upI_spec (x := 65536 - kp) (n := d) (by omega) (by omega) d1 d2
    have ek : w64 (65536 - kp) = 65536 - kp := by unfold w64; rw [IntKind.wrap_i64]; omega
    have e : w64 (s.lv - upI (65536 - kp) d) = s.lv - upI (65536 - kp) d := by unfold w64; rw [IntKind.wrap_i64]; omega
    unfold swF
    rw [if_neg (by omega), if_pos hst, ek, e]
    by_cases hm : maxI kp (s.lv - upI (65536 - kp) d) = kp
    · rw [if_pos hm]
      exact ⟨hg, by simp only [hm]; omega, by simp only [hm]; omega, .inr (.inr ⟨rfl, hm⟩)⟩
    · rw [if_neg hm]
      have hm' : maxI kp (s.lv - upI (65536 - kp) d) = s.lv - upI (65536 - kp) d ∧ kp < s.lv - upI (65536 - kp) d := by
        rw [maxI_le] at hm ⊢; omega
      refine ⟨hg, by simp only [hm'.1]; omega, by simp only [hm'.1]; omega, .inr (.inl ⟨hst, by simp only [hm'.1]; omega, j, j1, j2, by omega, ?_⟩)⟩
      simp only [hm'.1]
      have : ((i + 1 : Nat) : Int) - j = ((i : Int) - j) + 1 := by omega
      rw [this, Int.add_mul]
      omega
  · unfold swF
    rw [if_neg (by omega), if_neg (by omega), if_pos hst]
    exact ⟨hg, k1, k2, .inr (.inr ⟨hst, rfl⟩)⟩
theorem held_inv (h : envOk a d kp r = true) {g : Nat → Bool} {held : Nat} (hg : ∀ i, i < held → g i = true) : ∀ i, i < held → HInv a d kp (i + 1) (envN a d kp r g (i + 1))
  | 0, hi => by
    show HInv a d kp 1 (envF a d kp r (g 0) ⟨0, 0, 0, false⟩)
    rw [hg 0 hi]
    unfold envF
    rw [if_pos ⟨rfl, rfl⟩]
    exact attack_inv h 0 ⟨1, 0, 0, true⟩ rfl rfl (Int.le_refl 0) (by simp) (by simp)
  | i + 1, hi => by
    show HInv a d kp (i + 2) (envF a d kp r (g (i + 1)) (envN a d kp r g (i + 1)))
    rw [hg (i + 1) hi]
    exact held_step h (i + 1) _ (held_inv h hg i (by omega))
end Go.Proofs.Ythlmbnhelkbchaa
/- UnitNumbers: the document's Envelope. -/
namespace Go.Proofs.Ythlmbnhelkbchaa
open Go.Ev
set_option maxRecDepth 100000
theorem run78 (x n : Int) (h : Heap) : evCall Try.prog orc0 tb 100 AV (.fn 78) (vwArgs Try.prog [] h (parsOf Try.prog 78) [int64 x, int64 n]) (mkHeap [] 0) .off rv =
    bif n == 0 then none else some (int64 (upI x n)) := by kernel_rfl
theorem when78 (a : List AV) (h : isSo (is103 a) = true) : F 78 a (V103 a) := by
  obtain ⟨x, n, rfl, hn⟩ := isSo_iff.1 h
  refine .of ok0 rfl fun h => (run78 x n h).trans ?_
  have e : (n == 0) = false := by simp only [beq_eq_false_iff_ne]; omega
  rw [e]; rfl
noncomputable def O78 (S : Orc) : Orc := knowW 78 (fun a => isSo (is103 a)) V103 S
def st42 (a d kp r : Int) (gs : List Int) (i : Int) (st lv fl : Int) (g : Bool) (o : AV) (l : List (Nat × Blk)) : St :=
  ⟨[.dead, ints gs, .dead, .dead, .dead, .dead, .ptr (some (4, 0)), .dead, o, int64 i] ++ repA .dead 32, mkHeap (l ++ [(4, .cells true [int64 6, int64 3, .sl (some (0, 0)) 1 1 true 1, ints [a, d, kp, r], int64 0, int64 0, int64 0, int64 lv, int64 st, .bool g, int64 fl, .sl none 0 0 true 0]),
    (3, .cells true [int64 6, int64 3, .sl (some (0, 0)) 1 1 true 1, ints [a, d, kp, r], int64 0, int64 0, int64 0, int64 0, int64 0, .bool false, int64 0, .sl none 0 0 true 0]), (2, .cells true [int64 6, int64 3, .sl (some (0, 0)) 1 1 true 1, ints [a, d, kp, r], int64 0, int64 0, int64 0, int64 0, int64 0, .bool false, int64 0, .sl none 0 0 true 0]),
    (1, .cells true [int64 6, int64 3, .sl (some (0, 0)) 1 1 true 1, ints [a, d, kp, r]]), (0, .cells true [int64 0])]) 11, [], .off⟩
noncomputable def swR {A : Type} (a d kp : Int) (st lv fl : Int) (k : Int → Int → Option A) : Option A :=
  bif st == 1 then hU 65536 a <| E lv <| bif minI (w64 (lv + upI 65536 a)) 65536 == 65536 then k 2 (minI (w64 (lv + upI 65536 a)) 65536) else k st (minI (w64 (lv + upI 65536 a)) 65536)
  else bif st == 2 then hU (w64 (65536 - kp)) d <| E lv <| E kp <| bif maxI (w64 (lv - upI (w64 (65536 - kp)) d)) kp == kp then k 3 (maxI (w64 (lv - upI (w64 (65536 - kp)) d)) kp) else k st (maxI (w64 (lv - upI (w64 (65536 - kp)) d)) kp)
  else bif st == 3 then k st kp
  else bif st == 4 then k st (maxI (w64 (lv - fl)) 0)
  else k st lv
noncomputable def envR {A : Type} (a d kp r : Int) (o g : Bool) (st lv fl : Int) (k : Int → Int → Int → Option A) : Option A :=
  let p (s : Int) : Option A := bif !o then bif g then hU lv r <| swR a d kp 4 lv (upI lv r) fun x l => k x l (upI lv r) else swR a d kp s lv fl fun x l => k x l fl else swR a d kp s lv fl fun x l => k x l fl
  bif o then bif !g then p 1 else p st else p st
noncomputable def body42 {A : Type} (a d kp r : Int) (gs : List Int) (i : Int) (st lv fl : Int) (g : Bool) (cs : List AV) (m : Nat) (K : Ex → St → Option A) : Option A :=
  bif decide (i < (gs.length : Int)) then
    ldI gs i fun x =>
    envR a d kp r (decide (x > 0)) g st lv fl fun st lv fl =>
    guardK (Nat.ble ((m + 1 + 1) * 8) limit && Nat.ble (m + 1 + 1) limit) <| guardK (Nat.ble (0 + (m + 1) * 1) (lenA cs)) <| guardK (allS (appA (takeA (dropA cs 0) ((m + 1) * 1)) [int64 lv]) && true) <|
    K .normal (st42 a d kp r gs (IntKind.i64.wrap (i + 1)) st lv fl (decide (x > 0)) (.gr (9, 0) (m + 1 + 1) 1) [(9, .cells true (appA (takeA (dropA cs 0) ((m + 1) * 1)) [int64 lv]))])
  else guardK (allS cs && true) (K (.exit 0) (st42 a d kp r gs i st lv fl g (.gr (9, 0) (m + 1) 1) [(9, .cells true cs)]))
theorem b42 {A : Type} (a d kp r : Int) (gs : List Int) (i : Int) (st lv fl : Int) (g : Bool) (cs : List AV) (m : Nat) (K : Ex → St → Option A) :
    loopBF Try.prog (O78 orc0) tb 42 8 [9] 5 (st42 a d kp r gs i st lv fl g (.gr (9, 0) (m + 1) 1) [(9, .cells true cs)]) K = body42 a d kp r gs i st lv fl g cs m K := by kernel_rfl
theorem b42_0 {A : Type} (a d kp r : Int) (gs : List Int) (i : Int) (st lv fl : Int) (g : Bool) (K : Ex → St → Option A) :
    loopBF Try.prog (O78 orc0) tb 42 8 [9] 5 (st42 a d kp r gs i st lv fl g (.sl none 0 0 true 0) []) K =
    bif decide (i < (gs.length : Int)) then
      ldI gs i fun x => envR a d kp r (decide (x > 0)) g st lv fl fun st lv fl => K .normal (st42 a d kp r gs (IntKind.i64.wrap (i + 1)) st lv fl (decide (x > 0)) (.gr (9, 0) 1 1) [(9, .cells true [int64 lv])])
    else K (.exit 0) (st42 a d kp r gs i st lv fl g (.sl none 0 0 true 0) []) := by kernel_rfl
end Go.Proofs.Ythlmbnhelkbchaa
/- UnitNumbers: steps and periods. -/
namespace Go.Proofs.Ythlmbnhelkbchaa
open Go.Ev
set_option maxRecDepth 100000
abbrev eR : Option AV := some (.tup [int64 0, int64 7])
/-! ### Periods -/
def st17 (s n : Int) : St := ⟨[int64 s, .dead, .dead, .dead, int64 n] ++ repA .dead 21, mkHeap [] 4, [], .off⟩
def st41 (s n : Int) : St := ⟨[int64 s, .dead, .dead, .dead, int64 n] ++ repA .dead 20, mkHeap [] 4, [], .off⟩
def NP : Norm := ⟨[0, 2, 3, 4], []⟩
end Go.Proofs.Ythlmbnhelkbchaa
/- Run of a unit: the state at the head of its loop. -/
namespace Go.Proofs.Ythlmbnhelkbchaa
open Go.Ev
set_option maxRecDepth 100000
structure Ob where
  at' : Int
  frame : Int
  told : Int
  n : Int
  rnd : Int
  last : Int
  stage : Int
  level : Int
  frm : Int
  gate : Bool
abbrev lists (ls : List (List Int)) : AV := .fz (ls.map ints) ls.length false 1
def cellsU (k r : Int) (ui ua : List Int) (o : Ob) : List AV := [int64 o.at', int64 k, int64 r, ints ui, ints ua, int64 o.frame, int64 o.told, int64 o.n, int64 o.rnd, int64 o.last, ints [], int64 o.stage, int64 o.level, int64 o.frm, .bool o.gate]
def rangeC : Code → Option (List Tmp × Code × Code)
  | .seq a b => (match rangeC a with
    | some x => some x
    | none => rangeC b)
  | .cond _ a b => (match rangeC a with
    | some x => some x
    | none => rangeC b)
  | .block _ b => rangeC b
  | .rangeFunc _ ps a b => some (ps.toList, a, b)
  | _ => none
noncomputable def rec71 (n : Int) (ls : List (List Int)) : Blk := match rangeC e19.code with
  | some (ps, a, b) => .loop ⟨.ready, none, 19, [.dead, .dead, lists ls, .ptr (some (1, 0)), .ptr (some (2, 0)), .dead, .ptr (some (3, 0)), .ptr (some (4, 0))] ++ repA .dead 21 ++ [int64 n, lists ls, .fn 71 [] [.ptr (some (6, 0)), .ptr (some (7, 0))]] ++ repA .dead 22, ps, a, b, 8⟩
  | none => .dfr false
noncomputable def st71 (k r : Int) (ui ua : List Int) (n : Int) (ls : List (List Int)) (i : Int) (o : Ob) (out : AV) (l : List (Nat × Blk)) : St := ⟨[.yield 9, .dead, .ptr (some (7, 0)), .dead, .dead, .dead, .dead, int64 n, int64 i] ++ repA .dead 28,
  mkHeap (l ++ [(9, rec71 n ls), (8, .dfr true), (7, .cells true [lists ls]), (6, .cells true [int64 n]), (4, .cells true [int64 0]), (3, .cells true [out]), (2, .cells true [int64 n]), (1, .cells true [.ptr (some (0, 0))]), (0, .cells true (cellsU k r ui ua o))]) 16, [], .off⟩
noncomputable def OI (S : Orc) : Orc := addF 52 (locF Try.prog orc0 tb ⟨[(0, [])], []⟩ 52) S
theorem OI_ok {S : Orc} (h : Ok S) : Ok (OI S) := addF_ok (fnSim_loc tbOk ok0 _ 52) (natF_loc _ 52) h
end Go.Proofs.Ythlmbnhelkbchaa
/- The document's unit: what it tells next, kind by kind. -/
namespace Go.Proofs.Ythlmbnhelkbchaa
open Go.Ev
set_option maxRecDepth 100000
structure Rs where
  frame : Int
  held : Int
  phase : Int
  n : Int
  stage : Int
  gate : Bool
  fall : Int
  past : List Int
def cellsR (k r : Int) (ui ua : List Int) (o : Rs) : List AV := [int64 k, int64 r, ints ui, ints ua, int64 o.frame, int64 o.held, int64 o.phase, int64 o.n, int64 o.stage, .bool o.gate, int64 o.fall, ints o.past]
def isI1 : List AV → Bool
  | [.int .i64 _] => true
  | _ => false
def isI3 : List AV → Bool
  | [.int .i64 _, .int .i64 _, .int .i64 _] => true
  | _ => false
theorem when16c (a : List AV) (h : isI1 a = true) : F 16 a (V16 a) := by
  refine when16 a (isSo_true ?_)
  unfold isI1 at h
  split at h
  · exact ⟨_, rfl⟩
  · cases h
theorem when47c (a : List AV) (h : isI3 a = true) : F 47 a (V47 a) := by
  refine when47 a (isSo_true ?_)
  unfold isI3 at h
  split at h
  · exact ⟨_, _, _, rfl⟩
  · cases h
noncomputable def OT (S : Orc) : Orc := knowW 16 isI1 V16 (knowW 47 isI3 V47 (knowW 78 (fun a => isSo (is103 a)) V103 (addF 33 (locC Try.prog orc0 tb 33) (addF 26 (locC Try.prog orc0 tb 26) S))))
theorem OT_ok {S : Orc} (h : Ok S) : Ok (OT S) := knowW_ok tbOk when16c (knowW_ok tbOk when47c (knowW_ok tbOk when78 (addF_ok (fnSim_locC tbOk ok0 33) (natF_locC 33) (addF_ok (fnSim_locC tbOk ok0 26) (natF_locC 26) h))))
def V77h (a : List AV) : AV := int64 (prodM (ar a 0) (ar a 1) (ar a 2))
theorem when77h (a : List AV) (h : isSo (is77h a) = true) : F 77 a (V77h a) := by
  obtain ⟨x, y, n, rfl, h1, h2, h3, h4, h5, h6⟩ := isSo_iff.1 h
  exact fact77h h1 h2 h3 h4 h5 h6
noncomputable def OTh (S : Orc) : Orc := knowW 77 (fun a => isSo (is77h a)) V77h (OT S)
noncomputable def OTg (S : Orc) : Orc := knowW 77 (fun a => isSo (is77g a)) V77g (OT S)
noncomputable def OTl (S : Orc) : Orc := knowW 77 (fun a => isSo (is77 a)) V77 (OT S)
theorem OTl_ok {S : Orc} (h : Ok S) : Ok (OTl S) := knowW_ok tbOk when77 (OT_ok h)
theorem OTh_ok {S : Orc} (h : Ok S) : Ok (OTh S) := knowW_ok tbOk when77h (OT_ok h)
theorem OTg_ok {S : Orc} (h : Ok S) : Ok (OTg S) := knowW_ok tbOk when77g (OT_ok h)
noncomputable abbrev run65 (S : Orc) (k r : Int) (ui ua : List Int) (o : Rs) (xs : List Int) : Option AV := evCall Try.prog S tb 100 AV (.fn 65) [.agg (cellsR k r ui ua o), ints xs] (mkHeap [] 0) .off (viewK Try.prog (resOf Try.prog 65))
abbrev tellT (k r : Int) (ui ua : List Int) (o : Rs) (v : Int) : Option AV := some (.tup [.agg (cellsR k r ui ua o), int64 v])
def zS (k r : Int) (ui ua : List Int) (o : Rs) (x : Option AV) : Option AV := bif sameV (.agg (cellsR k r ui ua o)) (.agg (cellsR k r ui ua o)) then x else none
def tellZ (k r : Int) (ui ua : List Int) (o : Rs) (v : Int) : Option AV := bif sameV (.agg (cellsR k r ui ua o)) (.agg (cellsR k r ui ua o)) then tellT k r ui ua o v else none
def sndR (n : Int) : Int := into n (-8388607) 8388607
def phR (p x : Int) : Int := (IntKind.i64.wrap ((IntKind.i64.wrap (p + x)).tmod 4294967296 + 4294967296)).tmod 4294967296
def oscR (o : Rs) (x : Int) : Rs := ⟨o.frame, o.held, phR o.phase (num x), o.n, o.stage, o.gate, o.fall, o.past⟩
def withN (o : Rs) (n : Int) : Rs := ⟨o.frame, o.held, o.phase, n, o.stage, o.gate, o.fall, o.past⟩
def rnR (r : Int) : Int := (IntKind.i64.wrap (IntKind.i64.wrap (r * 1103515245) + 12345)).tmod 2147483648
noncomputable def g77h (a i n : Int) (x : Option AV) : Option AV := bif isSo (is77h [int64 a, int64 i, int64 n]) then x else none
def envS (o : Rs) (st lv fl : Int) (g : Bool) : Rs := ⟨o.frame, o.held, o.phase, lv, st, g, fl, o.past⟩
noncomputable def g77g (a b : Int) (x : Option AV) : Option AV := bif isSo (is77g [int64 a, int64 b, int64 65536]) then x else none
def lowW (x w n : Int) : Int := w64 (n + round1 (w64 (w64 (num x - n) * into (num w) 0 65536)))
noncomputable def g77l (a b : Int) (x : Option AV) : Option AV := bif isSo (is77 [int64 a, int64 b, int64 65536]) then x else none
end Go.Proofs.Ythlmbnhelkbchaa
