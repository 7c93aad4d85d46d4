/- The document's product by any number, where it is not too large. -/
import Derived.Test.YthlmbnhelkbchaaJ18
import Derived.Test.YthlmbnhelkbchaaJ17
namespace Go.Proofs.Ythlmbnhelkbchaa
open Go.Ev
set_option maxRecDepth 100000
theorem run102z (lo y : Int) (h : Heap) : evCall Try.prog orc0 tb 100 AV (.fn 102) (vwArgs Try.prog [] h (parsOf Try.prog 102) [u64 0, u64 lo, u64 y]) (mkHeap [] 0) .off rv =
    bif y == 0 then none else bif decide (y ≤ 0) then none else bif y == 0 then none else bif y == 0 then none else some (.tup [u64 (wu (lo.tdiv y)), u64 (lo.tmod y)]) := by kernel_rfl
def is102z (a : List AV) : Prop := ∃ hi lo y, a = [u64 hi, u64 lo, u64 y] ∧ hi = 0 ∧ 1 ≤ y ∧ y < 18446744073709551616 ∧ 0 ≤ lo ∧ lo < 18446744073709551616
def V102z (a : List AV) : AV := .tup [u64 (ar a 1 / ar a 2), u64 ((ar a 1).tmod (ar a 2))]
theorem when102z (a : List AV) (h : isSo (is102z a) = true) : F 102 a (V102z a) := by
  obtain ⟨hi, lo, y, rfl, rfl, h1, h2, h3, h4⟩ := isSo_iff.1 h
  refine .of ok0 rfl fun h => (run102z lo y h).trans ?_
  have e : (y == 0) = false := by simp only [beq_eq_false_iff_ne]; omega
  rw [e, decide_eq_false (by omega : ¬ y ≤ 0)]
  have e1 : wu (lo.tdiv y) = lo / y := by
    rw [Int.tdiv_eq_ediv_of_nonneg h3, wu_eq]
    have a0 : 0 ≤ lo / y := Int.ediv_nonneg h3 (by omega)
    have a1 : lo / y ≤ lo := Int.ediv_le_self _ h3
    omega
  rw [e1]
  rfl
noncomputable def OPh (S : Orc) : Orc := knowW 100 (fun a => isSo (isN1 a)) V100 (knowW 99 (fun a => isSo (isU2 a)) V99 (knowW 102 (fun a => isSo (is102z a)) V102z S))
theorem OPh_ok {S : Orc} (h : Ok S) : Ok (OPh S) := knowW_ok tbOk when100 (knowW_ok tbOk when99 (knowW_ok tbOk when102z h))
def pLoN (x y n : Int) : Int := (wu (magI x * magI y) + wu (w64 (n.tdiv 2)) + 0) % 18446744073709551616
def pHiN (x y n : Int) : Int := wu (mulHi (magI x) (magI y) + (wu (magI x * magI y) + wu (w64 (n.tdiv 2)) + 0) / 18446744073709551616)
noncomputable def prH (x y n : Int) : Option AV :=
  j1 x <| j1 y <| bif isSo (isU2 [u64 (magI x), u64 (magI y)]) then
    guardK (decide (0 ≤ wu (magI x * magI y)) && decide (0 ≤ wu (w64 (n.tdiv 2))) && decide ((0 : Int) ≤ 0) && decide ((0 : Int) ≤ 1)) <|
    bif decide (pHiN x y n < wu n) then bif isSo (is102z [u64 (pHiN x y n), u64 (pLoN x y n), u64 (wu n)]) then
      bif decide (pLoN x y n / wu n < 4611686018427387904) then pEnd x y (w64 (pLoN x y n / wu n)) else pEnd x y 4611686018427387904
      else none else pEnd x y 4611686018427387904
  else none
theorem run77h (x y n : Int) (h : Heap) : evCall Try.prog (OPh orc0) tb 100 AV (.fn 77) (vwArgs Try.prog [] h (parsOf Try.prog 77) [int64 x, int64 y, int64 n]) (mkHeap [] 0) .off rv = prH x y n := by kernel_rfl
/-- The product by n, rounded. -/
def prodM (x y n : Int) : Int := if x < 0 then -((absI x * y + n / 2) / n) else (absI x * y + n / 2) / n
theorem mulHi_eq' {a b : Int} (a0 : 0 ≤ a) (a1 : a ≤ 4398046511104) (b0 : 0 ≤ b) (b1 : b ≤ 1099511627776) : mulHi a b = a * b / 18446744073709551616 := by
  have la := lo32_eq a0 (by omega : a < 18446744073709551616)
  have lb := lo32_eq b0 (by omega : b < 18446744073709551616)
  have hab := mul_parts (a / 4294967296) (a % 4294967296) (b / 4294967296) (b % 4294967296)
  rw [show 4294967296 * (a / 4294967296) + a % 4294967296 = a by omega, show 4294967296 * (b / 4294967296) + b % 4294967296 = b by omega] at hab
  have s0 : 0 ≤ a / 4294967296 * (b / 4294967296) := Int.mul_nonneg (by omega) (by omega)
  have s1 : a / 4294967296 * (b / 4294967296) ≤ 1024 * 256 := Int.mul_le_mul (by omega) (by omega) (by omega) (by omega)
  have p0 : 0 ≤ a / 4294967296 * (b % 4294967296) := Int.mul_nonneg (by omega) (by omega)
  have p1 : a / 4294967296 * (b % 4294967296) ≤ 1024 * 4294967295 := Int.mul_le_mul (by omega) (by omega) (by omega) (by omega)
  have q0 : 0 ≤ a % 4294967296 * (b / 4294967296) := Int.mul_nonneg (by omega) (by omega)
  have q1 : a % 4294967296 * (b / 4294967296) ≤ 4294967295 * 256 := Int.mul_le_mul (by omega) (by omega) (by omega) (by omega)
  have r0 : 0 ≤ a % 4294967296 * (b % 4294967296) := Int.mul_nonneg (by omega) (by omega)
  have r1 : a % 4294967296 * (b % 4294967296) ≤ 4294967295 * 4294967295 := Int.mul_le_mul (by omega) (by omega) (by omega) (by omega)
  unfold mulHi mulT
  simp only [hi32_eq, la, lb, wu_eq]
  rw [hab]
  generalize a / 4294967296 * (b / 4294967296) = s at *
  generalize a / 4294967296 * (b % 4294967296) = p at *
  generalize a % 4294967296 * (b / 4294967296) = q at *
  generalize a % 4294967296 * (b % 4294967296) = r at *
  have e3 : (p % 18446744073709551616 + r % 18446744073709551616 / 4294967296) % 18446744073709551616 = p + r / 4294967296 := by omega
  rw [e3, lo32_eq (by omega) (by omega)]
  omega
theorem absI_b {x B : Int} (h0 : -B ≤ x) (h1 : x ≤ B) : 0 ≤ absI x ∧ absI x ≤ B := by unfold absI; split <;> omega
theorem prH_eq {x y n : Int} (x0 : -2199023255552 ≤ x) (x1 : x ≤ 2199023255552) (y0 : 0 ≤ y) (y1 : y ≤ 1000000) (n0 : 1 ≤ n) (n1 : n ≤ 1000000000) : prH x y n = some (int64 (prodM x y n)) := by
  obtain ⟨a0, a1⟩ := absI_b x0 x1
  have mg : ∀ z : Int, -2199023255552 ≤ z → z ≤ 2199023255552 → magI z = absI z := fun z z0 z1 => by
    unfold magI absI
    by_cases h : z < 0
    · rw [decide_eq_true h, cond_true, if_pos h, wu_eq, IntKind.wrap_i64]
      omega
    · rw [decide_eq_false h, cond_false, if_neg h, wu_eq]
      omega
  have hy : absI y = y := by unfold absI; rw [if_neg (by omega)]
  have hh := mulHi_eq' a0 (by omega : absI x ≤ 4398046511104) y0 (by omega : y ≤ 1099511627776)
  have hp0 : 0 ≤ absI x * y := Int.mul_nonneg a0 y0
  have hp1 : absI x * y ≤ 2199023255552 * 1000000 := Int.mul_le_mul a1 y1 y0 (by omega)
  have e0 : wu (w64 (n.tdiv 2)) = n / 2 := by
    rw [Int.tdiv_eq_ediv_of_nonneg (by omega)]
    have : w64 (n / 2) = n / 2 := by unfold w64; rw [IntKind.wrap_i64]; omega
    rw [this, wu_eq]
    omega
  have e9 : wu n = n := by rw [wu_eq]; omega
  have eL : pLoN x y n = absI x * y + n / 2 := by
    unfold pLoN
    rw [mg x x0 x1, mg y (by omega) (by omega), hy, e0, wu_eq]
    omega
  have eH : pHiN x y n = 0 := by
    unfold pHiN
    rw [mg x x0 x1, mg y (by omega) (by omega), hy, hh, e0, wu_eq (absI x * y), wu_eq]
    omega
  have i1 : isSo (isN1 [int64 x]) = true := isSo_true ⟨_, rfl⟩
  have i2 : isSo (isN1 [int64 y]) = true := isSo_true ⟨_, rfl⟩
  have i3 : isSo (isU2 [u64 (magI x), u64 (magI y)]) = true := isSo_true ⟨_, _, rfl⟩
  have hw : decide (0 ≤ wu (magI x * magI y)) = true := decide_eq_true (by rw [wu_eq]; omega)
  have hn : decide (0 ≤ n / 2) = true := decide_eq_true (by omega)
  have q0 : 0 ≤ (absI x * y + n / 2) / n := Int.ediv_nonneg (by omega) (by omega)
  have q1 : (absI x * y + n / 2) / n ≤ absI x * y + n / 2 := Int.ediv_le_self _ (by omega)
  unfold prH j1
  rw [i1, i2, i3, hw, e0, e9, eL, eH, hn]
  have i4 : isSo (is102z [u64 0, u64 (absI x * y + n / 2), u64 n]) = true := isSo_true ⟨_, _, _, rfl, rfl, n0, by omega, by omega, by omega⟩
  rw [decide_eq_true (by omega : (0 : Int) < n), i4, decide_eq_true (by omega : (absI x * y + n / 2) / n < 4611686018427387904)]
  have ew : w64 ((absI x * y + n / 2) / n) = (absI x * y + n / 2) / n := by unfold w64; rw [IntKind.wrap_i64]; omega
  rw [ew]
  show pEnd x y ((absI x * y + n / 2) / n) = _
  have en : w64 (0 - (absI x * y + n / 2) / n) = -((absI x * y + n / 2) / n) := by unfold w64; rw [IntKind.wrap_i64]; omega
  unfold pEnd prodM
  rw [en]
  by_cases hx : x < 0
  · rw [decide_eq_true hx, decide_eq_false (by omega : ¬ y < 0), if_pos hx]; rfl
  · rw [decide_eq_false hx, decide_eq_false (by omega : ¬ y < 0), if_neg hx]; rfl
def is77h (a : List AV) : Prop := ∃ x y n, a = [int64 x, int64 y, int64 n] ∧ -2199023255552 ≤ x ∧ x ≤ 2199023255552 ∧ 0 ≤ y ∧ y ≤ 1000000 ∧ 1 ≤ n ∧ n ≤ 1000000000
theorem fact77h {x y n : Int} (x0 : -2199023255552 ≤ x) (x1 : x ≤ 2199023255552) (y0 : 0 ≤ y) (y1 : y ≤ 1000000) (n0 : 1 ≤ n) (n1 : n ≤ 1000000000) : F 77 [int64 x, int64 y, int64 n] (int64 (prodM x y n)) :=
  .of (OPh_ok ok0) rfl fun h => (run77h x y n h).trans (prH_eq x0 x1 y0 y1 n0 n1)
end Go.Proofs.Ythlmbnhelkbchaa
/- UnitKinds, second part: which units are valid. -/
namespace Go.Proofs.Ythlmbnhelkbchaa
open Go.Ev
set_option maxRecDepth 100000
/-- One thing after another is asked; where one is not as it is to be, the answer is no. -/
def ch : List (Bool × Bool) → Option AV → Option AV
  | [], e => e
  | (c, true) :: l, e => bif c then ch l e else some (.bool false)
  | (c, false) :: l, e => bif c then some (.bool false) else ch l e
def allc : List (Bool × Bool) → Bool
  | [] => true
  | (c, true) :: l => c && allc l
  | (c, false) :: l => !c && allc l
theorem ch_eq (e : Bool) : ∀ l, ch l (some (.bool e)) = some (.bool (allc l && e))
  | [] => by simp [ch, allc]
  | (c, true) :: l => by cases c <;> simp [ch, allc, ch_eq e l]
  | (c, false) :: l => by cases c <;> simp [ch, allc, ch_eq e l]
theorem ch_none : ∀ l, allc l = false → ch l none = some (.bool false)
  | [], h => by simp [allc] at h
  | (c, true) :: l, h => by cases c <;> simp_all [ch, allc, ch_none l]
  | (c, false) :: l, h => by cases c <;> simp_all [ch, allc, ch_none l]
def unitV (k r : Int) (xs ys : List Int) : AV := .agg [int64 k, int64 r, ints xs, ints ys]
noncomputable abbrev run (S : Orc) (f : FuncId) (args : List AV) (h : Heap) : Option AV := evCall Try.prog S tb 100 AV (.fn f) (vwArgs Try.prog [] h (parsOf Try.prog f) args) (mkHeap [] 0) .off rv
theorem v29_1 (r : Int) (x0 : Int) (h : Heap) : run orc0 29 [unitV 1 r [x0] []] h = ch [(decide (r ≥ 1), true), (!decide (r ≤ 3), false), (decide (x0 ≥ 0), true), (!decide (x0 ≤ 199), false)] (some (.bool true)) := by kernel_rfl
theorem v13_1 (r : Int) (x0 : Int) (h : Heap) : run orc0 13 [unitV 1 r [x0] []] h = ch [(decide (r < 1), false), (decide (r > 3), false), (decide (x0 ≥ 0), true), (!decide (x0 ≤ 199), false)] (some (.bool (true))) := by kernel_rfl
theorem m29_1 (r : Int) (xs ys : List Int) (h : Heap) : run (stopAt 29 [6] orc0) 29 [unitV 1 r xs ys] h = ch [(decide (r ≥ 1), true), (!decide (r ≤ 3), false), (!((xs.length : Int) == 1), false), (!((ys.length : Int) == 0), false)] none := by kernel_rfl
theorem m13_1 (r : Int) (xs ys : List Int) (h : Heap) : run (stopAt 13 [4] orc0) 13 [unitV 1 r xs ys] h = ch [(decide (r < 1), false), (decide (r > 3), false), (!((xs.length : Int) == 1), false), (!((ys.length : Int) == 0), false)] none := by kernel_rfl
theorem valid_1 (r : Int) (xs ys : List Int) : ∃ v, F 29 [unitV 1 r xs ys] (.bool v) ∧ F 13 [unitV 1 r xs ys] (.bool v) := by
  by_cases hm : xs.length = 1 ∧ ys.length = 0
  · obtain ⟨hx, hy⟩ := hm
    rcases xs with _ | ⟨x0, _ | ⟨_, _⟩⟩ <;> simp at hx
    rcases ys with _ | ⟨_, _⟩ <;> simp at hy
    refine ⟨_, .of ok0 rfl fun h => (v29_1 r x0 h).trans (ch_eq _ _), .of ok0 rfl fun h => (v13_1 r x0 h).trans ((ch_eq _ _).trans ?_)⟩
    congr 2
    rw [Bool.eq_iff_iff]
    simp only [allc, Bool.and_true, Bool.and_eq_true, Bool.not_eq_true', decide_eq_false_iff_not, Bool.not_not, decide_eq_true_eq, Int.not_lt]
  · refine ⟨false, .of (stopAt_ok ok0) rfl fun h => (m29_1 r xs ys h).trans (ch_none _ ?_), .of (stopAt_ok ok0) rfl fun h => (m13_1 r xs ys h).trans (ch_none _ ?_)⟩ <;>
      (rw [← Bool.not_eq_true]
       simp only [allc, Bool.and_true, Bool.and_eq_true, Bool.not_eq_true', decide_eq_false_iff_not, Bool.not_not, decide_eq_true_eq, beq_iff_eq]
       omega)
theorem v29_2 (r : Int) (x0 x1 : Int) (h : Heap) : run orc0 29 [unitV 2 r [x0, x1] []] h = ch [(decide (r ≥ 1), true), (!decide (r ≤ 3), false), (decide (x0 ≥ 0), true), (!decide (x0 ≤ 199), false), (decide (x1 ≥ 0), true), (!decide (x1 ≤ 199), false)] (some (.bool true)) := by kernel_rfl
theorem v13_2 (r : Int) (x0 x1 : Int) (h : Heap) : run orc0 13 [unitV 2 r [x0, x1] []] h = ch [(decide (r < 1), false), (decide (r > 3), false), (decide (x0 ≥ 0), true), (!decide (x0 ≤ 199), false), (decide (x1 ≥ 0), true), (!decide (x1 ≤ 199), false)] (some (.bool (true))) := by kernel_rfl
theorem m29_2 (r : Int) (xs ys : List Int) (h : Heap) : run (stopAt 29 [6] orc0) 29 [unitV 2 r xs ys] h = ch [(decide (r ≥ 1), true), (!decide (r ≤ 3), false), (!((xs.length : Int) == 2), false), (!((ys.length : Int) == 0), false)] none := by kernel_rfl
theorem m13_2 (r : Int) (xs ys : List Int) (h : Heap) : run (stopAt 13 [4] orc0) 13 [unitV 2 r xs ys] h = ch [(decide (r < 1), false), (decide (r > 3), false), (!((xs.length : Int) == 2), false), (!((ys.length : Int) == 0), false)] none := by kernel_rfl
theorem valid_2 (r : Int) (xs ys : List Int) : ∃ v, F 29 [unitV 2 r xs ys] (.bool v) ∧ F 13 [unitV 2 r xs ys] (.bool v) := by
  by_cases hm : xs.length = 2 ∧ ys.length = 0
  · obtain ⟨hx, hy⟩ := hm
    rcases xs with _ | ⟨x0, _ | ⟨x1, _ | ⟨_, _⟩⟩⟩ <;> simp at hx
    rcases ys with _ | ⟨_, _⟩ <;> simp at hy
    refine ⟨_, .of ok0 rfl fun h => (v29_2 r x0 x1 h).trans (ch_eq _ _), .of ok0 rfl fun h => (v13_2 r x0 x1 h).trans ((ch_eq _ _).trans ?_)⟩
    congr 2
    rw [Bool.eq_iff_iff]
    simp only [allc, Bool.and_true, Bool.and_eq_true, Bool.not_eq_true', decide_eq_false_iff_not, Bool.not_not, decide_eq_true_eq, Int.not_lt]
  · refine ⟨false, .of (stopAt_ok ok0) rfl fun h => (m29_2 r xs ys h).trans (ch_none _ ?_), .of (stopAt_ok ok0) rfl fun h => (m13_2 r xs ys h).trans (ch_none _ ?_)⟩ <;>
      (rw [← Bool.not_eq_true]
       simp only [allc, Bool.and_true, Bool.and_eq_true, Bool.not_eq_true', decide_eq_false_iff_not, Bool.not_not, decide_eq_true_eq, beq_iff_eq]
       omega)
theorem v29_3 (r : Int) (x0 : Int) (h : Heap) : run orc0 29 [unitV 3 r [x0] []] h = ch [(decide (r ≥ 1), true), (!decide (r ≤ 3), false), (decide (x0 ≥ 0), true), (!decide (x0 ≤ 199), false)] (some (.bool true)) := by kernel_rfl
theorem v13_3 (r : Int) (x0 : Int) (h : Heap) : run orc0 13 [unitV 3 r [x0] []] h = ch [(decide (r < 1), false), (decide (r > 3), false), (decide (x0 ≥ 0), true), (!decide (x0 ≤ 199), false)] (some (.bool (true))) := by kernel_rfl
theorem m29_3 (r : Int) (xs ys : List Int) (h : Heap) : run (stopAt 29 [6] orc0) 29 [unitV 3 r xs ys] h = ch [(decide (r ≥ 1), true), (!decide (r ≤ 3), false), (!((xs.length : Int) == 1), false), (!((ys.length : Int) == 0), false)] none := by kernel_rfl
theorem m13_3 (r : Int) (xs ys : List Int) (h : Heap) : run (stopAt 13 [4] orc0) 13 [unitV 3 r xs ys] h = ch [(decide (r < 1), false), (decide (r > 3), false), (!((xs.length : Int) == 1), false), (!((ys.length : Int) == 0), false)] none := by kernel_rfl
theorem valid_3 (r : Int) (xs ys : List Int) : ∃ v, F 29 [unitV 3 r xs ys] (.bool v) ∧ F 13 [unitV 3 r xs ys] (.bool v) := by
  by_cases hm : xs.length = 1 ∧ ys.length = 0
  · obtain ⟨hx, hy⟩ := hm
    rcases xs with _ | ⟨x0, _ | ⟨_, _⟩⟩ <;> simp at hx
    rcases ys with _ | ⟨_, _⟩ <;> simp at hy
    refine ⟨_, .of ok0 rfl fun h => (v29_3 r x0 h).trans (ch_eq _ _), .of ok0 rfl fun h => (v13_3 r x0 h).trans ((ch_eq _ _).trans ?_)⟩
    congr 2
    rw [Bool.eq_iff_iff]
    simp only [allc, Bool.and_true, Bool.and_eq_true, Bool.not_eq_true', decide_eq_false_iff_not, Bool.not_not, decide_eq_true_eq, Int.not_lt]
  · refine ⟨false, .of (stopAt_ok ok0) rfl fun h => (m29_3 r xs ys h).trans (ch_none _ ?_), .of (stopAt_ok ok0) rfl fun h => (m13_3 r xs ys h).trans (ch_none _ ?_)⟩ <;>
      (rw [← Bool.not_eq_true]
       simp only [allc, Bool.and_true, Bool.and_eq_true, Bool.not_eq_true', decide_eq_false_iff_not, Bool.not_not, decide_eq_true_eq, beq_iff_eq]
       omega)
theorem v29_4 (r : Int) (y0 : Int) (h : Heap) : run orc0 29 [unitV 4 r [] [y0]] h = ch [(decide (r ≥ 1), true), (!decide (r ≤ 3), false), (decide (y0 ≥ (0)), true), (!decide (y0 ≤ (2147483647)), false)] (some (.bool true)) := by kernel_rfl
theorem v13_4 (r : Int) (y0 : Int) (h : Heap) : run orc0 13 [unitV 4 r [] [y0]] h = ch [(decide (r < 1), false), (decide (r > 3), false), (decide (y0 ≥ (0)), true)] (some (.bool (decide (y0 ≤ (2147483647))))) := by kernel_rfl
theorem m29_4 (r : Int) (xs ys : List Int) (h : Heap) : run (stopAt 29 [6] orc0) 29 [unitV 4 r xs ys] h = ch [(decide (r ≥ 1), true), (!decide (r ≤ 3), false), (!((xs.length : Int) == 0), false), (!((ys.length : Int) == 1), false)] none := by kernel_rfl
theorem m13_4 (r : Int) (xs ys : List Int) (h : Heap) : run (stopAt 13 [4] orc0) 13 [unitV 4 r xs ys] h = ch [(decide (r < 1), false), (decide (r > 3), false), (!((xs.length : Int) == 0), false), (!((ys.length : Int) == 1), false)] none := by kernel_rfl
theorem valid_4 (r : Int) (xs ys : List Int) : ∃ v, F 29 [unitV 4 r xs ys] (.bool v) ∧ F 13 [unitV 4 r xs ys] (.bool v) := by
  by_cases hm : xs.length = 0 ∧ ys.length = 1
  · obtain ⟨hx, hy⟩ := hm
    rcases xs with _ | ⟨_, _⟩ <;> simp at hx
    rcases ys with _ | ⟨y0, _ | ⟨_, _⟩⟩ <;> simp at hy
    refine ⟨_, .of ok0 rfl fun h => (v29_4 r y0 h).trans (ch_eq _ _), .of ok0 rfl fun h => (v13_4 r y0 h).trans ((ch_eq _ _).trans ?_)⟩
    congr 2
    rw [Bool.eq_iff_iff]
    simp only [allc, Bool.and_true, Bool.and_eq_true, Bool.not_eq_true', decide_eq_false_iff_not, Bool.not_not, decide_eq_true_eq, Int.not_lt]
    omega
  · refine ⟨false, .of (stopAt_ok ok0) rfl fun h => (m29_4 r xs ys h).trans (ch_none _ ?_), .of (stopAt_ok ok0) rfl fun h => (m13_4 r xs ys h).trans (ch_none _ ?_)⟩ <;>
      (rw [← Bool.not_eq_true]
       simp only [allc, Bool.and_true, Bool.and_eq_true, Bool.not_eq_true', decide_eq_false_iff_not, Bool.not_not, decide_eq_true_eq, beq_iff_eq]
       omega)
theorem v29_5 (r : Int) (y0 y1 y2 : Int) (h : Heap) : run orc0 29 [unitV 5 r [] [y0, y1, y2]] h = ch [(decide (r ≥ 1), true), (!decide (r ≤ 3), false), (decide (y0 ≥ (-1099511627776)), true), (!decide (y0 ≤ (1099511627776)), false), (decide (y1 ≥ (-1099511627776)), true), (!decide (y1 ≤ (1099511627776)), false), (decide (y2 ≥ (1)), true), (!decide (y2 ≤ (1000000000)), false)] (some (.bool true)) := by kernel_rfl
theorem v13_5 (r : Int) (y0 y1 y2 : Int) (h : Heap) : run orc0 13 [unitV 5 r [] [y0, y1, y2]] h = ch [(decide (r < 1), false), (decide (r > 3), false), (decide (y0 ≥ (-1099511627776)), true), (decide (y0 ≤ (1099511627776)), true), (decide (y1 ≥ (-1099511627776)), true), (decide (y1 ≤ (1099511627776)), true), (decide (y2 ≥ (1)), true)] (some (.bool (decide (y2 ≤ (1000000000))))) := by kernel_rfl
theorem m29_5 (r : Int) (xs ys : List Int) (h : Heap) : run (stopAt 29 [6] orc0) 29 [unitV 5 r xs ys] h = ch [(decide (r ≥ 1), true), (!decide (r ≤ 3), false), (!((xs.length : Int) == 0), false), (!((ys.length : Int) == 3), false)] none := by kernel_rfl
theorem m13_5 (r : Int) (xs ys : List Int) (h : Heap) : run (stopAt 13 [4] orc0) 13 [unitV 5 r xs ys] h = ch [(decide (r < 1), false), (decide (r > 3), false), (!((xs.length : Int) == 0), false), (!((ys.length : Int) == 3), false)] none := by kernel_rfl
theorem valid_5 (r : Int) (xs ys : List Int) : ∃ v, F 29 [unitV 5 r xs ys] (.bool v) ∧ F 13 [unitV 5 r xs ys] (.bool v) := by
  by_cases hm : xs.length = 0 ∧ ys.length = 3
  · obtain ⟨hx, hy⟩ := hm
    rcases xs with _ | ⟨_, _⟩ <;> simp at hx
    rcases ys with _ | ⟨y0, _ | ⟨y1, _ | ⟨y2, _ | ⟨_, _⟩⟩⟩⟩ <;> simp at hy
    refine ⟨_, .of ok0 rfl fun h => (v29_5 r y0 y1 y2 h).trans (ch_eq _ _), .of ok0 rfl fun h => (v13_5 r y0 y1 y2 h).trans ((ch_eq _ _).trans ?_)⟩
    congr 2
    rw [Bool.eq_iff_iff]
    simp only [allc, Bool.and_true, Bool.and_eq_true, Bool.not_eq_true', decide_eq_false_iff_not, Bool.not_not, decide_eq_true_eq, Int.not_lt]
    omega
  · refine ⟨false, .of (stopAt_ok ok0) rfl fun h => (m29_5 r xs ys h).trans (ch_none _ ?_), .of (stopAt_ok ok0) rfl fun h => (m13_5 r xs ys h).trans (ch_none _ ?_)⟩ <;>
      (rw [← Bool.not_eq_true]
       simp only [allc, Bool.and_true, Bool.and_eq_true, Bool.not_eq_true', decide_eq_false_iff_not, Bool.not_not, decide_eq_true_eq, beq_iff_eq]
       omega)
theorem v29_6 (r : Int) (x0 y0 y1 y2 y3 : Int) (h : Heap) : run orc0 29 [unitV 6 r [x0] [y0, y1, y2, y3]] h = ch [(decide (r ≥ 1), true), (!decide (r ≤ 3), false), (decide (y0 ≥ (1)), true), (!decide (y0 ≤ (1000000000)), false), (decide (y1 ≥ (1)), true), (!decide (y1 ≤ (1000000000)), false), (decide (y2 ≥ (0)), true), (!decide (y2 ≤ (65536)), false), (decide (y3 ≥ (1)), true), (!decide (y3 ≤ (1000000000)), false), (decide (x0 ≥ 0), true), (!decide (x0 ≤ 199), false)] (some (.bool true)) := by kernel_rfl
theorem v13_6 (r : Int) (x0 y0 y1 y2 y3 : Int) (h : Heap) : run orc0 13 [unitV 6 r [x0] [y0, y1, y2, y3]] h = ch [(decide (r < 1), false), (decide (r > 3), false), (decide (x0 ≥ 0), true), (!decide (x0 ≤ 199), false), (decide (y0 ≥ (1)), true), (decide (y0 ≤ (1000000000)), true), (decide (y1 ≥ (1)), true), (decide (y1 ≤ (1000000000)), true), (decide (y2 ≥ (0)), true), (decide (y2 ≤ (65536)), true), (decide (y3 ≥ (1)), true)] (some (.bool (decide (y3 ≤ (1000000000))))) := by kernel_rfl
theorem m29_6 (r : Int) (xs ys : List Int) (h : Heap) : run (stopAt 29 [6] orc0) 29 [unitV 6 r xs ys] h = ch [(decide (r ≥ 1), true), (!decide (r ≤ 3), false), (!((xs.length : Int) == 1), false), (!((ys.length : Int) == 4), false)] none := by kernel_rfl
theorem m13_6 (r : Int) (xs ys : List Int) (h : Heap) : run (stopAt 13 [4] orc0) 13 [unitV 6 r xs ys] h = ch [(decide (r < 1), false), (decide (r > 3), false), (!((xs.length : Int) == 1), false), (!((ys.length : Int) == 4), false)] none := by kernel_rfl
theorem valid_6 (r : Int) (xs ys : List Int) : ∃ v, F 29 [unitV 6 r xs ys] (.bool v) ∧ F 13 [unitV 6 r xs ys] (.bool v) := by
  by_cases hm : xs.length = 1 ∧ ys.length = 4
  · obtain ⟨hx, hy⟩ := hm
    rcases xs with _ | ⟨x0, _ | ⟨_, _⟩⟩ <;> simp at hx
    rcases ys with _ | ⟨y0, _ | ⟨y1, _ | ⟨y2, _ | ⟨y3, _ | ⟨_, _⟩⟩⟩⟩⟩ <;> simp at hy
    refine ⟨_, .of ok0 rfl fun h => (v29_6 r x0 y0 y1 y2 y3 h).trans (ch_eq _ _), .of ok0 rfl fun h => (v13_6 r x0 y0 y1 y2 y3 h).trans ((ch_eq _ _).trans ?_)⟩
    congr 2
    rw [Bool.eq_iff_iff]
    simp only [allc, Bool.and_true, Bool.and_eq_true, Bool.not_eq_true', decide_eq_false_iff_not, Bool.not_not, decide_eq_true_eq, Int.not_lt]
    omega
  · refine ⟨false, .of (stopAt_ok ok0) rfl fun h => (m29_6 r xs ys h).trans (ch_none _ ?_), .of (stopAt_ok ok0) rfl fun h => (m13_6 r xs ys h).trans (ch_none _ ?_)⟩ <;>
      (rw [← Bool.not_eq_true]
       simp only [allc, Bool.and_true, Bool.and_eq_true, Bool.not_eq_true', decide_eq_false_iff_not, Bool.not_not, decide_eq_true_eq, beq_iff_eq]
       omega)
theorem v29_7 (r : Int) (x0 x1 : Int) (h : Heap) : run orc0 29 [unitV 7 r [x0, x1] []] h = ch [(decide (r ≥ 1), true), (!decide (r ≤ 3), false), (decide (x0 ≥ 0), true), (!decide (x0 ≤ 199), false), (decide (x1 ≥ 0), true), (!decide (x1 ≤ 199), false)] (some (.bool true)) := by kernel_rfl
theorem v13_7 (r : Int) (x0 x1 : Int) (h : Heap) : run orc0 13 [unitV 7 r [x0, x1] []] h = ch [(decide (r < 1), false), (decide (r > 3), false), (decide (x0 ≥ 0), true), (!decide (x0 ≤ 199), false), (decide (x1 ≥ 0), true), (!decide (x1 ≤ 199), false)] (some (.bool (true))) := by kernel_rfl
theorem m29_7 (r : Int) (xs ys : List Int) (h : Heap) : run (stopAt 29 [6] orc0) 29 [unitV 7 r xs ys] h = ch [(decide (r ≥ 1), true), (!decide (r ≤ 3), false), (!((xs.length : Int) == 2), false), (!((ys.length : Int) == 0), false)] none := by kernel_rfl
theorem m13_7 (r : Int) (xs ys : List Int) (h : Heap) : run (stopAt 13 [4] orc0) 13 [unitV 7 r xs ys] h = ch [(decide (r < 1), false), (decide (r > 3), false), (!((xs.length : Int) == 2), false), (!((ys.length : Int) == 0), false)] none := by kernel_rfl
theorem valid_7 (r : Int) (xs ys : List Int) : ∃ v, F 29 [unitV 7 r xs ys] (.bool v) ∧ F 13 [unitV 7 r xs ys] (.bool v) := by
  by_cases hm : xs.length = 2 ∧ ys.length = 0
  · obtain ⟨hx, hy⟩ := hm
    rcases xs with _ | ⟨x0, _ | ⟨x1, _ | ⟨_, _⟩⟩⟩ <;> simp at hx
    rcases ys with _ | ⟨_, _⟩ <;> simp at hy
    refine ⟨_, .of ok0 rfl fun h => (v29_7 r x0 x1 h).trans (ch_eq _ _), .of ok0 rfl fun h => (v13_7 r x0 x1 h).trans ((ch_eq _ _).trans ?_)⟩
    congr 2
    rw [Bool.eq_iff_iff]
    simp only [allc, Bool.and_true, Bool.and_eq_true, Bool.not_eq_true', decide_eq_false_iff_not, Bool.not_not, decide_eq_true_eq, Int.not_lt]
  · refine ⟨false, .of (stopAt_ok ok0) rfl fun h => (m29_7 r xs ys h).trans (ch_none _ ?_), .of (stopAt_ok ok0) rfl fun h => (m13_7 r xs ys h).trans (ch_none _ ?_)⟩ <;>
      (rw [← Bool.not_eq_true]
       simp only [allc, Bool.and_true, Bool.and_eq_true, Bool.not_eq_true', decide_eq_false_iff_not, Bool.not_not, decide_eq_true_eq, beq_iff_eq]
       omega)
theorem v29_8 (r : Int) (x0 x1 : Int) (h : Heap) : run orc0 29 [unitV 8 r [x0, x1] []] h = ch [(decide (r ≥ 1), true), (!decide (r ≤ 3), false), (decide (x0 ≥ 0), true), (!decide (x0 ≤ 199), false), (decide (x1 ≥ 0), true), (!decide (x1 ≤ 199), false)] (some (.bool true)) := by kernel_rfl
theorem v13_8 (r : Int) (x0 x1 : Int) (h : Heap) : run orc0 13 [unitV 8 r [x0, x1] []] h = ch [(decide (r < 1), false), (decide (r > 3), false), (decide (x0 ≥ 0), true), (!decide (x0 ≤ 199), false), (decide (x1 ≥ 0), true), (!decide (x1 ≤ 199), false)] (some (.bool (true))) := by kernel_rfl
theorem m29_8 (r : Int) (xs ys : List Int) (h : Heap) : run (stopAt 29 [6] orc0) 29 [unitV 8 r xs ys] h = ch [(decide (r ≥ 1), true), (!decide (r ≤ 3), false), (!((xs.length : Int) == 2), false), (!((ys.length : Int) == 0), false)] none := by kernel_rfl
theorem m13_8 (r : Int) (xs ys : List Int) (h : Heap) : run (stopAt 13 [4] orc0) 13 [unitV 8 r xs ys] h = ch [(decide (r < 1), false), (decide (r > 3), false), (!((xs.length : Int) == 2), false), (!((ys.length : Int) == 0), false)] none := by kernel_rfl
theorem valid_8 (r : Int) (xs ys : List Int) : ∃ v, F 29 [unitV 8 r xs ys] (.bool v) ∧ F 13 [unitV 8 r xs ys] (.bool v) := by
  by_cases hm : xs.length = 2 ∧ ys.length = 0
  · obtain ⟨hx, hy⟩ := hm
    rcases xs with _ | ⟨x0, _ | ⟨x1, _ | ⟨_, _⟩⟩⟩ <;> simp at hx
    rcases ys with _ | ⟨_, _⟩ <;> simp at hy
    refine ⟨_, .of ok0 rfl fun h => (v29_8 r x0 x1 h).trans (ch_eq _ _), .of ok0 rfl fun h => (v13_8 r x0 x1 h).trans ((ch_eq _ _).trans ?_)⟩
    congr 2
    rw [Bool.eq_iff_iff]
    simp only [allc, Bool.and_true, Bool.and_eq_true, Bool.not_eq_true', decide_eq_false_iff_not, Bool.not_not, decide_eq_true_eq, Int.not_lt]
  · refine ⟨false, .of (stopAt_ok ok0) rfl fun h => (m29_8 r xs ys h).trans (ch_none _ ?_), .of (stopAt_ok ok0) rfl fun h => (m13_8 r xs ys h).trans (ch_none _ ?_)⟩ <;>
      (rw [← Bool.not_eq_true]
       simp only [allc, Bool.and_true, Bool.and_eq_true, Bool.not_eq_true', decide_eq_false_iff_not, Bool.not_not, decide_eq_true_eq, beq_iff_eq]
       omega)
theorem v29_9 (r : Int) (x0 x1 : Int) (h : Heap) : run orc0 29 [unitV 9 r [x0, x1] []] h = ch [(decide (r ≥ 1), true), (!decide (r ≤ 3), false), (decide (x0 ≥ 0), true), (!decide (x0 ≤ 199), false), (decide (x1 ≥ 0), true), (!decide (x1 ≤ 199), false)] (some (.bool true)) := by kernel_rfl
theorem v13_9 (r : Int) (x0 x1 : Int) (h : Heap) : run orc0 13 [unitV 9 r [x0, x1] []] h = ch [(decide (r < 1), false), (decide (r > 3), false), (decide (x0 ≥ 0), true), (!decide (x0 ≤ 199), false), (decide (x1 ≥ 0), true), (!decide (x1 ≤ 199), false)] (some (.bool (true))) := by kernel_rfl
theorem m29_9 (r : Int) (xs ys : List Int) (h : Heap) : run (stopAt 29 [6] orc0) 29 [unitV 9 r xs ys] h = ch [(decide (r ≥ 1), true), (!decide (r ≤ 3), false), (!((xs.length : Int) == 2), false), (!((ys.length : Int) == 0), false)] none := by kernel_rfl
theorem m13_9 (r : Int) (xs ys : List Int) (h : Heap) : run (stopAt 13 [4] orc0) 13 [unitV 9 r xs ys] h = ch [(decide (r < 1), false), (decide (r > 3), false), (!((xs.length : Int) == 2), false), (!((ys.length : Int) == 0), false)] none := by kernel_rfl
theorem valid_9 (r : Int) (xs ys : List Int) : ∃ v, F 29 [unitV 9 r xs ys] (.bool v) ∧ F 13 [unitV 9 r xs ys] (.bool v) := by
  by_cases hm : xs.length = 2 ∧ ys.length = 0
  · obtain ⟨hx, hy⟩ := hm
    rcases xs with _ | ⟨x0, _ | ⟨x1, _ | ⟨_, _⟩⟩⟩ <;> simp at hx
    rcases ys with _ | ⟨_, _⟩ <;> simp at hy
    refine ⟨_, .of ok0 rfl fun h => (v29_9 r x0 x1 h).trans (ch_eq _ _), .of ok0 rfl fun h => (v13_9 r x0 x1 h).trans ((ch_eq _ _).trans ?_)⟩
    congr 2
    rw [Bool.eq_iff_iff]
    simp only [allc, Bool.and_true, Bool.and_eq_true, Bool.not_eq_true', decide_eq_false_iff_not, Bool.not_not, decide_eq_true_eq, Int.not_lt]
  · refine ⟨false, .of (stopAt_ok ok0) rfl fun h => (m29_9 r xs ys h).trans (ch_none _ ?_), .of (stopAt_ok ok0) rfl fun h => (m13_9 r xs ys h).trans (ch_none _ ?_)⟩ <;>
      (rw [← Bool.not_eq_true]
       simp only [allc, Bool.and_true, Bool.and_eq_true, Bool.not_eq_true', decide_eq_false_iff_not, Bool.not_not, decide_eq_true_eq, beq_iff_eq]
       omega)
theorem v29_10 (r : Int) (x0 x1 : Int) (h : Heap) : run orc0 29 [unitV 10 r [x0, x1] []] h = ch [(decide (r ≥ 1), true), (!decide (r ≤ 3), false), (decide (x0 ≥ 0), true), (!decide (x0 ≤ 199), false), (decide (x1 ≥ 0), true), (!decide (x1 ≤ 199), false)] (some (.bool true)) := by kernel_rfl
theorem v13_10 (r : Int) (x0 x1 : Int) (h : Heap) : run orc0 13 [unitV 10 r [x0, x1] []] h = ch [(decide (r < 1), false), (decide (r > 3), false), (decide (x0 ≥ 0), true), (!decide (x0 ≤ 199), false), (decide (x1 ≥ 0), true), (!decide (x1 ≤ 199), false)] (some (.bool (true))) := by kernel_rfl
theorem m29_10 (r : Int) (xs ys : List Int) (h : Heap) : run (stopAt 29 [6] orc0) 29 [unitV 10 r xs ys] h = ch [(decide (r ≥ 1), true), (!decide (r ≤ 3), false), (!((xs.length : Int) == 2), false), (!((ys.length : Int) == 0), false)] none := by kernel_rfl
theorem m13_10 (r : Int) (xs ys : List Int) (h : Heap) : run (stopAt 13 [4] orc0) 13 [unitV 10 r xs ys] h = ch [(decide (r < 1), false), (decide (r > 3), false), (!((xs.length : Int) == 2), false), (!((ys.length : Int) == 0), false)] none := by kernel_rfl
theorem valid_10 (r : Int) (xs ys : List Int) : ∃ v, F 29 [unitV 10 r xs ys] (.bool v) ∧ F 13 [unitV 10 r xs ys] (.bool v) := by
  by_cases hm : xs.length = 2 ∧ ys.length = 0
  · obtain ⟨hx, hy⟩ := hm
    rcases xs with _ | ⟨x0, _ | ⟨x1, _ | ⟨_, _⟩⟩⟩ <;> simp at hx
    rcases ys with _ | ⟨_, _⟩ <;> simp at hy
    refine ⟨_, .of ok0 rfl fun h => (v29_10 r x0 x1 h).trans (ch_eq _ _), .of ok0 rfl fun h => (v13_10 r x0 x1 h).trans ((ch_eq _ _).trans ?_)⟩
    congr 2
    rw [Bool.eq_iff_iff]
    simp only [allc, Bool.and_true, Bool.and_eq_true, Bool.not_eq_true', decide_eq_false_iff_not, Bool.not_not, decide_eq_true_eq, Int.not_lt]
  · refine ⟨false, .of (stopAt_ok ok0) rfl fun h => (m29_10 r xs ys h).trans (ch_none _ ?_), .of (stopAt_ok ok0) rfl fun h => (m13_10 r xs ys h).trans (ch_none _ ?_)⟩ <;>
      (rw [← Bool.not_eq_true]
       simp only [allc, Bool.and_true, Bool.and_eq_true, Bool.not_eq_true', decide_eq_false_iff_not, Bool.not_not, decide_eq_true_eq, beq_iff_eq]
       omega)
theorem v29_11 (r : Int) (x0 y0 : Int) (h : Heap) : run orc0 29 [unitV 11 r [x0] [y0]] h = ch [(decide (r ≥ 1), true), (!decide (r ≤ 3), false), (decide (y0 ≥ (1)), true), (!decide (y0 ≤ (2000)), false), (decide (x0 ≥ 0), true), (!decide (x0 ≤ 199), false)] (some (.bool true)) := by kernel_rfl
theorem v13_11 (r : Int) (x0 y0 : Int) (h : Heap) : run orc0 13 [unitV 11 r [x0] [y0]] h = ch [(decide (r < 1), false), (decide (r > 3), false), (decide (x0 ≥ 0), true), (!decide (x0 ≤ 199), false), (decide (y0 ≥ (1)), true)] (some (.bool (decide (y0 ≤ (2000))))) := by kernel_rfl
theorem m29_11 (r : Int) (xs ys : List Int) (h : Heap) : run (stopAt 29 [6] orc0) 29 [unitV 11 r xs ys] h = ch [(decide (r ≥ 1), true), (!decide (r ≤ 3), false), (!((xs.length : Int) == 1), false), (!((ys.length : Int) == 1), false)] none := by kernel_rfl
theorem m13_11 (r : Int) (xs ys : List Int) (h : Heap) : run (stopAt 13 [4] orc0) 13 [unitV 11 r xs ys] h = ch [(decide (r < 1), false), (decide (r > 3), false), (!((xs.length : Int) == 1), false), (!((ys.length : Int) == 1), false)] none := by kernel_rfl
theorem valid_11 (r : Int) (xs ys : List Int) : ∃ v, F 29 [unitV 11 r xs ys] (.bool v) ∧ F 13 [unitV 11 r xs ys] (.bool v) := by
  by_cases hm : xs.length = 1 ∧ ys.length = 1
  · obtain ⟨hx, hy⟩ := hm
    rcases xs with _ | ⟨x0, _ | ⟨_, _⟩⟩ <;> simp at hx
    rcases ys with _ | ⟨y0, _ | ⟨_, _⟩⟩ <;> simp at hy
    refine ⟨_, .of ok0 rfl fun h => (v29_11 r x0 y0 h).trans (ch_eq _ _), .of ok0 rfl fun h => (v13_11 r x0 y0 h).trans ((ch_eq _ _).trans ?_)⟩
    congr 2
    rw [Bool.eq_iff_iff]
    simp only [allc, Bool.and_true, Bool.and_eq_true, Bool.not_eq_true', decide_eq_false_iff_not, Bool.not_not, decide_eq_true_eq, Int.not_lt]
    omega
  · refine ⟨false, .of (stopAt_ok ok0) rfl fun h => (m29_11 r xs ys h).trans (ch_none _ ?_), .of (stopAt_ok ok0) rfl fun h => (m13_11 r xs ys h).trans (ch_none _ ?_)⟩ <;>
      (rw [← Bool.not_eq_true]
       simp only [allc, Bool.and_true, Bool.and_eq_true, Bool.not_eq_true', decide_eq_false_iff_not, Bool.not_not, decide_eq_true_eq, beq_iff_eq]
       omega)
theorem v29_12 (r : Int) (y0 : Int) (h : Heap) : run orc0 29 [unitV 12 r [] [y0]] h = ch [(decide (r ≥ 1), true), (!decide (r ≤ 3), false), (decide (y0 ≥ (0)), true), (!decide (y0 ≤ (15)), false)] (some (.bool true)) := by kernel_rfl
theorem v13_12 (r : Int) (y0 : Int) (h : Heap) : run orc0 13 [unitV 12 r [] [y0]] h = ch [(decide (r < 1), false), (decide (r > 3), false), (decide (y0 ≥ (0)), true)] (some (.bool (decide (y0 ≤ (15))))) := by kernel_rfl
theorem m29_12 (r : Int) (xs ys : List Int) (h : Heap) : run (stopAt 29 [6] orc0) 29 [unitV 12 r xs ys] h = ch [(decide (r ≥ 1), true), (!decide (r ≤ 3), false), (!((xs.length : Int) == 0), false), (!((ys.length : Int) == 1), false)] none := by kernel_rfl
theorem m13_12 (r : Int) (xs ys : List Int) (h : Heap) : run (stopAt 13 [4] orc0) 13 [unitV 12 r xs ys] h = ch [(decide (r < 1), false), (decide (r > 3), false), (!((xs.length : Int) == 0), false), (!((ys.length : Int) == 1), false)] none := by kernel_rfl
theorem valid_12 (r : Int) (xs ys : List Int) : ∃ v, F 29 [unitV 12 r xs ys] (.bool v) ∧ F 13 [unitV 12 r xs ys] (.bool v) := by
  by_cases hm : xs.length = 0 ∧ ys.length = 1
  · obtain ⟨hx, hy⟩ := hm
    rcases xs with _ | ⟨_, _⟩ <;> simp at hx
    rcases ys with _ | ⟨y0, _ | ⟨_, _⟩⟩ <;> simp at hy
    refine ⟨_, .of ok0 rfl fun h => (v29_12 r y0 h).trans (ch_eq _ _), .of ok0 rfl fun h => (v13_12 r y0 h).trans ((ch_eq _ _).trans ?_)⟩
    congr 2
    rw [Bool.eq_iff_iff]
    simp only [allc, Bool.and_true, Bool.and_eq_true, Bool.not_eq_true', decide_eq_false_iff_not, Bool.not_not, decide_eq_true_eq, Int.not_lt]
    omega
  · refine ⟨false, .of (stopAt_ok ok0) rfl fun h => (m29_12 r xs ys h).trans (ch_none _ ?_), .of (stopAt_ok ok0) rfl fun h => (m13_12 r xs ys h).trans (ch_none _ ?_)⟩ <;>
      (rw [← Bool.not_eq_true]
       simp only [allc, Bool.and_true, Bool.and_eq_true, Bool.not_eq_true', decide_eq_false_iff_not, Bool.not_not, decide_eq_true_eq, beq_iff_eq]
       omega)
theorem v29_13 (r : Int) (x0 y0 : Int) (h : Heap) : run orc0 29 [unitV 13 r [x0] [y0]] h = ch [(decide (r ≥ 1), true), (!decide (r ≤ 3), false), (decide (y0 ≥ (0)), true), (!decide (y0 ≤ (15)), false), (decide (x0 ≥ 0), true), (!decide (x0 ≤ 199), false)] (some (.bool true)) := by kernel_rfl
theorem v13_13 (r : Int) (x0 y0 : Int) (h : Heap) : run orc0 13 [unitV 13 r [x0] [y0]] h = ch [(decide (r < 1), false), (decide (r > 3), false), (decide (x0 ≥ 0), true), (!decide (x0 ≤ 199), false), (decide (y0 ≥ (0)), true)] (some (.bool (decide (y0 ≤ (15))))) := by kernel_rfl
theorem m29_13 (r : Int) (xs ys : List Int) (h : Heap) : run (stopAt 29 [6] orc0) 29 [unitV 13 r xs ys] h = ch [(decide (r ≥ 1), true), (!decide (r ≤ 3), false), (!((xs.length : Int) == 1), false), (!((ys.length : Int) == 1), false)] none := by kernel_rfl
theorem m13_13 (r : Int) (xs ys : List Int) (h : Heap) : run (stopAt 13 [4] orc0) 13 [unitV 13 r xs ys] h = ch [(decide (r < 1), false), (decide (r > 3), false), (!((xs.length : Int) == 1), false), (!((ys.length : Int) == 1), false)] none := by kernel_rfl
theorem valid_13 (r : Int) (xs ys : List Int) : ∃ v, F 29 [unitV 13 r xs ys] (.bool v) ∧ F 13 [unitV 13 r xs ys] (.bool v) := by
  by_cases hm : xs.length = 1 ∧ ys.length = 1
  · obtain ⟨hx, hy⟩ := hm
    rcases xs with _ | ⟨x0, _ | ⟨_, _⟩⟩ <;> simp at hx
    rcases ys with _ | ⟨y0, _ | ⟨_, _⟩⟩ <;> simp at hy
    refine ⟨_, .of ok0 rfl fun h => (v29_13 r x0 y0 h).trans (ch_eq _ _), .of ok0 rfl fun h => (v13_13 r x0 y0 h).trans ((ch_eq _ _).trans ?_)⟩
    congr 2
    rw [Bool.eq_iff_iff]
    simp only [allc, Bool.and_true, Bool.and_eq_true, Bool.not_eq_true', decide_eq_false_iff_not, Bool.not_not, decide_eq_true_eq, Int.not_lt]
    omega
  · refine ⟨false, .of (stopAt_ok ok0) rfl fun h => (m29_13 r xs ys h).trans (ch_none _ ?_), .of (stopAt_ok ok0) rfl fun h => (m13_13 r xs ys h).trans (ch_none _ ?_)⟩ <;>
      (rw [← Bool.not_eq_true]
       simp only [allc, Bool.and_true, Bool.and_eq_true, Bool.not_eq_true', decide_eq_false_iff_not, Bool.not_not, decide_eq_true_eq, beq_iff_eq]
       omega)
theorem v29_14 (r : Int) (y0 : Int) (h : Heap) : run orc0 29 [unitV 14 r [] [y0]] h = ch [(decide (r ≥ 1), true), (!decide (r ≤ 3), false), (decide (y0 ≥ (0)), true), (!decide (y0 ≤ (19)), false)] (some (.bool true)) := by kernel_rfl
theorem v13_14 (r : Int) (y0 : Int) (h : Heap) : run orc0 13 [unitV 14 r [] [y0]] h = ch [(decide (r < 1), false), (decide (r > 3), false), (decide (y0 ≥ (0)), true)] (some (.bool (decide (y0 ≤ (19))))) := by kernel_rfl
theorem m29_14 (r : Int) (xs ys : List Int) (h : Heap) : run (stopAt 29 [6] orc0) 29 [unitV 14 r xs ys] h = ch [(decide (r ≥ 1), true), (!decide (r ≤ 3), false), (!((xs.length : Int) == 0), false), (!((ys.length : Int) == 1), false)] none := by kernel_rfl
theorem m13_14 (r : Int) (xs ys : List Int) (h : Heap) : run (stopAt 13 [4] orc0) 13 [unitV 14 r xs ys] h = ch [(decide (r < 1), false), (decide (r > 3), false), (!((xs.length : Int) == 0), false), (!((ys.length : Int) == 1), false)] none := by kernel_rfl
theorem valid_14 (r : Int) (xs ys : List Int) : ∃ v, F 29 [unitV 14 r xs ys] (.bool v) ∧ F 13 [unitV 14 r xs ys] (.bool v) := by
  by_cases hm : xs.length = 0 ∧ ys.length = 1
  · obtain ⟨hx, hy⟩ := hm
    rcases xs with _ | ⟨_, _⟩ <;> simp at hx
    rcases ys with _ | ⟨y0, _ | ⟨_, _⟩⟩ <;> simp at hy
    refine ⟨_, .of ok0 rfl fun h => (v29_14 r y0 h).trans (ch_eq _ _), .of ok0 rfl fun h => (v13_14 r y0 h).trans ((ch_eq _ _).trans ?_)⟩
    congr 2
    rw [Bool.eq_iff_iff]
    simp only [allc, Bool.and_true, Bool.and_eq_true, Bool.not_eq_true', decide_eq_false_iff_not, Bool.not_not, decide_eq_true_eq, Int.not_lt]
    omega
  · refine ⟨false, .of (stopAt_ok ok0) rfl fun h => (m29_14 r xs ys h).trans (ch_none _ ?_), .of (stopAt_ok ok0) rfl fun h => (m13_14 r xs ys h).trans (ch_none _ ?_)⟩ <;>
      (rw [← Bool.not_eq_true]
       simp only [allc, Bool.and_true, Bool.and_eq_true, Bool.not_eq_true', decide_eq_false_iff_not, Bool.not_not, decide_eq_true_eq, beq_iff_eq]
       omega)
theorem v29_15 (r : Int) (y0 : Int) (h : Heap) : run orc0 29 [unitV 15 r [] [y0]] h = ch [(decide (r ≥ 1), true), (!decide (r ≤ 3), false), (decide (y0 ≥ (-1099511627776)), true), (!decide (y0 ≤ (1099511627776)), false)] (some (.bool true)) := by kernel_rfl
theorem v13_15 (r : Int) (y0 : Int) (h : Heap) : run orc0 13 [unitV 15 r [] [y0]] h = ch [(decide (r < 1), false), (decide (r > 3), false), (decide (y0 ≥ (-1099511627776)), true)] (some (.bool (decide (y0 ≤ (1099511627776))))) := by kernel_rfl
theorem m29_15 (r : Int) (xs ys : List Int) (h : Heap) : run (stopAt 29 [6] orc0) 29 [unitV 15 r xs ys] h = ch [(decide (r ≥ 1), true), (!decide (r ≤ 3), false), (!((xs.length : Int) == 0), false), (!((ys.length : Int) == 1), false)] none := by kernel_rfl
theorem m13_15 (r : Int) (xs ys : List Int) (h : Heap) : run (stopAt 13 [4] orc0) 13 [unitV 15 r xs ys] h = ch [(decide (r < 1), false), (decide (r > 3), false), (!((xs.length : Int) == 0), false), (!((ys.length : Int) == 1), false)] none := by kernel_rfl
theorem valid_15 (r : Int) (xs ys : List Int) : ∃ v, F 29 [unitV 15 r xs ys] (.bool v) ∧ F 13 [unitV 15 r xs ys] (.bool v) := by
  by_cases hm : xs.length = 0 ∧ ys.length = 1
  · obtain ⟨hx, hy⟩ := hm
    rcases xs with _ | ⟨_, _⟩ <;> simp at hx
    rcases ys with _ | ⟨y0, _ | ⟨_, _⟩⟩ <;> simp at hy
    refine ⟨_, .of ok0 rfl fun h => (v29_15 r y0 h).trans (ch_eq _ _), .of ok0 rfl fun h => (v13_15 r y0 h).trans ((ch_eq _ _).trans ?_)⟩
    congr 2
    rw [Bool.eq_iff_iff]
    simp only [allc, Bool.and_true, Bool.and_eq_true, Bool.not_eq_true', decide_eq_false_iff_not, Bool.not_not, decide_eq_true_eq, Int.not_lt]
    omega
  · refine ⟨false, .of (stopAt_ok ok0) rfl fun h => (m29_15 r xs ys h).trans (ch_none _ ?_), .of (stopAt_ok ok0) rfl fun h => (m13_15 r xs ys h).trans (ch_none _ ?_)⟩ <;>
      (rw [← Bool.not_eq_true]
       simp only [allc, Bool.and_true, Bool.and_eq_true, Bool.not_eq_true', decide_eq_false_iff_not, Bool.not_not, decide_eq_true_eq, beq_iff_eq]
       omega)
theorem o29_run (k r : Int) (xs ys : List Int) (h : Heap) : run (outO k) 29 [unitV k r xs ys] h = bif same [int64 k] [int64 k] then some (.bool false) else none := by kernel_rfl
noncomputable def insO (k : Int) : Orc := know 26 [int64 k] (.tup [int64 0, int64 0, int64 10]) orc0
theorem o13_run (k r : Int) (xs ys : List Int) (h : Heap) : run (insO k) 13 [unitV k r xs ys] h = bif same [int64 k] [int64 k] then some (.bool false) else none := by kernel_rfl
theorem valid_facts (k r : Int) (xs ys : List Int) : ∃ v, F 29 [unitV k r xs ys] (.bool v) ∧ F 13 [unitV k r xs ys] (.bool v) := by
  by_cases ho : Out k
  · exact ⟨false, .of (outO_ok ho) rfl fun h => by have := o29_run k r xs ys h; rw [same_self] at this; exact this, .of (know_ok tbOk (ins26_out ho) ok0) rfl fun h => by have := o13_run k r xs ys h; rw [same_self] at this; exact this⟩
  · have : k = 1 ∨ k = 2 ∨ k = 3 ∨ k = 4 ∨ k = 5 ∨ k = 6 ∨ k = 7 ∨ k = 8 ∨ k = 9 ∨ k = 10 ∨ k = 11 ∨ k = 12 ∨ k = 13 ∨ k = 14 ∨ k = 15 := by
      unfold Out at ho
      omega
    rcases this with rfl | rfl | rfl | rfl | rfl | rfl | rfl | rfl | rfl | rfl | rfl | rfl | rfl | rfl | rfl
    · exact valid_1 r xs ys
    · exact valid_2 r xs ys
    · exact valid_3 r xs ys
    · exact valid_4 r xs ys
    · exact valid_5 r xs ys
    · exact valid_6 r xs ys
    · exact valid_7 r xs ys
    · exact valid_8 r xs ys
    · exact valid_9 r xs ys
    · exact valid_10 r xs ys
    · exact valid_11 r xs ys
    · exact valid_12 r xs ys
    · exact valid_13 r xs ys
    · exact valid_14 r xs ys
    · exact valid_15 r xs ys
end Go.Proofs.Ythlmbnhelkbchaa
