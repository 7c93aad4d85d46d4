/- The program's product is the document's, brought to its bounds. -/
import Derived.Test.YthlmbnhelkbchaaUqB
namespace Go.Proofs.Ythlmbnhelkbchaa
open Go.Ev
set_option maxRecDepth 100000
theorem tdiv65 (a : Int) : a.tdiv 65536 = if a < 0 then -((-a) / 65536) else a / 65536 := by
  by_cases h : a < 0
  · rw [if_pos h]
    have := Int.neg_tdiv (a := -a) (b := 65536)
    rw [Int.neg_neg] at this
    rw [this, Int.tdiv_eq_ediv_of_nonneg (by omega)]
  · rw [if_neg h, Int.tdiv_eq_ediv_of_nonneg (by omega)]
theorem tmod65 (a : Int) : a.tmod 65536 = if a < 0 then -((-a) % 65536) else a % 65536 := by
  by_cases h : a < 0
  · rw [if_pos h]
    have := Int.neg_tmod (a := -a) (b := 65536)
    rw [Int.neg_neg] at this
    rw [this, Int.tmod_eq_emod_of_nonneg (by omega)]
  · rw [if_neg h, Int.tmod_eq_emod_of_nonneg (by omega)]
theorem abs_mul (a b : Int) : absI a * absI b = if a * b < 0 then -(a * b) else a * b := by
  unfold absI
  by_cases ha : a < 0 <;> by_cases hb : b < 0
  · rw [if_pos ha, if_pos hb, Int.neg_mul_neg]
    have := Int.mul_nonneg (show 0 ≤ -a by omega) (show 0 ≤ -b by omega)
    rw [Int.neg_mul_neg] at this
    rw [if_neg (by omega)]
  · rw [if_pos ha, if_neg hb, Int.neg_mul]
    have := Int.mul_nonneg (show 0 ≤ -a by omega) (show 0 ≤ b by omega)
    rw [Int.neg_mul] at this
    split <;> omega
  · rw [if_neg ha, if_pos hb, Int.mul_neg]
    have := Int.mul_nonneg (show 0 ≤ a by omega) (show 0 ≤ -b by omega)
    rw [Int.mul_neg] at this
    split <;> omega
  · rw [if_neg ha, if_neg hb]
    have := Int.mul_nonneg (show 0 ≤ a by omega) (show 0 ≤ b by omega)
    rw [if_neg (by omega)]
/-- A number rounded by One, of two the one further from 0. -/
def RI (p : Int) : Int := if p < 0 then -((-p + 32768) / 65536) else (p + 32768) / 65536
theorem kMl_cases (n : Int) : kMl n = if n < -1099511627776 then -1099511627776 else if n > 1099511627776 then 1099511627776 else n := by
  unfold kMl kept maxI minI
  split <;> split <;> split <;> omega
theorem num_prodN (a b : Int) : num (prodN a b) = kMl (RI (a * b)) := by
  rw [num_eq, kMl_cases, kMl_cases]
  have hq : qI a b = if a * b < 0 then (-(a * b) + 32768) / 65536 else (a * b + 32768) / 65536 := by
    unfold qI
    rw [abs_mul]
    split <;> rfl
  have hs : prodN a b = if a * b < 0 then -(min (qI a b) 4611686018427387904) else min (qI a b) 4611686018427387904 := by
    unfold prodN
    by_cases ha : a < 0 <;> by_cases hb : b < 0
    · have := Int.mul_nonneg (show 0 ≤ -a by omega) (show 0 ≤ -b by omega)
      rw [Int.neg_mul_neg] at this
      rw [if_neg (by omega), if_neg (by omega)]
    · rw [if_pos (.inl ⟨ha, hb⟩)]
      have := Int.mul_nonneg (show 0 ≤ -a by omega) (show 0 ≤ b by omega)
      rw [Int.neg_mul] at this
      by_cases hz : a * b < 0
      · rw [if_pos hz]
      · rw [if_neg hz]
        have : a * b = 0 := by omega
        rw [hq, this]
        decide
    · rw [if_pos (.inr ⟨ha, hb⟩)]
      have := Int.mul_nonneg (show 0 ≤ a by omega) (show 0 ≤ -b by omega)
      rw [Int.mul_neg] at this
      by_cases hz : a * b < 0
      · rw [if_pos hz]
      · rw [if_neg hz]
        have : a * b = 0 := by omega
        rw [hq, this]
        decide
    · have := Int.mul_nonneg (show 0 ≤ a by omega) (show 0 ≤ b by omega)
      rw [if_neg (by omega), if_neg (by omega)]
  rw [hs, hq]
  unfold RI
  generalize a * b = p
  by_cases hp : p < 0
  · simp only [if_pos hp]
    omega
  · simp only [if_neg hp]
    omega
theorem fin_eq {w r p : Int} (w0 : -4611686018427387904 ≤ w) (w1 : w ≤ 4611686018427387904) (r0 : -65536 < r) (r1 : r < 65536) (hp : p = 65536 * w + r) (h1 : 0 < w → 0 ≤ r) (h2 : w < 0 → r ≤ 0) : fin2I w r = kMl (RI p) := by
  unfold fin2I
  rw [round1_eq (by omega) (by omega)]
  have e : w64 (w + if r < 0 then -((-r + 32768) / 65536) else (r + 32768) / 65536) = RI p := by
    unfold w64 RI
    rw [IntKind.wrap_i64]
    split <;> split <;> omega
  rw [e]
  rfl
theorem rest_eq {w r p : Int} (w0 : -4398046511104 ≤ w) (w1 : w ≤ 4398046511104) (r0 : -65536 < r) (r1 : r < 65536) (hp : p = 65536 * w + r) : rest1I w r = kMl (RI p) := by
  have f : ∀ w r : Int, -4611686018427387904 < w → w < 4611686018427387904 → -65536 < r → r < 65536 → p = 65536 * w + r → (0 < w → 0 ≤ r) → fin1I w r = kMl (RI p) := fun w r w0 w1 r0 r1 hp h => by
    unfold fin1I
    by_cases h1 : w < 0
    · rw [decide_eq_true h1, cond_true]
      by_cases h2 : r > 0
      · rw [decide_eq_true h2, cond_true]
        have e1 : w64 (w + 1) = w + 1 := by unfold w64; rw [IntKind.wrap_i64]; omega
        have e2 : w64 (r - 65536) = r - 65536 := by unfold w64; rw [IntKind.wrap_i64]; omega
        rw [e1, e2]
        exact fin_eq (by omega) (by omega) (by omega) (by omega) (by omega) (by omega) (by omega)
      · rw [decide_eq_false h2, cond_false]
        exact fin_eq (by omega) (by omega) r0 r1 hp h (by omega)
    · rw [decide_eq_false h1, cond_false]
      exact fin_eq (by omega) (by omega) r0 r1 hp h (by omega)
  unfold rest1I
  by_cases h1 : w > 0
  · rw [decide_eq_true h1, cond_true]
    by_cases h2 : r < 0
    · rw [decide_eq_true h2, cond_true]
      have e1 : w64 (w - 1) = w - 1 := by unfold w64; rw [IntKind.wrap_i64]; omega
      have e2 : w64 (r + 65536) = r + 65536 := by unfold w64; rw [IntKind.wrap_i64]; omega
      rw [e1, e2]
      exact f _ _ (by omega) (by omega) (by omega) (by omega) (by omega) (by omega)
    · rw [decide_eq_false h2, cond_false]
      exact f _ _ (by omega) (by omega) r0 r1 hp (by omega)
  · rw [decide_eq_false h1, cond_false]
    exact f _ _ (by omega) (by omega) r0 r1 hp (by omega)
theorem size_eq {n : Int} (h0 : -4611686018427387904 < n) (h1 : n < 4611686018427387904) : sizeI n = absI n := by
  unfold sizeI maxI absI
  rw [IntKind.wrap_i64]
  split <;> split <;> omega
theorem abs_le {x m : Int} (h : absI x ≤ m) : -m ≤ x ∧ x ≤ m := by unfold absI at h; split at h <;> omega
theorem le_abs {x m : Int} (h0 : -m ≤ x) (h1 : x ≤ m) : absI x ≤ m := by unfold absI; split <;> omega
theorem abs_nn (x : Int) : 0 ≤ absI x := by unfold absI; split <;> omega
theorem abs_abs (a b : Int) : absI a * absI b = absI (a * b) := by rw [abs_mul]; rfl
theorem prod_law {a b : Int} (a0 : -1099511627776 ≤ a) (a1 : a ≤ 1099511627776) (b0 : -1099511627776 ≤ b) (b1 : b ≤ 1099511627776) : prodI a b = num (prodN a b) := by
  rw [num_prodN]
  have hA := tdiv65 a
  have hal := tmod65 a
  have hB := tdiv65 b
  have hbl := tmod65 b
  generalize hAe : a.tdiv 65536 = A at *
  generalize hale : a.tmod 65536 = al at *
  generalize hBe : b.tdiv 65536 = B at *
  generalize hble : b.tmod 65536 = bl at *
  have ea : a = 65536 * A + al := by rw [hA, hal]; split <;> omega
  have eb : b = 65536 * B + bl := by rw [hB, hbl]; split <;> omega
  have A0 : -16777216 ≤ A ∧ A ≤ 16777216 := by rw [hA]; split <;> omega
  have al0 : -65536 < al ∧ al < 65536 := by rw [hal]; split <;> omega
  have B0 : -16777216 ≤ B ∧ B ≤ 16777216 := by rw [hB]; split <;> omega
  have bl0 : -65536 < bl ∧ bl < 65536 := by rw [hbl]; split <;> omega
  have wA : w64 A = A := by unfold w64; rw [IntKind.wrap_i64]; omega
  have wB : w64 B = B := by unfold w64; rw [IntKind.wrap_i64]; omega
  have key : a * b = 65536 * (A * b + al * B) + al * bl := by
    have e1 : a * b = (65536 * A + al) * b := by rw [← ea]
    have e2 : al * b = al * (65536 * B + bl) := by rw [← eb]
    rw [e1, Int.add_mul, e2, Int.mul_add, Int.mul_assoc, Int.mul_left_comm al 65536 B]
    omega
  have nA := abs_nn A
  have nb := abs_nn b
  have sA : sizeI A = absI A := size_eq (by omega) (by omega)
  have sb : sizeI b = absI b := size_eq (by omega) (by omega)
  -- where the product stays small
  have small : absI A * absI b ≤ 2199023255552 → rest0I a b = kMl (RI (a * b)) := fun hs => by
    rw [abs_abs] at hs
    obtain ⟨u0, u1⟩ := abs_le hs
    have v : absI (al * B) ≤ 65535 * 16777216 := by
      rw [← abs_abs]
      exact Int.mul_le_mul (le_abs (by omega) (by omega)) (le_abs (by omega) (by omega)) (abs_nn _) (by omega)
    obtain ⟨v0, v1⟩ := abs_le v
    have c : absI (al * bl) ≤ 65535 * 65535 := by
      rw [← abs_abs]
      exact Int.mul_le_mul (le_abs (by omega) (by omega)) (le_abs (by omega) (by omega)) (abs_nn _) (by omega)
    obtain ⟨c0, c1⟩ := abs_le c
    unfold rest0I
    rw [hAe, hale, hBe, hble, wA, wB]
    have w1 : w64 (A * b) = A * b := by unfold w64; rw [IntKind.wrap_i64]; omega
    have w2 : w64 (al * B) = al * B := by unfold w64; rw [IntKind.wrap_i64]; omega
    have w3 : w64 (al * bl) = al * bl := by unfold w64; rw [IntKind.wrap_i64]; omega
    rw [w1, w2, w3, tdiv65 (al * bl), tmod65 (al * bl), key]
    generalize A * b = x at *
    generalize al * B = y at *
    generalize al * bl = z at *
    by_cases hz : z < 0
    · rw [if_pos hz, if_pos hz]
      have w4 : w64 (w64 (x + y) + w64 (-(-z / 65536))) = x + y + -(-z / 65536) := by unfold w64; simp only [IntKind.wrap_i64]; omega
      rw [w4]
      exact rest_eq (by omega) (by omega) (by omega) (by omega) (by omega)
    · rw [if_neg hz, if_neg hz]
      have w4 : w64 (w64 (x + y) + w64 (z / 65536)) = x + y + z / 65536 := by unfold w64; simp only [IntKind.wrap_i64]; omega
      rw [w4]
      exact rest_eq (by omega) (by omega) (by omega) (by omega) (by omega)
  unfold prodI
  rw [hAe, wA, sA, sb]
  by_cases h1 : absI A > 0
  · rw [decide_eq_true h1, Bool.true_and]
    have e1 : w64 ((2199023255552 : Int).tdiv (absI A)) = 2199023255552 / absI A := by
      rw [Int.tdiv_eq_ediv_of_nonneg (by omega)]
      have := Int.ediv_le_self (absI A) (show (0 : Int) ≤ 2199023255552 by omega)
      have := Int.ediv_nonneg (show (0 : Int) ≤ 2199023255552 by omega) nA
      unfold w64
      rw [IntKind.wrap_i64]
      omega
    rw [e1]
    have d1 : absI A * (2199023255552 / absI A) ≤ 2199023255552 := Int.mul_ediv_self_le (by omega)
    have d2 : 2199023255552 < absI A * (2199023255552 / absI A) + absI A := Int.lt_mul_ediv_self_add (by omega)
    by_cases h2 : absI b > 2199023255552 / absI A
    · rw [decide_eq_true h2, cond_true]
      have d3 : absI A * (2199023255552 / absI A + 1) ≤ absI A * absI b := Int.mul_le_mul_of_nonneg_left (by omega) nA
      rw [Int.mul_add, Int.mul_one] at d3
      -- so it is beyond the bounds
      have d4 : 65536 * (absI A * absI b) ≤ absI a * absI b := by
        rw [← Int.mul_assoc]
        refine Int.mul_le_mul_of_nonneg_right ?_ nb
        unfold absI
        rw [hA]
        split <;> split <;> omega
      rw [abs_abs a b] at d4
      have hAne : A ≠ 0 := fun h => by rw [h] at h1; simp [absI] at h1
      have hbne : b ≠ 0 := fun h => by
        have hb0 : absI b = 0 := by rw [h]; rfl
        rw [hb0, Int.mul_zero] at d3
        omega
      unfold bigI
      have hsA : signI A = if a < 0 then -1 else 1 := by
        unfold signI
        by_cases h : A < 0
        · rw [decide_eq_true h, cond_true, if_pos (by rw [hA] at h; split at h <;> omega)]
        · rw [decide_eq_false h, cond_false, if_neg (by rw [hA] at h hAne; split at h <;> omega)]
      have hsb : signI b = if b < 0 then -1 else 1 := by
        unfold signI
        by_cases h : b < 0
        · rw [decide_eq_true h, if_pos h]; rfl
        · rw [decide_eq_false h, if_neg h]; rfl
      rw [hsA, hsb]
      have hsg : a * b < 0 ↔ (a < 0 ∧ ¬ b < 0) ∨ (¬ a < 0 ∧ b < 0) := by
        by_cases ha : a < 0 <;> by_cases hb : b < 0
        · have := Int.mul_nonneg (show 0 ≤ -a by omega) (show 0 ≤ -b by omega)
          rw [Int.neg_mul_neg] at this
          omega
        · have := Int.mul_nonneg (show 0 ≤ -a by omega) (show 0 ≤ b by omega)
          rw [Int.neg_mul] at this
          have : absI (a * b) = -(a * b) := by unfold absI; split <;> omega
          omega
        · have := Int.mul_nonneg (show 0 ≤ a by omega) (show 0 ≤ -b by omega)
          rw [Int.mul_neg] at this
          have : absI (a * b) = -(a * b) := by unfold absI; split <;> omega
          omega
        · have := Int.mul_nonneg (show 0 ≤ a by omega) (show 0 ≤ b by omega)
          omega
      have hbig : (if a * b < 0 then -(a * b) else a * b) > 65536 * 2199023255552 := by
        have : absI (a * b) = if a * b < 0 then -(a * b) else a * b := rfl
        omega
      have hR : kMl (RI (a * b)) = if a * b < 0 then -1099511627776 else 1099511627776 := by
        rw [kMl_cases]
        unfold RI
        generalize a * b = p at *
        by_cases hp : p < 0
        · rw [if_pos hp] at hbig
          rw [if_pos hp, if_pos hp, if_pos (by omega)]
        · rw [if_neg hp] at hbig
          rw [if_neg hp, if_neg hp, if_neg (by omega), if_pos (by omega)]
      rw [hR]
      by_cases ha : a < 0 <;> by_cases hb : b < 0
      · rw [if_pos ha, if_pos hb, if_neg (by rw [hsg]; omega)]; decide
      · rw [if_pos ha, if_neg hb, if_pos (by rw [hsg]; omega)]; decide
      · rw [if_neg ha, if_pos hb, if_pos (by rw [hsg]; omega)]; decide
      · rw [if_neg ha, if_neg hb, if_neg (by rw [hsg]; omega)]; decide
    · rw [decide_eq_false h2, cond_false]
      refine small ?_
      have := Int.mul_le_mul_of_nonneg_left (show absI b ≤ 2199023255552 / absI A by omega) nA
      omega
  · rw [decide_eq_false h1, Bool.false_and, cond_false]
    refine small ?_
    have : absI A = 0 := by omega
    rw [this, Int.zero_mul]
    omega
end Go.Proofs.Ythlmbnhelkbchaa
