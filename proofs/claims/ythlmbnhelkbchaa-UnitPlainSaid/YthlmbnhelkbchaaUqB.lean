/- Product by One, for all numbers of a unit. -/
import Derived.Test.YthlmbnhelkbchaaUpD
namespace Go.Proofs.Ythlmbnhelkbchaa
open Go.Ev
set_option maxRecDepth 100000
theorem ofInt_nat {a : Int} (h0 : 0 ≤ a) (h1 : a < 18446744073709551616) : (BitVec.ofInt 64 a).toNat = a.toNat := by
  rw [BitVec.toNat_ofInt]
  congr 1
  omega
theorem mul_parts (a1 a0 b1 b0 : Int) : (4294967296 * a1 + a0) * (4294967296 * b1 + b0) = 18446744073709551616 * (a1 * b1) + 4294967296 * (a1 * b0) + 4294967296 * (a0 * b1) + a0 * b0 := by
  rw [Int.add_mul, Int.mul_add, Int.mul_add]
  have h1 : 4294967296 * a1 * (4294967296 * b1) = 18446744073709551616 * (a1 * b1) := by
    rw [Int.mul_assoc, Int.mul_left_comm a1]
    omega
  have h2 : 4294967296 * a1 * b0 = 4294967296 * (a1 * b0) := Int.mul_assoc _ _ _
  have h3 : a0 * (4294967296 * b1) = 4294967296 * (a0 * b1) := Int.mul_left_comm _ _ _
  rw [h1, h2, h3]
  omega
theorem mulHi_eq {a b : Int} (a0 : 0 ≤ a) (a1 : a ≤ 1099511627776) (b0 : 0 ≤ b) (b1 : b ≤ 1099511627776) : mulHi a b = a * b / 18446744073709551616 := by
  have la := lo32_eq a0 (by omega : a < 18446744073709551616)
  have lb := lo32_eq b0 (by omega : b < 18446744073709551616)
  have hab := mul_parts (a / 4294967296) (a % 4294967296) (b / 4294967296) (b % 4294967296)
  rw [show 4294967296 * (a / 4294967296) + a % 4294967296 = a by omega, show 4294967296 * (b / 4294967296) + b % 4294967296 = b by omega] at hab
  have s0 : 0 ≤ a / 4294967296 * (b / 4294967296) := Int.mul_nonneg (by omega) (by omega)
  have s1 : a / 4294967296 * (b / 4294967296) ≤ 256 * 256 := Int.mul_le_mul (by omega) (by omega) (by omega) (by omega)
  have p0 : 0 ≤ a / 4294967296 * (b % 4294967296) := Int.mul_nonneg (by omega) (by omega)
  have p1 : a / 4294967296 * (b % 4294967296) ≤ 256 * 4294967295 := Int.mul_le_mul (by omega) (by omega) (by omega) (by omega)
  have q0 : 0 ≤ a % 4294967296 * (b / 4294967296) := Int.mul_nonneg (by omega) (by omega)
  have q1 : a % 4294967296 * (b / 4294967296) ≤ 4294967295 * 256 := Int.mul_le_mul (by omega) (by omega) (by omega) (by omega)
  have r0 : 0 ≤ a % 4294967296 * (b % 4294967296) := Int.mul_nonneg (by omega) (by omega)
  have r1 : a % 4294967296 * (b % 4294967296) ≤ 4294967295 * 4294967295 := Int.mul_le_mul (by omega) (by omega) (by omega) (by omega)
  unfold mulHi mulT
  simp only [hi32_eq, la, lb, wu_eq]
  rw [hab]
  generalize a / 4294967296 * (b / 4294967296) = s at *
  generalize a / 4294967296 * (b % 4294967296) = p at *
  generalize a % 4294967296 * (b / 4294967296) = q at *
  generalize a % 4294967296 * (b % 4294967296) = r at *
  have e3 : (p % 18446744073709551616 + r % 18446744073709551616 / 4294967296) % 18446744073709551616 = p + r / 4294967296 := by omega
  rw [e3, lo32_eq (by omega) (by omega)]
  omega
/-! ### Div64 by One -/
theorem or_add {x y : Int} (x0 : 0 ≤ x) (x1 : x < 65536) (y0 : 0 ≤ y) (y1 : y < 140737488355328) : ((BitVec.ofInt 64 (x * 140737488355328) ||| BitVec.ofInt 64 y).toNat : Int) = x * 140737488355328 + y := by
  rw [BitVec.toNat_or, ofInt_nat (by omega) (by omega), ofInt_nat (by omega) (by omega)]
  have e : (x * 140737488355328).toNat = 2 ^ 47 * x.toNat := by
    have : (2 : Nat) ^ 47 = 140737488355328 := by decide
    rw [this]
    omega
  rw [e, ← Nat.two_pow_add_eq_or_of_lt (by have : (2 : Nat) ^ 47 = 140737488355328 := by decide
                                           omega)]
  have : (2 : Nat) ^ 47 = 140737488355328 := by decide
  rw [this]
  omega
theorem un10_eq (lo : Int) : un10 lo = lo % 131072 * 140737488355328 := by
  unfold un10
  have e1 : (2 : Int) ^ 47 = 140737488355328 := by decide
  rw [e1, wu_eq]
  omega
theorem wu_nonneg (n : Int) : 0 ≤ wu n := by rw [wu_eq]; omega
section
variable {hi lo : Int} (h0 : 0 ≤ hi) (h1 : hi < 65536) (l0 : 0 ≤ lo) (l1 : lo < 18446744073709551616)
include h0 h1 l0 l1
theorem un32_eq : un32 hi lo = hi * 140737488355328 + lo / 131072 := by
  unfold un32
  have e1 : (2 : Int) ^ 47 = 140737488355328 := by decide
  have e2 : (2 : Int) ^ 17 = 131072 := by decide
  rw [e1, e2, Int.fdiv_eq_ediv_of_nonneg _ (by omega), wu_eq (hi * 140737488355328), show hi * 140737488355328 % 18446744073709551616 = hi * 140737488355328 by omega, or_add h0 h1 (by omega) (by omega), wu_eq]
  omega
theorem q31_1 : q31 (un32 hi lo) = hi * 65536 + lo / 281474976710656 := by
  unfold q31
  rw [un32_eq h0 h1 l0 l1, Int.tdiv_eq_ediv_of_nonneg (by omega), wu_eq]
  omega
theorem un21_eq : un21 (un32 hi lo) (hi32 (un10 lo)) (q31 (un32 hi lo)) = lo / 131072 % 2147483648 * 4294967296 + lo % 131072 * 32768 := by
  unfold un21
  rw [q31_1 h0 h1 l0 l1, un32_eq h0 h1 l0 l1, hi32_eq, un10_eq]
  simp only [wu_eq]
  omega
theorem q31_2 : q31 (un21 (un32 hi lo) (hi32 (un10 lo)) (q31 (un32 hi lo))) = lo / 131072 % 2147483648 * 2 + lo % 131072 / 65536 := by
  unfold q31
  have := un21_eq h0 h1 l0 l1
  unfold q31 at this
  rw [this, Int.tdiv_eq_ediv_of_nonneg (by omega), wu_eq]
  omega
def remV (hi lo : Int) : Int := if hi = 0 then lo.tmod 65536 else
  (wu (wu (wu (un21 (un32 hi lo) (hi32 (un10 lo)) (q31 (un32 hi lo)) * 4294967296) + lo32 (un10 lo)) - wu (q31 (un21 (un32 hi lo) (hi32 (un10 lo)) (q31 (un32 hi lo))) * 9223372036854775808))).fdiv (2 ^ 47)
theorem quot_eq : wu (wu (q31 (un32 hi lo) * 4294967296) + q31 (un21 (un32 hi lo) (hi32 (un10 lo)) (q31 (un32 hi lo)))) = (hi * 18446744073709551616 + lo) / 65536 := by
  rw [q31_2 h0 h1 l0 l1, q31_1 h0 h1 l0 l1]
  simp only [wu_eq]
  omega
theorem div_fact : Fact Try.prog tb 102 [u64 hi, u64 lo, u64 65536] (.tup [u64 ((hi * 18446744073709551616 + lo) / 65536), u64 (remV hi lo)]) := by
  by_cases hz : hi = 0
  · subst hz
    have e1 : wu (lo.tdiv 65536) = (0 * 18446744073709551616 + lo) / 65536 := by
      rw [Int.tdiv_eq_ediv_of_nonneg l0, wu_eq]
      omega
    refine ⟨rfl, orc0, ok0, fun h => (run102_0 lo h).trans ?_⟩
    unfold remV
    rw [if_pos rfl, e1]
  · have c1 : ¬ q31 (un32 hi lo) ≥ 4294967296 := by rw [q31_1 h0 h1 l0 l1]; omega
    have c2 : ∀ z y : Int, ¬ wu (z * 0) > wu y := fun z y => by
      have := wu_nonneg y
      rw [Int.mul_zero]
      have : wu 0 = 0 := by decide
      omega
    have c3 : ¬ q31 (un21 (un32 hi lo) (hi32 (un10 lo)) (q31 (un32 hi lo))) ≥ 4294967296 := by rw [q31_2 h0 h1 l0 l1]; omega
    obtain ⟨n, hn⟩ : ∃ n, rounds = n + 1 := ⟨99999999999999999999, rfl⟩
    have fa : LFact Try.prog tb 102 17 3 (st102a (un32 hi lo) (hi32 (un10 lo)) (lo32 (un10 lo)) (q31 (un32 hi lo)) (rh (un32 hi lo) (q31 (un32 hi lo)))) (.exit 0) (st102a (un32 hi lo) (hi32 (un10 lo)) (lo32 (un10 lo)) (q31 (un32 hi lo)) (rh (un32 hi lo) (q31 (un32 hi lo)))) := by
      refine ⟨_, stopAt_ok (f := 102) (l := [18]) ok0, ?_⟩
      rw [hn, loopN_succ, b102a, decide_eq_false c1, decide_eq_false (c2 _ _)]
      rfl
    have fb : LFact Try.prog tb 102 24 14 (st102b (lo32 (un10 lo)) (q31 (un32 hi lo)) (rh (un21 (un32 hi lo) (hi32 (un10 lo)) (q31 (un32 hi lo))) (q31 (un21 (un32 hi lo) (hi32 (un10 lo)) (q31 (un32 hi lo))))) (un21 (un32 hi lo) (hi32 (un10 lo)) (q31 (un32 hi lo))) (q31 (un21 (un32 hi lo) (hi32 (un10 lo)) (q31 (un32 hi lo))))) (.exit 2) (st102b (lo32 (un10 lo)) (q31 (un32 hi lo)) (rh (un21 (un32 hi lo) (hi32 (un10 lo)) (q31 (un32 hi lo))) (q31 (un21 (un32 hi lo) (hi32 (un10 lo)) (q31 (un32 hi lo))))) (un21 (un32 hi lo) (hi32 (un10 lo)) (q31 (un32 hi lo))) (q31 (un21 (un32 hi lo) (hi32 (un10 lo)) (q31 (un32 hi lo))))) := by
      refine ⟨_, stopAt_ok (f := 102) (l := [25]) ok0, ?_⟩
      rw [hn, loopN_succ, b102b, decide_eq_false c3, decide_eq_false (c2 _ _)]
      rfl
    refine ⟨rfl, _, stopAt_ok (f := 102) (l := [4]) (knowL_ok tbOk fa (knowL_ok tbOk fb ok0 (ep := e102) rfl norm102b count102b) (ep := e102) rfl norm102a count102a), fun h => ?_⟩
    refine (run102 hi lo _ _ _ _ _ _ _ _ _ _ h).trans ?_
    have hz' : (hi == 0) = false := by simp only [beq_eq_false_iff_ne]; exact hz
    rw [decide_eq_false (by omega : ¬ 65536 ≤ hi), hz', sameSt_self, sameSt_self, quot_eq h0 h1 l0 l1]
    unfold remV
    rw [if_neg hz]
    rfl
end
def is102g (a : List AV) : Prop := ∃ hi lo, a = [u64 hi, u64 lo, u64 65536] ∧ 0 ≤ hi ∧ hi < 65536 ∧ 0 ≤ lo ∧ lo < 18446744073709551616
def V102g (a : List AV) : AV := .tup [u64 ((ar a 0 * 18446744073709551616 + ar a 1) / 65536), u64 (remV (ar a 0) (ar a 1))]
theorem when102g (a : List AV) (h : isSo (is102g a) = true) : F 102 a (V102g a) := by
  obtain ⟨hi, lo, rfl, h0, h1, l0, l1⟩ := isSo_iff.1 h
  exact div_fact h0 h1 l0 l1
noncomputable def OPg (S : Orc) : Orc := knowW 100 (fun a => isSo (isN1 a)) V100 (knowW 99 (fun a => isSo (isU2 a)) V99 (knowW 102 (fun a => isSo (is102g a)) V102g S))
theorem OPg_ok {S : Orc} (h : Ok S) : Ok (OPg S) := knowW_ok tbOk when100 (knowW_ok tbOk when99 (knowW_ok tbOk when102g h))
noncomputable def prG (x y : Int) : Option AV :=
  j1 x <| j1 y <| bif isSo (isU2 [u64 (magI x), u64 (magI y)]) then
    guardK (decide (0 ≤ wu (magI x * magI y)) && decide (0 ≤ wu (w64 ((65536 : Int).tdiv 2))) && decide ((0 : Int) ≤ 0) && decide ((0 : Int) ≤ 1)) <|
    bif decide (pHi x y < wu 65536) then bif isSo (is102g [u64 (pHi x y), u64 (pLo x y), u64 (wu 65536)]) then
      bif decide ((pHi x y * 18446744073709551616 + pLo x y) / 65536 < 4611686018427387904) then pEnd x y (w64 ((pHi x y * 18446744073709551616 + pLo x y) / 65536)) else pEnd x y 4611686018427387904
      else none else pEnd x y 4611686018427387904
  else none
theorem run77g (x y : Int) (h : Heap) : evCall Try.prog (OPg orc0) tb 100 AV (.fn 77) (vwArgs Try.prog [] h (parsOf Try.prog 77) [int64 x, int64 y, int64 65536]) (mkHeap [] 0) .off rv = prG x y := by kernel_rfl
def absI (x : Int) : Int := if x < 0 then -x else x
def qI (x y : Int) : Int := (absI x * absI y + 32768) / 65536
/-- The document's product. -/
def prodN (x y : Int) : Int := if (x < 0 ∧ ¬ y < 0) ∨ (¬ x < 0 ∧ y < 0) then -(min (qI x y) 4611686018427387904) else min (qI x y) 4611686018427387904
theorem prG_eq {x y : Int} (x0 : -1099511627776 ≤ x) (x1 : x ≤ 1099511627776) (y0 : -1099511627776 ≤ y) (y1 : y ≤ 1099511627776) : prG x y = some (int64 (prodN x y)) := by
  have mg : ∀ z : Int, -1099511627776 ≤ z → z ≤ 1099511627776 → magI z = absI z := fun z z0 z1 => by
    unfold magI absI
    by_cases h : z < 0
    · rw [decide_eq_true h, cond_true, if_pos h, wu_eq, IntKind.wrap_i64]
      omega
    · rw [decide_eq_false h, cond_false, if_neg h, wu_eq]
      omega
  have ab : ∀ z : Int, -1099511627776 ≤ z → z ≤ 1099511627776 → 0 ≤ absI z ∧ absI z ≤ 1099511627776 := fun z z0 z1 => by unfold absI; split <;> omega
  obtain ⟨a0, a1⟩ := ab x x0 x1
  obtain ⟨b0, b1⟩ := ab y y0 y1
  have hh := mulHi_eq a0 a1 b0 b1
  have hp0 : 0 ≤ absI x * absI y := Int.mul_nonneg a0 b0
  have hp1 : absI x * absI y ≤ 1099511627776 * 1099511627776 := Int.mul_le_mul a1 b1 b0 (by omega)
  have e0 : wu (w64 ((65536 : Int).tdiv 2)) = 32768 := by decide
  have e9 : wu 65536 = 65536 := by decide
  have eP : pHi x y * 18446744073709551616 + pLo x y = absI x * absI y + 32768 ∧ 0 ≤ pHi x y ∧ 0 ≤ pLo x y ∧ pLo x y < 18446744073709551616 := by
    unfold pHi pLo
    rw [mg x x0 x1, mg y y0 y1, hh, e0]
    simp only [wu_eq]
    generalize absI x * absI y = p at *
    omega
  obtain ⟨eP, hi0, lo0, lo1⟩ := eP
  have i1 : isSo (isN1 [int64 x]) = true := isSo_true ⟨_, rfl⟩
  have i2 : isSo (isN1 [int64 y]) = true := isSo_true ⟨_, rfl⟩
  have i3 : isSo (isU2 [u64 (magI x), u64 (magI y)]) = true := isSo_true ⟨_, _, rfl⟩
  have hw : decide (0 ≤ wu (magI x * magI y)) = true := decide_eq_true (by rw [wu_eq]; omega)
  have pe : ∀ n : Int, 0 ≤ n → n ≤ 4611686018427387904 → n = min (qI x y) 4611686018427387904 → pEnd x y n = some (int64 (prodN x y)) := fun n n0 n1 hn => by
    have en : w64 (0 - n) = -n := by unfold w64; rw [IntKind.wrap_i64]; omega
    unfold pEnd prodN
    rw [← hn, en]
    by_cases hx : x < 0 <;> by_cases hy : y < 0
    · rw [decide_eq_true hx, decide_eq_true hy, if_neg (by omega)]; rfl
    · rw [decide_eq_true hx, decide_eq_false hy, if_pos (.inl ⟨hx, hy⟩)]; rfl
    · rw [decide_eq_false hx, decide_eq_true hy, if_pos (.inr ⟨hx, hy⟩)]; rfl
    · rw [decide_eq_false hx, decide_eq_false hy, if_neg (by omega)]; rfl
  unfold prG j1
  rw [i1, i2, i3, hw, e0, e9, eP]
  show (bif decide (pHi x y < 65536) then _ else _) = _
  by_cases hb : pHi x y < 65536
  · have i4 : isSo (is102g [u64 (pHi x y), u64 (pLo x y), u64 65536]) = true := isSo_true ⟨_, _, rfl, hi0, hb, lo0, lo1⟩
    rw [decide_eq_true hb, i4]
    show (bif decide ((absI x * absI y + 32768) / 65536 < 4611686018427387904) then _ else _) = _
    by_cases hq : (absI x * absI y + 32768) / 65536 < 4611686018427387904
    · have ew : w64 ((absI x * absI y + 32768) / 65536) = (absI x * absI y + 32768) / 65536 := by
        unfold w64
        rw [IntKind.wrap_i64]
        omega
      rw [decide_eq_true hq, ew]
      exact pe _ (by omega) (by omega) (by unfold qI; omega)
    · rw [decide_eq_false hq]
      exact pe _ (by omega) (by omega) (by unfold qI; omega)
  · rw [decide_eq_false hb]
    exact pe _ (by omega) (by omega) (by unfold qI; omega)
def V77g (a : List AV) : AV := int64 (prodN (ar a 0) (ar a 1))
def is77g (a : List AV) : Prop := ∃ x y, a = [int64 x, int64 y, int64 65536] ∧ -1099511627776 ≤ x ∧ x ≤ 1099511627776 ∧ -1099511627776 ≤ y ∧ y ≤ 1099511627776
theorem when77g (a : List AV) (h : isSo (is77g a) = true) : F 77 a (V77g a) := by
  obtain ⟨x, y, rfl, x0, x1, y0, y1⟩ := isSo_iff.1 h
  exact .of (OPg_ok ok0) rfl fun h => (run77g x y h).trans (prG_eq x0 x1 y0 y1)
end Go.Proofs.Ythlmbnhelkbchaa
