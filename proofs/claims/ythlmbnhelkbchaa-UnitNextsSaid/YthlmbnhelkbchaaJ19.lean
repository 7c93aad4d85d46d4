/- Product by One, where a number of 64 bits holds the product. -/
import Derived.Test.YthlmbnhelkbchaaJ18
namespace Go.Proofs.Ythlmbnhelkbchaa
open Go.Ev
set_option maxRecDepth 100000
def V100 (a : List AV) : AV := u64 (magI (ar a 0))
theorem when100 (a : List AV) (h : isSo (isN1 a) = true) : F 100 a (V100 a) := by
  obtain ⟨x, rfl⟩ := isSo_iff.1 h
  refine .of ok0 rfl fun h => (run100 x h).trans ?_
  show _ = some (u64 (magI x))
  unfold magI
  cases decide (x < 0) <;> rfl
def isU2 (a : List AV) : Prop := ∃ x y, a = [u64 x, u64 y]
def V99 (a : List AV) : AV := .tup [u64 (mulHi (ar a 0) (ar a 1)), u64 (wu (ar a 0 * ar a 1))]
theorem when99 (a : List AV) (h : isSo (isU2 a) = true) : F 99 a (V99 a) := by
  obtain ⟨x, y, rfl⟩ := isSo_iff.1 h
  exact .of ok0 rfl fun h => run99 x y h
def is102 (a : List AV) : Prop := ∃ lo, a = [u64 0, u64 lo, u64 65536]
def V102 (a : List AV) : AV := .tup [u64 (wu ((ar a 1).tdiv 65536)), u64 ((ar a 1).tmod 65536)]
theorem run102_0 (lo : Int) (h : Heap) : evCall Try.prog orc0 tb 100 AV (.fn 102) (vwArgs Try.prog [] h (parsOf Try.prog 102) [u64 0, u64 lo, u64 65536]) (mkHeap [] 0) .off rv =
    some (.tup [u64 (wu (lo.tdiv 65536)), u64 (lo.tmod 65536)]) := by kernel_rfl
theorem when102 (a : List AV) (h : isSo (is102 a) = true) : F 102 a (V102 a) := by
  obtain ⟨lo, rfl⟩ := isSo_iff.1 h
  exact .of ok0 rfl fun h => run102_0 lo h
noncomputable def OP (S : Orc) : Orc := knowW 100 (fun a => isSo (isN1 a)) V100 (knowW 99 (fun a => isSo (isU2 a)) V99 (knowW 102 (fun a => isSo (is102 a)) V102 S))
theorem OP_ok {S : Orc} (h : Ok S) : Ok (OP S) := knowW_ok tbOk when100 (knowW_ok tbOk when99 (knowW_ok tbOk when102 h))
noncomputable abbrev j1 (x : Int) (y : Option AV) : Option AV := bif isSo (isN1 [int64 x]) then y else none
def pLo (x y : Int) : Int := (wu (magI x * magI y) + wu (w64 ((65536 : Int).tdiv 2)) + 0) % 18446744073709551616
def pHi (x y : Int) : Int := wu (mulHi (magI x) (magI y) + (wu (magI x * magI y) + wu (w64 ((65536 : Int).tdiv 2)) + 0) / 18446744073709551616)
def pEnd (x y n : Int) : Option AV := bif !(decide (x < 0) == decide (y < 0)) then some (int64 (w64 (0 - n))) else some (int64 n)
noncomputable def prT (x y : Int) : Option AV :=
  j1 x <| j1 y <| bif isSo (isU2 [u64 (magI x), u64 (magI y)]) then
    guardK (decide (0 ≤ wu (magI x * magI y)) && decide (0 ≤ wu (w64 ((65536 : Int).tdiv 2))) && decide ((0 : Int) ≤ 0) && decide ((0 : Int) ≤ 1)) <|
    bif decide (pHi x y < wu 65536) then bif isSo (is102 [u64 (pHi x y), u64 (pLo x y), u64 (wu 65536)]) then
      bif decide (wu ((pLo x y).tdiv 65536) < 4611686018427387904) then pEnd x y (w64 (wu ((pLo x y).tdiv 65536))) else pEnd x y 4611686018427387904
      else none else pEnd x y 4611686018427387904
  else none
theorem run77 (x y : Int) (h : Heap) : evCall Try.prog (OP orc0) tb 100 AV (.fn 77) (vwArgs Try.prog [] h (parsOf Try.prog 77) [int64 x, int64 y, int64 65536]) (mkHeap [] 0) .off rv = prT x y := by kernel_rfl
theorem wu_eq (n : Int) : wu n = n % 18446744073709551616 := by unfold wu; simp [IntKind.wrap, IntKind.bits, IntKind.signed]
theorem lo32_eq {a : Int} (h0 : 0 ≤ a) (h1 : a < 18446744073709551616) : lo32 a = a % 4294967296 := by
  unfold lo32
  have e1 : (BitVec.ofInt 64 4294967295).toNat = 2 ^ 32 - 1 := by decide
  have e2 : (BitVec.ofInt 64 a).toNat = a.toNat := by
    rw [BitVec.toNat_ofInt]
    congr 1
    omega
  rw [BitVec.toNat_and, e1, e2, Nat.and_two_pow_sub_one_eq_mod, wu_eq]
  have : (2 : Nat) ^ 32 = 4294967296 := by decide
  rw [this]
  omega
theorem hi32_eq {a : Int} : hi32 a = a / 4294967296 := by
  unfold hi32
  have : (2 : Int) ^ 32 = 4294967296 := by decide
  rw [this, Int.fdiv_eq_ediv_of_nonneg _ (by omega)]
theorem mulHi_zero {a b : Int} (a0 : 0 ≤ a) (a1 : a ≤ 4398046511104) (b0 : 0 ≤ b) (b1 : b ≤ 65536) : mulHi a b = 0 := by
  have la := lo32_eq a0 (by omega : a < 18446744073709551616)
  have lb := lo32_eq b0 (by omega : b < 18446744073709551616)
  have e1 : b % 4294967296 = b := by omega
  have e2 : b / 4294967296 = 0 := by omega
  -- the partial products
  have p0 : 0 ≤ a % 4294967296 * b := Int.mul_nonneg (by omega) b0
  have p1 : a % 4294967296 * b ≤ 4294967295 * 65536 := Int.mul_le_mul (by omega) b1 b0 (by omega)
  have q0 : 0 ≤ a / 4294967296 * b := Int.mul_nonneg (by omega) b0
  have q1 : a / 4294967296 * b ≤ 1024 * 65536 := Int.mul_le_mul (by omega) b1 b0 (by omega)
  unfold mulHi mulT
  simp only [hi32_eq, la, lb, e1, e2, wu_eq, Int.mul_zero]
  generalize a % 4294967296 * b = p at *
  generalize a / 4294967296 * b = q at *
  have l2 : lo32 ((q % 18446744073709551616 + p % 18446744073709551616 / 4294967296) % 18446744073709551616) = (q + p / 4294967296) % 4294967296 := by
    have e3 : (q % 18446744073709551616 + p % 18446744073709551616 / 4294967296) % 18446744073709551616 = q + p / 4294967296 := by omega
    rw [e3, lo32_eq (by omega) (by omega)]
  rw [l2]
  omega
def V77 (a : List AV) : AV := int64 (round1 (w64 (ar a 0 * ar a 1)))
def is77 (a : List AV) : Prop := ∃ x y, a = [int64 x, int64 y, int64 65536] ∧ -4398046511104 ≤ x ∧ x ≤ 4398046511104 ∧ 0 ≤ y ∧ y ≤ 65536
theorem prT_eq {x y : Int} (x0 : -4398046511104 ≤ x) (x1 : x ≤ 4398046511104) (y0 : 0 ≤ y) (y1 : y ≤ 65536) : prT x y = some (int64 (round1 (w64 (x * y)))) := by
  have my : magI y = y := by
    unfold magI
    rw [decide_eq_false (by omega : ¬ y < 0), cond_false, wu_eq]
    omega
  have mx : magI x = if x < 0 then -x else x := by
    unfold magI
    by_cases h : x < 0
    · rw [decide_eq_true h, cond_true, if_pos h, wu_eq, IntKind.wrap_i64]
      omega
    · rw [decide_eq_false h, cond_false, if_neg h, wu_eq]
      omega
  have hb0 : 0 ≤ magI x * y := Int.mul_nonneg (by rw [mx]; split <;> omega) y0
  have hb1 : magI x * y ≤ 4398046511104 * 65536 := Int.mul_le_mul (by rw [mx]; split <;> omega) y1 y0 (by omega)
  have hmag : magI x * y = if x < 0 then -(x * y) else x * y := by
    rw [mx]
    split
    · rw [Int.neg_mul]
    · rfl
  have hz : mulHi (magI x) y = 0 := mulHi_zero (by rw [mx]; split <;> omega) (by rw [mx]; split <;> omega) y0 y1
  have e0 : wu (w64 ((65536 : Int).tdiv 2)) = 32768 := by decide
  have e9 : wu 65536 = 65536 := by decide
  have e1 : wu (magI x * y) = magI x * y := by rw [wu_eq]; omega
  have elo : pLo x y = magI x * y + 32768 := by
    unfold pLo
    rw [my, e0, e1]
    omega
  have ehi : pHi x y = 0 := by
    unfold pHi
    rw [my, hz, e0, e1, wu_eq]
    omega
  have eq : wu ((magI x * y + 32768).tdiv 65536) = (magI x * y + 32768) / 65536 := by
    rw [Int.tdiv_eq_ediv_of_nonneg (by omega), wu_eq]
    omega
  have ew : w64 ((magI x * y + 32768) / 65536) = (magI x * y + 32768) / 65536 := by
    unfold w64
    rw [IntKind.wrap_i64]
    omega
  unfold prT j1
  have i1 : isSo (isN1 [int64 x]) = true := isSo_true ⟨_, rfl⟩
  have i2 : isSo (isN1 [int64 y]) = true := isSo_true ⟨_, rfl⟩
  have i3 : isSo (isU2 [u64 (magI x), u64 (magI y)]) = true := isSo_true ⟨_, _, rfl⟩
  have i4 : isSo (is102 [u64 0, u64 (magI x * y + 32768), u64 65536]) = true := isSo_true ⟨_, rfl⟩
  rw [i1, i2, i3, my, e0, e1, decide_eq_true hb0, ehi, elo, e9, i4, eq, decide_eq_true (by omega : (magI x * y + 32768) / 65536 < 4611686018427387904), ew]
  show pEnd x y ((magI x * y + 32768) / 65536) = _
  unfold pEnd
  rw [decide_eq_false (by omega : ¬ y < 0)]
  have hwm : w64 (x * y) = x * y := by
    unfold w64
    rw [IntKind.wrap_i64]
    split at hmag <;> omega
  rw [hwm, round1_eq (by split at hmag <;> omega) (by split at hmag <;> omega)]
  by_cases h : x < 0
  · rw [decide_eq_true h]
    rw [if_pos h] at hmag
    have : w64 (0 - (magI x * y + 32768) / 65536) = -((magI x * y + 32768) / 65536) := by
      unfold w64
      rw [IntKind.wrap_i64]
      omega
    show some (int64 (w64 (0 - (magI x * y + 32768) / 65536))) = _
    rw [this, hmag]
    by_cases h2 : x * y < 0
    · rw [if_pos h2]
    · have : x * y = 0 := by omega
      rw [if_neg h2, this]
      rfl
  · rw [decide_eq_false h]
    rw [if_neg h] at hmag
    rw [hmag, if_neg (by omega)]
    rfl
theorem when77 (a : List AV) (h : isSo (is77 a) = true) : F 77 a (V77 a) := by
  obtain ⟨x, y, rfl, x0, x1, y0, y1⟩ := isSo_iff.1 h
  exact .of (OP_ok ok0) rfl fun h => (run77 x y h).trans (prT_eq x0 x1 y0 y1)
end Go.Proofs.Ythlmbnhelkbchaa
/- Div64 by One, in closed form. -/
namespace Go.Proofs.Ythlmbnhelkbchaa
open Go.Ev
set_option maxRecDepth 100000
def un32 (hi lo : Int) : Int := wu ((BitVec.ofInt 64 (wu (hi * 2 ^ 47)) ||| BitVec.ofInt 64 (lo.fdiv (2 ^ 17))).toNat : Int)
def un10 (lo : Int) : Int := wu (lo * 2 ^ 47)
def q31 (a : Int) : Int := wu (a.tdiv 2147483648)
def rh (a q : Int) : Int := wu (a - wu (q * 2147483648))
def un21 (a u q : Int) : Int := wu (wu (wu (a * 4294967296) + u) - wu (q * 9223372036854775808))
def st102a (a u1 u0 q r : Int) : St := ⟨[.dead, .dead, u64 9223372036854775808, .dead, .dead, .dead, .dead, .dead, u64 47, u64 2147483648, u64 0, u64 a, .dead, u64 u1, u64 u0, u64 q, u64 r] ++ repA .dead 118, mkHeap [] 14, [], .off⟩
def st102b (u0 q r a2 q2 : Int) : St := ⟨[.dead, .dead, u64 9223372036854775808, .dead, .dead, .dead, .dead, .dead, u64 47, u64 2147483648, u64 0, .dead, .dead, .dead, u64 u0, u64 q, u64 r, u64 a2, u64 q2] ++ repA .dead 116, mkHeap [] 25, [], .off⟩
def N17a : Norm := ⟨[2, 6, 7, 8, 9, 10, 11, 13, 14, 15, 16], []⟩
def N24a : Norm := ⟨[2, 6, 7, 8, 9, 10, 14, 15, 16, 17, 18], []⟩
theorem norm102a : loopN0 tb 102 17 = some N17a := by kernel_rfl
theorem norm102b : loopN0 tb 102 24 = some N24a := by kernel_rfl
theorem count102a : Nat.ble (countL 17 e102.code) 1 = true := by kernel_rfl
theorem count102b : Nat.ble (countL 24 e102.code) 1 = true := by kernel_rfl
theorem b102a {A : Type} (a u1 u0 q r : Int) (K : Ex → St → Option A) : loopB Try.prog (stopAt 102 [18] orc0) tb 102 17 3 (st102a a u1 u0 q r) K =
    bif decide (q ≥ 4294967296) then none else bif decide (wu (q * 0) > wu (wu (4294967296 * r) + u1)) then none else K (.exit 0) (st102a a u1 u0 q r) := by kernel_rfl
theorem b102b {A : Type} (u0 q r a2 q2 : Int) (K : Ex → St → Option A) : loopB Try.prog (stopAt 102 [25] orc0) tb 102 24 14 (st102b u0 q r a2 q2) K =
    bif decide (q2 ≥ 4294967296) then none else bif decide (wu (q2 * 0) > wu (wu (4294967296 * r) + u0)) then none else K (.exit 2) (st102b u0 q r a2 q2) := by kernel_rfl
noncomputable def S102 (a u1 u0 q r : Int) (u0' q' r' a2 q2 : Int) : Orc := stopAt 102 [4] (knowL Try.prog 102 17 N17a 3 (st102a a u1 u0 q r) (.exit 0) (st102a a u1 u0 q r) (knowL Try.prog 102 24 N24a 14 (st102b u0' q' r' a2 q2) (.exit 2) (st102b u0' q' r' a2 q2) orc0))
theorem run102 (hi lo : Int) (a u1 u0 q r : Int) (u0' q' r' a2 q2 : Int) (h : Heap) : evCall Try.prog (S102 a u1 u0 q r u0' q' r' a2 q2) tb 100 AV (.fn 102) (vwArgs Try.prog [] h (parsOf Try.prog 102) [u64 hi, u64 lo, u64 65536]) (mkHeap [] 0) .off rv =
    bif decide (65536 ≤ hi) then none else bif hi == 0 then some (.tup [u64 (wu (lo.tdiv 65536)), u64 (lo.tmod 65536)]) else
    bif sameSt (st102a (un32 hi lo) (hi32 (un10 lo)) (lo32 (un10 lo)) (q31 (un32 hi lo)) (rh (un32 hi lo) (q31 (un32 hi lo)))) (st102a a u1 u0 q r) then
    bif sameSt (st102b u0 q (rh (un21 a u1 q) (q31 (un21 a u1 q))) (un21 a u1 q) (q31 (un21 a u1 q))) (st102b u0' q' r' a2 q2) then
    some (.tup [u64 (wu (wu (q' * 4294967296) + q2)), u64 ((wu (wu (wu (a2 * 4294967296) + u0') - wu (q2 * 9223372036854775808))).fdiv (2 ^ 47))]) else none else none := by kernel_rfl
end Go.Proofs.Ythlmbnhelkbchaa
/- Product by One, for all numbers of a unit. -/
namespace Go.Proofs.Ythlmbnhelkbchaa
open Go.Ev
set_option maxRecDepth 100000
theorem ofInt_nat {a : Int} (h0 : 0 ≤ a) (h1 : a < 18446744073709551616) : (BitVec.ofInt 64 a).toNat = a.toNat := by
  rw [BitVec.toNat_ofInt]
  congr 1
  omega
theorem mul_parts (a1 a0 b1 b0 : Int) : (4294967296 * a1 + a0) * (4294967296 * b1 + b0) = 18446744073709551616 * (a1 * b1) + 4294967296 * (a1 * b0) + 4294967296 * (a0 * b1) + a0 * b0 := by
  rw [Int.add_mul, Int.mul_add, Int.mul_add]
  have h1 : 4294967296 * a1 * (4294967296 * b1) = 18446744073709551616 * (a1 * b1) := by
    rw [Int.mul_assoc, Int.mul_left_comm a1]
    omega
  have h2 : 4294967296 * a1 * b0 = 4294967296 * (a1 * b0) := Int.mul_assoc _ _ _
  have h3 : a0 * (4294967296 * b1) = 4294967296 * (a0 * b1) := Int.mul_left_comm _ _ _
  rw [h1, h2, h3]
  omega
theorem mulHi_eq {a b : Int} (a0 : 0 ≤ a) (a1 : a ≤ 1099511627776) (b0 : 0 ≤ b) (b1 : b ≤ 1099511627776) : mulHi a b = a * b / 18446744073709551616 := by
  have la := lo32_eq a0 (by omega : a < 18446744073709551616)
  have lb := lo32_eq b0 (by omega : b < 18446744073709551616)
  have hab := mul_parts (a / 4294967296) (a % 4294967296) (b / 4294967296) (b % 4294967296)
  rw [show 4294967296 * (a / 4294967296) + a % 4294967296 = a by omega, show 4294967296 * (b / 4294967296) + b % 4294967296 = b by omega] at hab
  have s0 : 0 ≤ a / 4294967296 * (b / 4294967296) := Int.mul_nonneg (by omega) (by omega)
  have s1 : a / 4294967296 * (b / 4294967296) ≤ 256 * 256 := Int.mul_le_mul (by omega) (by omega) (by omega) (by omega)
  have p0 : 0 ≤ a / 4294967296 * (b % 4294967296) := Int.mul_nonneg (by omega) (by omega)
  have p1 : a / 4294967296 * (b % 4294967296) ≤ 256 * 4294967295 := Int.mul_le_mul (by omega) (by omega) (by omega) (by omega)
  have q0 : 0 ≤ a % 4294967296 * (b / 4294967296) := Int.mul_nonneg (by omega) (by omega)
  have q1 : a % 4294967296 * (b / 4294967296) ≤ 4294967295 * 256 := Int.mul_le_mul (by omega) (by omega) (by omega) (by omega)
  have r0 : 0 ≤ a % 4294967296 * (b % 4294967296) := Int.mul_nonneg (by omega) (by omega)
  have r1 : a % 4294967296 * (b % 4294967296) ≤ 4294967295 * 4294967295 := Int.mul_le_mul (by omega) (by omega) (by omega) (by omega)
  unfold mulHi mulT
  simp only [hi32_eq, la, lb, wu_eq]
  rw [hab]
  generalize a / 4294967296 * (b / 4294967296) = s at *
  generalize a / 4294967296 * (b % 4294967296) = p at *
  generalize a % 4294967296 * (b / 4294967296) = q at *
  generalize a % 4294967296 * (b % 4294967296) = r at *
  have e3 : (p % 18446744073709551616 + r % 18446744073709551616 / 4294967296) % 18446744073709551616 = p + r / 4294967296 := by omega
  rw [e3, lo32_eq (by omega) (by omega)]
  omega
/-! ### Div64 by One -/
theorem or_add {x y : Int} (x0 : 0 ≤ x) (x1 : x < 65536) (y0 : 0 ≤ y) (y1 : y < 140737488355328) : ((BitVec.ofInt 64 (x * 140737488355328) ||| BitVec.ofInt 64 y).toNat : Int) = x * 140737488355328 + y := by
  rw [BitVec.toNat_or, ofInt_nat (by omega) (by omega), ofInt_nat (by omega) (by omega)]
  have e : (x * 140737488355328).toNat = 2 ^ 47 * x.toNat := by
    have : (2 : Nat) ^ 47 = 140737488355328 := by decide
    rw [this]
    omega
  rw [e, ← Nat.two_pow_add_eq_or_of_lt (by have : (2 : Nat) ^ 47 = 140737488355328 := by decide
                                           omega)]
  have : (2 : Nat) ^ 47 = 140737488355328 := by decide
  rw [this]
  omega
theorem un10_eq (lo : Int) : un10 lo = lo % 131072 * 140737488355328 := by
  unfold un10
  have e1 : (2 : Int) ^ 47 = 140737488355328 := by decide
  rw [e1, wu_eq]
  omega
theorem wu_nonneg (n : Int) : 0 ≤ wu n := by rw [wu_eq]; omega
section
variable {hi lo : Int} (h0 : 0 ≤ hi) (h1 : hi < 65536) (l0 : 0 ≤ lo) (l1 : lo < 18446744073709551616)
include h0 h1 l0 l1
theorem un32_eq : un32 hi lo = hi * 140737488355328 + lo / 131072 := by
  unfold un32
  have e1 : (2 : Int) ^ 47 = 140737488355328 := by decide
  have e2 : (2 : Int) ^ 17 = 131072 := by decide
  rw [e1, e2, Int.fdiv_eq_ediv_of_nonneg _ (by omega), wu_eq (hi * 140737488355328), show hi * 140737488355328 % 18446744073709551616 = hi * 140737488355328 by omega, or_add h0 h1 (by omega) (by omega), wu_eq]
  omega
theorem q31_1 : q31 (un32 hi lo) = hi * 65536 + lo / 281474976710656 := by
  unfold q31
  rw [un32_eq h0 h1 l0 l1, Int.tdiv_eq_ediv_of_nonneg (by omega), wu_eq]
  omega
theorem un21_eq : un21 (un32 hi lo) (hi32 (un10 lo)) (q31 (un32 hi lo)) = lo / 131072 % 2147483648 * 4294967296 + lo % 131072 * 32768 := by
  unfold un21
  rw [q31_1 h0 h1 l0 l1, un32_eq h0 h1 l0 l1, hi32_eq, un10_eq]
  simp only [wu_eq]
  omega
theorem q31_2 : q31 (un21 (un32 hi lo) (hi32 (un10 lo)) (q31 (un32 hi lo))) = lo / 131072 % 2147483648 * 2 + lo % 131072 / 65536 := by
  unfold q31
  have := un21_eq h0 h1 l0 l1
  unfold q31 at this
  rw [this, Int.tdiv_eq_ediv_of_nonneg (by omega), wu_eq]
  omega
def remV (hi lo : Int) : Int := if hi = 0 then lo.tmod 65536 else
  (wu (wu (wu (un21 (un32 hi lo) (hi32 (un10 lo)) (q31 (un32 hi lo)) * 4294967296) + lo32 (un10 lo)) - wu (q31 (un21 (un32 hi lo) (hi32 (un10 lo)) (q31 (un32 hi lo))) * 9223372036854775808))).fdiv (2 ^ 47)
theorem quot_eq : wu (wu (q31 (un32 hi lo) * 4294967296) + q31 (un21 (un32 hi lo) (hi32 (un10 lo)) (q31 (un32 hi lo)))) = (hi * 18446744073709551616 + lo) / 65536 := by
  rw [q31_2 h0 h1 l0 l1, q31_1 h0 h1 l0 l1]
  simp only [wu_eq]
  omega
theorem div_fact : Fact Try.prog tb 102 [u64 hi, u64 lo, u64 65536] (.tup [u64 ((hi * 18446744073709551616 + lo) / 65536), u64 (remV hi lo)]) := by
  by_cases hz : hi = 0
  · subst hz
    have e1 : wu (lo.tdiv 65536) = (0 * 18446744073709551616 + lo) / 65536 := by
      rw [Int.tdiv_eq_ediv_of_nonneg l0, wu_eq]
      omega
    refine ⟨rfl, orc0, ok0, fun h => (run102_0 lo h).trans ?_⟩
    unfold remV
    rw [if_pos rfl, e1]
  · have c1 : ¬ q31 (un32 hi lo) ≥ 4294967296 := by rw [q31_1 h0 h1 l0 l1]; omega
    have c2 : ∀ z y : Int, ¬ wu (z * 0) > wu y := fun z y => by
      have := wu_nonneg y
      rw [Int.mul_zero]
      have : wu 0 = 0 := by decide
      omega
    have c3 : ¬ q31 (un21 (un32 hi lo) (hi32 (un10 lo)) (q31 (un32 hi lo))) ≥ 4294967296 := by rw [q31_2 h0 h1 l0 l1]; omega
    obtain ⟨n, hn⟩ : ∃ n, rounds = n + 1 := ⟨99999999999999999999, rfl⟩
    have fa : LFact Try.prog tb 102 17 3 (st102a (un32 hi lo) (hi32 (un10 lo)) (lo32 (un10 lo)) (q31 (un32 hi lo)) (rh (un32 hi lo) (q31 (un32 hi lo)))) (.exit 0) (st102a (un32 hi lo) (hi32 (un10 lo)) (lo32 (un10 lo)) (q31 (un32 hi lo)) (rh (un32 hi lo) (q31 (un32 hi lo)))) := by
      refine ⟨_, stopAt_ok (f := 102) (l := [18]) ok0, ?_⟩
      rw [hn, loopN_succ, b102a, decide_eq_false c1, decide_eq_false (c2 _ _)]
      rfl
    have fb : LFact Try.prog tb 102 24 14 (st102b (lo32 (un10 lo)) (q31 (un32 hi lo)) (rh (un21 (un32 hi lo) (hi32 (un10 lo)) (q31 (un32 hi lo))) (q31 (un21 (un32 hi lo) (hi32 (un10 lo)) (q31 (un32 hi lo))))) (un21 (un32 hi lo) (hi32 (un10 lo)) (q31 (un32 hi lo))) (q31 (un21 (un32 hi lo) (hi32 (un10 lo)) (q31 (un32 hi lo))))) (.exit 2) (st102b (lo32 (un10 lo)) (q31 (un32 hi lo)) (rh (un21 (un32 hi lo) (hi32 (un10 lo)) (q31 (un32 hi lo))) (q31 (un21 (un32 hi lo) (hi32 (un10 lo)) (q31 (un32 hi lo))))) (un21 (un32 hi lo) (hi32 (un10 lo)) (q31 (un32 hi lo))) (q31 (un21 (un32 hi lo) (hi32 (un10 lo)) (q31 (un32 hi lo))))) := by
      refine ⟨_, stopAt_ok (f := 102) (l := [25]) ok0, ?_⟩
      rw [hn, loopN_succ, b102b, decide_eq_false c3, decide_eq_false (c2 _ _)]
      rfl
    refine ⟨rfl, _, stopAt_ok (f := 102) (l := [4]) (knowL_ok tbOk fa (knowL_ok tbOk fb ok0 (ep := e102) rfl norm102b count102b) (ep := e102) rfl norm102a count102a), fun h => ?_⟩
    refine (run102 hi lo _ _ _ _ _ _ _ _ _ _ h).trans ?_
    have hz' : (hi == 0) = false := by simp only [beq_eq_false_iff_ne]; exact hz
    rw [decide_eq_false (by omega : ¬ 65536 ≤ hi), hz', sameSt_self, sameSt_self, quot_eq h0 h1 l0 l1]
    unfold remV
    rw [if_neg hz]
    rfl
end
def is102g (a : List AV) : Prop := ∃ hi lo, a = [u64 hi, u64 lo, u64 65536] ∧ 0 ≤ hi ∧ hi < 65536 ∧ 0 ≤ lo ∧ lo < 18446744073709551616
def V102g (a : List AV) : AV := .tup [u64 ((ar a 0 * 18446744073709551616 + ar a 1) / 65536), u64 (remV (ar a 0) (ar a 1))]
theorem when102g (a : List AV) (h : isSo (is102g a) = true) : F 102 a (V102g a) := by
  obtain ⟨hi, lo, rfl, h0, h1, l0, l1⟩ := isSo_iff.1 h
  exact div_fact h0 h1 l0 l1
noncomputable def OPg (S : Orc) : Orc := knowW 100 (fun a => isSo (isN1 a)) V100 (knowW 99 (fun a => isSo (isU2 a)) V99 (knowW 102 (fun a => isSo (is102g a)) V102g S))
theorem OPg_ok {S : Orc} (h : Ok S) : Ok (OPg S) := knowW_ok tbOk when100 (knowW_ok tbOk when99 (knowW_ok tbOk when102g h))
noncomputable def prG (x y : Int) : Option AV :=
  j1 x <| j1 y <| bif isSo (isU2 [u64 (magI x), u64 (magI y)]) then
    guardK (decide (0 ≤ wu (magI x * magI y)) && decide (0 ≤ wu (w64 ((65536 : Int).tdiv 2))) && decide ((0 : Int) ≤ 0) && decide ((0 : Int) ≤ 1)) <|
    bif decide (pHi x y < wu 65536) then bif isSo (is102g [u64 (pHi x y), u64 (pLo x y), u64 (wu 65536)]) then
      bif decide ((pHi x y * 18446744073709551616 + pLo x y) / 65536 < 4611686018427387904) then pEnd x y (w64 ((pHi x y * 18446744073709551616 + pLo x y) / 65536)) else pEnd x y 4611686018427387904
      else none else pEnd x y 4611686018427387904
  else none
theorem run77g (x y : Int) (h : Heap) : evCall Try.prog (OPg orc0) tb 100 AV (.fn 77) (vwArgs Try.prog [] h (parsOf Try.prog 77) [int64 x, int64 y, int64 65536]) (mkHeap [] 0) .off rv = prG x y := by kernel_rfl
def absI (x : Int) : Int := if x < 0 then -x else x
def qI (x y : Int) : Int := (absI x * absI y + 32768) / 65536
def prodN (x y : Int) : Int := if (x < 0 ∧ ¬ y < 0) ∨ (¬ x < 0 ∧ y < 0) then -(min (qI x y) 4611686018427387904) else min (qI x y) 4611686018427387904
theorem prG_eq {x y : Int} (x0 : -1099511627776 ≤ x) (x1 : x ≤ 1099511627776) (y0 : -1099511627776 ≤ y) (y1 : y ≤ 1099511627776) : prG x y = some (int64 (prodN x y)) := by
  have mg : ∀ z : Int, -1099511627776 ≤ z → z ≤ 1099511627776 → magI z = absI z := fun z z0 z1 => by
    unfold magI absI
    by_cases h : z < 0
    · rw [decide_eq_true h, cond_true, if_pos h, wu_eq, IntKind.wrap_i64]
      omega
    · rw [decide_eq_false h, cond_false, if_neg h, wu_eq]
      omega
  have ab : ∀ z : Int, -1099511627776 ≤ z → z ≤ 1099511627776 → 0 ≤ absI z ∧ absI z ≤ 1099511627776 := fun z z0 z1 => by unfold absI; split <;> omega
  obtain ⟨a0, a1⟩ := ab x x0 x1
  obtain ⟨b0, b1⟩ := ab y y0 y1
  have hh := mulHi_eq a0 a1 b0 b1
  have hp0 : 0 ≤ absI x * absI y := Int.mul_nonneg a0 b0
  have hp1 : absI x * absI y ≤ 1099511627776 * 1099511627776 := Int.mul_le_mul a1 b1 b0 (by omega)
  have e0 : wu (w64 ((65536 : Int).tdiv 2)) = 32768 := by decide
  have e9 : wu 65536 = 65536 := by decide
  have eP : pHi x y * 18446744073709551616 + pLo x y = absI x * absI y + 32768 ∧ 0 ≤ pHi x y ∧ 0 ≤ pLo x y ∧ pLo x y < 18446744073709551616 := by
    unfold pHi pLo
    rw [mg x x0 x1, mg y y0 y1, hh, e0]
    simp only [wu_eq]
    generalize absI x * absI y = p at *
    omega
  obtain ⟨eP, hi0, lo0, lo1⟩ := eP
  have i1 : isSo (isN1 [int64 x]) = true := isSo_true ⟨_, rfl⟩
  have i2 : isSo (isN1 [int64 y]) = true := isSo_true ⟨_, rfl⟩
  have i3 : isSo (isU2 [u64 (magI x), u64 (magI y)]) = true := isSo_true ⟨_, _, rfl⟩
  have hw : decide (0 ≤ wu (magI x * magI y)) = true := decide_eq_true (by rw [wu_eq]; omega)
  have pe : ∀ n : Int, 0 ≤ n → n ≤ 4611686018427387904 → n = min (qI x y) 4611686018427387904 → pEnd x y n = some (int64 (prodN x y)) := fun n n0 n1 hn => by
    have en : w64 (0 - n) = -n := by unfold w64; rw [IntKind.wrap_i64]; omega
    unfold pEnd prodN
    rw [← hn, en]
    by_cases hx : x < 0 <;> by_cases hy : y < 0
    · rw [decide_eq_true hx, decide_eq_true hy, if_neg (by omega)]; rfl
    · rw [decide_eq_true hx, decide_eq_false hy, if_pos (.inl ⟨hx, hy⟩)]; rfl
    · rw [decide_eq_false hx, decide_eq_true hy, if_pos (.inr ⟨hx, hy⟩)]; rfl
    · rw [decide_eq_false hx, decide_eq_false hy, if_neg (by omega)]; rfl
  unfold prG j1
  rw [i1, i2, i3, hw, e0, e9, eP]
  show (bif decide (pHi x y < 65536) then _ else _) = _
  by_cases hb : pHi x y < 65536
  · have i4 : isSo (is102g [u64 (pHi x y), u64 (pLo x y), u64 65536]) = true := isSo_true ⟨_, _, rfl, hi0, hb, lo0, lo1⟩
    rw [decide_eq_true hb, i4]
    show (bif decide ((absI x * absI y + 32768) / 65536 < 4611686018427387904) then _ else _) = _
    by_cases hq : (absI x * absI y + 32768) / 65536 < 4611686018427387904
    · have ew : w64 ((absI x * absI y + 32768) / 65536) = (absI x * absI y + 32768) / 65536 := by
        unfold w64
        rw [IntKind.wrap_i64]
        omega
      rw [decide_eq_true hq, ew]
      exact pe _ (by omega) (by omega) (by unfold qI; omega)
    · rw [decide_eq_false hq]
      exact pe _ (by omega) (by omega) (by unfold qI; omega)
  · rw [decide_eq_false hb]
    exact pe _ (by omega) (by omega) (by unfold qI; omega)
def V77g (a : List AV) : AV := int64 (prodN (ar a 0) (ar a 1))
def is77g (a : List AV) : Prop := ∃ x y, a = [int64 x, int64 y, int64 65536] ∧ -1099511627776 ≤ x ∧ x ≤ 1099511627776 ∧ -1099511627776 ≤ y ∧ y ≤ 1099511627776
theorem when77g (a : List AV) (h : isSo (is77g a) = true) : F 77 a (V77g a) := by
  obtain ⟨x, y, rfl, x0, x1, y0, y1⟩ := isSo_iff.1 h
  exact .of (OPg_ok ok0) rfl fun h => (run77g x y h).trans (prG_eq x0 x1 y0 y1)
end Go.Proofs.Ythlmbnhelkbchaa
/- The document's product by any number, where it is not too large. -/
namespace Go.Proofs.Ythlmbnhelkbchaa
open Go.Ev
set_option maxRecDepth 100000
theorem run102z (lo y : Int) (h : Heap) : evCall Try.prog orc0 tb 100 AV (.fn 102) (vwArgs Try.prog [] h (parsOf Try.prog 102) [u64 0, u64 lo, u64 y]) (mkHeap [] 0) .off rv =
    bif y == 0 then none else bif decide (y ≤ 0) then none else bif y == 0 then none else bif y == 0 then none else some (.tup [u64 (wu (lo.tdiv y)), u64 (lo.tmod y)]) := by kernel_rfl
def is102z (a : List AV) : Prop := ∃ hi lo y, a = [u64 hi, u64 lo, u64 y] ∧ hi = 0 ∧ 1 ≤ y ∧ y < 18446744073709551616 ∧ 0 ≤ lo ∧ lo < 18446744073709551616
def V102z (a : List AV) : AV := .tup [u64 (ar a 1 / ar a 2), u64 ((ar a 1).tmod (ar a 2))]
theorem when102z (a : List AV) (h : isSo (is102z a) = true) : F 102 a (V102z a) := by
  obtain ⟨hi, lo, y, rfl, rfl, h1, h2, h3, h4⟩ := isSo_iff.1 h
  refine .of ok0 rfl fun h => (run102z lo y h).trans ?_
  have e : (y == 0) = false := by simp only [beq_eq_false_iff_ne]; omega
  rw [e, decide_eq_false (by omega : ¬ y ≤ 0)]
  have e1 : wu (lo.tdiv y) = lo / y := by
    rw [Int.tdiv_eq_ediv_of_nonneg h3, wu_eq]
    have a0 : 0 ≤ lo / y := Int.ediv_nonneg h3 (by omega)
    have a1 : lo / y ≤ lo := Int.ediv_le_self _ h3
    omega
  rw [e1]
  rfl
noncomputable def OPh (S : Orc) : Orc := knowW 100 (fun a => isSo (isN1 a)) V100 (knowW 99 (fun a => isSo (isU2 a)) V99 (knowW 102 (fun a => isSo (is102z a)) V102z S))
theorem OPh_ok {S : Orc} (h : Ok S) : Ok (OPh S) := knowW_ok tbOk when100 (knowW_ok tbOk when99 (knowW_ok tbOk when102z h))
def pLoN (x y n : Int) : Int := (wu (magI x * magI y) + wu (w64 (n.tdiv 2)) + 0) % 18446744073709551616
def pHiN (x y n : Int) : Int := wu (mulHi (magI x) (magI y) + (wu (magI x * magI y) + wu (w64 (n.tdiv 2)) + 0) / 18446744073709551616)
noncomputable def prH (x y n : Int) : Option AV :=
  j1 x <| j1 y <| bif isSo (isU2 [u64 (magI x), u64 (magI y)]) then
    guardK (decide (0 ≤ wu (magI x * magI y)) && decide (0 ≤ wu (w64 (n.tdiv 2))) && decide ((0 : Int) ≤ 0) && decide ((0 : Int) ≤ 1)) <|
    bif decide (pHiN x y n < wu n) then bif isSo (is102z [u64 (pHiN x y n), u64 (pLoN x y n), u64 (wu n)]) then
      bif decide (pLoN x y n / wu n < 4611686018427387904) then pEnd x y (w64 (pLoN x y n / wu n)) else pEnd x y 4611686018427387904
      else none else pEnd x y 4611686018427387904
  else none
theorem run77h (x y n : Int) (h : Heap) : evCall Try.prog (OPh orc0) tb 100 AV (.fn 77) (vwArgs Try.prog [] h (parsOf Try.prog 77) [int64 x, int64 y, int64 n]) (mkHeap [] 0) .off rv = prH x y n := by kernel_rfl
def prodM (x y n : Int) : Int := if x < 0 then -((absI x * y + n / 2) / n) else (absI x * y + n / 2) / n
theorem mulHi_eq' {a b : Int} (a0 : 0 ≤ a) (a1 : a ≤ 4398046511104) (b0 : 0 ≤ b) (b1 : b ≤ 1099511627776) : mulHi a b = a * b / 18446744073709551616 := by
  have la := lo32_eq a0 (by omega : a < 18446744073709551616)
  have lb := lo32_eq b0 (by omega : b < 18446744073709551616)
  have hab := mul_parts (a / 4294967296) (a % 4294967296) (b / 4294967296) (b % 4294967296)
  rw [show 4294967296 * (a / 4294967296) + a % 4294967296 = a by omega, show 4294967296 * (b / 4294967296) + b % 4294967296 = b by omega] at hab
  have s0 : 0 ≤ a / 4294967296 * (b / 4294967296) := Int.mul_nonneg (by omega) (by omega)
  have s1 : a / 4294967296 * (b / 4294967296) ≤ 1024 * 256 := Int.mul_le_mul (by omega) (by omega) (by omega) (by omega)
  have p0 : 0 ≤ a / 4294967296 * (b % 4294967296) := Int.mul_nonneg (by omega) (by omega)
  have p1 : a / 4294967296 * (b % 4294967296) ≤ 1024 * 4294967295 := Int.mul_le_mul (by omega) (by omega) (by omega) (by omega)
  have q0 : 0 ≤ a % 4294967296 * (b / 4294967296) := Int.mul_nonneg (by omega) (by omega)
  have q1 : a % 4294967296 * (b / 4294967296) ≤ 4294967295 * 256 := Int.mul_le_mul (by omega) (by omega) (by omega) (by omega)
  have r0 : 0 ≤ a % 4294967296 * (b % 4294967296) := Int.mul_nonneg (by omega) (by omega)
  have r1 : a % 4294967296 * (b % 4294967296) ≤ 4294967295 * 4294967295 := Int.mul_le_mul (by omega) (by omega) (by omega) (by omega)
  unfold mulHi mulT
  simp only [hi32_eq, la, lb, wu_eq]
  rw [hab]
  generalize a / 4294967296 * (b / 4294967296) = s at *
  generalize a / 4294967296 * (b % 4294967296) = p at *
  generalize a % 4294967296 * (b / 4294967296) = q at *
  generalize a % 4294967296 * (b % 4294967296) = r at *
  have e3 : (p % 18446744073709551616 + r % 18446744073709551616 / 4294967296) % 18446744073709551616 = p + r / 4294967296 := by omega
  rw [e3, lo32_eq (by omega) (by omega)]
  omega
theorem absI_b {x B : Int} (h0 : -B ≤ x) (h1 : x ≤ B) : 0 ≤ absI x ∧ absI x ≤ B := by unfold absI; split <;> omega
theorem prH_eq {x y n : Int} (x0 : -2199023255552 ≤ x) (x1 : x ≤ 2199023255552) (y0 : 0 ≤ y) (y1 : y ≤ 1000000) (n0 : 1 ≤ n) (n1 : n ≤ 1000000000) : prH x y n = some (int64 (prodM x y n)) := by
  obtain ⟨a0, a1⟩ := absI_b x0 x1
  have mg : ∀ z : Int, -2199023255552 ≤ z → z ≤ 2199023255552 → magI z = absI z := fun z z0 z1 => by
    unfold magI absI
    by_cases h : z < 0
    · rw [decide_eq_true h, cond_true, if_pos h, wu_eq, IntKind.wrap_i64]
      omega
    · rw [decide_eq_false h, cond_false, if_neg h, wu_eq]
      omega
  have hy : absI y = y := by unfold absI; rw [if_neg (by omega)]
  have hh := mulHi_eq' a0 (by omega : absI x ≤ 4398046511104) y0 (by omega : y ≤ 1099511627776)
  have hp0 : 0 ≤ absI x * y := Int.mul_nonneg a0 y0
  have hp1 : absI x * y ≤ 2199023255552 * 1000000 := Int.mul_le_mul a1 y1 y0 (by omega)
  have e0 : wu (w64 (n.tdiv 2)) = n / 2 := by
    rw [Int.tdiv_eq_ediv_of_nonneg (by omega)]
    have : w64 (n / 2) = n / 2 := by unfold w64; rw [IntKind.wrap_i64]; omega
    rw [this, wu_eq]
    omega
  have e9 : wu n = n := by rw [wu_eq]; omega
  have eL : pLoN x y n = absI x * y + n / 2 := by
    unfold pLoN
    rw [mg x x0 x1, mg y (by omega) (by omega), hy, e0, wu_eq]
    omega
  have eH : pHiN x y n = 0 := by
    unfold pHiN
    rw [mg x x0 x1, mg y (by omega) (by omega), hy, hh, e0, wu_eq (absI x * y), wu_eq]
    omega
  have i1 : isSo (isN1 [int64 x]) = true := isSo_true ⟨_, rfl⟩
  have i2 : isSo (isN1 [int64 y]) = true := isSo_true ⟨_, rfl⟩
  have i3 : isSo (isU2 [u64 (magI x), u64 (magI y)]) = true := isSo_true ⟨_, _, rfl⟩
  have hw : decide (0 ≤ wu (magI x * magI y)) = true := decide_eq_true (by rw [wu_eq]; omega)
  have hn : decide (0 ≤ n / 2) = true := decide_eq_true (by omega)
  have q0 : 0 ≤ (absI x * y + n / 2) / n := Int.ediv_nonneg (by omega) (by omega)
  have q1 : (absI x * y + n / 2) / n ≤ absI x * y + n / 2 := Int.ediv_le_self _ (by omega)
  unfold prH j1
  rw [i1, i2, i3, hw, e0, e9, eL, eH, hn]
  have i4 : isSo (is102z [u64 0, u64 (absI x * y + n / 2), u64 n]) = true := isSo_true ⟨_, _, _, rfl, rfl, n0, by omega, by omega, by omega⟩
  rw [decide_eq_true (by omega : (0 : Int) < n), i4, decide_eq_true (by omega : (absI x * y + n / 2) / n < 4611686018427387904)]
  have ew : w64 ((absI x * y + n / 2) / n) = (absI x * y + n / 2) / n := by unfold w64; rw [IntKind.wrap_i64]; omega
  rw [ew]
  show pEnd x y ((absI x * y + n / 2) / n) = _
  have en : w64 (0 - (absI x * y + n / 2) / n) = -((absI x * y + n / 2) / n) := by unfold w64; rw [IntKind.wrap_i64]; omega
  unfold pEnd prodM
  rw [en]
  by_cases hx : x < 0
  · rw [decide_eq_true hx, decide_eq_false (by omega : ¬ y < 0), if_pos hx]; rfl
  · rw [decide_eq_false hx, decide_eq_false (by omega : ¬ y < 0), if_neg hx]; rfl
def is77h (a : List AV) : Prop := ∃ x y n, a = [int64 x, int64 y, int64 n] ∧ -2199023255552 ≤ x ∧ x ≤ 2199023255552 ∧ 0 ≤ y ∧ y ≤ 1000000 ∧ 1 ≤ n ∧ n ≤ 1000000000
theorem fact77h {x y n : Int} (x0 : -2199023255552 ≤ x) (x1 : x ≤ 2199023255552) (y0 : 0 ≤ y) (y1 : y ≤ 1000000) (n0 : 1 ≤ n) (n1 : n ≤ 1000000000) : F 77 [int64 x, int64 y, int64 n] (int64 (prodM x y n)) :=
  .of (OPh_ok ok0) rfl fun h => (run77h x y n h).trans (prH_eq x0 x1 y0 y1 n0 n1)
end Go.Proofs.Ythlmbnhelkbchaa
