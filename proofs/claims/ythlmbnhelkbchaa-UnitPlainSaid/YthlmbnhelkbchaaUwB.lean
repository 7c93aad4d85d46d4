/- Product by One, where a number of 64 bits holds the product. -/
import Derived.Test.YthlmbnhelkbchaaUlB
import Derived.Test.YthlmbnhelkbchaaUpC
namespace Go.Proofs.Ythlmbnhelkbchaa
open Go.Ev
set_option maxRecDepth 100000
def V100 (a : List AV) : AV := u64 (magI (ar a 0))
theorem when100 (a : List AV) (h : isSo (isN1 a) = true) : F 100 a (V100 a) := by
  obtain ⟨x, rfl⟩ := isSo_iff.1 h
  refine .of ok0 rfl fun h => (run100 x h).trans ?_
  show _ = some (u64 (magI x))
  unfold magI
  cases decide (x < 0) <;> rfl
def isU2 (a : List AV) : Prop := ∃ x y, a = [u64 x, u64 y]
def V99 (a : List AV) : AV := .tup [u64 (mulHi (ar a 0) (ar a 1)), u64 (wu (ar a 0 * ar a 1))]
theorem when99 (a : List AV) (h : isSo (isU2 a) = true) : F 99 a (V99 a) := by
  obtain ⟨x, y, rfl⟩ := isSo_iff.1 h
  exact .of ok0 rfl fun h => run99 x y h
def is102 (a : List AV) : Prop := ∃ lo, a = [u64 0, u64 lo, u64 65536]
def V102 (a : List AV) : AV := .tup [u64 (wu ((ar a 1).tdiv 65536)), u64 ((ar a 1).tmod 65536)]
theorem run102_0 (lo : Int) (h : Heap) : evCall Try.prog orc0 tb 100 AV (.fn 102) (vwArgs Try.prog [] h (parsOf Try.prog 102) [u64 0, u64 lo, u64 65536]) (mkHeap [] 0) .off rv =
    some (.tup [u64 (wu (lo.tdiv 65536)), u64 (lo.tmod 65536)]) := by kernel_rfl
theorem when102 (a : List AV) (h : isSo (is102 a) = true) : F 102 a (V102 a) := by
  obtain ⟨lo, rfl⟩ := isSo_iff.1 h
  exact .of ok0 rfl fun h => run102_0 lo h
noncomputable def OP (S : Orc) : Orc := knowW 100 (fun a => isSo (isN1 a)) V100 (knowW 99 (fun a => isSo (isU2 a)) V99 (knowW 102 (fun a => isSo (is102 a)) V102 S))
theorem OP_ok {S : Orc} (h : Ok S) : Ok (OP S) := knowW_ok tbOk when100 (knowW_ok tbOk when99 (knowW_ok tbOk when102 h))
noncomputable abbrev j1 (x : Int) (y : Option AV) : Option AV := bif isSo (isN1 [int64 x]) then y else none
def pLo (x y : Int) : Int := (wu (magI x * magI y) + wu (w64 ((65536 : Int).tdiv 2)) + 0) % 18446744073709551616
def pHi (x y : Int) : Int := wu (mulHi (magI x) (magI y) + (wu (magI x * magI y) + wu (w64 ((65536 : Int).tdiv 2)) + 0) / 18446744073709551616)
def pEnd (x y n : Int) : Option AV := bif !(decide (x < 0) == decide (y < 0)) then some (int64 (w64 (0 - n))) else some (int64 n)
noncomputable def prT (x y : Int) : Option AV :=
  j1 x <| j1 y <| bif isSo (isU2 [u64 (magI x), u64 (magI y)]) then
    guardK (decide (0 ≤ wu (magI x * magI y)) && decide (0 ≤ wu (w64 ((65536 : Int).tdiv 2))) && decide ((0 : Int) ≤ 0) && decide ((0 : Int) ≤ 1)) <|
    bif decide (pHi x y < wu 65536) then bif isSo (is102 [u64 (pHi x y), u64 (pLo x y), u64 (wu 65536)]) then
      bif decide (wu ((pLo x y).tdiv 65536) < 4611686018427387904) then pEnd x y (w64 (wu ((pLo x y).tdiv 65536))) else pEnd x y 4611686018427387904
      else none else pEnd x y 4611686018427387904
  else none
theorem run77 (x y : Int) (h : Heap) : evCall Try.prog (OP orc0) tb 100 AV (.fn 77) (vwArgs Try.prog [] h (parsOf Try.prog 77) [int64 x, int64 y, int64 65536]) (mkHeap [] 0) .off rv = prT x y := by kernel_rfl
theorem wu_eq (n : Int) : wu n = n % 18446744073709551616 := by unfold wu; simp [IntKind.wrap, IntKind.bits, IntKind.signed]
theorem lo32_eq {a : Int} (h0 : 0 ≤ a) (h1 : a < 18446744073709551616) : lo32 a = a % 4294967296 := by
  unfold lo32
  have e1 : (BitVec.ofInt 64 4294967295).toNat = 2 ^ 32 - 1 := by decide
  have e2 : (BitVec.ofInt 64 a).toNat = a.toNat := by
    rw [BitVec.toNat_ofInt]
    congr 1
    omega
  rw [BitVec.toNat_and, e1, e2, Nat.and_two_pow_sub_one_eq_mod, wu_eq]
  have : (2 : Nat) ^ 32 = 4294967296 := by decide
  rw [this]
  omega
theorem hi32_eq {a : Int} : hi32 a = a / 4294967296 := by
  unfold hi32
  have : (2 : Int) ^ 32 = 4294967296 := by decide
  rw [this, Int.fdiv_eq_ediv_of_nonneg _ (by omega)]
/-- What a product of two numbers has above 64 bits, where the numbers are small. -/
theorem mulHi_zero {a b : Int} (a0 : 0 ≤ a) (a1 : a ≤ 4398046511104) (b0 : 0 ≤ b) (b1 : b ≤ 65536) : mulHi a b = 0 := by
  have la := lo32_eq a0 (by omega : a < 18446744073709551616)
  have lb := lo32_eq b0 (by omega : b < 18446744073709551616)
  have e1 : b % 4294967296 = b := by omega
  have e2 : b / 4294967296 = 0 := by omega
  -- the partial products
  have p0 : 0 ≤ a % 4294967296 * b := Int.mul_nonneg (by omega) b0
  have p1 : a % 4294967296 * b ≤ 4294967295 * 65536 := Int.mul_le_mul (by omega) b1 b0 (by omega)
  have q0 : 0 ≤ a / 4294967296 * b := Int.mul_nonneg (by omega) b0
  have q1 : a / 4294967296 * b ≤ 1024 * 65536 := Int.mul_le_mul (by omega) b1 b0 (by omega)
  unfold mulHi mulT
  simp only [hi32_eq, la, lb, e1, e2, wu_eq, Int.mul_zero]
  generalize a % 4294967296 * b = p at *
  generalize a / 4294967296 * b = q at *
  have l2 : lo32 ((q % 18446744073709551616 + p % 18446744073709551616 / 4294967296) % 18446744073709551616) = (q + p / 4294967296) % 4294967296 := by
    have e3 : (q % 18446744073709551616 + p % 18446744073709551616 / 4294967296) % 18446744073709551616 = q + p / 4294967296 := by omega
    rw [e3, lo32_eq (by omega) (by omega)]
  rw [l2]
  omega
def V77 (a : List AV) : AV := int64 (round1 (w64 (ar a 0 * ar a 1)))
def is77 (a : List AV) : Prop := ∃ x y, a = [int64 x, int64 y, int64 65536] ∧ -4398046511104 ≤ x ∧ x ≤ 4398046511104 ∧ 0 ≤ y ∧ y ≤ 65536
theorem prT_eq {x y : Int} (x0 : -4398046511104 ≤ x) (x1 : x ≤ 4398046511104) (y0 : 0 ≤ y) (y1 : y ≤ 65536) : prT x y = some (int64 (round1 (w64 (x * y)))) := by
  have my : magI y = y := by
    unfold magI
    rw [decide_eq_false (by omega : ¬ y < 0), cond_false, wu_eq]
    omega
  have mx : magI x = if x < 0 then -x else x := by
    unfold magI
    by_cases h : x < 0
    · rw [decide_eq_true h, cond_true, if_pos h, wu_eq, IntKind.wrap_i64]
      omega
    · rw [decide_eq_false h, cond_false, if_neg h, wu_eq]
      omega
  have hb0 : 0 ≤ magI x * y := Int.mul_nonneg (by rw [mx]; split <;> omega) y0
  have hb1 : magI x * y ≤ 4398046511104 * 65536 := Int.mul_le_mul (by rw [mx]; split <;> omega) y1 y0 (by omega)
  have hmag : magI x * y = if x < 0 then -(x * y) else x * y := by
    rw [mx]
    split
    · rw [Int.neg_mul]
    · rfl
  have hz : mulHi (magI x) y = 0 := mulHi_zero (by rw [mx]; split <;> omega) (by rw [mx]; split <;> omega) y0 y1
  have e0 : wu (w64 ((65536 : Int).tdiv 2)) = 32768 := by decide
  have e9 : wu 65536 = 65536 := by decide
  have e1 : wu (magI x * y) = magI x * y := by rw [wu_eq]; omega
  have elo : pLo x y = magI x * y + 32768 := by
    unfold pLo
    rw [my, e0, e1]
    omega
  have ehi : pHi x y = 0 := by
    unfold pHi
    rw [my, hz, e0, e1, wu_eq]
    omega
  have eq : wu ((magI x * y + 32768).tdiv 65536) = (magI x * y + 32768) / 65536 := by
    rw [Int.tdiv_eq_ediv_of_nonneg (by omega), wu_eq]
    omega
  have ew : w64 ((magI x * y + 32768) / 65536) = (magI x * y + 32768) / 65536 := by
    unfold w64
    rw [IntKind.wrap_i64]
    omega
  unfold prT j1
  have i1 : isSo (isN1 [int64 x]) = true := isSo_true ⟨_, rfl⟩
  have i2 : isSo (isN1 [int64 y]) = true := isSo_true ⟨_, rfl⟩
  have i3 : isSo (isU2 [u64 (magI x), u64 (magI y)]) = true := isSo_true ⟨_, _, rfl⟩
  have i4 : isSo (is102 [u64 0, u64 (magI x * y + 32768), u64 65536]) = true := isSo_true ⟨_, rfl⟩
  rw [i1, i2, i3, my, e0, e1, decide_eq_true hb0, ehi, elo, e9, i4, eq, decide_eq_true (by omega : (magI x * y + 32768) / 65536 < 4611686018427387904), ew]
  show pEnd x y ((magI x * y + 32768) / 65536) = _
  unfold pEnd
  rw [decide_eq_false (by omega : ¬ y < 0)]
  have hwm : w64 (x * y) = x * y := by
    unfold w64
    rw [IntKind.wrap_i64]
    split at hmag <;> omega
  rw [hwm, round1_eq (by split at hmag <;> omega) (by split at hmag <;> omega)]
  by_cases h : x < 0
  · rw [decide_eq_true h]
    rw [if_pos h] at hmag
    have : w64 (0 - (magI x * y + 32768) / 65536) = -((magI x * y + 32768) / 65536) := by
      unfold w64
      rw [IntKind.wrap_i64]
      omega
    show some (int64 (w64 (0 - (magI x * y + 32768) / 65536))) = _
    rw [this, hmag]
    by_cases h2 : x * y < 0
    · rw [if_pos h2]
    · have : x * y = 0 := by omega
      rw [if_neg h2, this]
      rfl
  · rw [decide_eq_false h]
    rw [if_neg h] at hmag
    rw [hmag, if_neg (by omega)]
    rfl
theorem when77 (a : List AV) (h : isSo (is77 a) = true) : F 77 a (V77 a) := by
  obtain ⟨x, y, rfl, x0, x1, y0, y1⟩ := isSo_iff.1 h
  exact .of (OP_ok ok0) rfl fun h => (run77 x y h).trans (prT_eq x0 x1 y0 y1)
end Go.Proofs.Ythlmbnhelkbchaa
