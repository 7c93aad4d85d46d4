/- Div64 by One, in closed form. -/
import Derived.Test.YthlmbnhelkbchaaUwB
namespace Go.Proofs.Ythlmbnhelkbchaa
open Go.Ev
set_option maxRecDepth 100000
def un32 (hi lo : Int) : Int := wu ((BitVec.ofInt 64 (wu (hi * 2 ^ 47)) ||| BitVec.ofInt 64 (lo.fdiv (2 ^ 17))).toNat : Int)
def un10 (lo : Int) : Int := wu (lo * 2 ^ 47)
def q31 (a : Int) : Int := wu (a.tdiv 2147483648)
def rh (a q : Int) : Int := wu (a - wu (q * 2147483648))
def un21 (a u q : Int) : Int := wu (wu (wu (a * 4294967296) + u) - wu (q * 9223372036854775808))
def st102a (a u1 u0 q r : Int) : St := ⟨[.dead, .dead, u64 9223372036854775808, .dead, .dead, .dead, .dead, .dead, u64 47, u64 2147483648, u64 0, u64 a, .dead, u64 u1, u64 u0, u64 q, u64 r] ++ repA .dead 118, mkHeap [] 14, [], .off⟩
def st102b (u0 q r a2 q2 : Int) : St := ⟨[.dead, .dead, u64 9223372036854775808, .dead, .dead, .dead, .dead, .dead, u64 47, u64 2147483648, u64 0, .dead, .dead, .dead, u64 u0, u64 q, u64 r, u64 a2, u64 q2] ++ repA .dead 116, mkHeap [] 25, [], .off⟩
def N17a : Norm := ⟨[2, 6, 7, 8, 9, 10, 11, 13, 14, 15, 16], []⟩
def N24a : Norm := ⟨[2, 6, 7, 8, 9, 10, 14, 15, 16, 17, 18], []⟩
theorem norm102a : loopN0 tb 102 17 = some N17a := by kernel_rfl
theorem norm102b : loopN0 tb 102 24 = some N24a := by kernel_rfl
theorem count102a : Nat.ble (countL 17 e102.code) 1 = true := by kernel_rfl
theorem count102b : Nat.ble (countL 24 e102.code) 1 = true := by kernel_rfl
theorem b102a {A : Type} (a u1 u0 q r : Int) (K : Ex → St → Option A) : loopB Try.prog (stopAt 102 [18] orc0) tb 102 17 3 (st102a a u1 u0 q r) K =
    bif decide (q ≥ 4294967296) then none else bif decide (wu (q * 0) > wu (wu (4294967296 * r) + u1)) then none else K (.exit 0) (st102a a u1 u0 q r) := by kernel_rfl
theorem b102b {A : Type} (u0 q r a2 q2 : Int) (K : Ex → St → Option A) : loopB Try.prog (stopAt 102 [25] orc0) tb 102 24 14 (st102b u0 q r a2 q2) K =
    bif decide (q2 ≥ 4294967296) then none else bif decide (wu (q2 * 0) > wu (wu (4294967296 * r) + u0)) then none else K (.exit 2) (st102b u0 q r a2 q2) := by kernel_rfl
noncomputable def S102 (a u1 u0 q r : Int) (u0' q' r' a2 q2 : Int) : Orc := stopAt 102 [4] (knowL Try.prog 102 17 N17a 3 (st102a a u1 u0 q r) (.exit 0) (st102a a u1 u0 q r) (knowL Try.prog 102 24 N24a 14 (st102b u0' q' r' a2 q2) (.exit 2) (st102b u0' q' r' a2 q2) orc0))
theorem run102_pre (hi lo : Int) (a u1 u0 q r : Int) (u0' q' r' a2 q2 : Int) (h : Heap) : evCall Try.prog (stopAt 102 [4, 21] (S102 a u1 u0 q r u0' q' r' a2 q2)) tb 100 AV (.fn 102) (vwArgs Try.prog [] h (parsOf Try.prog 102) [u64 hi, u64 lo, u64 65536]) (mkHeap [] 0) .off rv =
    bif decide (65536 ≤ hi) then none else bif hi == 0 then some (.tup [u64 (wu (lo.tdiv 65536)), u64 (lo.tmod 65536)]) else
    bif sameSt (st102a (un32 hi lo) (hi32 (un10 lo)) (lo32 (un10 lo)) (q31 (un32 hi lo)) (rh (un32 hi lo) (q31 (un32 hi lo)))) (st102a a u1 u0 q r) then none else none := by kernel_rfl
theorem run102 (hi lo : Int) (a u1 u0 q r : Int) (u0' q' r' a2 q2 : Int) (h : Heap) : evCall Try.prog (S102 a u1 u0 q r u0' q' r' a2 q2) tb 100 AV (.fn 102) (vwArgs Try.prog [] h (parsOf Try.prog 102) [u64 hi, u64 lo, u64 65536]) (mkHeap [] 0) .off rv =
    bif decide (65536 ≤ hi) then none else bif hi == 0 then some (.tup [u64 (wu (lo.tdiv 65536)), u64 (lo.tmod 65536)]) else
    bif sameSt (st102a (un32 hi lo) (hi32 (un10 lo)) (lo32 (un10 lo)) (q31 (un32 hi lo)) (rh (un32 hi lo) (q31 (un32 hi lo)))) (st102a a u1 u0 q r) then
    bif sameSt (st102b u0 q (rh (un21 a u1 q) (q31 (un21 a u1 q))) (un21 a u1 q) (q31 (un21 a u1 q))) (st102b u0' q' r' a2 q2) then
    some (.tup [u64 (wu (wu (q' * 4294967296) + q2)), u64 ((wu (wu (wu (a2 * 4294967296) + u0') - wu (q2 * 9223372036854775808))).fdiv (2 ^ 47))]) else none else none := by kernel_rfl
end Go.Proofs.Ythlmbnhelkbchaa
