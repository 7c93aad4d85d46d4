/- UnitEnvelopes: the law's first loop (the gates). -/
import Derived.Test.YthlmbnhelkbchaaUeB
namespace Go.Proofs.Ythlmbnhelkbchaa
open Go.Ev
set_option maxRecDepth 100000
noncomputable def SE (a d kp r : Int) (S : Orc) : Orc := know 12 [] (.bool true) (knowC Try.prog 13 [unitV 6 3 [0] [a, d, kp, r]] (.bool true) (knowC Try.prog 29 [unitV 6 3 [0] [a, d, kp, r]] (.bool true) (OE S)))
def st7 (a d kp r held : Int) (N : Nat) (i : Int) (cs : List AV) (nx : Nat) : St := ⟨[ints [a, d, kp, r], int64 held, .dead, .dead, .dead, .sl (some (1, 0)) N N true 1, int64 i] ++ repA .dead 124, mkHeap [(1, .cells true cs), (0, .cells true [int64 0])] nx, [], .off⟩
def body7 {A : Type} (a d kp r held : Int) (N : Nat) (i : Int) (cs : List AV) (K : Ex → St → Option A) : Option A :=
  bif decide (i < held) then
    guardK (decide (0 ≤ i) && decide (i < (N : Int))) <| guardK (Nat.ble (0 + i.toNat * 1 + 1) (lenA cs)) <|
    guardK (allS (splice cs (0 + i.toNat * 1) [int64 (w64 (1 + i))]) && true) <| K .normal (st7 a d kp r held N (IntKind.i64.wrap (i + 1)) (splice cs (0 + i.toNat * 1) [int64 (w64 (1 + i))]) 7)
  else guardK (allS cs && true) (K (.exit 0) (st7 a d kp r held N i cs 7))
theorem b7 {A : Type} (a d kp r held : Int) (N : Nat) (i : Int) (cs : List AV) (K : Ex → St → Option A) :
    loopBF Try.prog orc0 tb 3 7 [1] 2 (st7 a d kp r held N i cs 7) K = body7 a d kp r held N i cs K := by kernel_rfl
def N7 : Norm := ⟨[0, 1, 4, 5, 6], []⟩
end Go.Proofs.Ythlmbnhelkbchaa
