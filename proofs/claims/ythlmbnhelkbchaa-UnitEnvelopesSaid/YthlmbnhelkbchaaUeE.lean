/- UnitEnvelopes: the law's last loop. -/
import Derived.Test.YthlmbnhelkbchaaUeD
namespace Go.Proofs.Ythlmbnhelkbchaa
open Go.Ev
set_option maxRecDepth 100000
def stC (a d kp r held : Int) (gs : List AV) (fr told st lv from' : Int) (g : Bool) (cs : List AV) (M : Nat) (i : Int) : St :=
  ⟨[ints [a, d, kp, r], int64 held, .dead, .dead, .dead, .dead, .dead, .gr (30, 0) M 1, .dead, int64 i] ++ repA .dead 121, mkHeap ((30, .cells true cs) :: blkE a d kp r gs fr told st lv from' g) 39, [], .off⟩
def bodyC {A : Type} (a d kp r held : Int) (gs : List AV) (fr told st lv from' : Int) (g : Bool) (cs : List AV) (M : Nat) (i : Int) (K : Ex → St → Option A) : Option A :=
  bif decide (i < (M : Int)) then
    let next : Option A := guardK (allS cs && (allS gs && true)) (K .normal (stC a d kp r held gs fr told st lv from' g cs M (IntKind.i64.wrap (i + 1))))
    ldB cs M i fun y => bif decide (y < 0) then none else ldB cs M i fun y => bif decide (y > 65536) then none else
    bif decide (i ≥ w64 (a + d)) then bif decide (i < held) then ldB cs M i fun y => bif !(y == kp) then none else next else next else next
  else guardK (allS cs && (allS gs && true)) (K (.exit 2) (stC a d kp r held gs fr told st lv from' g cs M i))
theorem bC {A : Type} (a d kp r held : Int) (gs : List AV) (fr told st lv from' : Int) (g : Bool) (cs : List AV) (M : Nat) (i : Int) (K : Ex → St → Option A) :
    loopBF Try.prog (stopAt 3 [17] orc0) tb 3 14 [30, 1] 34 (stC a d kp r held gs fr told st lv from' g cs M i) K = bodyC a d kp r held gs fr told st lv from' g cs M i K := by kernel_rfl
noncomputable def SV (a d kp r : Int) (v : Bool) (S : Orc) : Orc := know 12 [] (.bool true) (knowC Try.prog 13 [unitV 6 3 [0] [a, d, kp, r]] (.bool v) (knowC Try.prog 29 [unitV 6 3 [0] [a, d, kp, r]] (.bool v) S))
noncomputable abbrev mk (n : Int) : Bool := decide (0 ≤ n) && decide (n ≤ n) && decide (n ≤ (limit : Int)) && decide ((8 : Int) * n ≤ (limit : Int))
theorem env_run0 (xs : List Int) (held : Int) : evCall Try.prog (know 12 [] (.bool true) (stopAt 3 [5] (stopAt 13 [0] orc0))) tb 100 Bool (.fn 3) [ints xs, int64 held] ⟨fun _ => none, 0⟩ .off done =
    bif same [] [] then bif !((xs.length : Int) == 4) then some true else bif decide (held < 1) then some true else bif decide (held > 3000) then some true else none else none := by kernel_rfl
theorem env_run1 (a d kp r held : Int) (v : Bool) : evCall Try.prog (SV a d kp r v (stopAt 3 [5] orc0)) tb 100 Bool (.fn 3) [ints [a, d, kp, r], int64 held] ⟨fun _ => none, 0⟩ .off done =
    bif same [] [] then bif decide (held < 1) then some true else bif decide (held > 3000) then some true else
      bif same [unitV 6 3 [0] [a, d, kp, r]] [unitV 6 3 [0] [a, d, kp, r]] then
      bif !v then some true else bif decide (a > 1000) then some true else bif decide (d > 1000) then some true else bif decide (r > 1000) then some true else none else none else none := by kernel_rfl
end Go.Proofs.Ythlmbnhelkbchaa
