/- UnitEnvelopes: the whole run. -/
import Derived.Test.YthlmbnhelkbchaaUeE
namespace Go.Proofs.Ythlmbnhelkbchaa
open Go.Ev
set_option maxRecDepth 100000
def N46 : Norm := ⟨[2, 6, 7, 8, 10, 26, 27, 28], []⟩
def N14 : Norm := ⟨[0, 1, 4, 7, 9], []⟩
def nG (held r : Int) : Int := w64 (w64 (held + r) + 1)
noncomputable def SF (a d kp r held : Int) (gs : List AV) (s46 sC : St) (cs : List AV) (M : Nat) (fr told st lv from' : Int) (g : Bool) : Orc :=
  SV a d kp r true (knowLF Try.prog 3 7 N7 [1] 2 (st7 a d kp r held (nG held r).toNat 0 (repL [int64 0] (nG held r).toNat) 7) (.exit 0) (st7 a d kp r held (nG held r).toNat held gs 7)
   (knowLF Try.prog 46 8 N46 [30, 1] 26 (stE a d kp r (nG held r).toNat gs 0 0 0 0 0 0 false (.sl none 0 0 true 0) []) (.exit 0) s46
    (knowLF Try.prog 3 14 N14 [30, 1] 34 (stC a d kp r held gs fr told st lv from' g cs M 0) (.exit 2) sC orc0)))
noncomputable abbrev U {A : Type} (a d kp r : Int) (x : Option A) : Option A := bif same [unitV 6 3 [0] [a, d, kp, r]] [unitV 6 3 [0] [a, d, kp, r]] then x else none
noncomputable abbrev Z {A : Type} (l : List Int) (x : Option A) : Option A := bif sameV (ints l) (ints l) then x else none
theorem env_run2 (a d kp r held : Int) (gs cs : List AV) (m : Nat) (fr told st lv from' : Int) (g : Bool) :
    evCall Try.prog (SF a d kp r held gs (stE a d kp r (nG held r).toNat gs ((nG held r).toNat : Int) fr told st lv from' g (.gr (30, 0) (m + 1) 1) [(30, .cells true cs)]) (stC a d kp r held gs fr told st lv from' g cs (m + 1) ((m + 1 : Nat) : Int)) cs (m + 1) fr told st lv from' g) tb 100 Bool (.fn 3) [ints [a, d, kp, r], int64 held] ⟨fun _ => none, 0⟩ .off done =
    bif same [] [] then bif decide (held < 1) then some true else bif decide (held > 3000) then some true else U a d kp r <|
      bif decide (a > 1000) then some true else bif decide (d > 1000) then some true else bif decide (r > 1000) then some true else
      guardK (mk (nG held r)) <| guardK (allS (repL [int64 0] (nG held r).toNat) && true) <| bif sameSt (st7 a d kp r held (nG held r).toNat 0 (repL [int64 0] (nG held r).toNat) 7) (st7 a d kp r held (nG held r).toNat 0 (repL [int64 0] (nG held r).toNat) 7) then
      U a d kp r <| bif decide (((nG held r).toNat : Int) > 20000) then some false else U a d kp r <| Z [a, d, kp, r] <| guardK (allS gs && true) <|
      bif sameSt (stE a d kp r (nG held r).toNat gs 0 0 0 0 0 0 false (.sl none 0 0 true 0) []) (stE a d kp r (nG held r).toNat gs 0 0 0 0 0 0 false (.sl none 0 0 true 0) []) then
      bif !(((m + 1 : Nat) : Int) == ((nG held r).toNat : Int)) then some false else guardK (allS cs && (allS gs && true)) <|
      bif sameSt (stC a d kp r held gs fr told st lv from' g cs (m + 1) 0) (stC a d kp r held gs fr told st lv from' g cs (m + 1) 0) then ldB cs (m + 1) (w64 (((m + 1 : Nat) : Int) - 1)) fun y => some (y == 0) else none else none else none else none := by kernel_rfl
end Go.Proofs.Ythlmbnhelkbchaa
