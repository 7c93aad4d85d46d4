/- RingLimits: the law. -/
import Derived.Test.YtokighfpmonjdaaRlB
namespace Go.Proofs.Ytokighfpmonjdaa
open Go.Ev
set_option maxRecDepth 100000
theorem awake_run (h : Heap) : evCall Try.prog orc0 tb 100 AV (.fn 12) (vwArgs Try.prog [] h (parsOf Try.prog 12) []) (mkHeap [] 0) .off rv = some (.bool true) := by kernel_rfl
theorem awake_fact : Fact Try.prog tb 12 [] (.bool true) := ⟨rfl, orc0, ok0, awake_run⟩
def N79 : Norm := ⟨[0, 1, 4, 7, 8], []⟩
def N32 : Norm := ⟨[10, 11, 12, 14, 15, 16, 56, 57, 58], []⟩
noncomputable def SP (xs : List (List Int)) (zs : List AV) (N : Nat) : Orc := addF 14 (locF Try.prog orc0 tb ⟨[], [(0, [1])]⟩ 14)
  (knowL Try.prog 79 2 N79 4 (st79 xs 0) (.exit 0) (st79 xs (xs.length : Int)) (knowL Try.prog 88 2 N79 10 (st88 zs N 0) (.exit 0) (st88 zs N (N : Int)) (knowL Try.prog 32 12 N32 17 (st12 xs zs N 0) (.exit 1) (st12 xs zs N (N : Int)) orc0)))
theorem run32 (xs : List (List Int)) (zs : List AV) (N : Nat) : evCall Try.prog (SP xs zs N) tb 100 AV (.fn 32) [int64 4, int64 1, int64 0, rows xs, stp zs N] (mkHeap [] 0) .off dvK =
    bif sameSt (st79 xs 0) (st79 xs 0) then bif sameSt (st88 zs N 0) (st88 zs N 0) then bif decide ((xs.length : Int) > 2000) then some (.tup [.dead, int64 0, int64 4]) else bif decide ((N : Int) > 5000) then some (.tup [.dead, int64 0, int64 4]) else
    bif sameSt (st12 xs zs N 0) (st12 xs zs N 0) then some (.tup [.dead, int64 0, int64 0]) else none else none else none := by kernel_rfl
abbrev mk (t : Int) : Bool := decide (0 ≤ t) && decide (t ≤ t) && decide (t ≤ (limit : Int)) && decide ((24 : Int) * t ≤ (limit : Int))
noncomputable abbrev D (x : Option Bool) : Option Bool := bif same [] [] then x else none
noncomputable def endT (k t e : Int) : Option Bool :=
  bif decide (k > 2000) then bif e == 4 then D (some true) else some false else bif decide (t > 5000) then bif e == 4 then D (some true) else some false else bif e == 0 then D (some true) else some false
theorem lim_run0 (k t : Int) : evCall Try.prog (know 12 [] (.bool true) (stopAt 7 [3] orc0)) tb 100 Bool (.fn 7) [int64 k, int64 t] ⟨fun _ => none, 0⟩ .off done =
    bif decide (k < 0) then D (some true) else bif decide (k > 2010) then D (some true) else bif decide (t < 0) then D (some true) else bif decide (t > 5010) then D (some true) else none := by kernel_rfl
def N7 : Norm := ⟨[0, 1, 4, 5, 6], []⟩
noncomputable def SL (k t : Int) (s1 : St) (a : List AV) (e : Int) : Orc := know 12 [] (.bool true) (knowD Try.prog 32 a (.tup [.dead, int64 0, int64 e]) (knowLG Try.prog 7 5 N7 ⟨[], [3], [5]⟩ 0 (st7 k t 0 (.sl none 0 0 true 0) []) (.exit 0) s1 orc0))
noncomputable abbrev B (k t : Int) (x : Option Bool) : Option Bool := bif decide (k < 0) then D (some true) else bif decide (k > 2010) then D (some true) else bif decide (t < 0) then D (some true) else bif decide (t > 5010) then D (some true) else x
abbrev zs0 (t : Int) : List AV := repL [int64 0, int64 0, int64 0] t.toNat
theorem lim_run (k t e : Int) (cs : List AV) (m : Nat) (a : List AV) :
    evCall Try.prog (SL k t (st7 k t k (.gr (3, 0) (m + 1) 1) [(3, .cells true cs)]) a e) tb 100 Bool (.fn 7) [int64 k, int64 t] ⟨fun _ => none, 0⟩ .off done =
    B k t (bif sameSt (st7 k t 0 (.sl none 0 0 true 0) []) (st7 k t 0 (.sl none 0 0 true 0) []) then guardK (mk t) <| guardK (allS (dropA cs 0) && (allS (dropA (zs0 t) 0) && true)) <|
      bif same [int64 4, int64 1, int64 0, .fz (fixLen ((m + 1) * 1) (dropA cs 0)) (m + 1) false 1, .fz (fixLen (t.toNat * 3) (dropA (zs0 t) 0)) t.toNat false 3] a then endT k t e else none else none) := by kernel_rfl
theorem lim_run_nil (k t e : Int) (a : List AV) :
    evCall Try.prog (SL k t (st7 k t k (.sl none 0 0 true 0) []) a e) tb 100 Bool (.fn 7) [int64 k, int64 t] ⟨fun _ => none, 0⟩ .off done =
    B k t (bif sameSt (st7 k t 0 (.sl none 0 0 true 0) []) (st7 k t 0 (.sl none 0 0 true 0) []) then guardK (mk t) <| guardK (allS (dropA (zs0 t) 0) && true) <|
      bif same [int64 4, int64 1, int64 0, rows [], .fz (fixLen (t.toNat * 3) (dropA (zs0 t) 0)) t.toNat false 3] a then endT k t e else none else none) := by kernel_rfl
end Go.Proofs.Ytokighfpmonjdaa
