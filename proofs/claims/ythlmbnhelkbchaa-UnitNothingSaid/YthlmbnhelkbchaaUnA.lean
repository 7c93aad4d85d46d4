/- UnitNothing: the run. -/
import Derived.Test.YthlmbnhelkbchaaBase
namespace Go.Proofs.Ythlmbnhelkbchaa
open Go.Ev
set_option maxRecDepth 100000
theorem awake_run : evCall Try.prog S0 tb 100 AV (.fn 12) [] ⟨fun _ => none, 0⟩ .off (fun out _ _ => match out with | .ret v => some v | .pan _ => none) = some (.bool true) := by kernel_rfl
theorem awake_sim : FnSim Try.prog (LP tb) 12 yes := fnSim_closed tbOk none1 rfl 100 awake_run
noncomputable def S1 : FuncId → Option CallF := addS 12 yes S0
theorem some1 : ∀ f g, S1 f = some g → FnSim Try.prog (LP tb) f g := addS_ok awake_sim none1
theorem nothing_run {H : Type} {k0 k1 : Nat} {d0 d1 : DataW H} (w0 : WT Try.prog k0 22 d0) (w1 : WT Try.prog k1 3 d1) :
    evCall Try.prog S1 tb 100 Bool (.fn 6) [dVal Try.prog k0 22 d0, dVal Try.prog k1 3 d1] ⟨fun _ => none, 0⟩ .off done = some true := by
  obtain ⟨xs, e0, _⟩ := WT.vints (e := 3) (by kernel_rfl) (by kernel_rfl) (by kernel_rfl) w0
  obtain ⟨n, e1, _⟩ := WT.vint (by kernel_rfl) w1
  rw [e0, e1]
  kernel_rfl
end Go.Proofs.Ythlmbnhelkbchaa
