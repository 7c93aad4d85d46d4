/- RelayNothing: the run. -/
import Derived.Test.YtglbonibdjdiaaaBase
namespace Go.Proofs.Ytglbonibdjdiaaa
open Go.Ev
set_option maxRecDepth 100000
theorem awake_run : evCall Try.prog S0 tb 100 AV (.fn 10) [] ⟨fun _ => none, 0⟩ .off (fun out _ _ => match out with | .ret v => some v | .pan _ => none) = some (.bool true) := by kernel_rfl
theorem awake_sim : FnSim Try.prog (LP tb) 10 yes := fnSim_closed tbOk none1 rfl 100 awake_run
noncomputable def S1 : FuncId → Option CallF := addS 10 yes S0
theorem some1 : ∀ f g, S1 f = some g → FnSim Try.prog (LP tb) f g := addS_ok awake_sim none1
theorem nothing_run {H : Type} {k0 k1 : Nat} {d0 d1 : DataW H} (w0 : WT Try.prog k0 3 d0) (w1 : WT Try.prog k1 9 d1) :
    evCall Try.prog S1 tb 100 Bool (.fn 9) [dVal Try.prog k0 3 d0, dVal Try.prog k1 9 d1] ⟨fun _ => none, 0⟩ .off done = some true := by
  cases k0 <;> first | exact w0.elim | skip
  cases k1 <;> first | exact w1.elim | skip
  obtain ⟨n, rfl, _⟩ := w0
  obtain ⟨s, rfl, _⟩ := w1
  kernel_rfl
end Go.Proofs.Ytglbonibdjdiaaa
