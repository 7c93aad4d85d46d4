/- What all laws of a chapter need. -/
import Derived.Test.YthlmbnhelkbchaaPlan
import Derived.Test.YthlmbnhelkbchaaEvY1
import Derived.Laws.BitsLemmas
namespace Go.Proofs.Ythlmbnhelkbchaa
open Go.Ev
set_option maxRecDepth 100000
theorem fnSim_eq {P : Program} {S : FuncId → Option CallF} {tb : FuncId → Option FnP} (hT : TbOk P tb) (hSm : ∀ f g, S f = some g → FnSim P (LP tb) f g) {f : FuncId} {g : CallF} (k : Nat)
    (he : ∀ (A : Type) args h u K (r : A), g A args h u K = some r → evCall P S tb k A (.fn f) args h u K = some r) : FnSim P (LP tb) f g :=
  fun A K r args h u args' ρ Z w kind cs₀ cs hL hg hr ha hcs => (callSim_of hT hSm k).fn A K r f args h u args' ρ Z w kind cs₀ cs hL (he A args h u K r hg) hr ha hcs
noncomputable def yes : CallF := fun _ args h u K => match args, u with
  | [], .off => K (.ret (.bool true)) h .off
  | _, _ => none
noncomputable abbrev S0 : FuncId → Option CallF := fun _ => none
noncomputable def done : Out → Heap → Md → Option Bool := fun out _ _ => match out with | .ret (.bool b) => some b | _ => none
theorem none1 : ∀ f g, S0 f = some g → FnSim Try.prog (LP tb) f g := fun f g h => by cases h
/-- One oracle more. -/
noncomputable def addS (f : FuncId) (g : CallF) (S : FuncId → Option CallF) : FuncId → Option CallF := fun x => bif Nat.beq x f then some g else S x
theorem addS_ok {f : FuncId} {g : CallF} {S : FuncId → Option CallF} (h : FnSim Try.prog (LP tb) f g) (hS : ∀ f g, S f = some g → FnSim Try.prog (LP tb) f g) : ∀ f' g', addS f g S f' = some g' → FnSim Try.prog (LP tb) f' g' := fun f' g' he => by
  unfold addS at he
  cases hb : Nat.beq f' f with
  | true => rw [hb] at he; cases he; have := Nat.eq_of_beq_eq_true hb; subst this; exact h
  | false => rw [hb] at he; exact hS f' g' he
end Go.Proofs.Ythlmbnhelkbchaa
