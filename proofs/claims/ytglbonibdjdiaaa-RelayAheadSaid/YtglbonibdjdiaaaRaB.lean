/- RelayAhead, second part: the contracts of the functions that it calls, and of its own. -/
import Derived.Test.YtglbonibdjdiaaaRaA
namespace Go.Proofs.Ytglbonibdjdiaaa
open Go.Ev
set_option maxRecDepth 100000
theorem none1 : ∀ f g, S0 f = some g → FnSim Try.prog (LP tb) f g := fun f g h => by cases h
theorem s21 : FnSim Try.prog (LP tb) 21 twoA := fnSim_eq tbOk none1 100 fun A args h u K r hg => by
  unfold twoA at hg
  split at hg
  · rename_i n r
    rw [n21 95, ← hg]
    unfold inA turn
    cases h1 : decide (n < 0) <;> cases h2 : decide (n ≥ 65536) <;> cases h3 : decide (r < 0) <;> cases h4 : decide (r ≥ 65536) <;> cases h5 : decide (arA n r ≥ 32768) <;> rfl
  · cases hg
theorem s22 : FnSim Try.prog (LP tb) 22 twoB := fnSim_eq tbOk none1 100 fun A args h u K r hg => by
  unfold twoB at hg
  split at hg
  · rename_i n r
    rw [n22 95, ← hg]
    unfold inB turn
    cases h1 : decide (n < 0) <;> cases h2 : decide (n > 65535) <;> cases h3 : decide (r < 0) <;> cases h4 : decide (r > 65535) <;> cases h5 : decide (arB n r ≥ 32768) <;> rfl
  · cases hg
theorem s10 : FnSim Try.prog (LP tb) 10 yes := fnSim_closed tbOk none1 rfl 100 awake_run
theorem some1 : ∀ f g, S1 f = some g → FnSim Try.prog (LP tb) f g := fun f g h => by
  have hb : ∀ {x y : Nat}, Nat.beq x y = true → x = y := Nat.eq_of_beq_eq_true
  unfold S1 at h
  cases h8 : Nat.beq f 21 with
  | true => rw [h8] at h; cases h; exact hb h8 ▸ s21
  | false =>
  cases h9 : Nat.beq f 22 with
  | true => rw [h8, h9] at h; cases h; exact hb h9 ▸ s22
  | false =>
  cases h12 : Nat.beq f 10 with
  | true => rw [h8, h9, h12] at h; cases h; exact hb h12 ▸ s10
  | false => rw [h8, h9, h12] at h; cases h
theorem law_calls (a b : Int) (w : World) : Calls Try.prog 4 #[.int .i64 a, .int .i64 b] w fun e w' => e = .returned (.bool true) ∧ Low ⟨fun q => q < w.heap.size, fun q => q < w.heap.size, fun _ h => h, LP tb⟩ w w' :=
  calls_of_run tbOk some1 (ρ := fun _ => none) (h := ⟨fun _ => none, 0⟩) rfl 100 (law a b _) ⟨fun b x hb => (by cases hb), fun b b' x x' p p' hb => (by cases hb), fun q hq => hq, fun _ _ => rfl⟩
    (.cons (.int _ _) (.cons (.int _ _) (.nil _)))
end Go.Proofs.Ytglbonibdjdiaaa
