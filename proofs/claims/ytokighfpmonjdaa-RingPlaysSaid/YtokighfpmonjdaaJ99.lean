/- For every input the law RingPlays returns true, and its arguments read as they did. -/
import Derived.Test.YtokighfpmonjdaaRows
import Derived.WalkKit
import Derived.ProofKit
import Derived.OpenShut
import Derived.ShutString
import Derived.ChangeOld
import Derived.Below
import Derived.SizedLaws
import Derived.Carry
import Derived.Test.YtokighfpmonjdaaJ30
namespace Go.Proofs.Ytokighfpmonjdaa.ringPlays
open Go.ChangeShapes Go.WideShapes Go.ChangeAt Go.RowKit Go.Ev
set_option linter.unusedVariables false
theorem own : ownKnob Try.prog.godebug = none := by kernel_rfl
theorem types : clT Try.prog [3, 28, 33, 46, 58] = true := by kernel_rfl
theorem laid : laidOutB Try.prog = true := by kernel_rfl
theorem read3 : Try.prog.readableRec 3 = true := by kernel_rfl
theorem read46 : Try.prog.readableRec 46 = true := by kernel_rfl
set_option maxRecDepth 100000 in
theorem lifted (os : Os) (started : os.Started) (H : Type) (enc : TypeId × Value → H) :
    ReturnsInHanded {} Try.checked os 5 .any (Rows.ringPlaysSpec.pre6 enc Try.prog Try.f5 Rows.ringPlaysRow.domain false) (Rows.ringPlaysSpec.post enc Try.prog Try.f5 false true false false) := by
  refine returnsInHanded_of_change_sized (C := Try.checked) own started (by kernel_rfl) Try.func5
    (ChangeSpec.witness6 (enc := enc) (C := Try.checked) false ⟨#[], #[.int .i64 0, .int .i64 0, .int .i64 0, .slice none 0 0], []⟩ 8 (by kernel_rfl) (by kernel_rfl) (by kernel_rfl) (by kernel_rfl)) ?_
  intro W base args ds gs before hval0 hW hcnd hsz0 _
  have hval : ∀ (j : Nat) t v, Try.f5.params[j]? = some t → args[j]? = some v → Value.okWide Try.prog W .any base t v := hval0
  have hW' := hW
  obtain ⟨p, q, hA0, hV, rfl, hfz, hnd⟩ := hW
  have hA : DataW.TrodAll enc Try.prog W 0 (fun _ => true) true Try.f5.params.toList args.toList ds p := hA0
  rw [Try.params5] at hA hval
  obtain ⟨v0, vs0, d0, ds0, p0, q0, hargs, rfl, rfl, h0, r0⟩ := trodAll_cons hA
  obtain ⟨v1, vs1, d1, ds1, p1, q1, rfl, rfl, rfl, h1, r1⟩ := trodAll_cons r0
  obtain ⟨v2, vs2, d2, ds2, p2, q2, rfl, rfl, rfl, h2, r2⟩ := trodAll_cons r1
  obtain ⟨v3, vs3, d3, ds3, p3, q3, rfl, rfl, rfl, h3, r3⟩ := trodAll_cons r2
  obtain ⟨rfl, rfl, rfl⟩ := trodAll_nil r3
  obtain rfl : args = #[v0, v1, v2, v3] := by cases args; simp_all
  obtain ⟨rfl, rfl⟩ := trodVars_none hV
  have l0 : ∀ x ∈ p0, x.block < W.heap.size := fun x hx => by
    obtain ⟨m, hm⟩ := h0
    exact DataW.trod_lt m _ _ _ hm x hx
  obtain ⟨k0, e0⟩ := id h0
  obtain ⟨w0, g0⟩ := arg_told types (by decide) (hval 0 3 v0 rfl rfl) e0
  have l1 : ∀ x ∈ p1, x.block < W.heap.size := fun x hx => by
    obtain ⟨m, hm⟩ := h1
    exact DataW.trod_lt m _ _ _ hm x hx
  obtain ⟨k1, e1⟩ := id h1
  obtain ⟨w1, g1⟩ := arg_told types (by decide) (hval 1 3 v1 rfl rfl) e1
  have l2 : ∀ x ∈ p2, x.block < W.heap.size := fun x hx => by
    obtain ⟨m, hm⟩ := h2
    exact DataW.trod_lt m _ _ _ hm x hx
  obtain ⟨k2, e2⟩ := id h2
  obtain ⟨w2, g2⟩ := arg_told types (by decide) (hval 2 3 v2 rfl rfl) e2
  have l3 : ∀ x ∈ p3, x.block < W.heap.size := fun x hx => by
    obtain ⟨m, hm⟩ := h3
    exact DataW.trod_lt m _ _ _ hm x hx
  obtain ⟨k3, e3⟩ := id h3
  obtain ⟨w3, g3⟩ := arg_told types (by decide) (hval 3 46 v3 rfl rfl) e3
  clear hA0 hval0 hsz0
  obtain ⟨S, hS, hrun⟩ := law w0 w1 w2 w3
  refine (calls_of_data tbOk hS types hrun (RL.cons g0 (RL.cons g1 (RL.cons g2 (RL.cons g3 (RL.nil _)))))).mono fun e W' ⟨he, hlow⟩ => ?_
  have bel := low_below hlow
  subst he
  exact ⟨_, rfl, _, _, _, [], _, [], hW', trodAll_mk1 (shut_bool Try.underlying4 _), (trodAll_cons_mk (Go.RowKit.Below.trod laid read3 (of_decide_eq_true (by kernel_rfl)) h0 bel l0) (trodAll_cons_mk (Go.RowKit.Below.trod laid read3 (of_decide_eq_true (by kernel_rfl)) h1 bel l1) (trodAll_cons_mk (Go.RowKit.Below.trod laid read3 (of_decide_eq_true (by kernel_rfl)) h2 bel l2) (trodAll_cons_mk (Go.RowKit.Below.trod laid read46 (of_decide_eq_true (by kernel_rfl)) h3 bel l3) trodAll_mk0)))), rfl, bel.frame _, fun h => by cases h⟩
theorem over : Rows.ringPlaysRow.holds Try.pinned (OpenSpec.ofChange Rows.ringPlaysSpec) :=
  OpenClaim.holds_of_wide 5 Try.f5 rfl rfl rfl rfl rfl rfl rfl ⟨rfl, rfl, rfl, rfl, rfl⟩ rfl rfl rfl rfl rfl (by kernel_rfl) Try.func5 (by kernel_rfl)
    (of_decide_eq_true (by kernel_rfl)) (by unfold Func.isWrapper; first | (rw [if_pos (by decide +kernel)]; kernel_rfl) | (rw [if_neg (by decide +kernel)]; exact ⟨rfl, rfl⟩))
    (fun os started H enc _ => lifted os started H enc)
theorem proved : Rows.RingPlaysSaid := over
#print axioms proved
end Go.Proofs.Ytokighfpmonjdaa.ringPlays
namespace Go.Proofs.Ytokighfpmonjdaa
theorem ringPlays_holds : Rows.RingPlaysSaid := ringPlays.proved
end Go.Proofs.Ytokighfpmonjdaa
