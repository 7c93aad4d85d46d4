/- A loop that is run as it stands, but that leaves certain blocks as they are. -/
import Derived.Test.YtokighfpmonjdaaEvZ3
namespace Go.Ev
variable {P : Program} {tb : FuncId → Option FnP}
noncomputable def runLG (P : Program) (tb : FuncId → Option FnP) (S : Orc) (f id : Nat) (N : Norm) (F : Flat) : LoopF := fun _ st K => normKG P N F st.h.next st fun s => loopN (loopBG P S tb f id F st.h.next) rounds s K
theorem loopKG_b {A B : Type} {u : B → Option A} {N : Norm} {F : Flat} {n0 : Nat} {body : St → (Ex → St → Option A) → Option A} {body' : St → (Ex → St → Option B) → Option B} (hb : ∀ st K K', (∀ e s, K e s = (K' e s).bind u) → body st K = (body' st K').bind u) (st : St) {K : Ex → St → Option A} {K' : Ex → St → Option B} (hk : ∀ e s, K e s = (K' e s).bind u) :
    loopKG P N F n0 body st K = (loopKG P N F n0 body' st K').bind u := by
  unfold loopKG
  refine hb st _ _ fun e s => ?_
  cases e <;> first | exact hk _ _ | exact normKG_b fun s => hk _ s
theorem loopBG_b {S : Orc} (hS : OrcOk P tb S) {f : FuncId} {id n0 : Nat} {F : Flat} {A B : Type} {u : B → Option A} (st : St) (K : Ex → St → Option A) (K' : Ex → St → Option B) (hk : ∀ e s, K e s = (K' e s).bind u) :
    loopBG P S tb f id F n0 st K = (loopBG P S tb f id F n0 st K').bind u := by
  unfold loopBG
  split
  · split
    · refine loopKG_b (fun st K K' hk => evCode_b (evCall_b hS.nf hS.nl 100) (fun j g hg => ?_) _ st K K' hk) st hk
      have hg : (bif Nat.beq j id then none else S.l f j) = some g := hg
      cases hj : Nat.beq j id with
      | false => rw [hj] at hg; exact hS.nl f j g hg
      | true => rw [hj] at hg; cases hg
    · rfl
  · rfl
theorem natL_run {S : Orc} (hS : OrcOk P tb S) {f id : Nat} {N : Norm} {F : Flat} : NatL (runLG P tb S f id N F) := by
  intro A B st K K' u hk
  unfold runLG
  refine normKG_b fun s => ?_
  exact loopN_b (fun st K K' hk => loopBG_b hS st K K' hk) (K := K) (K' := K') hk rounds s
theorem loopSim_run (hT : TbOk P tb) {S : Orc} (hS : OrcOk P tb S) {f : FuncId} {id : Nat} {F : Flat} {N : Norm} {ep : FnP} (he : tb f = some ep) (hN : loopN0 tb f id = some N) {c : Code} (hc : loopC id ep.code = some c) :
    LoopSim P (LP tb) f c (runLG P tb S f id N F) := by
  intro A r K Z kind cs₀ b k ρ st a w cs hL hb hfn hro hSt hg
  refine loopRun_sim hT hS he hc A r K Z kind cs₀ b k ρ st a w cs hL hb hfn hro hSt ?_
  rw [loopRun_eq hN he hc]
  unfold runLG at hg
  obtain ⟨e1, e2, h1⟩ := normK_some (normKG_some hg)
  have h2 := loopNG_some hS rounds _ h1
  unfold normK
  rw [e1]
  simp only [guardK, e2, cond_true]
  exact h2
noncomputable def addR (P : Program) (tb : FuncId → Option FnP) (S0 : Orc) (f id : Nat) (N : Norm) (F : Flat) (S : Orc) : Orc := addL f id (runLG P tb S0 f id N F) S
theorem addR_ok (hT : TbOk P tb) {S0 S : Orc} (h0 : OrcOk P tb S0) (hS : OrcOk P tb S) {f : FuncId} {id : Nat} {F : Flat} {N : Norm} {ep : FnP} (he : tb f = some ep) (hN : loopN0 tb f id = some N) (hc : Nat.ble (countL id ep.code) 1 = true) :
    OrcOk P tb (addR P tb S0 f id N F S) := addL_gen hS he hc (fun _ hb => loopSim_run hT h0 he hN hb) (natL_run h0)
end Go.Ev
