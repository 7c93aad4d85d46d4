/- A function that only reads and tells numbers, told of by what it tells: case by case, by the kernel. -/
import Derived.Test.YtokighfpmonjdaaEvY1
namespace Go.Ev
variable {P : Program} {tb : FuncId → Option FnP}
/-- What a run tells alone. -/
def rv : Out → Heap → Md → Option AV := fun out _ u => match out, u with
  | .ret v, .off => some v
  | _, _ => none
theorem rv_pair {S : Orc} (hS : OrcOk P tb S) {f : FuncId} {args : List AV} {h : Heap} {v : AV} (hr : evCall P S tb 100 AV (.fn f) args h .off rv = some v) :
    ∃ h', evCall P S tb 100 (AV × Heap) (.fn f) args h .off pairK = some (v, h') := by
  have e : evCall P S tb 100 AV (.fn f) args h .off rv = (evCall P S tb 100 (AV × Heap) (.fn f) args h .off pairK).bind fun x => some x.1 :=
    evCall_b hS.nf hS.nl 100 AV (AV × Heap) (.fn f) args h .off rv pairK (fun x => some x.1) fun o h m => by
      cases o <;> cases m <;> rfl
  rw [e] at hr
  obtain ⟨⟨x, h'⟩, h1, h2⟩ := Option.bind_eq_some_iff.1 hr
  cases h2
  exact ⟨h', h1⟩
theorem locC_of {S : Orc} (hS : OrcOk P tb S) {f : FuncId} {args args' : List AV} {h : Heap} {v : AV} (ha : vwArgs P [] h (parsOf P f) args = args') (hr : evCall P S tb 100 AV (.fn f) args' (mkHeap [] 0) .off rv = some v) (hv : scalarV v = true)
    {A : Type} (K : Out → Heap → Md → Option A) : locC P S tb f A args h .off K = K (.ret v) h .off := by
  obtain ⟨h', h1⟩ := rv_pair hS hr
  unfold locC
  simp only [ha, h1, hv]
  rfl
/-- So an oracle is sound if in each case some run tells what it tells. -/
theorem fnSim_pt (hT : TbOk P tb) {f : FuncId} {g : CallF}
    (hg : ∀ (A : Type) (args : List AV) (h : Heap) (u : Md) (K : Out → Heap → Md → Option A) (r : A), g A args h u K = some r →
      u = .off ∧ ∃ S args' v, OrcOk P tb S ∧ vwArgs P [] h (parsOf P f) args = args' ∧ evCall P S tb 100 AV (.fn f) args' (mkHeap [] 0) .off rv = some v ∧ scalarV v = true ∧ K (.ret v) h .off = some r) : FnSim P (LP tb) f g := by
  intro A K r args h u args' ρ Z w kind cs₀ cs hL hh hr ha hcs
  obtain ⟨rfl, S, as, v, hS, h1, h2, h3, h4⟩ := hg A args h u K r hh
  exact fnSim_locC hT hS f A K r args h .off args' ρ Z w kind cs₀ cs hL ((locC_of hS h1 h2 h3 K).trans h4) hr ha hcs
/-- A fact of a function: what it tells of these arguments. -/
def Fact (P : Program) (tb : FuncId → Option FnP) (f : FuncId) (args : List AV) (v : AV) : Prop :=
  scalarV v = true ∧ ∃ S, OrcOk P tb S ∧ ∀ h, evCall P S tb 100 AV (.fn f) (vwArgs P [] h (parsOf P f) args) (mkHeap [] 0) .off rv = some v
noncomputable def same (a b : List AV) : Bool := @decide (a = b) (Classical.propDecidable _)
theorem same_self (a : List AV) : same a a = true := by unfold same; simp
/-- The oracle that knows a fact. -/
noncomputable def atO (a : List AV) (v : AV) : CallF := fun _ args h u K => match u with
  | .off => bif same args a then K (.ret v) h .off else none
  | _ => none
theorem natF_at {a : List AV} {v : AV} : NatF (atO a v) := by
  intro A B args h m K K' u hk
  unfold atO
  cases m <;> first | rfl | skip
  simp only
  cases same args a <;> first | rfl | exact hk _ _ _
theorem fnSim_at (hT : TbOk P tb) {f : FuncId} {a : List AV} {v : AV} (hf : Fact P tb f a v) : FnSim P (LP tb) f (atO a v) := by
  obtain ⟨hv, S, hS, hr⟩ := hf
  refine fnSim_pt hT fun A args h u K r hh => ?_
  unfold atO at hh
  cases u with
  | off =>
    simp only at hh
    cases hs : same args a with
    | false => rw [hs] at hh; cases hh
    | true =>
      rw [hs] at hh
      have : args = a := by
        unfold same at hs
        simpa using hs
      subst this
      exact ⟨rfl, S, _, v, hS, rfl, hr h, hv, hh⟩
  | _ => cases hh
/-- A fact more is known. -/
noncomputable def know (f : FuncId) (a : List AV) (v : AV) (S : Orc) : Orc := addF f (atO a v) S
theorem know_ok (hT : TbOk P tb) {S : Orc} {f : FuncId} {a : List AV} {v : AV} (hf : Fact P tb f a v) (hS : OrcOk P tb S) : OrcOk P tb (know f a v S) := addF_ok (fnSim_at hT hf) natF_at hS
/-! ### Loops: what is told of one state at a loop's head -/
def pairE : Ex → St → Option (Ex × St) := fun e s => some (e, s)
/-- A fact of a loop: from this state at its head it comes out so. -/
def LFact (P : Program) (tb : FuncId → Option FnP) (f : FuncId) (id n0 : Nat) (st0 : St) (e : Ex) (s1 : St) : Prop :=
  ∃ S, OrcOk P tb S ∧ loopN (loopB P S tb f id n0) rounds st0 pairE = some (e, s1)
noncomputable def sameSt (a b : St) : Bool := @decide (a = b) (Classical.propDecidable _)
theorem sameSt_self (a : St) : sameSt a a = true := by unfold sameSt; simp
noncomputable def atL (P : Program) (N : Norm) (n0 : Nat) (st0 : St) (e : Ex) (s1 : St) : LoopF := fun _ st K =>
  bif Nat.beq st.h.next n0 then normK P N n0 st fun s => bif sameSt s st0 then K e s1 else none else none
theorem natL_at {N : Norm} {n0 : Nat} {st0 s1 : St} {e : Ex} : NatL (atL P N n0 st0 e s1) := by
  intro A B st K K' u hk
  unfold atL
  cases Nat.beq st.h.next n0 <;> simp only [cond_true, cond_false] <;> first | rfl | skip
  refine normK_b fun s => ?_
  cases sameSt s st0 <;> first | rfl | exact hk _ _
theorem loopB_b {S : Orc} (hS : OrcOk P tb S) {f : FuncId} {id n0 : Nat} {A B : Type} {u : B → Option A} (st : St) (K : Ex → St → Option A) (K' : Ex → St → Option B) (hk : ∀ e s, K e s = (K' e s).bind u) :
    loopB P S tb f id n0 st K = (loopB P S tb f id n0 st K').bind u := by
  unfold loopB
  split
  · split
    · refine loopK_b (fun st K K' hk => evCode_b (evCall_b hS.nf hS.nl 100) (fun j g hg => ?_) _ st K K' hk) st hk
      have hg : (bif Nat.beq j id then none else S.l f j) = some g := hg
      cases hj : Nat.beq j id with
      | false => rw [hj] at hg; exact hS.nl f j g hg
      | true => rw [hj] at hg; cases hg
    · rfl
  · rfl
theorem loopSim_at (hT : TbOk P tb) {f : FuncId} {id n0 : Nat} {N : Norm} {st0 s1 : St} {e : Ex} (hf : LFact P tb f id n0 st0 e s1) {ep : FnP} (he : tb f = some ep) (hN : loopN0 tb f id = some N) {c : Code} (hc : loopC id ep.code = some c) :
    LoopSim P (LP tb) f c (atL P N n0 st0 e s1) := by
  obtain ⟨S, hS, hr⟩ := hf
  intro A r K Z kind cs₀ b k ρ st a w cs hL hb hfn hro hSt hg
  refine loopRun_sim hT hS he hc A r K Z kind cs₀ b k ρ st a w cs hL hb hfn hro hSt ?_
  rw [loopRun_eq hN he hc]
  unfold atL at hg
  cases hn : Nat.beq st.h.next n0 with
  | false => rw [hn] at hg; cases hg
  | true =>
    rw [hn] at hg
    simp only [cond_true] at hg
    have := Nat.eq_of_beq_eq_true hn
    subst this
    obtain ⟨e1, e2, h1⟩ := normK_some hg
    cases hs : sameSt (normSt P N st.h.next st) st0 with
    | false => rw [hs] at h1; cases h1
    | true =>
      rw [hs] at h1
      have hs : normSt P N st.h.next st = st0 := by
        unfold sameSt at hs
        simpa using hs
      unfold normK
      rw [e1]
      simp only [guardK, e2, cond_true, hs]
      have key := loopN_b (u := fun x : Ex × St => K x.1 x.2) (body := fun s K => loopB P S tb f id st.h.next s K) (body' := fun s K => loopB P S tb f id st.h.next s K) (fun st K K' hk => loopB_b hS st K K' hk) (K := K) (K' := pairE) (fun _ _ => rfl) rounds st0
      exact key.trans (by
        show Option.bind (loopN (loopB P S tb f id st.h.next) rounds st0 pairE) _ = _
        rw [hr]
        exact h1)
noncomputable def knowL (P : Program) (f : FuncId) (id : Nat) (N : Norm) (n0 : Nat) (st0 : St) (e : Ex) (s1 : St) (S : Orc) : Orc := addL f id (atL P N n0 st0 e s1) S
theorem knowL_ok (hT : TbOk P tb) {S : Orc} {f : FuncId} {id n0 : Nat} {N : Norm} {st0 s1 : St} {e : Ex} (hf : LFact P tb f id n0 st0 e s1) (hS : OrcOk P tb S) {ep : FnP} (he : tb f = some ep) (hN : loopN0 tb f id = some N) (hc : Nat.ble (countL id ep.code) 1 = true) :
    OrcOk P tb (knowL P f id N n0 st0 e s1 S) := addL_gen hS he hc (fun _ hb => loopSim_at hT hf he hN hb) natL_at
/-! ### A function that is told of wherever a guard lets it -/
def whenO (G : List AV → Bool) (V : List AV → AV) : CallF := fun _ args h u K => match u with
  | .off => bif G args then K (.ret (V args)) h .off else none
  | _ => none
theorem natF_when {G : List AV → Bool} {V : List AV → AV} : NatF (whenO G V) := by
  intro A B args h m K K' u hk
  unfold whenO
  cases m <;> first | rfl | skip
  simp only
  cases G args <;> first | rfl | exact hk _ _ _
theorem fnSim_when (hT : TbOk P tb) {f : FuncId} {G : List AV → Bool} {V : List AV → AV} (hf : ∀ a, G a = true → Fact P tb f a (V a)) : FnSim P (LP tb) f (whenO G V) := by
  refine fnSim_pt hT fun A args h u K r hh => ?_
  unfold whenO at hh
  cases u with
  | off =>
    simp only at hh
    cases hs : G args with
    | false => rw [hs] at hh; cases hh
    | true =>
      rw [hs] at hh
      obtain ⟨hv, S, hS, hr⟩ := hf args hs
      exact ⟨rfl, S, _, _, hS, rfl, hr h, hv, hh⟩
  | _ => cases hh
def knowW (f : FuncId) (G : List AV → Bool) (V : List AV → AV) (S : Orc) : Orc := addF f (whenO G V) S
theorem knowW_ok (hT : TbOk P tb) {S : Orc} {f : FuncId} {G : List AV → Bool} {V : List AV → AV} (hf : ∀ a, G a = true → Fact P tb f a (V a)) (hS : OrcOk P tb S) : OrcOk P tb (knowW f G V S) := addF_ok (fnSim_when hT hf) natF_when hS
/-- Whether something is so, as a Bool that the kernel does not look into. -/
noncomputable def isSo (p : Prop) : Bool := @decide p (Classical.propDecidable p)
theorem isSo_true {p : Prop} (h : p) : isSo p = true := by unfold isSo; simpa using h
theorem isSo_iff {p : Prop} : isSo p = true ↔ p := by unfold isSo; simp
end Go.Ev
