/- A function that only reads and tells numbers, told of by what it tells: case by case, by the kernel. -/
import Derived.Test.YthlmbnhelkbchaaEvX2
namespace Go.Ev
variable {P : Program} {tb : FuncId → Option FnP}
/-- What a run tells alone. -/
def rv : Out → Heap → Md → Option AV := fun out _ u => match out, u with
  | .ret v, .off => some v
  | _, _ => none
theorem rv_pair {S : Orc} (hS : OrcOk P tb S) {f : FuncId} {args : List AV} {h : Heap} {v : AV} (hr : evCall P S tb 100 AV (.fn f) args h .off rv = some v) :
    ∃ h', evCall P S tb 100 (AV × Heap) (.fn f) args h .off pairK = some (v, h') := by
  have e : evCall P S tb 100 AV (.fn f) args h .off rv = (evCall P S tb 100 (AV × Heap) (.fn f) args h .off pairK).bind fun x => some x.1 :=
    evCall_b hS.nf hS.nl 100 AV (AV × Heap) (.fn f) args h .off rv pairK (fun x => some x.1) fun o h m => by
      cases o <;> cases m <;> rfl
  rw [e] at hr
  obtain ⟨⟨x, h'⟩, h1, h2⟩ := Option.bind_eq_some_iff.1 hr
  cases h2
  exact ⟨h', h1⟩
theorem locC_of {S : Orc} (hS : OrcOk P tb S) {f : FuncId} {args args' : List AV} {h : Heap} {v : AV} (ha : vwArgs P [] h (parsOf P f) args = args') (hr : evCall P S tb 100 AV (.fn f) args' (mkHeap [] 0) .off rv = some v) (hv : scalarV v = true)
    {A : Type} (K : Out → Heap → Md → Option A) : locC P S tb f A args h .off K = K (.ret v) h .off := by
  obtain ⟨h', h1⟩ := rv_pair hS hr
  unfold locC
  simp only [ha, h1, hv]
  rfl
/-- So an oracle is sound if in each case some run tells what it tells. -/
theorem fnSim_pt (hT : TbOk P tb) {f : FuncId} {g : CallF}
    (hg : ∀ (A : Type) (args : List AV) (h : Heap) (u : Md) (K : Out → Heap → Md → Option A) (r : A), g A args h u K = some r →
      u = .off ∧ ∃ S args' v, OrcOk P tb S ∧ vwArgs P [] h (parsOf P f) args = args' ∧ evCall P S tb 100 AV (.fn f) args' (mkHeap [] 0) .off rv = some v ∧ scalarV v = true ∧ K (.ret v) h .off = some r) : FnSim P (LP tb) f g := by
  intro A K r args h u args' ρ Z w kind cs₀ cs hL hh hr ha hcs
  obtain ⟨rfl, S, as, v, hS, h1, h2, h3, h4⟩ := hg A args h u K r hh
  exact fnSim_locC hT hS f A K r args h .off args' ρ Z w kind cs₀ cs hL ((locC_of hS h1 h2 h3 K).trans h4) hr ha hcs
/-- A fact of a function: what it tells of these arguments. -/
def Fact (P : Program) (tb : FuncId → Option FnP) (f : FuncId) (args : List AV) (v : AV) : Prop :=
  scalarV v = true ∧ ∃ S, OrcOk P tb S ∧ ∀ h, evCall P S tb 100 AV (.fn f) (vwArgs P [] h (parsOf P f) args) (mkHeap [] 0) .off rv = some v
noncomputable def same (a b : List AV) : Bool := @decide (a = b) (Classical.propDecidable _)
theorem same_self (a : List AV) : same a a = true := by unfold same; simp
/-- The oracle that knows a fact. -/
noncomputable def atO (a : List AV) (v : AV) : CallF := fun _ args h u K => match u with
  | .off => bif same args a then K (.ret v) h .off else none
  | _ => none
theorem natF_at {a : List AV} {v : AV} : NatF (atO a v) := by
  intro A B args h m K K' u hk
  unfold atO
  cases m <;> first | rfl | skip
  simp only
  cases same args a <;> first | rfl | exact hk _ _ _
theorem fnSim_at (hT : TbOk P tb) {f : FuncId} {a : List AV} {v : AV} (hf : Fact P tb f a v) : FnSim P (LP tb) f (atO a v) := by
  obtain ⟨hv, S, hS, hr⟩ := hf
  refine fnSim_pt hT fun A args h u K r hh => ?_
  unfold atO at hh
  cases u with
  | off =>
    simp only at hh
    cases hs : same args a with
    | false => rw [hs] at hh; cases hh
    | true =>
      rw [hs] at hh
      have : args = a := by
        unfold same at hs
        simpa using hs
      subst this
      exact ⟨rfl, S, _, v, hS, rfl, hr h, hv, hh⟩
  | _ => cases hh
/-- A fact more is known. -/
noncomputable def know (f : FuncId) (a : List AV) (v : AV) (S : Orc) : Orc := addF f (atO a v) S
theorem know_ok (hT : TbOk P tb) {S : Orc} {f : FuncId} {a : List AV} {v : AV} (hf : Fact P tb f a v) (hS : OrcOk P tb S) : OrcOk P tb (know f a v S) := addF_ok (fnSim_at hT hf) natF_at hS
end Go.Ev
