/- A function that tells lists of lists that are new, told of by what it tells, frozen. -/
import Derived.Test.YtokighfpmonjdaaEvZ4
namespace Go.Ev
variable {P : Program} {tb : FuncId → Option FnP}
/-- What is told in the end, all of it frozen. -/
def nviewK (P : Program) (ts : List TypeId) : Out → Heap → Md → Option AV := fun out h u => match u with
  | .off => (match out with
    | .ret v => some (vwRes P [] h ts v)
    | _ => none)
  | _ => none
def NFact (P : Program) (tb : FuncId → Option FnP) (f : FuncId) (args : List AV) (v : AV) : Prop :=
  vwArgs P [] none0 (parsOf P f) args = args ∧ ∃ S, OrcOk P tb S ∧ evCall P S tb 100 AV (.fn f) args (mkHeap [] 0) .off (nviewK P (resOf P f)) = some v
theorem fnSim_atN (hT : TbOk P tb) {f : FuncId} {a : List AV} {v : AV} (hf : NFact P tb f a v) : FnSim P (LP tb) f (atO a v) := by
  obtain ⟨ha, S, hS, hr⟩ := hf
  have e : evCall P S tb 100 AV (.fn f) a (mkHeap [] 0) .off (nviewK P (resOf P f)) = (evCall P S tb 100 (AV × Heap) (.fn f) a (mkHeap [] 0) .off pairK).bind fun x => nviewK P (resOf P f) (.ret x.1) x.2 .off :=
    evCall_b hS.nf hS.nl 100 AV (AV × Heap) (.fn f) a (mkHeap [] 0) .off _ pairK _ fun o h m => by
      cases m <;> cases o <;> rfl
  rw [e] at hr
  obtain ⟨⟨v1, h1⟩, hr1, hr2⟩ := Option.bind_eq_some_iff.1 hr
  have hv : vwRes P [] h1 (resOf P f) v1 = v := by
    simp only [nviewK, Option.some.injEq] at hr2
    exact hr2
  intro A K r args h u args' ρ Z w kind cs₀ cs hL hg hr0 ha0 hcs
  unfold atO at hg
  cases u with
  | off =>
    simp only at hg
    cases hs : same args a with
    | false => rw [hs] at hg; cases hg
    | true =>
      rw [hs] at hg
      have : args = a := by
        unfold same at hs
        simpa using hs
      subst this
      refine fnSim_loc hT hS {} f A K r args h .off args' ρ Z w kind cs₀ cs hL ?_ hr0 ha0 hcs
      show locF P S tb {} f A args h .off K = some r
      unfold locF
      simp only [posObj, fst1, pairsOf, vwBlks2, lenO, ha]
      rw [hr1]
      simp only [List.append_nil, fst1, pairsNew, swapL, vwBlks2, lenO]
      rw [hv]
      exact hg
  | _ => cases hg
noncomputable def knowN (f : FuncId) (a : List AV) (v : AV) (S : Orc) : Orc := addF f (atO a v) S
theorem knowN_ok (hT : TbOk P tb) {S : Orc} {f : FuncId} {a : List AV} {v : AV} (hf : NFact P tb f a v) (hS : OrcOk P tb S) : OrcOk P tb (knowN f a v S) := addF_ok (fnSim_atN hT hf) natF_at hS
end Go.Ev
