/- A function that only reads, told of by the numbers among what it tells; its arguments are seen as they are just now. -/
import Derived.Test.YtokighfpmonjdaaEvZ3
namespace Go.Ev
variable {P : Program} {tb : FuncId → Option FnP} {S : Orc}
def deadS (v : AV) : AV := bif scalar v then v else .dead
def deadV (v : AV) : AV := match v with
  | .tup vs => .tup (vs.map deadS)
  | v => deadS v
theorem deadS_R {ρ ρ' : Loc} {v : AV} {v' : Value} (h : R ρ v v') : R ρ' (deadS v) v' := by
  unfold deadS
  cases hs : scalar v with
  | false => exact .dead _
  | true =>
    simp only [cond_true]
    have : scalarV v = true := by cases v <;> first | exact hs | cases hs
    exact scalarV_R this h
theorem deadV_R {ρ ρ' : Loc} {v : AV} {v' : Value} (h : R ρ v v') : R ρ' (deadV v) v' := by
  cases v with
  | tup vs =>
    obtain ⟨cs', rfl, hc⟩ := h.of_tup
    show R ρ' (.tup (vs.map deadS)) _
    cases h with
    | tup h1 h2 =>
      refine .tup (by simpa using h1) fun i a a' ha ha' => ?_
      rw [List.getElem?_map] at ha
      obtain ⟨b, hb, rfl⟩ := Option.map_eq_some_iff.1 ha
      exact deadS_R (h2 i b a' hb ha')
  | _ => exact deadS_R h
/-- What is told, but for lists and places. -/
def dvK : Out → Heap → Md → Option AV := fun out _ u => match u with
  | .off => (match out with
    | .ret v => some (deadV v)
    | _ => none)
  | _ => none
def locD (P : Program) (S : Orc) (tb : FuncId → Option FnP) (f : FuncId) : CallF := fun _ args h u K => match u with
  | .off => (match evCall P S tb 100 (AV × Heap) (.fn f) (vwArgs P [] h (parsOf P f) args) (mkHeap [] 0) .off pairK with
    | some r => K (.ret (deadV r.1)) h .off
    | none => none)
  | _ => none
theorem fnSim_locD (hT : TbOk P tb) (hSm : OrcOk P tb S) (f : FuncId) : FnSim P (LP tb) f (locD P S tb f) := by
  intro A K r args h u args' ρ Z w kind cs₀ cs hL hg hr ha hcs
  cases u <;> first | (cases hg; done) | skip
  unfold locD at hg
  simp only at hg
  split at hg
  rotate_left
  · cases hg
  rename_i rr hrun
  obtain ⟨v, h₁⟩ := rr
  simp only at hg
  have hLf : LFree Z.L := by rw [hL]; exact LP_free tb
  have hφ : RenOk [] 0 0 := ⟨by simp, by simp, (fun b c hm => by cases hm), (fun b c hm => by cases hm), Nat.le_refl _⟩
  have hr1 := view (P := P) (ty := fun _ => none) hr hφ hLf
  have hr2 := hr1.frame
  have hargs := vwArgs_RL (P := P) (sees_locOf (h := h) (ρ := ρ) hφ) (parsOf P f) ha
  have hkn : kind = .normal ∧ cs = cs₀ := by
    rcases hcs with ⟨a, _, b⟩ | ⟨_, _, _, _, _, _, hu⟩
    · exact ⟨a, b⟩
    · exact hu.elim
  obtain ⟨rfl, rfl⟩ := hkn
  obtain ⟨e1, out, h', u', ρ1, w', cs', fr, k1, k2, k3, k4, k5, k6, k7⟩ := (callSim_of hT hSm 100).fn _ pairK (v, h₁) f _ _ .off args' (locOf P [] 0 h ρ) (Z.frame (locOf P [] 0 h ρ) (mkHeap [] 0).m w) w .normal cs cs hL hrun hr2 hargs (.inl ⟨rfl, rfl, rfl⟩)
  have hout : out = .ret v ∧ h' = h₁ ∧ u' = .off := by
    unfold pairK at k1
    split at k1
    · simp only [Option.some.injEq, Prod.mk.injEq] at k1
      exact ⟨by rw [k1.1], k1.2, rfl⟩
    · cases k1
  obtain ⟨rfl, rfl, rfl⟩ := hout
  have hcs' : cs' = cs := k4.normal.2
  subst hcs'
  obtain ⟨v', hv, hgo⟩ := k7
  have hl : Low (Z.read w) w w' := ⟨k3.low.os, k3.low.tape, k3.low.output, k3.low.size, fun q hq => k3.low.block q (.inr (.inl ⟨hq, fun b x p hb => by cases hb⟩))⟩
  refine ⟨e1, .ret (deadV v), h, .off, ρ, w', cs', fr, hg, k2, ⟨Grows.refl _, fun _ _ => rfl, Nat.le_refl _, hr.more (n := h.next) (GrowsS.refl _) hl hr.fresh, hl.unread hr⟩, .inl ⟨rfl, rfl, rfl⟩, k5, k6, v', deadV_R hv, hgo⟩
/-- A fact of a function that only reads: the numbers among what it tells. -/
def DFact (P : Program) (tb : FuncId → Option FnP) (f : FuncId) (a : List AV) (v : AV) : Prop :=
  ∃ S, OrcOk P tb S ∧ evCall P S tb 100 AV (.fn f) a (mkHeap [] 0) .off dvK = some v
noncomputable def atD (P : Program) (f : FuncId) (a : List AV) (v : AV) : CallF := fun _ args h u K => match u with
  | .off => guardK (okA h args) (bif same (flatA P h (parsOf P f) args) a then K (.ret v) h .off else none)
  | _ => none
theorem natF_atD {f : FuncId} {a : List AV} {v : AV} : NatF (atD P f a v) := by
  intro A B args h m K K' u hk
  unfold atD guardK
  cases m <;> first | rfl | skip
  simp only
  cases okA h args <;> first | rfl | skip
  simp only [cond_true]
  cases same (flatA P h (parsOf P f) args) a <;> first | rfl | exact hk _ _ _
theorem fnSim_atD (hT : TbOk P tb) {f : FuncId} {a : List AV} {v : AV} (hf : DFact P tb f a v) : FnSim P (LP tb) f (atD P f a v) := by
  obtain ⟨S, hS, hr⟩ := hf
  have e : evCall P S tb 100 AV (.fn f) a (mkHeap [] 0) .off dvK = (evCall P S tb 100 (AV × Heap) (.fn f) a (mkHeap [] 0) .off pairK).bind fun x => some (deadV x.1) :=
    evCall_b hS.nf hS.nl 100 AV (AV × Heap) (.fn f) a (mkHeap [] 0) .off _ pairK _ fun o h m => by
      cases m <;> cases o <;> rfl
  rw [e] at hr
  obtain ⟨⟨v1, h1⟩, hr1, hr2⟩ := Option.bind_eq_some_iff.1 hr
  cases hr2
  intro A K r args h u args' ρ Z w kind cs₀ cs hL hg hr0 ha0 hcs
  unfold atD at hg
  cases u with
  | off =>
    simp only at hg
    obtain ⟨ho, hg⟩ := guardK_some hg
    cases hs : same (flatA P h (parsOf P f) args) a with
    | false => rw [hs] at hg; cases hg
    | true =>
      rw [hs] at hg
      have ea : flatA P h (parsOf P f) args = a := by
        unfold same at hs
        simpa using hs
      refine fnSim_locD hT hS f A K r args h .off args' ρ Z w kind cs₀ cs hL ?_ hr0 ha0 hcs
      show locD P S tb f A args h .off K = some r
      unfold locD
      simp only [flatA_eq _ _ ho, ea, hr1]
      exact hg
  | _ => cases hg
noncomputable def knowD (P : Program) (f : FuncId) (a : List AV) (v : AV) (S : Orc) : Orc := addF f (atD P f a v) S
theorem knowD_ok (hT : TbOk P tb) {f : FuncId} {a : List AV} {v : AV} (hf : DFact P tb f a v) (hS : OrcOk P tb S) : OrcOk P tb (knowD P f a v S) := addF_ok (fnSim_atD hT hf) natF_atD hS
end Go.Ev
