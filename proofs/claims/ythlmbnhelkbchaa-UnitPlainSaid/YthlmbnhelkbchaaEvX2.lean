/- Loops that are told of by themselves. -/
import Derived.Test.YthlmbnhelkbchaaEvX1
namespace Go.Ev
/-- The loop of a function's code that begins with a region. -/
def loopC (id : Nat) : Code → Option Code
  | .seq a b => (match loopC id a with
    | some c => some c
    | none => loopC id b)
  | .cond _ a b => (match loopC id a with
    | some c => some c
    | none => loopC id b)
  | .block _ b => loopC id b
  | .loop b => (match headId b with
    | some j => bif Nat.beq j id then some b else loopC id b
    | none => loopC id b)
  | _ => none
def countL (id : Nat) : Code → Nat
  | .seq a b => countL id a + countL id b
  | .cond _ a b => countL id a + countL id b
  | .block _ b => countL id b
  | .loop b => (match headId b with
    | some j => bif Nat.beq j id then countL id b + 1 else countL id b
    | none => countL id b)
  | _ => 0
def butL (id : Nat) (lo : Nat → Option LoopF) : Nat → Option LoopF := fun j => bif Nat.beq j id then none else lo j
def withL (id : Nat) (g : LoopF) (lo : Nat → Option LoopF) : Nat → Option LoopF := fun j => bif Nat.beq j id then some g else lo j
variable {P : Program} {L : ALoop → Prop} {lo : Nat → Option LoopF} {id : Nat} {g : LoopF} {tb : FuncId → Option FnP} {S : Orc} {fid : FuncId}
theorem lp_but : ∀ {c : Code}, lpOk P L fid lo c → lpOk P L fid (butL id lo) c := by
  intro c
  induction c with
  | seq a b iha ihb => exact fun h => ⟨iha h.1, ihb h.2⟩
  | cond x a b iha ihb => exact fun h => ⟨iha h.1, ihb h.2⟩
  | block i b ih => exact fun h => ih h
  | loop b ih =>
    refine fun h => ⟨fun j f hj hf => ?_, ih h.2⟩
    unfold butL at hf
    cases hb : Nat.beq j id with
    | true => rw [hb] at hf; cases hf
    | false => rw [hb] at hf; exact h.1 j f hj hf
  | _ => exact fun _ => trivial
theorem lp_zero : ∀ {c : Code}, countL id c = 0 → lpOk P L fid lo c → lpOk P L fid (withL id g lo) c := by
  intro c
  induction c with
  | seq a b iha ihb => intro h0 h; simp only [countL] at h0; exact ⟨iha (by omega) h.1, ihb (by omega) h.2⟩
  | cond x a b iha ihb => intro h0 h; simp only [countL] at h0; exact ⟨iha (by omega) h.1, ihb (by omega) h.2⟩
  | block i b ih => exact fun h0 h => ih h0 h
  | loop b ih =>
    intro h0 h
    simp only [countL] at h0
    refine ⟨fun j f hj hf => ?_, ?_⟩
    · rw [hj] at h0
      simp only at h0
      unfold withL at hf
      cases hb : Nat.beq j id with
      | true => rw [hb] at h0; simp at h0
      | false => rw [hb] at hf; exact h.1 j f hj hf
    · refine ih ?_ h.2
      cases hh : headId b with
      | none => rw [hh] at h0; exact h0
      | some j =>
        rw [hh] at h0
        simp only at h0
        cases hb : Nat.beq j id with
        | true => rw [hb] at h0; simp at h0
        | false => rw [hb] at h0; exact h0
  | _ => exact fun _ _ => trivial
theorem loopC_none : ∀ {c : Code}, countL id c = 0 → loopC id c = none := by
  intro c
  induction c with
  | seq a b iha ihb => intro h0; simp only [countL] at h0; simp only [loopC, iha (by omega), ihb (by omega)]
  | cond x a b iha ihb => intro h0; simp only [countL] at h0; simp only [loopC, iha (by omega), ihb (by omega)]
  | block i b ih => exact fun h0 => ih h0
  | loop b ih =>
    intro h0
    simp only [countL] at h0
    simp only [loopC]
    cases hh : headId b with
    | none => rw [hh] at h0; exact ih h0
    | some j =>
      rw [hh] at h0
      simp only at h0
      cases hb : Nat.beq j id with
      | true => rw [hb] at h0; simp at h0
      | false => rw [hb] at h0; simp only [hb, cond_false]; exact ih h0
  | _ => exact fun _ => rfl
theorem lp_with : ∀ {c : Code}, countL id c ≤ 1 → (∀ b, loopC id c = some b → LoopSim P L fid b g) → lpOk P L fid lo c → lpOk P L fid (withL id g lo) c := by
  intro c
  have two : ∀ {a b : Code}, (countL id a ≤ 1 → (∀ x, loopC id a = some x → LoopSim P L fid x g) → lpOk P L fid lo a → lpOk P L fid (withL id g lo) a) → (countL id b ≤ 1 → (∀ x, loopC id b = some x → LoopSim P L fid x g) → lpOk P L fid lo b → lpOk P L fid (withL id g lo) b) →
      countL id a + countL id b ≤ 1 → (∀ x, (match loopC id a with | some c => some c | none => loopC id b) = some x → LoopSim P L fid x g) → lpOk P L fid lo a → lpOk P L fid lo b → lpOk P L fid (withL id g lo) a ∧ lpOk P L fid (withL id g lo) b := by
    intro a b iha ihb h0 hx ha hb
    rcases Nat.eq_zero_or_pos (countL id a) with h1 | h1
    · rw [loopC_none h1] at hx
      exact ⟨lp_zero h1 ha, ihb (by omega) hx hb⟩
    · refine ⟨iha (by omega) (fun x he => hx x (by rw [he])) ha, lp_zero (by omega) hb⟩
  induction c with
  | seq a b iha ihb => intro h0 hx h; simp only [countL] at h0; exact two iha ihb h0 hx h.1 h.2
  | cond x a b iha ihb => intro h0 hx h; simp only [countL] at h0; exact two iha ihb h0 hx h.1 h.2
  | block i b ih => exact fun h0 hx h => ih h0 hx h
  | loop b ih =>
    intro h0 hx h
    simp only [countL] at h0
    simp only [loopC] at hx
    cases hh : headId b with
    | none =>
      rw [hh] at h0 hx
      exact ⟨(fun j f hj => by rw [hh] at hj; cases hj), ih h0 hx h.2⟩
    | some j =>
      rw [hh] at h0 hx
      simp only at h0 hx
      cases hb : Nat.beq j id with
      | true =>
        rw [hb] at h0 hx
        simp only [cond_true] at h0 hx
        refine ⟨fun j' f hj hf => ?_, lp_zero (by omega) h.2⟩
        rw [hh] at hj; cases hj
        unfold withL at hf
        rw [hb] at hf
        cases hf
        exact hx b rfl
      | false =>
        rw [hb] at h0 hx
        simp only [cond_false] at h0 hx
        refine ⟨fun j' f hj hf => ?_, ih h0 hx h.2⟩
        have hj0 := hj
        rw [hh] at hj; cases hj
        unfold withL at hf
        rw [hb] at hf
        exact h.1 _ f hj0 hf
  | _ => exact fun _ _ _ => trivial
theorem loopC_ok {pl : Plan} : ∀ {c b : Code}, loopC id c = some b → codeOk pl c = true → lpOk P L fid lo c → codeOk pl b = true ∧ lpOk P L fid lo b := by
  intro c
  have two : ∀ {a b x : Code}, (∀ {y}, loopC id a = some y → codeOk pl a = true → lpOk P L fid lo a → codeOk pl y = true ∧ lpOk P L fid lo y) → (∀ {y}, loopC id b = some y → codeOk pl b = true → lpOk P L fid lo b → codeOk pl y = true ∧ lpOk P L fid lo y) →
      (match loopC id a with | some c => some c | none => loopC id b) = some x → (codeOk pl a && codeOk pl b) = true → lpOk P L fid lo a → lpOk P L fid lo b → codeOk pl x = true ∧ lpOk P L fid lo x := by
    intro a b x iha ihb hx hc ha hb
    simp only [Bool.and_eq_true] at hc
    cases hl : loopC id a with
    | none => rw [hl] at hx; exact ihb hx hc.2 hb
    | some y => rw [hl] at hx; cases hx; exact iha hl hc.1 ha
  induction c with
  | seq a b iha ihb => intro x hx hc h; exact two iha ihb hx hc h.1 h.2
  | cond x a b iha ihb => intro x hx hc h; exact two iha ihb hx hc h.1 h.2
  | block i b ih => exact fun hx hc h => ih hx hc h
  | loop b ih =>
    intro x hx hc h
    simp only [loopC] at hx
    cases hh : headId b with
    | none => rw [hh] at hx; exact ih hx hc h.2
    | some j =>
      rw [hh] at hx
      simp only at hx
      cases hb : Nat.beq j id with
      | true => rw [hb] at hx; cases hx; exact ⟨hc, h.2⟩
      | false => rw [hb] at hx; exact ih hx hc h.2
  | _ => intro x hx; cases hx
theorem loopC_head : ∀ {c b : Code}, loopC id c = some b → headId b = some id := by
  intro c
  have two : ∀ {a b x : Code}, (∀ {y}, loopC id a = some y → headId y = some id) → (∀ {y}, loopC id b = some y → headId y = some id) → (match loopC id a with | some c => some c | none => loopC id b) = some x → headId x = some id := by
    intro a b x iha ihb hx
    cases hl : loopC id a with
    | none => rw [hl] at hx; exact ihb hx
    | some y => rw [hl] at hx; cases hx; exact iha hl
  induction c with
  | seq a b iha ihb => intro x hx; exact two iha ihb hx
  | cond x a b iha ihb => intro x hx; exact two iha ihb hx
  | block i b ih => exact fun hx => ih hx
  | loop b ih =>
    intro x hx
    simp only [loopC] at hx
    cases hh : headId b with
    | none => rw [hh] at hx; exact ih hx
    | some j =>
      rw [hh] at hx
      simp only at hx
      cases hb : Nat.beq j id with
      | true => rw [hb] at hx; cases hx; rw [hh, beq_eq.1 hb]
      | false => rw [hb] at hx; exact ih hx
  | _ => intro x hx; cases hx
/-- The run of a loop. -/
def loopRun (P : Program) (S : Orc) (tb : FuncId → Option FnP) (f : FuncId) (id : Nat) : LoopF := fun _ st K => match tb f with
  | some e => (match loopC id e.code with
    | some c => evCode P (e.plan.stops (S.s f)) (evCall P S tb 100) (butL id (S.l f)) f none (.loop c) st K
    | none => none)
  | none => none
theorem loopRun_sim (hT : TbOk P tb) (hS : OrcOk P tb S) {f : FuncId} {e : FnP} {c : Code} (he : tb f = some e) (hc : loopC id e.code = some c) : LoopSim P (LP tb) f c (loopRun P S tb f id) := by
  intro A r K Z kind cs₀ b k ρ st a w cs hL hb hf hro hSt hg
  unfold loopRun at hg
  rw [he] at hg
  simp only [hc] at hg
  obtain ⟨_, _, _, hok⟩ := hT.fn f e he
  obtain ⟨h1, h2⟩ := loopC_ok (P := P) (L := LP tb) (fid := f) (lo := butL id (S.l f)) hc hok (lp_but (hS.l f e he))
  refine code_sim (callSim_of hT hS 100) hT hL he hf hb (rd := none) (lo := butL id (S.l f)) (.loop c) (by simpa [codeOk] using h1) (fun _ => ⟨fun j g' hj hg' => ?_, h2⟩) K k ρ st a w cs (by rw [hro]; trivial) hSt hg
  rw [loopC_head hc] at hj
  cases hj
  unfold butL at hg'
  simp at hg'
theorem natL_loop (hS : OrcOk P tb S) {f : FuncId} : NatL (loopRun P S tb f id) := by
  intro A B st K K' u hk
  unfold loopRun
  split
  · split
    · refine evCode_b (evCall_b hS.nf hS.nl 100) (fun j g hg => ?_) _ _ _ _ hk
      have hg : (bif Nat.beq j id then none else S.l f j) = some g := hg
      cases hj : Nat.beq j id with
      | false => rw [hj] at hg; exact hS.nl f j g hg
      | true => rw [hj] at hg; cases hg
    · rfl
  · rfl
/-- One loop more is told of. -/
def addL (f : FuncId) (id : Nat) (g : LoopF) (S : Orc) : Orc := ⟨S.f, fun x => bif Nat.beq x f then withL id g (S.l x) else S.l x, S.s⟩
theorem addL_gen (hS : OrcOk P tb S) {f : FuncId} {e : FnP} {g : LoopF} (he : tb f = some e) (hc : Nat.ble (countL id e.code) 1 = true) (hg : ∀ b, loopC id e.code = some b → LoopSim P (LP tb) f b g) (hn : NatL g) : OrcOk P tb (addL f id g S) := by
  refine ⟨hS.f, fun x e' he' => ?_, hS.nf, fun x j g' hg' => ?_⟩
  rotate_left
  · have hg' : (bif Nat.beq x f then withL id g (S.l x) else S.l x) j = some g' := hg'
    cases hb : Nat.beq x f with
    | false => rw [hb] at hg'; exact hS.nl x j g' hg'
    | true =>
      rw [hb] at hg'
      have hg' : (bif Nat.beq j id then some g else S.l x j) = some g' := hg'
      cases hj : Nat.beq j id with
      | false => rw [hj] at hg'; exact hS.nl x j g' hg'
      | true => rw [hj] at hg'; cases hg'; exact hn
  show lpOk P (LP tb) x (bif Nat.beq x f then withL id _ (S.l x) else S.l x) e'.code
  cases hb : Nat.beq x f with
  | false => exact hS.l x e' he'
  | true =>
    have := Nat.eq_of_beq_eq_true hb
    subst this
    rw [he] at he'; cases he'
    exact lp_with (Nat.le_of_ble_eq_true hc) hg (hS.l x e he)
theorem addL_ok (hT : TbOk P tb) (hS : OrcOk P tb S) {f : FuncId} {e : FnP} (he : tb f = some e) (hc : Nat.ble (countL id e.code) 1 = true) : OrcOk P tb (addL f id (loopRun P S tb f id) S) :=
  addL_gen hS he hc (fun _ hb => loopRun_sim hT hS he hb) (natL_loop hS)
/-- One function more is told of. -/
def addF (f : FuncId) (g : CallF) (S : Orc) : Orc := ⟨fun x => bif Nat.beq x f then some g else S.f x, S.l, S.s⟩
theorem addF_ok {f : FuncId} {g : CallF} (h : FnSim P (LP tb) f g) (hn : NatF g) (hS : OrcOk P tb S) : OrcOk P tb (addF f g S) := by
  have hnf : ∀ f' g', (addF f g S).f f' = some g' → NatF g' := fun f' g' he => by
    have he : (bif Nat.beq f' f then some g else S.f f') = some g' := he
    cases hb : Nat.beq f' f with
    | true => rw [hb] at he; cases he; exact hn
    | false => rw [hb] at he; exact hS.nf f' g' he
  refine ⟨fun f' g' he => ?_, hS.l, hnf, hS.nl⟩
  have he : (bif Nat.beq f' f then some g else S.f f') = some g' := he
  cases hb : Nat.beq f' f with
  | true => rw [hb] at he; cases he; have := Nat.eq_of_beq_eq_true hb; subst this; exact h
  | false => rw [hb] at he; exact hS.f f' g' he
def orc0 : Orc := ⟨fun _ => none, fun _ _ => none, fun _ _ => false⟩
/-- At these regions of a function nothing is told. -/
def stopAt (f : FuncId) (l : List Nat) (S : Orc) : Orc := ⟨S.f, S.l, fun x i => bif Nat.beq x f then l.any (Nat.beq i) else S.s x i⟩
theorem stopAt_ok {f : FuncId} {l : List Nat} (hS : OrcOk P tb S) : OrcOk P tb (stopAt f l S) := ⟨hS.f, hS.l, hS.nf, hS.nl⟩
theorem orc0_ok : OrcOk P tb orc0 := ⟨fun f g h => (by cases h), fun f e _ => lpOk_none _, fun f g h => (by cases h), fun f i g h => (by cases h)⟩
/-- One round of a loop at whose head what stays is told anew. -/
def loopB (P : Program) (S : Orc) (tb : FuncId → Option FnP) (f : FuncId) (id : Nat) (n0 : Nat) {A : Type} (st : St) (K : Ex → St → Option A) : Option A := match tb f with
  | some e => (match loopC id e.code, e.plan.norm id with
    | some c, some N => loopK P N n0 (fun st K => evCode P (e.plan.stops (S.s f)) (evCall P S tb 100) (butL id (S.l f)) f none c st K) st K
    | _, _ => none)
  | none => none
def loopN0 (tb : FuncId → Option FnP) (f : FuncId) (id : Nat) : Option Norm := match tb f with
  | some e => e.plan.norm id
  | none => none
theorem loopRun_eq {f : FuncId} {N : Norm} (hN : loopN0 tb f id = some N) {e : FnP} {c : Code} (he : tb f = some e) (hc : loopC id e.code = some c) {A : Type} {st : St} {K : Ex → St → Option A} :
    loopRun P S tb f id A st K = normK P N st.h.next st fun s => loopN (loopB P S tb f id st.h.next) rounds s K := by
  unfold loopN0 at hN
  rw [he] at hN
  simp only at hN
  have hb : @loopB P S tb f id st.h.next A = loopK P N st.h.next (fun st K => evCode P (e.plan.stops (S.s f)) (evCall P S tb 100) (butL id (S.l f)) f none c st K) := by
    funext st K
    unfold loopB
    rw [he]
    simp only [hc, hN]
  rw [hb]
  unfold loopRun
  rw [he]
  simp only [hc, evCode, loopC_head hc, Option.bind_some, stops_norm, hN]
  have : butL id (S.l f) id = none := by unfold butL; simp
  rw [this]
theorem loopN_succ {A : Type} (b : St → (Ex → St → Option A) → Option A) (n : Nat) (st : St) (K : Ex → St → Option A) : loopN b (n + 1) st K = b st fun e s => match e with | .normal => loopN b n s K | e => K e s := by
  simp only [loopN]
  refine congrArg (b st) ?_
  funext e s
  cases e <;> rfl
end Go.Ev
