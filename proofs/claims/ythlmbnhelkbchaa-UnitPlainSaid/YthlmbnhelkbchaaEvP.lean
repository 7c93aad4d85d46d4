/- Calls: what is asked of the evaluator's calls, and a call of a function value out of it. -/
import Derived.Test.YthlmbnhelkbchaaEvO
import Derived.Test.YthlmbnhelkbchaaEvNb
import Derived.Defers
import Derived.Recover
import Derived.AtR
namespace Go.Ev
section
variable {ρ ρ' : Loc} {N Z : Zone} {h h' : Heap} {w w' : World}

/-! ### Zones and parts of heaps -/
def Heap.le (a b : Nat → Option Blk) : Prop := ∀ i x, a i = some x → b i = some x
theorem Rep.sub {n : Nat} (hr : Rep ρ h N w) (hl : Heap.le h'.m h.m) (hn : h.next ≤ n) : Rep ρ ⟨h'.m, n⟩ N w :=
  ⟨fun b x hb => hr.blk b x (hl b x hb), fun b b' x x' p p' hb hb' => hr.inj b b' x x' p p' (hl b x hb) (hl b' x' hb'), hr.old, fun b hb => hr.fresh b (Nat.le_trans hn hb), fun b o cs hf => ⟨(hr.frz b o cs hf).1, fun c x p hc => (hr.frz b o cs hf).2.1 c x p (hl c x hc), (hr.frz b o cs hf).2.2⟩⟩
/-- Another zone for a block. -/
theorem RB.zone {p : Pl} {x : Blk} (hb : RB ρ N w p x) (h1 : x.writes = true → N.keep p.blk → Z.keep p.blk → False) (h2 : x.writes = true → ¬ Z.keep p.blk) (h3 : N.ro p.blk → Z.ro p.blk) (hL : Z.L = N.L) : RB ρ Z w p x := by
  cases x with
  | cells wr vs =>
    obtain ⟨c, e, fz, g1, g2, g3, g4, g5, g6⟩ := hb
    exact ⟨c, e, fz, g1, g2, g3, g4, fun hw => ⟨h2 hw, (g5 hw).2⟩, fun hw => h3 (g6 hw)⟩
  | map es ck => exact ⟨h2 rfl, hb.2⟩
  | loop l =>
    obtain ⟨_, hl, rest⟩ := hb
    exact ⟨h2 rfl, hL ▸ hl, rest⟩
  | dfr live => exact ⟨h2 rfl, hb.2⟩
/-- Only what is in the heap, and may be written, may be touched. -/
def Zone.frame (N : Zone) (ρ : Loc) (m : Nat → Option Blk) (w : World) : Zone where
  ro := N.ro
  keep q := N.keep q ∨ (q < w.heap.size ∧ ∀ b x p, m b = some x → x.writes = true → ρ b = some p → p.blk ≠ q) ∨ ∃ o cs, ρ.F q o cs
  sub q hq := .inl (N.sub q hq)
  fz q := N.fz q ∨ ∃ o cs, ρ.F q o cs
  fsub q hq := hq.elim (fun h => .inl (N.fsub q h)) (fun h => .inr (.inr h))
  L := N.L
theorem Rep.frame (hr : Rep ρ h N w) : Rep ρ h (N.frame ρ h.m w) w := by
  refine ⟨fun b x hb => ?_, hr.inj, fun q hq => ?_, hr.fresh, fun b o cs hf => ⟨(hr.frz b o cs hf).1, (hr.frz b o cs hf).2.1, fun _ => .inr (.inr ⟨o, cs, hf⟩), (hr.frz b o cs hf).2.2.2⟩⟩
  · obtain ⟨p, h1, h2⟩ := hr.blk b x hb
    refine ⟨p, h1, h2.zone (fun _ h3 _ => ?_) (fun hw hk => ?_) id rfl⟩
    · rename_i hw _; exact h2.low hw h3
    · rcases hk with hk | hk | ⟨o, cs, hk⟩
      · exact h2.low hw hk
      · exact hk.2 b x p hb hw h1 rfl
      · exact (hr.frz _ o cs hk).2.1 b x p hb hw h1 rfl
  · rcases hq with hq | hq | ⟨o, cs, hq⟩
    · exact hr.old q hq
    · exact hq.1
    · exact (hr.frz _ o cs hq).1.size
/-- Back again. -/
theorem RB.unframe {ρ₀ : Loc} {m : Nat → Option Blk} {w₀ : World} {p : Pl} {x : Blk} (hb : RB ρ (N.frame ρ₀ m w₀) w p x) : RB ρ N w p x := by
  refine hb.zone (fun hw hk _ => hb.low hw hk) (fun hw hk => hb.low hw (.inl hk)) id rfl
theorem Low.unframe {ρ₀ : Loc} {m : Nat → Option Blk} {w₀ : World} (hl : Low (N.frame ρ₀ m w₀) w w') : Low N w w' :=
  ⟨hl.os, hl.tape, hl.output, hl.size, fun k hk => hl.block k (.inl hk)⟩
theorem Rep.unframe {ρ₀ : Loc} {m : Nat → Option Blk} {w₀ : World} (hF : ∀ b o cs, ρ₀.F b o cs → N.keep b → N.ro b ∨ N.fz b) (hr : Rep ρ h (N.frame ρ₀ m w₀) w) : Rep ρ h N w :=
  ⟨fun b x hb => let ⟨p, h1, h2⟩ := hr.blk b x hb; ⟨p, h1, h2.unframe⟩, hr.inj, fun q hq => hr.old q (.inl hq), hr.fresh, fun b o cs hf => ⟨(hr.frz b o cs hf).1, (hr.frz b o cs hf).2.1, (fun hk => by
    rcases (hr.frz b o cs hf).2.2.1 (.inl hk) with h | h | ⟨o', cs', h⟩
    · exact .inl h
    · exact .inr h
    · exact hF _ _ _ h hk), (hr.frz b o cs hf).2.2.2⟩⟩
/-- All that there is, to be read alone. -/
def Zone.read (N : Zone) (w : World) : Zone where
  ro q := q < w.heap.size
  keep q := q < w.heap.size
  sub _ hq := hq
  fz _ := False
  fsub _ hq := hq.elim
  L := N.L
theorem Rep.read (hr : Rep ρ h N w) : Rep ρ h.demote (N.read w) w := by
  have key : ∀ b x, h.demote.m b = some x → ∃ wr vs, h.m b = some (.cells wr vs) ∧ x = .cells false vs := fun b x hb => by
    simp only [Heap.demote] at hb
    cases hx : h.m b with
    | none => rw [hx] at hb; cases hb
    | some y =>
      rw [hx] at hb
      cases y with
      | cells wr vs => simp [Blk.demote] at hb; exact ⟨wr, vs, rfl, hb.symm⟩
      | _ => simp [Blk.demote] at hb
  refine ⟨fun b x hb => ?_, fun b b' x x' p p' hb _ _ hw => ?_, fun q hq => hq, hr.fresh, fun b o cs hf => ⟨(hr.frz b o cs hf).1, (fun c x p hc hx => by
    obtain ⟨wr, vs, _, rfl⟩ := key c x hc
    cases hx), fun hk => .inl hk, (hr.frz b o cs hf).2.2.2⟩⟩
  · obtain ⟨wr, vs, h1, rfl⟩ := key b x hb
    obtain ⟨p, h2, h3⟩ := hr.blk b _ h1
    have hs : p.blk < w.heap.size := h3.size
    obtain ⟨c, e, fz, g1, g2, g3, g4, g5, g6⟩ := h3
    exact ⟨p, h2, c, e, fz, g1, g2, g3, g4, fun hw => (by cases hw), fun _ => hs⟩
  · obtain ⟨wr, vs, h1, rfl⟩ := key b x hb
    cases hw
theorem Rep.empty (hr : Rep ρ h N w) : Rep ρ h.empty (N.read w) w :=
  ⟨fun b x hb => (by cases hb), fun b b' x x' p p' hb => (by cases hb), fun q hq => hq, hr.fresh, fun b o cs hf => ⟨(hr.frz b o cs hf).1, (fun c x p hc => by cases hc), fun hk => .inl hk, (hr.frz b o cs hf).2.2.2⟩⟩
/-- Blocks come to it; nothing is touched. -/
theorem Rep.more {n : Nat} (hr : Rep ρ h N w) (hg : GrowsS ρ ρ') (hl : Low (N.read w) w w') (hf : ∀ b, n ≤ b → ρ' b = none) : Rep ρ' ⟨h.m, n⟩ N w' := by
  have hg' := hg.toGrows
  refine ⟨fun b x hb => ?_, fun b b' x x' p p' hb hb' hne hw hp hp' => ?_, fun q hq => Nat.lt_of_lt_of_le (hr.old q hq) hl.size, hf, fun b o cs hfz => ?_⟩
  rotate_left 2
  · obtain ⟨f1, f2, f3⟩ := hr.frz b o cs (hg.same _ _ _ hfz)
    refine ⟨f1.keep hg' (hl.block _ f1.size), fun c x p hc hx hp => ?_, f3⟩
    obtain ⟨q, h1, _⟩ := hr.blk c x hc
    rw [hg' _ _ h1] at hp; cases hp
    exact f2 c x _ hc hx h1
  · obtain ⟨p, h1, h2⟩ := hr.blk b x hb
    exact ⟨p, hg' _ _ h1, h2.keep hg' (hl.block _ h2.size)⟩
  · obtain ⟨q, h1, _⟩ := hr.blk b x hb
    obtain ⟨q', h2, _⟩ := hr.blk b' x' hb'
    rw [hg' _ _ h1] at hp; cases hp
    rw [hg' _ _ h2] at hp'; cases hp'
    exact hr.inj b b' x x' p p' hb hb' hne hw h1 h2
theorem Low.unread (hr : Rep ρ h N w) (hl : Low (N.read w) w w') : Low N w w' :=
  ⟨hl.os, hl.tape, hl.output, hl.size, fun k hk => hl.block k (hr.old k hk)⟩
/-- A new block comes to it. -/
theorem Rep.joins {n id : Nat} {x : Blk} {h₁ : Heap} (hr : Rep ρ h N w) (hg : GrowsS ρ ρ') (hl : Low (N.read w) w w') (hr' : Rep ρ' ⟨h₁.m, n⟩ (N.read w) w') (hx : h₁.m id = some x) (hw : x.writes = true) (hid : ρ id = none) :
    Rep ρ' ⟨(h.put id x).m, n⟩ N w' := by
  have hm := hr.more (n := n) hg hl hr'.fresh
  obtain ⟨p, h1, h2⟩ := hr'.blk id x hx
  have hlow : ¬ p.blk < w.heap.size := h2.low hw
  have hin : ∀ b y, h.m b = some y → ∃ q, ρ' b = some q ∧ q.blk < w.heap.size := fun b y hb => by
    obtain ⟨q, a, c⟩ := hr.blk b y hb
    exact ⟨q, hg.toGrows _ _ a, c.size⟩
  have hne : h.m id = none := by
    cases hc : h.m id with
    | none => rfl
    | some y => obtain ⟨q, a, _⟩ := hr.blk id y hc; rw [hid] at a; cases a
  refine ⟨fun b y hb => ?_, fun b b' y y' q q' hb hb' hne' hy hq hq' => ?_, hm.old, hm.fresh, fun b o cs hfz => ?_⟩
  rotate_left 2
  · obtain ⟨f1, f2, f3⟩ := hm.frz b o cs hfz
    have hbs := (hr.frz b o cs (hg.same _ _ _ hfz)).1.size
    refine ⟨f1, fun c y q hc hy hq => ?_, f3⟩
    simp only at hc
    rw [Heap.put_m] at hc
    by_cases e : c = id
    · rw [e, h1] at hq; cases hq; omega
    · rw [if_neg e] at hc; exact f2 c y q hc hy hq
  · simp only at hb
    rw [Heap.put_m] at hb
    by_cases e : b = id
    · rw [if_pos e] at hb; cases hb
      subst e
      refine ⟨p, h1, h2.zone (fun _ hk _ => hlow hk) (fun _ hk => hlow (hr.old _ hk)) (fun hk => absurd hk hlow) rfl⟩
    · rw [if_neg e] at hb; exact hm.blk b y hb
  · simp only at hb hb'
    rw [Heap.put_m] at hb hb'
    by_cases e : b = id
    · have e' : b' ≠ id := fun z => hne' (e.trans z.symm)
      rw [if_neg e'] at hb'
      obtain ⟨r, a, c⟩ := hin b' y' hb'
      rw [a] at hq'; cases hq'
      rw [e, h1] at hq; cases hq
      omega
    · rw [if_neg e] at hb
      by_cases e' : b' = id
      · obtain ⟨r, a, c⟩ := hin b y hb
        rw [a] at hq; cases hq
        rw [e', h1] at hq'; cases hq'
        omega
      · rw [if_neg e'] at hb'
        exact hm.inj b b' y y' q q' hb hb' hne' hy hq hq'
end

/-! ### Modes -/
def MdR (ρ : Loc) : Md → FrameMode → Prop
  | .off, _ => False
  | .ret, u => u = .returning
  | .pan v, u => ∃ v', R ρ v v' ∧ u = .panicking [{ v := v', recovered := false }]
  | .rcd v, u => ∃ v', R ρ v v' ∧ u = .panicking [{ v := v', recovered := true }]
theorem MdR.grows {ρ ρ' : Loc} (hg : Grows ρ ρ') {r : Md} {u : FrameMode} (h : MdR ρ r u) : MdR ρ' r u := by
  cases r with
  | off => exact h
  | ret => exact h
  | pan v => obtain ⟨v', a, b⟩ := h; exact ⟨v', a.grows hg, b⟩
  | rcd v => obtain ⟨v', a, b⟩ := h; exact ⟨v', a.grows hg, b⟩
def CSR (ρ : Loc) (kind : CallKind) (cs₀ : List Frame) (r : Md) (cs : List Frame) : Prop :=
  (kind = .normal ∧ r = .off ∧ cs = cs₀) ∨ (kind = .deferred ∧ ∃ c rest u, cs₀ = c :: rest ∧ cs = { c with mode := u } :: rest ∧ MdR ρ r u)
theorem CSR.grows {ρ ρ' : Loc} (hg : Grows ρ ρ') {kind : CallKind} {cs₀ cs : List Frame} {r : Md} (h : CSR ρ kind cs₀ r cs) : CSR ρ' kind cs₀ r cs := by
  rcases h with h | ⟨h1, c, rest, u, h2, h3, h4⟩
  · exact .inl h
  · exact .inr ⟨h1, c, rest, u, h2, h3, h4.grows hg⟩

section
variable (P : Program)
def OutG (ρ : Loc) (fr : Frame) (w : World) : Out → Prop
  | .ret v => ∃ v', R ρ v v' ∧ fr.going P w (.returned v')
  | .pan v => ∃ v', R ρ v v' ∧ fr.going P w (.panicked [{ v := v', recovered := false }])
def OutC (ρ : Loc) (c c' : Frame) : Out → Prop
  | .ret v => ∃ v', R ρ v v' ∧ c' = c.finish v'
  | .pan v => ∃ v', R ρ v v' ∧ c' = c.raise [{ v := v', recovered := false }]
/-- How the world has gone on. -/
structure Went (ρ ρ' : Loc) (Z : Zone) (n : Nat) (h' : Heap) (w w' : World) : Prop where
  grows : Grows ρ ρ'
  off : ∀ b, b < n → ρ' b = ρ b
  next : n ≤ h'.next
  rep : Rep ρ' h' Z w'
  low : Low Z w w'
/-- What is asked of what is told of a function. -/
def FnSim (L : ALoop → Prop) (f : FuncId) (g : CallF) : Prop := ∀ (A : Type) (K : Out → Heap → Md → Option A) (r : A) (args : List AV) (h : Heap) (u : Md) (args' : Array Value) (ρ : Loc) (Z : Zone) (w : World) (kind : CallKind) (cs₀ cs : List Frame),
    Z.L = L → g A args h u K = some r → Rep ρ h Z w → RL ρ args args'.toList → CSR ρ kind cs₀ u cs →
    (∀ w, (callFunc f args').run P w = .ok (.enter f args') w) ∧
    ∃ out h' u' ρ' w' cs' fr, K out h' u' = some r ∧ Steps P (lone (Frame.enter P f args' kind) cs w) (lone fr cs' w') ∧ Went ρ ρ' Z h.next h' w w' ∧ CSR ρ' kind cs₀ u' cs' ∧ fr.kind = kind ∧ fr.fn = f ∧ OutG P ρ' fr w' out
structure CallSim (L : ALoop → Prop) (call : CallP) : Prop where
  nat : NatC call
  fn : ∀ (A : Type) (K : Out → Heap → Md → Option A) (r : A) (f : FuncId) (args : List AV) (h : Heap) (u : Md) (args' : Array Value) (ρ : Loc) (Z : Zone) (w : World) (kind : CallKind) (cs₀ cs : List Frame),
    Z.L = L → call A (.fn f) args h u K = some r → Rep ρ h Z w → RL ρ args args'.toList → CSR ρ kind cs₀ u cs →
    (∀ w, (callFunc f args').run P w = .ok (.enter f args') w) ∧
    ∃ out h' u' ρ' w' cs' fr, K out h' u' = some r ∧ Steps P (lone (Frame.enter P f args' kind) cs w) (lone fr cs' w') ∧ Went ρ ρ' Z h.next h' w w' ∧ CSR ρ' kind cs₀ u' cs' ∧ fr.kind = kind ∧ fr.fn = f ∧ OutG P ρ' fr w' out
  yield : ∀ (A : Type) (K : Out → Heap → Md → Option A) (r : A) (l : Nat) (args : List AV) (h : Heap) (u : Md) (args' : Array Value) (ρ : Loc) (Z : Zone) (w : World) (p : Pl) (c : Frame) (cs : List Frame),
    Z.L = L → call A (.yield l) args h u K = some r → Rep ρ h Z w → RL ρ args args'.toList → ρ l = some p →
    ∃ f tmps assign body, (Instr.yield p.blk args').run P w = .ok (.round p.blk f tmps assign body) w ∧
    ∃ out h' u' ρ' w' c', K out h' u' = some r ∧ Steps P (lone (Frame.round p.blk f tmps assign body .normal) (c :: cs) w) (lone c' cs w') ∧ Went ρ ρ' Z h.next h' w w' ∧ OutC ρ' c c' out
inductive NextFrame : Next → Frame → Prop
  | enter (f : FuncId) (args : Array Value) : NextFrame (.enter f args) (Frame.enter P f args .normal)
  | round (l : Nat) (f : FuncId) (tmps : Array Value) (assign body : Code) : NextFrame (.round l f tmps assign body) (Frame.round l f tmps assign body .normal)
end
variable {P : Program} {L : ALoop → Prop} {call : CallP}

theorem going_leaving {fr : Frame} {w : World} {e : Ending} (hk : fr.kind = .normal) (h : fr.going P w e) : fr.leaving P w e := by
  cases e with
  | returned v => obtain ⟨a, b, c⟩ := h; exact ⟨a, b, hk, c⟩
  | panicked ch => exact h
  | outgrown => exact h
/-- A call of a function value. -/
theorem callee_sim (H : CallSim P L call) {A : Type} {K : Out → Heap → Md → Option A} {r : A} {f : AV} {f' : Value} {args : List AV} {args' : Array Value} {h : Heap} {ρ : Loc} {Z : Zone} {w : World}
    (hL : Z.L = L) (hh : calleeK (call A) f args h K = some r) (hr : Rep ρ h Z w) (hf : R ρ f f') (ha : RL ρ args args'.toList) (c : Frame) (cs : List Frame) :
    ∃ nx frN, (do let d ← Deferred.ofValue f' args'; invoke d.target d.args).run P w = .ok nx w ∧ NextFrame P nx frN ∧
      ∃ out h' u' ρ' w' c', K out h' u' = some r ∧ Steps P (lone frN (c :: cs) w) (lone c' cs w') ∧ Went ρ ρ' Z h.next h' w w' ∧ OutC ρ' c c' out := by
  unfold calleeK at hh
  split at hh
  · rename_i g first cap
    cases hf with
    | fn _ h1 h2 h3 h4 =>
    rename_i first' cap'
    rw [appA_eq, appA_eq] at hh
    have hfi : RL ρ first first'.toList := ⟨by simpa using h1, fun i v v' a b => h2 i v v' a (by simpa using b)⟩
    have hca : RL ρ cap cap'.toList := ⟨by simpa using h3, fun i v v' a b => h4 i v v' a (by simpa using b)⟩
    have hall : RL ρ (first ++ (args ++ cap)) (first' ++ args' ++ cap').toList := by
      have := hfi.append (ha.append hca)
      simpa [List.append_assoc] using this
    obtain ⟨e1, out, h', u', ρ', w', cs', fr, k1, k2, k3, k4, k5, k6, k7⟩ := H.fn A K r g _ h .off _ ρ Z w .normal (c :: cs) (c :: cs) hL hh hr hall (.inl ⟨rfl, rfl, rfl⟩)
    rcases k4 with ⟨_, _, rfl⟩ | ⟨x, _⟩
    · refine ⟨_, _, ?_, .enter g (first' ++ args' ++ cap'), out, h', u', ρ', w', ?_⟩
      · simp only [Deferred.ofValue, invoke, Sem.run_bind, Sem.run_pure, Result.andThen_ok, e1]
      · cases out with
        | ret v =>
          obtain ⟨v', a, b⟩ := k7
          exact ⟨c.finish v', k1, k2.trans (.one (step_leave_returned (going_leaving k5 b))), k3, v', a, rfl⟩
        | pan v =>
          obtain ⟨v', a, b⟩ := k7
          exact ⟨c.raise _, k1, k2.trans (.one (step_leave_panicked (going_leaving k5 b))), k3, v', a, rfl⟩
    · cases x
  · rename_i l
    cases hf with
    | yield hp =>
    rename_i p
    obtain ⟨f, tmps, assign, body, e1, out, h', u', ρ', w', c', k1, k2, k3, k4⟩ := H.yield A K r l args h .off args' ρ Z w p c cs hL hh hr ha hp
    refine ⟨_, _, ?_, .round p.blk f tmps assign body, out, h', u', ρ', w', c', k1, k2, k3, k4⟩
    simp [Deferred.ofValue, invoke, e1]
  · cases hh
end Go.Ev
