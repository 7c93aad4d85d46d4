/- A region whose order is drawn, third part: one more operation; all of them. -/
import Derived.Test.YthlmbnhelkbchaaEvR
namespace Go.Ev
variable {P : Program} {ops opsF : Array Oper} {base : Nat} {call : CallP} {T : List AV} {L : ALoop → Prop}

theorem first_split {α : Type} (p : α → Prop) : ∀ l : List α, (∀ x ∈ l, ¬ p x) ∨ ∃ l₁ x l₂, l = l₁ ++ x :: l₂ ∧ p x ∧ ∀ y ∈ l₁, ¬ p y
  | [] => .inl (by simp)
  | a :: l => by
    rcases Classical.em (p a) with h | h
    · exact .inr ⟨[], a, l, rfl, h, by simp⟩
    · rcases first_split p l with h' | ⟨l₁, x, l₂, h1, h2, h3⟩
      · exact .inl fun x hx => by
          rcases List.mem_cons.1 hx with e | e
          · exact e ▸ h
          · exact h' x e
      · exact .inr ⟨a :: l₁, x, l₂, by rw [h1]; rfl, h2, fun y hy => by
          rcases List.mem_cons.1 hy with e | e
          · exact e ▸ h
          · exact h3 y e⟩

theorem R.simple {ρ ρ' : Loc} {v : AV} {v' : Value} (hs : simple v = true) (h : R ρ v v') : R ρ' v v' := by
  cases h <;> first | (cases hs; done) | skip
  · exact .int _ _
  · exact .bool _
  · exact .str _
section
variable {es A B : List Ent} {hA hE : Heap} {X : Nat → Prop} {H : Nat → Option Blk} {ρ : Loc} {Z : Zone} {w : World} {a : Act}

/-- An operation that touches nothing and makes nothing that is known: read in a part of the heap. -/
theorem quiet {o : Oper} {e' : Operand → Value} {hs : Heap} {id n : Nat} {v : AV} (hr : Rep ρ ⟨hs.m, n⟩ (Z.read w) w) (he : ∀ x ∈ o.op.operands, R ρ (ev T x) (e' x)) (hid : ρ id = none) (hlt : id < n)
    (hp : prim P o (ev T) hs id (fun v _ => some v) = some v) (hn : news o.op = false ∨ simple v = true) :
    ∃ v' w' nx, (execOp e' o).run P w = .ok nx w' ∧ (nx = .value v' ∨ (nx = .skip ∧ v' = undef)) ∧ R ρ v v' ∧ Low (Z.read w) w w' := by
  classical
  let eo : Operand → AV := fun x => if x ∈ o.op.operands then ev T x else .dead
  have heo : ∀ x, R ρ (eo x) (e' x) := fun x => by
    by_cases hx : x ∈ o.op.operands
    · simp only [eo, if_pos hx]; exact he x hx
    · simp only [eo, if_neg hx]; exact .dead _
  rw [prim_congr (e' := eo) o fun x hx => by simp only [eo, if_pos hx]] at hp
  rcases hn with hn | hn
  · rw [prim_id (id' := n) o hn] at hp
    obtain ⟨v1, h', v', w', ρ', nx, k1, k2, k3, k4, k5, k6, k7, k8, k9⟩ := prim_sound hr heo (fun h => by rw [hn] at h; cases h) hp
    simp only [Option.some.injEq] at k1
    subst k1
    have hρ : ρ' = ρ := by
      refine k5.eq fun b => ?_
      by_cases hb : b = n
      · subst hb; rw [k7.fresh b (Nat.le_refl _), hr.fresh b (Nat.le_refl _)]
      · exact k6 b hb
    exact ⟨v', w', nx, k3, k4, hρ ▸ k8, k9⟩
  · obtain ⟨v1, h', v', w', ρ', nx, k1, k2, k3, k4, k5, k6, k7, k8, k9⟩ := prim_sound hr heo (fun _ => ⟨hid, hlt⟩) hp
    simp only [Option.some.injEq] at k1
    subst k1
    exact ⟨v', w', nx, k3, k4, k8.simple hn, k9⟩

theorem wanted_full {o : Oper} {dn : Bool} {T : List AV} {tm : Array Value} (hF : ∀ (i : Nat) (o : Oper), ops[i]? = some o → opsF[i]? = some o) (hd : doneB ops o T = some dn) : Region.wanted o (yielded opsF tm) = Region.wanted o (yielded ops tm) := by
  unfold doneB at hd
  unfold Region.wanted
  cases hg : o.guard with
  | none => rfl
  | some gw =>
    obtain ⟨j, want⟩ := gw
    rw [hg] at hd
    simp only at hd ⊢
    cases hj : ops[j]? with
    | none => rw [hj] at hd; cases hd
    | some g =>
      have : yielded opsF tm j = yielded ops tm j := by unfold yielded; rw [hj, hF j g hj]
      rw [this]
theorem draw_step (hF : ∀ (i : Nat) (o : Oper), ops[i]? = some o → opsF[i]? = some o) (Hc : CallSim P L call) (hL : Z.L = L) (hok : ∀ e ∈ es, EntOk P ops base call T e) (hcr : es.Pairwise (Cross P ops base T)) (D : DInv P ops base T es A B hA hE X H ρ Z w a.tmps.toList)
    (hclo : ∀ j o, X j → ops[j]? = some o → ∀ d ∈ deps o, X d) {e : Ent} (hm : e ∈ es) (hx : ¬ X e.i) (hdep : ∀ d ∈ deps e.o, X d) (rest : List Nat) :
    Moves P ops opsF base T es hE X e.i ρ Z w a rest hA.next := by
  classical
  have hpw : es.Pairwise (fun a b => a.i ≠ b.i) := hcr.imp fun h => h.ne
  have he := hok e hm
  have hlook := look_R D hclo he hdep
  have hop : ∀ x ∈ e.o.op.operands, R ρ (ev T x) (a.eval x) := fun x hx' => by
    cases x with
    | tmp i =>
      have := hlook i (List.mem_append_left _ (List.mem_filterMap.2 ⟨.tmp i, by simpa using hx', rfl⟩))
      simp only [ev, Act.eval]
      simpa [List.getD] using this
    | const v => exact .ofConst ρ v
    | global g => exact .dead _
    | func f => exact .fn f (by simp) (by simp) (by simp) (by simp)
  have hw := (wanted_full (tm := a.tmps) hF he.dn).trans (wanted_eq (a := a) he.dn hlook)
  have hoF := hF _ _ he.op
  have hfr := D.fr e hm hx
  have hlt := D.lt e hm
  have bef : ∀ q ∈ es, Before ops q.i e.i → X q.i := fun q _ hb => by
    have key : ∀ (p q : Nat), Before ops p q → q = e.i → X p := by
      intro p q hb
      induction hb with
      | one ho hd => intro eq; subst eq; rw [he.op] at ho; cases ho; exact hdep _ hd
      | trans h1 h2 ih1 ih2 => intro eq; exact before_closed h1 hclo (ih2 eq)
    exact key _ _ hb rfl
  have aft : ∀ q ∈ es, X q.i → ¬ Before ops e.i q.i := fun q _ hq hb => hx (before_closed hb hclo hq)
  have inA : e ∈ A → ∃ A' ew, A = A' ++ [ew] ∧ ew.c = .w ∧ ew.done = true ∧ ew.h1 = hA ∧ Cross P ops base T e ew ∧ X ew.i := fun hA' => by
    rcases D.aw with h | ⟨A', ew, h1, h2, h3, h4, h5⟩
    · rw [h] at hA'; cases hA'
    · refine ⟨A', ew, h1, h2, h3, h5, ?_, h4⟩
      have hin : e ∈ A' := by
        rw [h1] at hA'
        rcases List.mem_append.1 hA' with h | h
        · exact h
        · simp at h; subst h; exact absurd h4 hx
      rw [D.eq, h1] at hcr
      exact (List.pairwise_append.1 (List.pairwise_append.1 hcr).1).2.2 e hin ew (by simp)
  have hcrB : B.Pairwise (Cross P ops base T) := by rw [D.eq] at hcr; exact (List.pairwise_append.1 hcr).2.1
  have hesB : ∀ q ∈ B, q ∈ es := fun q hq => by rw [D.eq]; exact List.mem_append_right _ hq
  have hAB : e ∈ A ∨ e ∈ B := by rw [D.eq] at hm; exact List.mem_append.1 hm
  -- the heap ahead of an operation of B, where all that is known there has come
  have upto : ∀ (B₁ : List Ent) (q : Ent) (post : List Ent), B = B₁ ++ q :: post → (∀ r ∈ B₁, ¬ (r.c = .w ∧ r.done = true)) → (∀ r ∈ B₁, r.c = .a → Before ops r.i e.i) →
      Chain q.h1 post hE ∧ Heap.le q.h0.m H ∧ q.h0.next = hA.next ∧ ∀ b, (∀ r ∈ B₁, b ≠ base + r.i) → q.h0.m b = hA.m b := fun B₁ q post hB h1 h2 => by
    have hin : ∀ r ∈ B₁, r ∈ B := fun r hr => by rw [hB]; exact List.mem_append_left _ hr
    have hch := D.chain
    rw [hB] at hch
    obtain ⟨h, f1, f2, f3, f4⟩ := chain_le (H := H) B₁ hch (fun r hr => hok r (hesB r (hin r hr))) h1 (fun r hr hca hd x hx1 hx2 => D.ext r (hin r hr) hca hd (bef r (hesB r (hin r hr)) (h2 r hr hca)) x hx1 hx2) D.le
    cases f1 with
    | cons f1' => exact ⟨f1', f2, f3, f4⟩
  cases hd : e.done with
  | false =>
    rw [hd] at hw
    have hv : R ρ e.v undef := by rw [(he.sk hd).2]; exact R.undef ρ
    exact ⟨fun b k cs => ⟨_, w, ρ, A, B, hA, H, .one (step_not hw hoF), by cases e.o.dst <;> rfl, D.keep hpw hm he (.inl hd) (Low.refl _ _) (hv_of he hv), Grows.refl _, fun _ _ => rfl, Low.refl _ _, Nat.le_refl _⟩⟩
  | true =>
    rw [hd] at hw
    have hev := he.ev hd
    -- what a quiet operation comes to
    have fin : ∀ (v : AV) (hs : Heap), Rep ρ ⟨hs.m, hA.next⟩ (Z.read w) w → prim P e.o (ev T) hs (base + e.i) (fun v _ => some v) = some v → (news e.o.op = false ∨ simple v = true) → (∀ v', R ρ v v' → ∀ d, e.o.dst = some d → R ρ (nth T d) v') →
        (e.c ≠ .w ∧ (e.c = .a → ∀ x, Made P base T e x → False)) → Moves P ops opsF base T es hE X e.i ρ Z w a rest hA.next := fun v hs hrs hp hn hv hcl => by
      obtain ⟨v', w', nx, k1, k2, k3, k4⟩ := quiet hrs hop hfr hlt hp hn
      refine ⟨fun b k cs => ⟨_, w', ρ, A, B, hA, H, .one (step_value hoF hw ?_ k2), by cases e.o.dst <;> rfl, D.keep hpw hm he (.inr hcl) k4 (hv v' k3), Grows.refl _, fun _ _ => rfl, Low.unread D.rep k4, Nat.le_refl _⟩⟩
      rw [semAt_of_prim hp]; exact k1
    have hempty : Rep ρ ⟨e.h0.empty.m, hA.next⟩ (Z.read w) w := D.rep.empty
    cases hcl : e.c with
    | p =>
      rw [hcl] at hev
      obtain ⟨_, h2, h3⟩ := drawOne_p hev
      exact fin e.v _ hempty h2 h3 (fun v' hv => hv_of he hv) (by rw [hcl]; simp)
    | a =>
      rw [hcl] at hev
      obtain ⟨x, h1, h2 | ⟨y, rfl, h3, h4⟩⟩ := drawOne_a hev
      · obtain ⟨rfl, h5, h6⟩ := h2
        have hp1 := h1
        let eo : Operand → AV := fun x => if x ∈ e.o.op.operands then ev T x else .dead
        have heo : ∀ x, R ρ (eo x) (a.eval x) := fun x => by
          by_cases hx : x ∈ e.o.op.operands
          · simp only [eo, if_pos hx]; exact hop x hx
          · simp only [eo, if_neg hx]; exact .dead _
        rw [prim_congr (e' := eo) e.o fun x hx => by simp only [eo, if_pos hx]] at h1
        obtain ⟨v1, h', v', w', ρ', nx, k1, k2, k3, k4, k5, k6, k7, k8, k9⟩ := prim_sound hempty heo (fun _ => ⟨hfr, hlt⟩) h1
        simp only [Option.some.injEq, Prod.mk.injEq] at k1
        obtain ⟨rfl, _⟩ := k1
        refine ⟨fun b k cs => ⟨_, w', ρ, A, B, hA, H, .one (step_value hoF hw ?_ k4), by cases e.o.dst <;> rfl, D.keep hpw hm he (.inr ⟨by rw [hcl]; simp, fun _ x hx1 => by unfold Made at hx1; rw [hp1] at hx1; simp at hx1⟩) k9 (hv_of he (k8.simple h6)), Grows.refl _, fun _ _ => rfl, Low.unread D.rep k9, Nat.le_refl _⟩⟩
        rw [semAt_of_prim h1]; exact k3
      · have hp1 := h1
        let eo : Operand → AV := fun x => if x ∈ e.o.op.operands then ev T x else .dead
        have heo : ∀ x, R ρ (eo x) (a.eval x) := fun x => by
          by_cases hx : x ∈ e.o.op.operands
          · simp only [eo, if_pos hx]; exact hop x hx
          · simp only [eo, if_neg hx]; exact .dead _
        rw [prim_congr (e' := eo) e.o fun x hx => by simp only [eo, if_pos hx]] at h1
        obtain ⟨v1, h', v', w', ρ', nx, k1, k2, k3, k4, k5, k6, k7, k8, k9⟩ := prim_sound hempty heo (fun _ => ⟨hfr, hlt⟩) h1
        simp only [Option.some.injEq, Prod.mk.injEq] at k1
        obtain ⟨rfl, hy⟩ := k1
        refine ⟨fun b k cs => ⟨_, w', ρ', A, B, hA, _, .one (step_value hoF hw ?_ k4), by cases e.o.dst <;> rfl, D.joins hpw hm hx he hcl h3 hp1 k5 k6 k9 k7 hy (hv_of he k8), k5.toGrows, fun c hc => k6 c (by omega), Low.unread D.rep k9, Nat.le_refl _⟩⟩
        rw [semAt_of_prim h1]; exact k3
    | r =>
      rw [hcl] at hev
      have hcl' : e.c ≠ .w ∧ (e.c = .a → ∀ x, Made P base T e x → False) := by rw [hcl]; simp
      have rd : ∀ hs : Heap, Heap.le hs.m H → Rep ρ ⟨hs.demote.m, hA.next⟩ (Z.read w) w := fun hs hl => Rep.read (h := ⟨hs.m, hA.next⟩) (D.rep.sub (h' := hs) hl (Nat.le_refl _))
      rcases hAB with hin | hin
      · obtain ⟨A', ew, hA', g1, g2, g5, g3, g4⟩ := inA hin
        have hew : ew ∈ es := by rw [D.eq, hA']; simp
        have haf := g3.ord.resolve_left (aft ew hew g4)
        rw [hcl, g1] at haf
        obtain ⟨v, f1, f2, f3⟩ := again_r he.op (by rw [he.dn, hd]) (g3.af hd g2 (okPair_rw haf))
        exact fin v _ (rd _ (g5 ▸ D.le)) f1 f2 (fun v' hv d hdd => f3 d hdd ▸ hv) hcl'
      · obtain ⟨B₁, post, hB⟩ := List.append_of_mem hin
        have hcrB' := hcrB
        rw [hB] at hcrB'
        have hbe : ∀ q ∈ B₁, Cross P ops base T q e := fun q hq => (List.pairwise_append.1 hcrB').2.2 q hq e (by simp)
        have hinB : ∀ q ∈ B₁, q ∈ B := fun q hq => by rw [hB]; exact List.mem_append_left _ hq
        have hab : ∀ q ∈ B₁, q.c = .a → Before ops q.i e.i := fun q hq hqa => (hbe q hq).ord.resolve_right fun g => by rw [hqa, hcl] at g; exact okPair_ar g
        rcases first_split (fun q : Ent => q.c = .w ∧ q.done = true) B₁ with hn | ⟨B₂, w₀, B₃, hB1, ⟨hw1, hw2⟩, hn⟩
        · obtain ⟨_, f2, _, _⟩ := upto B₁ e post hB hn hab
          obtain ⟨_, g2, g3⟩ := drawOne_r hev
          exact fin e.v _ (rd _ f2) g2 g3 (fun v' hv => hv_of he hv) hcl'
        · have hw0 : w₀ ∈ B₁ := by rw [hB1]; simp
          obtain ⟨_, f2, _, _⟩ := upto B₂ w₀ (B₃ ++ e :: post) (by rw [hB, hB1]; simp) hn (fun r hr hra => hab r (by rw [hB1]; exact List.mem_append_left _ hr) hra)
          have hnb : ¬ Before ops w₀.i e.i := fun g => D.bw w₀ (hinB w₀ hw0) hw1 hw2 (bef w₀ (hesB _ (hinB _ hw0)) g)
          have hbf := (hbe w₀ hw0).ord.resolve_left hnb
          rw [hw1, hcl] at hbf
          obtain ⟨v, f1, f3, f4⟩ := again_r he.op (by rw [he.dn, hd]) ((hbe w₀ hw0).bf hw2 hd (okPair_wr hbf))
          exact fin v _ (rd _ f2) f1 f3 (fun v' hv d hdd => f4 d hdd ▸ hv) hcl'
    | w =>
      rw [hcl] at hev
      have hin : e ∈ B := by
        rcases hAB with hin | hin
        · obtain ⟨A', ew, hA', g1, g2, _, g3, g4⟩ := inA hin
          have hew : ew ∈ es := by rw [D.eq, hA']; simp
          have haf := g3.ord.resolve_left (aft ew hew g4)
          rw [hcl, g1] at haf
          exact absurd haf (fun g => okPair_ww g)
        · exact hin
      obtain ⟨B₁, post, hB⟩ := List.append_of_mem hin
      have hcrB' := hcrB
      rw [hB] at hcrB'
      have hbe : ∀ q ∈ B₁, Cross P ops base T q e := fun q hq => (List.pairwise_append.1 hcrB').2.2 q hq e (by simp)
      have hinB : ∀ q ∈ B₁, q ∈ B := fun q hq => by rw [hB]; exact List.mem_append_left _ hq
      obtain ⟨f1, f2, f3, f4⟩ := upto B₁ e post hB (fun q hq ⟨g1, g2⟩ => by
          rcases (hbe q hq).ord with g | g
          · exact D.bw q (hinB q hq) g1 g2 (bef q (hesB _ (hinB _ hq)) g)
          · rw [g1, hcl] at g; exact okPair_ww g) (fun q hq hqa => (hbe q hq).ord.resolve_right fun g => by rw [hqa, hcl] at g; exact okPair_aw g)
      have hrep : Rep ρ e.h0 (Z.frame ρ e.h0.m w) w := by
        have h1 : Rep ρ ⟨e.h0.m, hA.next⟩ Z w := D.rep.sub (h' := e.h0) f2 (Nat.le_refl _)
        have h2 := h1.frame
        rw [← f3] at h2
        exact h2
      have done : ∀ (b : Frame) (k : List Item) (cs : List Frame) (v' : Value) (w' : World) (ρ' : Loc), Steps P (lone (b.atR a (.inRegion opsF (e.i :: rest) :: k)) cs w) (lone (b.atR (a.put e.o.dst v') (.inRegion opsF rest :: k)) cs w') → R ρ' e.v v' → Grows ρ ρ' →
          (∀ c, c < hA.next → c ≠ base + e.i → ρ' c = ρ c) → Low (Z.frame ρ e.h0.m w) w w' → Rep ρ' e.h1 (Z.frame ρ e.h0.m w) w' → e.h0.next ≤ e.h1.next →
          ∃ a' w' ρ' A' B' hA' H', Steps P (lone (b.atR a (.inRegion opsF (e.i :: rest) :: k)) cs w) (lone (b.atR a' (.inRegion opsF rest :: k)) cs w') ∧
            a'.defers = a.defers ∧ DInv P ops base T es A' B' hA' hE (fun i => X i ∨ i = e.i) H' ρ' Z w' a'.tmps.toList ∧ Grows ρ ρ' ∧ (∀ c, c < base → ρ' c = ρ c) ∧ Low Z w w' ∧ hA.next ≤ hA'.next := by
        intro b k cs v' w' ρ' hs hv hg hoff hl hr' hn'
        obtain ⟨H', hD⟩ := D.writes hpw hB he hcl hd f1 f2 f3 f4 hg (fun q hq hne => hoff _ (D.lt q hq) (by omega)) hl hr' hn' (hv_of he hv)
        exact ⟨_, w', ρ', _, _, _, H', hs, by cases e.o.dst <;> rfl, hD, hg, fun c hc => hoff c (by omega) (by omega), hl.unframe, f3 ▸ hn'⟩
      simp only [drawOne] at hev
      split at hev
      · rename_i f args tys hoop
        have hf : R ρ (ev T f) (a.eval f) := hop f (by rw [hoop]; simp [Op.operands, Call.operands])
        have hargs : RL ρ (args.toList.map (ev T)) (args.map a.eval).toList := by
          have := RL.map (ρ := ρ) (ev T) a.eval args.toList (fun x hx => hop x (by rw [hoop]; simp at hx; simp [Op.operands, Call.operands, hx]))
          simpa using this
        refine ⟨fun b k cs => ?_⟩
        obtain ⟨nx, frN, c1, c2, out, h', u', ρ', w', c', c3, c4, c5, c6⟩ := callee_sim Hc (Z := Z.frame ρ e.h0.m w) hL hev hrep hf hargs (b.atR a (.inRegion opsF (e.i :: rest) :: k)) cs
        cases out with
        | pan v => simp at c3
        | ret v =>
          simp only [Option.some.injEq, Prod.mk.injEq] at c3
          obtain ⟨rfl, rfl⟩ := c3
          obtain ⟨v', hv, rfl⟩ := c6
          have hfin : (b.atR a (.inRegion opsF (e.i :: rest) :: k)).finish v' = b.atR (a.put e.o.dst v') (.inRegion opsF rest :: k) := by rw [Frame.finish_atR, hoF]; rfl
          rw [hfin] at c4
          refine done b k cs v' w' ρ' (.head (step_call hoF hw ?_ c2) c4) hv c5.grows (fun c hc _ => c5.off c (f3 ▸ hc)) c5.low c5.rep c5.next
          rw [semAt_of_call hoop, execOp_call hoop]; exact c1
      · let eo : Operand → AV := fun x => if x ∈ e.o.op.operands then ev T x else .dead
        have heo : ∀ x, R ρ (eo x) (a.eval x) := fun x => by
          by_cases hx : x ∈ e.o.op.operands
          · simp only [eo, if_pos hx]; exact hop x hx
          · simp only [eo, if_neg hx]; exact .dead _
        rw [prim_congr (e' := eo) e.o fun x hx => by simp only [eo, if_pos hx]] at hev
        obtain ⟨v1, h', v', w', ρ', nx, k1, k2, k3, k4, k5, k6, k7, k8, k9⟩ := prim_sound (n := e.h0.next) hrep heo (fun _ => ⟨hfr, f3 ▸ hlt⟩) hev
        simp only [Option.some.injEq, Prod.mk.injEq] at k1
        obtain ⟨rfl, rfl⟩ := k1
        refine ⟨fun b k cs => done b k cs v' w' ρ' (.one (step_value hoF hw ?_ k4)) k8 k5.toGrows (fun c _ hc => k6 c hc) k9 ?_ (Nat.le_of_eq k2.symm)⟩
        · rw [semAt_of_prim hev]; exact k3
        · rw [← k2] at k7; exact k7
end
end Go.Ev
