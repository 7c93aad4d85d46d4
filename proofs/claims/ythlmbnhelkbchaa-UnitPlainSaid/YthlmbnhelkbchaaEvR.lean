/- A region whose order is drawn, second part: whatever the order, it comes to what the evaluator says. -/
import Derived.Test.YthlmbnhelkbchaaEvQ
namespace Go.Ev
variable {P : Program} {ops : Array Oper} {base : Nat} {call : CallP} {T : List AV} {L : ALoop → Prop}

theorem putT_tm {ρ ρ' : Loc} {tm : List Value} {X : Nat → Prop} {e : Ent} {v' : Value} (hok : EntOk P ops base call T e) (hg : Grows ρ ρ') (hlen : T.length = tm.length)
    (htm : ∀ x, (∀ j, dstOf ops j = some x → X j) → R ρ (nth T x) (tm.getD x undef)) (hv : ∀ d, e.o.dst = some d → R ρ' (nth T d) v') {tm' : List Value}
    (ht' : tm' = match e.o.dst with | some d => tm.set d v' | none => tm) :
    T.length = tm'.length ∧ ∀ x, (∀ j, dstOf ops j = some x → X j ∨ j = e.i) → R ρ' (nth T x) (tm'.getD x undef) := by
  have hde : dstOf ops e.i = e.o.dst := by unfold dstOf; rw [hok.op]; rfl
  refine ⟨by rw [ht']; split <;> simp [hlen], fun x hx => ?_⟩
  by_cases hxd : e.o.dst = some x
  · rw [hxd] at ht'
    simp only at ht'
    subst ht'
    rcases Nat.lt_or_ge x tm.length with h | h
    · have : (tm.set x v').getD x undef = v' := by simp [List.getD, h]
      rw [this]; exact hv x hxd
    · have : nth T x = .dead := by simp [nth_eq, List.getD, hlen, h]
      rw [this]; exact .dead _
  · have h1 : R ρ (nth T x) (tm.getD x undef) := htm x fun j hj => (hx j hj).resolve_right fun eq => by subst eq; rw [hde] at hj; exact hxd hj
    have h2 : tm'.getD x undef = tm.getD x undef := by
      rw [ht']
      cases hd : e.o.dst with
      | none => rfl
      | some d =>
        have : d ≠ x := fun eq => hxd (by rw [hd, eq])
        simp [List.getD, this]
    rw [h2]; exact h1.grows hg

/-- How one more operation is done. -/
structure Moves (P : Program) (ops opsF : Array Oper) (base : Nat) (T : List AV) (es : List Ent) (hE : Heap) (X : Nat → Prop) (j : Nat) (ρ : Loc) (Z : Zone) (w : World) (a : Act) (rest : List Nat) (n : Nat) : Prop where
  out : ∀ (b : Frame) (k : List Item) (cs : List Frame), ∃ a' w' ρ' A' B' hA' H', Steps P (lone (b.atR a (.inRegion opsF (j :: rest) :: k)) cs w) (lone (b.atR a' (.inRegion opsF rest :: k)) cs w') ∧
    a'.defers = a.defers ∧ DInv P ops base T es A' B' hA' hE (fun i => X i ∨ i = j) H' ρ' Z w' a'.tmps.toList ∧ Grows ρ ρ' ∧ (∀ c, c < base → ρ' c = ρ c) ∧ Low Z w w' ∧ n ≤ hA'.next

theorem put_list (a : Act) (dst : Option Tmp) (v : Value) : (a.put dst v).tmps.toList = match dst with | some d => a.tmps.toList.set d v | none => a.tmps.toList := by
  cases dst <;> simp [Act.put]

section
variable {es A B : List Ent} {hA hE : Heap} {X : Nat → Prop} {H : Nat → Option Blk} {ρ : Loc} {Z : Zone} {w : World} {a : Act}

theorem look_R (D : DInv P ops base T es A B hA hE X H ρ Z w a.tmps.toList) (hclo : ∀ j o, X j → ops[j]? = some o → ∀ d ∈ deps o, X d) {e : Ent} (hok : EntOk P ops base call T e) (hdep : ∀ d ∈ deps e.o, X d) :
    ∀ x ∈ e.o.looksAt ops, R ρ (nth T x) (a.tmps.toList.getD x undef) := fun x hx => D.tm x fun j hj => by
  have hb := hok.look x hx j hj
  have key : ∀ (p q : Nat), Before ops p q → q = e.i → X p := by
    intro p q hb
    induction hb with
    | one ho hd => intro eq; subst eq; rw [hok.op] at ho; cases ho; exact hdep _ hd
    | trans h1 h2 ih1 ih2 => intro eq; exact before_closed h1 hclo (ih2 eq)
  exact key _ _ hb rfl
theorem hv_of {ρ : Loc} {e : Ent} {v' : Value} (hok : EntOk P ops base call T e) (hv : R ρ e.v v') : ∀ d, e.o.dst = some d → R ρ (nth T d) v' := fun d hd => by
  rcases hok.val d hd with h | h
  · rw [h]; exact hv
  · rw [h]; exact .dead _
/-- Nothing of the heap is touched; blocks may come to it that nobody knows. -/
theorem DInv.keep (D : DInv P ops base T es A B hA hE X H ρ Z w a.tmps.toList) (hpw : es.Pairwise (fun a b => a.i ≠ b.i)) {e : Ent} (hm : e ∈ es) (hok : EntOk P ops base call T e) (hc : e.done = false ∨ (e.c ≠ .w ∧ (e.c = .a → ∀ x, Made P base T e x → False)))
    {w' : World} {v' : Value} (hl : Low (Z.read w) w w') (hv : ∀ d, e.o.dst = some d → R ρ (nth T d) v') :
    DInv P ops base T es A B hA hE (fun i => X i ∨ i = e.i) H ρ Z w' (a.put e.o.dst v').tmps.toList := by
  have hes : ∀ e' ∈ B, e' ∈ es := fun e' he' => by rw [D.eq]; exact List.mem_append_right _ he'
  obtain ⟨t1, t2⟩ := putT_tm (X := X) hok (Grows.refl ρ) D.len D.tm hv (put_list a e.o.dst v')
  refine ⟨D.eq, D.chain, fun e' he' hcw hd hx => ?_, ?_, D.rep.more (GrowsS.refl ρ) hl fun c hc' => D.rep.fresh c hc', D.le, fun e' he' hca hd hx x hx1 hx2 => ?_, D.no, fun e' he' hx => D.fr e' he' fun h => hx (.inl h), D.fr', D.wr, D.lt, t1, t2⟩
  · rcases hx with hx | hx
    · exact D.bw e' he' hcw hd hx
    · have := pair_unique hpw (hes e' he') hm hx
      subst this
      rcases hc with hc | ⟨hc, _⟩
      · rw [hc] at hd; cases hd
      · exact hc hcw
  · rcases D.aw with h | ⟨A', e', h1, h2, h3, h4, h5⟩
    · exact .inl h
    · exact .inr ⟨A', e', h1, h2, h3, .inl h4, h5⟩
  · rcases hx with hx | hx
    · exact D.ext e' he' hca hd hx x hx1 hx2
    · have := pair_unique hpw (hes e' he') hm hx
      subst this
      rcases hc with hc | ⟨_, hc⟩
      · rw [hc] at hd; cases hd
      · exact (hc hca x hx1).elim
/-- A block comes to it. -/
theorem DInv.joins (D : DInv P ops base T es A B hA hE X H ρ Z w a.tmps.toList) (hpw : es.Pairwise (fun a b => a.i ≠ b.i)) {e : Ent} (hm : e ∈ es) (hx : ¬ X e.i) (hok : EntOk P ops base call T e) (hca : e.c = .a) {y : Blk} (hy : y.writes = true) (h1 : Made P base T e y)
    {ρ' : Loc} {w' : World} {v' : Value} {h₁ : Heap} (hg : GrowsS ρ ρ') (hoff : ∀ c, c ≠ base + e.i → ρ' c = ρ c) (hl : Low (Z.read w) w w') (hr' : Rep ρ' ⟨h₁.m, hA.next⟩ (Z.read w) w') (hy1 : h₁.m (base + e.i) = some y) (hv : ∀ d, e.o.dst = some d → R ρ' (nth T d) v') :
    DInv P ops base T es A B hA hE (fun i => X i ∨ i = e.i) (upd H (base + e.i) (some y)) ρ' Z w' (a.put e.o.dst v').tmps.toList := by
  have hes : ∀ e' ∈ B, e' ∈ es := fun e' he' => by rw [D.eq]; exact List.mem_append_right _ he'
  obtain ⟨t1, t2⟩ := putT_tm (X := X) hok hg.toGrows D.len D.tm hv (put_list a e.o.dst v')
  have hfr := D.fr e hm hx
  have hnone : H (base + e.i) = none := by
    cases hc : H (base + e.i) with
    | none => rfl
    | some z => obtain ⟨p, a, _⟩ := D.rep.blk _ z hc; rw [hfr] at a; cases a
  have hne : ∀ e' ∈ es, e'.i ≠ e.i → base + e'.i ≠ base + e.i := fun e' _ h => by omega
  have hrep : Rep ρ' ⟨upd H (base + e.i) (some y), hA.next⟩ Z w' := Rep.joins (h := ⟨H, hA.next⟩) D.rep hg hl hr' hy1 hy hfr
  refine ⟨D.eq, D.chain, fun e' he' hcw hd hx' => ?_, ?_, hrep, fun b x hb => ?_, fun e' he' hca' hd hx' x hx1 hx2 => ?_, D.no, fun e' he' hx' => ?_, fun e' he' hH => ?_, fun e' he' z hz => ?_, D.lt, t1, t2⟩
  · rcases hx' with hx' | hx'
    · exact D.bw e' he' hcw hd hx'
    · have := pair_unique hpw (hes e' he') hm hx'
      subst this
      rw [hca] at hcw; cases hcw
  · rcases D.aw with h | ⟨A', e', h1, h2, h3, h4, h5⟩
    · exact .inl h
    · exact .inr ⟨A', e', h1, h2, h3, .inl h4, h5⟩
  · have h2 := D.le b x hb
    rw [upd_apply, if_neg (fun eq => by rw [eq, hnone] at h2; cases h2)]; exact h2
  · by_cases heq : e'.i = e.i
    · have := pair_unique hpw (hes e' he') hm heq
      subst this
      unfold Made at h1 hx1
      rw [h1] at hx1
      simp only [Option.some.injEq, Prod.mk.injEq, true_and] at hx1
      rw [upd_apply, if_pos rfl, hx1]
    · rw [upd_apply, if_neg (hne e' (hes e' he') heq)]
      exact D.ext e' he' hca' hd (hx'.resolve_right heq) x hx1 hx2
  · have h1 : ¬ X e'.i := fun h => hx' (.inl h)
    have h2 : e'.i ≠ e.i := fun h => hx' (.inr h)
    rw [hoff _ (hne e' he' h2)]; exact D.fr e' he' h1
  · by_cases heq : e'.i = e.i
    · rw [heq, upd_apply, if_pos rfl] at hH; cases hH
    · rw [upd_apply, if_neg (hne e' (hes e' he') heq)] at hH
      rw [hoff _ (hne e' (hes e' he') heq)]; exact D.fr' e' he' hH
  · by_cases heq : e'.i = e.i
    · rw [heq, upd_apply, if_pos rfl] at hz; cases hz; exact hy
    · rw [upd_apply, if_neg (hne e' (hes e' he') heq)] at hz; exact D.wr e' he' z hz
/-- A writer has been carried out. -/
theorem DInv.writes (D : DInv P ops base T es A B hA hE X H ρ Z w a.tmps.toList) (hpw : es.Pairwise (fun a b => a.i ≠ b.i)) {e : Ent} {B₁ post : List Ent} (hB : B = B₁ ++ e :: post) (hok : EntOk P ops base call T e) (hc : e.c = .w) (hd : e.done = true)
    (hchain : Chain e.h1 post hE) (hle : Heap.le e.h0.m H) (hnext : e.h0.next = hA.next) (hm0 : ∀ b, (∀ q ∈ B₁, b ≠ base + q.i) → e.h0.m b = hA.m b)
    {ρ' : Loc} {w' : World} {v' : Value} (hg : Grows ρ ρ') (hoff : ∀ e' ∈ es, e'.i ≠ e.i → ρ' (base + e'.i) = ρ (base + e'.i)) (hl : Low (Z.frame ρ e.h0.m w) w w') (hr' : Rep ρ' e.h1 (Z.frame ρ e.h0.m w) w') (hn' : e.h0.next ≤ e.h1.next) (hv : ∀ d, e.o.dst = some d → R ρ' (nth T d) v') :
    ∃ H', DInv P ops base T es (A ++ B₁ ++ [e]) post e.h1 hE (fun i => X i ∨ i = e.i) H' ρ' Z w' (a.put e.o.dst v').tmps.toList := by
  classical
  have hes : ∀ e' ∈ B, e' ∈ es := fun e' he' => by rw [D.eq]; exact List.mem_append_right _ he'
  have hpB : ∀ q ∈ post, q ∈ B := fun q hq => by rw [hB]; exact List.mem_append_right _ (List.mem_cons_of_mem _ hq)
  have heB : e ∈ B := by rw [hB]; simp
  have hpwB : B.Pairwise (fun a b => a.i ≠ b.i) := by rw [D.eq] at hpw; exact (List.pairwise_append.1 hpw).2.1
  have hpe : ∀ q ∈ post, q.i ≠ e.i := fun q hq h => by
    rw [hB] at hpwB
    have := (List.pairwise_append.1 hpwB).2.1
    rw [List.pairwise_cons] at this
    exact this.1 q hq h.symm
  have hp1 : ∀ q ∈ post, ∀ q' ∈ B₁, q.i ≠ q'.i := fun q hq q' hq' h => by
    rw [hB] at hpwB
    exact (List.pairwise_append.1 hpwB).2.2 q' hq' q (List.mem_cons_of_mem _ hq) h.symm
  obtain ⟨t1, t2⟩ := putT_tm (X := X) hok hg D.len D.tm hv (put_list a e.o.dst v')
  -- a block that has come early is not touched
  have early : ∀ q ∈ post, ∀ y, H (base + q.i) = some y → ∃ p, ρ (base + q.i) = some p ∧ RB ρ Z w p y ∧ (Z.frame ρ e.h0.m w).keep p.blk ∧ ¬ Z.keep p.blk := fun q hq y hy => by
    obtain ⟨p, h1, h2⟩ := D.rep.blk _ y hy
    have hw := D.wr q (hpB q hq) y hy
    refine ⟨p, h1, h2, .inr (.inl ⟨h2.size, fun b x p' hb hbw hp' heq => ?_⟩), h2.low hw⟩
    by_cases hbq : b = base + q.i
    · rw [hbq, hm0 _ (fun q' hq' => by have := hp1 q hq q' hq'; omega), D.no q (hpB q hq)] at hb; cases hb
    · exact D.rep.inj b (base + q.i) x y p' p (hle b x hb) hy hbq hbw hp' h1 heq
  have hno : ∀ q ∈ post, e.h1.m (base + q.i) = none := fun q hq => by
    cases hx1 : e.h1.m (base + q.i) with
    | none => rfl
    | some x =>
      obtain ⟨p, h1, h2⟩ := hr'.blk _ x hx1
      cases hH : H (base + q.i) with
      | none =>
        rw [hoff q (hes q (hpB q hq)) (hpe q hq), D.fr' q (hpB q hq) hH] at h1; cases h1
      | some y =>
        obtain ⟨p', a1, a2, a3, a4⟩ := early q hq y hH
        rw [hg _ _ a1] at h1; cases h1
        cases hw : x.writes with
        | true => exact absurd a3 (h2.low hw)
        | false =>
          have : Z.ro p.blk := by
            cases x with
            | cells wr vs => obtain ⟨c, e, fz, g1, g2, g3, g4, g5, g6⟩ := h2; exact g6 hw
            | _ => cases hw
          exact absurd (Z.sub _ this) a4
  let H' : Nat → Option Blk := fun c => match e.h1.m c with
    | some x => some x
    | none => if ∃ q ∈ post, c = base + q.i then H c else none
  have hH'q : ∀ q ∈ post, H' (base + q.i) = H (base + q.i) := fun q hq => by
    simp only [H', hno q hq]; rw [if_pos ⟨q, hq, rfl⟩]
  have hcases : ∀ c x, H' c = some x → e.h1.m c = some x ∨ ∃ q ∈ post, c = base + q.i ∧ H c = some x := fun c x hc' => by
    simp only [H'] at hc'
    cases h : e.h1.m c with
    | some y => rw [h] at hc'; exact .inl hc'
    | none =>
      rw [h] at hc'
      simp only at hc'
      split at hc'
      · rename_i hex; obtain ⟨q, h1, h2⟩ := hex; exact .inr ⟨q, h1, h2, hc'⟩
      · cases hc'
  have hmix : ∀ q ∈ post, ∀ y p b x p', H (base + q.i) = some y → ρ' (base + q.i) = some p → e.h1.m b = some x → ρ' b = some p' → p'.blk ≠ p.blk := fun q hq y p b x p' hy hp hb hp' heq => by
    obtain ⟨p1, a1, a2, a3, a4⟩ := early q hq y hy
    rw [hg _ _ a1] at hp; cases hp
    obtain ⟨p2, b1, b2⟩ := hr'.blk b x hb
    rw [hp'] at b1; cases b1
    cases hw : x.writes with
    | true => exact b2.low hw (heq ▸ a3)
    | false =>
      have : Z.ro p'.blk := by
        cases x with
        | cells wr vs => obtain ⟨c, e, fz, g1, g2, g3, g4, g5, g6⟩ := b2; exact g6 hw
        | _ => cases hw
      exact a4 (heq ▸ Z.sub _ this)
  have hle1 : hA.next ≤ e.h1.next := hnext ▸ hn'
  refine ⟨H', ⟨by rw [D.eq, hB]; simp, hchain, fun q hq hcw hqd hx' => ?_, .inr ⟨A ++ B₁, e, rfl, hc, hd, .inr rfl, rfl⟩, ⟨fun c x hcx => ?_, fun c c' x x' p p' hcx hcx' hne hxw hp hp' => ?_, fun q hq => Nat.lt_of_lt_of_le (D.rep.old q hq) hl.size, fun c hc' => hr'.fresh c hc', fun b o cs hf => ?_⟩,
    fun b x hb => ?_, fun q hq hca hqd hx' x hx1 hx2 => ?_, hno, fun q hq hx' => ?_, fun q hq hH => ?_, fun q hq z hz => ?_, fun q hq => Nat.lt_of_lt_of_le (D.lt q hq) hle1, t1, t2⟩⟩
  · rcases hx' with hx' | hx'
    · exact D.bw q (hpB q hq) hcw hqd hx'
    · exact hpe q hq hx'
  · rcases hcases c x hcx with h | ⟨q, hq, rfl, h⟩
    · obtain ⟨p, h1, h2⟩ := hr'.blk c x h
      exact ⟨p, h1, h2.unframe⟩
    · obtain ⟨p, a1, a2, a3, _⟩ := early q hq x h
      exact ⟨p, hg _ _ a1, a2.keep hg (hl.block _ a3)⟩
  · rcases hcases c x hcx with h | ⟨q, hq, rfl, h⟩ <;> rcases hcases c' x' hcx' with h' | ⟨q', hq', rfl, h'⟩
    · exact hr'.inj c c' x x' p p' h h' hne hxw hp hp'
    · exact hmix q' hq' x' p' c x p h' hp' h hp
    · exact fun eq => hmix q hq x p c' x' p' h hp h' hp' eq.symm
    · obtain ⟨p1, a1, _⟩ := early q hq x h
      obtain ⟨p2, b1, _⟩ := early q' hq' x' h'
      rw [hg _ _ a1] at hp; cases hp
      rw [hg _ _ b1] at hp'; cases hp'
      exact D.rep.inj _ _ x x' p p' h h' hne hxw a1 b1
  · obtain ⟨f1, f2, f3, f4⟩ := hr'.frz b o cs hf
    refine ⟨f1, fun c x p hcx hxw hp => ?_, fun hk => ?_, f4⟩
    · rcases hcases c x hcx with h | ⟨q, hq, rfl, h⟩
      · exact f2 c x p h hxw hp
      · obtain ⟨p1, a1, a2, a3, a4⟩ := early q hq x h
        rw [hg _ _ a1] at hp; cases hp
        intro heq
        rcases f3 (heq ▸ a3) with h3 | h3 | ⟨o', cs', h3⟩
        · exact a4 (heq ▸ Z.sub _ h3)
        · exact a4 (heq ▸ Z.fsub _ h3)
        · exact (D.rep.frz b o' cs' h3).2.1 _ x _ h hxw a1 heq
    · rcases f3 (.inl hk) with h | h | ⟨o', cs', h⟩
      · exact .inl h
      · exact .inr h
      · exact (D.rep.frz b o' cs' h).2.2.1 hk
  · simp only [H', hb]
  · rw [hH'q q hq]
    exact D.ext q (hpB q hq) hca hqd (hx'.resolve_right (hpe q hq)) x hx1 hx2
  · have h1 : ¬ X q.i := fun h => hx' (.inl h)
    have h2 : q.i ≠ e.i := fun h => hx' (.inr h)
    rw [hoff q hq h2]; exact D.fr q hq h1
  · rw [hH'q q hq] at hH
    rw [hoff q (hes q (hpB q hq)) (hpe q hq)]; exact D.fr' q (hpB q hq) hH
  · rw [hH'q q hq] at hz; exact D.wr q (hpB q hq) z hz
end
end Go.Ev
