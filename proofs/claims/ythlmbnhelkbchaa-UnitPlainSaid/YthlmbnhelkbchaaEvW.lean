/- Code, on the machine: a range over a function; all of it. -/
import Derived.Test.YthlmbnhelkbchaaEvV
import Derived.RangeFuncIn
namespace Go.Ev
variable {P : Program} {call : CallP} {tb : FuncId → Option FnP} {Z : Zone} {kind : CallKind} {cs₀ : List Frame}

theorem enterLoop_inner {l₀ : Nat} {w : World} {r₀ : Loop} (h : w.heap[l₀]? = some (.loop r₀)) (fn : FuncId) (tmps : Array Value) (ps : Array Tmp) (assign body : Code) :
    (Instr.enterLoop fn tmps ps assign body (some l₀)).run P w =
      .ok (w.heap.size, []) (w.alloc (.loop { state := .ready, pending := none, fn, tmps, params := ps, assign, body, defers := r₀.defers })) := by
  unfold Instr.enterLoop
  simp only [Sem.run_bind, run_getLoop h, run_newObj_alloc, Result.andThen, Sem.run_pure]

/-- What is done when the function that was ranged over has come back. -/
def rangeK {A : Type} (K : Ex → St → Option A) (l : Nat) (st : St) (d : List ADef) : Out → Heap → Md → Option A := fun out h' _ => match out with
  | .ret _ => (match h'.m l with
    | some (.loop x) => (match x.state with
      | .busy => none
      | _ => (match x.pending with
        | none => K .normal { st with h := h'.put l (.loop { x with state := .exhausted }), d := d }
        | some .ret => K .ret { st with h := h'.put l (.loop { x with state := .exhausted }), d := d }
        | some (.exit j) => K (.exit j) { st with h := h'.put l (.loop { x with state := .exhausted }), d := d }
        | _ => none))
    | _ => none)
  | .pan v => K (.pan v) { st with h := h', d := d }

theorem range_go (Hc : CallSim P (LP tb) call) (hL : Z.L = LP tb) {A : Type} {r₀ : A} {K : Ex → St → Option A} {b : Frame} {k : List Item} {cs : List Frame} {st : St} {a : Act} {f : Operand} {ps : Array Tmp} {assign body : Code} {e : FnP} {fid : FuncId}
    (he : tb fid = some e) (hc1 : codeOk e.plan assign = true) (hc2 : codeOk e.plan body = true) (hb : b.fn = fid) {g : FuncId} {first cap : List AV} {first' cap' : Array Value} (hax : a.eval f = .func (.func g) first' cap')
    {h : Heap} {d : List ADef} {r l n : Nat} {w w₁ : World} {ρ₁ : Loc} {pr : Pl} {mark : List Deferred} (hfi : RL ρ₁ first first'.toList) (hca : RL ρ₁ cap cap'.toList) (hr : Rep ρ₁ h Z w₁) (hl : ρ₁ l = none) (hlt : l < h.next) (hnl : n ≤ l) (hpr : ρ₁ r = some pr)
    (ht : RL ρ₁ st.t a.tmps.toList) (hdf : DL ρ₁ d (mark ++ a.defers)) (hcs : CSR ρ₁ kind cs₀ st.r cs)
    (hent : (Instr.enterLoop b.fn a.tmps ps assign body b.roundOf).run P w = .ok (w₁.heap.size, mark) (w₁.alloc (.loop { state := .ready, pending := none, fn := b.fn, tmps := a.tmps, params := ps, assign, body, defers := pr.blk })))
    (hh : call A (.fn g) (appA first (.yield l :: cap)) (h.put l (.loop ⟨.ready, none, fid, st.t, ps.toList, assign, body, r⟩)) .off (rangeK K l st d) = some r₀) :
    ∃ ex st' ρ' a' w' cs', K ex st' = some r₀ ∧ StR ρ' Z kind cs₀ st' a' w' cs' ∧ Went ρ₁ ρ' Z n st'.h w₁ w' ∧ Arr P ρ' (lone (b.atR a (.code (.rangeFunc f ps assign body) :: k)) cs w) b k a' cs' w' ex := by
  subst hb
  let p : Pl := ⟨w₁.heap.size, 0, 0⟩
  let ρ₂ := setLoc ρ₁ l p
  let w₂ := w₁.alloc (.loop { state := .ready, pending := none, fn := b.fn, tmps := a.tmps, params := ps, assign, body, defers := pr.blk })
  have hg : Grows ρ₁ ρ₂ := setLoc_grows hl
  have hkeep : ¬ Z.keep w₁.heap.size := fun hk => absurd (hr.old _ hk) (Nat.lt_irrefl _)
  have hrep : Rep ρ₂ (h.put l (.loop ⟨.ready, none, b.fn, st.t, ps.toList, assign, body, r⟩)) Z w₂ :=
    Rep.new hr hl hlt _ _ p rfl rfl ⟨hkeep, by rw [hL]; exact ⟨e, he, hc1, hc2⟩, _, push_get _ _, rfl, rfl, rfl, ht.grows hg, rfl, rfl, rfl, pr, hg _ _ hpr, rfl⟩
  have hpl : ρ₂ l = some p := by simp [ρ₂, setLoc]
  have hargs : RL ρ₂ (appA first (.yield l :: cap)) ((first' ++ #[Value.func (.yield w₁.heap.size) #[] #[]]) ++ cap').toList := by
    rw [appA_eq]
    have := (hfi.grows hg).append (RL.cons (R.yield (p := p) hpl) (hca.grows hg))
    simpa [List.append_assoc, p] using this
  let c : Frame := b.atR { a with defers := mark ++ a.defers } (.inRangeFunc w₁.heap.size :: k)
  obtain ⟨e1, out, h', u', ρ', w', cs', fr, k1, k2, k3, k4, k5, k6, k7⟩ := Hc.fn A _ r₀ g _ _ .off _ ρ₂ Z w₂ .normal (c :: cs) (c :: cs) hL hh hrep hargs (.inl ⟨rfl, rfl, rfl⟩)
  have hcs' : cs' = c :: cs := k4.normal.2
  subst hcs'
  have hres : (resolve a.eval (rangeCall f w₁.heap.size) 0).run P w₂ = .ok { target := .fn (.func g) cap', args := first' ++ #[Value.func (.yield w₁.heap.size) #[] #[]] } w₂ := by
    have h0 : resolve a.eval (rangeCall f w₁.heap.size) 0 = Deferred.ofValue (a.eval f) #[Value.func (.yield w₁.heap.size) #[] #[]] := by
      simp only [resolve, List.map_toArray, List.map_cons, List.map_nil]; rfl
    rw [h0, hax]; rfl
  have henter := stepR_rangeFunc (P := P) (b := b) (a := a) (k := k) (cs := cs) (w := w) (mark := mark) hent hres (e1 w₂)
  have w12 : Went ρ₁ ρ₂ Z n (h.put l (.loop ⟨.ready, none, b.fn, st.t, ps.toList, assign, body, r⟩)) w₁ w₂ :=
    ⟨hg, fun q hq => by simp only [ρ₂, setLoc]; rw [if_neg (by omega)], by show n ≤ h.next; omega, hrep, Low.push hr.old _⟩
  have wall := w12.trans k3
  have hpl' : ρ' l = some p := k3.grows _ _ hpl
  have hg2 := wall.grows
  cases out with
  | pan v =>
    obtain ⟨v', hv, hgo⟩ := k7
    have s := Steps.head henter (k2.trans (.one (step_leave_panicked (going_leaving k5 hgo))))
    exact ⟨.pan v, _, ρ', { a with defers := mark ++ a.defers }, w', cs, k1, ⟨ht.grows hg2, hdf.grows hg2, wall.rep, hcs.grows hg2⟩, wall, _, v', hv, s⟩
  | ret v =>
    obtain ⟨v', hv, hgo⟩ := k7
    have s0 := Steps.head henter (k2.trans (.one (step_leave_returned (going_leaving k5 hgo))))
    rw [finish_atR_inRangeFunc] at s0
    simp only [rangeK] at k1
    cases hm : h'.m l with
    | none => rw [hm] at k1; cases k1
    | some y =>
      rw [hm] at k1
      cases y with
      | loop x =>
        simp only at k1
        obtain ⟨q, x', g1, g2, g3, g4, g5, g6, _⟩ := loop_there wall.rep hm
        rw [hpl'] at g1; cases g1
        have hnb : x.state ≠ .busy := fun hb => by rw [hb] at k1; cases k1
        have hend := run_endLoop (P := P) g4 (by rw [g5]; exact hnb)
        obtain ⟨hw1, hw2⟩ := loop_write (x := x) wall.rep hm hpl' g4 .exhausted x'.pending (by
          have := g3
          rw [hL] at this ⊢
          exact this)
        have s1 : Steps P (lone (b.atR a (.code (.rangeFunc f ps assign body) :: k)) cs w) (lone (b.atR { a with defers := mark ++ a.defers } ((x'.pending.map Item.code).toList ++ k)) cs (w'.putObj w₁.heap.size (.loop { x' with state := .exhausted }))) :=
          s0.trans (.one (stepR_endRangeFunc hend))
        have e1 : ({ x with state := LoopState.exhausted, pending := x'.pending } : ALoop) = { x with state := .exhausted } := by rw [g6]
        rw [e1] at hw1
        have wfin : Went ρ₁ ρ' Z n (h'.put l (.loop { x with state := .exhausted })) w₁ (w'.putObj w₁.heap.size (.loop { x' with state := .exhausted })) := ⟨wall.grows, wall.off, wall.next, hw1, wall.low.trans hw2⟩
        have hS : StR ρ' Z kind cs₀ { st with h := h'.put l (.loop { x with state := .exhausted }), d := d } { a with defers := mark ++ a.defers } (w'.putObj w₁.heap.size (.loop { x' with state := .exhausted })) cs :=
          ⟨ht.grows hg2, hdf.grows hg2, wfin.rep, hcs.grows hg2⟩
        generalize w'.putObj w₁.heap.size (.loop { x' with state := .exhausted }) = w₃ at s1 hS wfin
        rw [g6] at s1
        have hk : (match x.pending with
          | none => K .normal { st with h := h'.put l (.loop { x with state := .exhausted }), d := d }
          | some .ret => K .ret { st with h := h'.put l (.loop { x with state := .exhausted }), d := d }
          | some (.exit j) => K (.exit j) { st with h := h'.put l (.loop { x with state := .exhausted }), d := d }
          | _ => none) = some r₀ := by
          cases hst : x.state with
          | busy => exact absurd hst hnb
          | _ => rw [hst] at k1; exact k1
        cases hpd : x.pending with
        | none =>
          rw [hpd] at hk s1 hS wfin
          exact ⟨.normal, _, ρ', _, _, cs, hk, hS, wfin, s1⟩
        | some j =>
          rw [hpd] at hk s1 hS wfin
          cases j with
          | ret => exact ⟨.ret, _, ρ', _, _, cs, hk, hS, wfin, k, s1⟩
          | exit id => exact ⟨.exit id, _, ρ', _, _, cs, hk, hS, wfin, k, rfl, s1⟩
          | _ => cases hk
      | _ => cases k1

theorem range_tail (ops : Array Oper) (m : Nat) : (List.range' m (ops.size - m)).map (ops[·]?) = (ops.toList.drop m).map some := by
  apply List.ext_getElem?
  intro i
  simp only [List.getElem?_map, List.getElem?_drop]
  rcases Nat.lt_or_ge i (ops.size - m) with h | h
  · rw [List.getElem?_range' h]
    have h3 : m + i < ops.size := by omega
    simp [h3]
  · have h1 : (List.range' m (ops.size - m))[i]? = none := List.getElem?_eq_none (by simp; omega)
    have h2 : ops.toList[m + i]? = none := List.getElem?_eq_none (by simp; omega)
    rw [h1, h2]; rfl
theorem stops_sched (pl : Plan) (so : Nat → Bool) : (pl.stops so).sched = pl.sched := rfl
theorem stops_kill (pl : Plan) (so : Nat → Bool) : (pl.stops so).kill = pl.kill := rfl
theorem stops_stop (pl : Plan) (so : Nat → Bool) : (pl.stops so).stop = so := rfl
theorem stops_norm (pl : Plan) (so : Nat → Bool) : (pl.stops so).norm = pl.norm := rfl
theorem code_sim (Hc : CallSim P (LP tb) call) (hT : TbOk P tb) (hL : Z.L = LP tb) {e : FnP} {fid : FuncId} (he : tb fid = some e) {b : Frame} (hbf : b.fn = fid) (hb : b.kind = kind) {rd : Option Nat} {lo : Nat → Option LoopF} {so : Nat → Bool} {A : Type} {r : A} :
    ∀ (c : Code), codeOk e.plan c = true → (rd = none → lpOk P (LP tb) fid lo c) → ∀ (K : Ex → St → Option A) (k : List Item) (ρ : Loc) (st : St) (a : Act) (w : World) (cs : List Frame), RdR ρ rd b.roundOf → StR ρ Z kind cs₀ st a w cs →
      evCode P (e.plan.stops so) call lo fid rd c st K = some r → CodeR P ρ Z kind cs₀ b k (lone (b.atR a (.code c :: k)) cs w) st.h.next w r K := by
  intro c
  induction c with
  | skip => exact fun _ _ K k ρ st a w cs hrd hS hh => ⟨.normal, st, ρ, a, w, cs, hh, hS, Went.refl hS.rep, .one stepR_skip⟩
  | label l => exact fun _ _ K k ρ st a w cs hrd hS hh => ⟨.normal, st, ρ, a, w, cs, hh, hS, Went.refl hS.rep, .one stepR_label⟩
  | exit id => exact fun _ _ K k ρ st a w cs hrd hS hh => ⟨.exit id, st, ρ, a, w, cs, hh, hS, Went.refl hS.rep, k, rfl, Steps.refl _ _⟩
  | ret => exact fun _ _ K k ρ st a w cs hrd hS hh => ⟨.ret, st, ρ, a, w, cs, hh, hS, Went.refl hS.rep, k, Steps.refl _ _⟩
  | region id ops draw =>
    intro hok hlo K k ρ st a w cs hrd hS hh
    simp only [evCode, stops_sched, stops_kill, stops_stop] at hh
    cases hso : so id with
    | true => rw [hso] at hh; cases hh
    | false =>
    rw [hso] at hh
    simp only [cond_false] at hh
    cases draw with
    | true =>
      simp only [cond_true] at hh
      simp only [codeOk, cond_true] at hok
      cases hs : e.plan.sched id with
      | none => rw [hs] at hh; cases hh
      | some s =>
        rw [hs] at hh hok
        simp only at hh hok
        obtain ⟨t, h, hrun, hh⟩ := drawOpsK_some Hc.nat _ _ _ _ hh
        · obtain ⟨a', w', ρ', s1, s2, s3, s4⟩ := draw_sim (opsF := ops) Hc hT.mixed hL hok hrun hS.rep (killT_RL _ hS.tm) b id k cs
          have hS' : StR ρ' Z kind cs₀ { st with t := t, h := h } a' w' cs := ⟨s3, by rw [s2]; exact hS.df.grows s4.grows, s4.rep, hS.cs.grows s4.grows⟩
          obtain ⟨ex, st', ρ2, a2, w2, cs2, h1, h2, h3, h4⟩ := seq_sim (k := k) Hc hL hb (ops.toList.drop s.length) (List.range' s.length (ops.size - s.length)) (range_tail ops _) ρ' _ a' w' cs (hrd.grows s4.grows) hS' hh
          have h5 := s4.trans h3
          have h6 := h4.of_steps s1
          cases ex with
          | normal => exact ⟨.normal, st', ρ2, a2, w2, cs2, h1, h2, h5, h6⟩
          | pan v => exact ⟨.pan v, st', ρ2, a2, w2, cs2, h1, h2, h5, h6⟩
          | _ => cases h1
    | false =>
      simp only [cond_false] at hh
      have hS' : StR ρ Z kind cs₀ { st with t := killT st.t (e.plan.kill id) } a w cs := ⟨killT_RL _ hS.tm, hS.df, hS.rep, hS.cs⟩
      obtain ⟨ex, st', ρ', a', w', cs', h1, h2, h3, h4⟩ := (seq_sim (k := k) Hc hL hb ops.toList (List.range ops.size) (range_ops ops) ρ _ a w cs hrd hS' hh).of_steps (.one (stepR_region (id := id)))
      cases ex with
      | normal => exact ⟨.normal, st', ρ', a', w', cs', h1, h2, h3, h4⟩
      | pan v => exact ⟨.pan v, st', ρ', a', w', cs', h1, h2, h3, h4⟩
      | _ => cases h1
  | seq x y ihx ihy =>
    intro hok hlo K k ρ st a w cs hrd hS hh
    simp only [codeOk, Bool.and_eq_true] at hok
    simp only [evCode] at hh
    obtain ⟨ex, st', ρ', a', w', cs', h1, h2, h3, h4⟩ := (ihx hok.1 (fun h => (hlo h).1) _ (.code y :: k) ρ st a w cs hrd hS hh).of_steps (.one stepR_seq)
    cases ex with
    | normal =>
      obtain ⟨ex2, st2, ρ2, a2, w2, cs2, e1, e2, e3, e4⟩ := ihy hok.2 (fun h => (hlo h).2) K k ρ' st' a' w' cs' (hrd.grows h3.grows) h2 h1
      exact ⟨ex2, st2, ρ2, a2, w2, cs2, e1, e2, h3.trans e3, e4.of_steps h4⟩
    | exit id =>
      obtain ⟨k₁, u, v⟩ := h4
      exact ⟨.exit id, st', ρ', a', w', cs', h1, h2, h3, k₁, u.trans (by simp [exitTo]), v⟩
    | ret => exact ⟨.ret, st', ρ', a', w', cs', h1, h2, h3, h4⟩
    | pan v => exact ⟨.pan v, st', ρ', a', w', cs', h1, h2, h3, h4⟩
  | cond c x y ihx ihy =>
    intro hok hlo K k ρ st a w cs hrd hS hh
    simp only [codeOk, Bool.and_eq_true] at hok
    simp only [evCode] at hh
    obtain ⟨t, ht, hk⟩ := asBool_some hh
    have hc := R.ev hS.tm c
    rw [ht] at hc
    have hc' : a.eval c = .bool t := by generalize a.eval c = z at hc; cases hc; rfl
    cases t with
    | true => exact (ihx hok.1 (fun h => (hlo h).1) K k ρ st a w cs hrd hS hk).of_steps (.one (stepR_cond hc'))
    | false => exact (ihy hok.2 (fun h => (hlo h).2) K k ρ st a w cs hrd hS hk).of_steps (.one (stepR_cond hc'))
  | block id x ih =>
    intro hok hlo K k ρ st a w cs hrd hS hh
    simp only [evCode] at hh
    obtain ⟨ex, st', ρ', a', w', cs', h1, h2, h3, h4⟩ := (ih hok hlo _ (.inBlock id :: k) ρ st a w cs hrd hS hh).of_steps (.one stepR_block)
    cases ex with
    | normal => exact ⟨.normal, st', ρ', a', w', cs', h1, h2, h3, Steps.trans h4 (.one stepR_inBlock)⟩
    | exit j =>
      obtain ⟨k₁, u, v⟩ := h4
      simp only at h1
      cases hj : Nat.beq j id with
      | true =>
        rw [hj] at h1
        have := Nat.eq_of_beq_eq_true hj
        subst this
        exact ⟨.normal, st', ρ', a', w', cs', h1, h2, h3, v.trans (.one (stepR_exit (by rw [u]; simp [exitTo])))⟩
      | false =>
        rw [hj] at h1
        have hne : (id == j) = false := by
          cases hx : id == j with
          | false => rfl
          | true => have := eq_of_beq hx; subst this; simp at hj
        exact ⟨.exit j, st', ρ', a', w', cs', h1, h2, h3, k₁, u.trans (by simp [exitTo, hne]), v⟩
    | ret => exact ⟨.ret, st', ρ', a', w', cs', h1, h2, h3, h4⟩
    | pan v => exact ⟨.pan v, st', ρ', a', w', cs', h1, h2, h3, h4⟩
  | loop x ih =>
    intro hok hlo K k ρ st a w cs hrd hS hh
    simp only [evCode] at hh
    have main : (match (headId x).bind (e.plan.stops so).norm with
        | none => loopN (fun st K => evCode P (e.plan.stops so) call lo fid rd x st K) rounds st K
        | some N => normK P N st.h.next st fun s => loopN (loopK P N st.h.next (fun st K => evCode P (e.plan.stops so) call lo fid rd x st K)) rounds s K) = some r ∨
        ∃ g, rd = none ∧ (headId x).bind lo = some g ∧ g A st K = some r := by
      cases rd with
      | some l => exact .inl hh
      | none =>
        cases hg : (headId x).bind lo with
        | none => rw [hg] at hh; exact .inl hh
        | some g => rw [hg] at hh; exact .inr ⟨g, rfl, rfl, hh⟩
    clear hh
    have ih := fun hok => ih hok (fun h => (hlo h).2)
    rcases main with hh | ⟨g, hrd0, hg, hh⟩
    rotate_left
    · obtain ⟨id, h1, h2⟩ := Option.bind_eq_some_iff.1 hg
      have hro : b.roundOf = none := by
        rw [hrd0] at hrd
        cases hx : b.roundOf with
        | none => rfl
        | some q => rw [hx] at hrd; exact hrd.elim
      exact (hlo hrd0).1 id g h1 h2 A r K Z kind cs₀ b k ρ st a w cs hL hb hbf hro hS hh
    cases hN : (headId x).bind (e.plan.stops so).norm with
    | none =>
      rw [hN] at hh
      exact (loop_sim (b := b) (c := x) (k := k) (rd := rd) (fun K k ρ st a w cs hrd hS hh => ih hok K k ρ st a w cs hrd hS hh) K rounds ρ st a w cs hrd hS hh).of_steps (.one stepR_loop)
    | some N =>
      rw [hN] at hh
      simp only at hh
      obtain ⟨e1, e2, h1⟩ := normK_some hh
      have hLf : LFree Z.L := by rw [hL]; exact LP_free tb
      obtain ⟨ρ2, f1, f2, f3, f4⟩ := normR (P := P) (N := N) (n0 := st.h.next) hLf hS e1 e2
      exact (loop_simN (b := b) (c := x) (k := k) (rd := rd) hLf (fun q hq => hS.rep.fresh q hq) (fun K k ρ st a w cs hrd hS hh => ih hok K k ρ st a w cs hrd hS hh) hrd K rounds ρ2 _ a w cs f2 f3 f4 f1 h1).of_steps (.one stepR_loop)
  | rangeFunc f ps assign body _ _ =>
    intro hok hlo K k ρ st a w cs hrd hS hh
    simp only [codeOk, Bool.and_eq_true] at hok
    simp only [evCode] at hh
    have key : ∀ {l : Nat} {hp : Heap} {d : List ADef}, (match ev st.t f with
        | .fn g first cap => call A (.fn g) (appA first (.yield l :: cap)) hp .off (rangeK K l st d)
        | _ => none) = some r → ∃ g first cap first' cap', a.eval f = .func (.func g) first' cap' ∧ RL ρ first first'.toList ∧ RL ρ cap cap'.toList ∧ call A (.fn g) (appA first (.yield l :: cap)) hp .off (rangeK K l st d) = some r := fun {l hp d} hm => by
      have hf := R.ev hS.tm f
      cases hev : ev st.t f with
      | fn g first cap =>
        rw [hev] at hm hf
        generalize a.eval f = y at hf
        cases hf with
        | fn _ h1 h2 h3 h4 => exact ⟨g, first, cap, _, _, rfl, ⟨by simpa using h1, fun i v v' a b => h2 i v v' a (by simpa using b)⟩, ⟨by simpa using h3, fun i v v' a b => h4 i v v' a (by simpa using b)⟩, hm⟩
      | _ => rw [hev] at hm; cases hm
    cases rd with
    | none =>
      have hrn : b.roundOf = none := by
        cases hx : b.roundOf with
        | none => rfl
        | some q => rw [hx] at hrd; exact hrd.elim
      obtain ⟨g, first, cap, first', cap', hax, hfi, hca, hcl⟩ := key (l := st.h.next + 1) (hp := _) (d := _) hh
      have hfr0 := hS.rep.fresh st.h.next (Nat.le_refl _)
      let p0 : Pl := ⟨w.heap.size, 0, 0⟩
      have hg : Grows ρ (setLoc ρ st.h.next p0) := setLoc_grows hfr0
      have hrep : Rep (setLoc ρ st.h.next p0) ((st.h.put st.h.next (.dfr true)).bump.bump) Z (w.alloc (.deferred (some []))) := by
        have h1 : Rep ρ ⟨st.h.m, st.h.next + 1 + 1⟩ Z w := hS.rep.next (by omega)
        exact Rep.new h1 hfr0 (by show st.h.next < st.h.next + 1 + 1; omega) (.deferred (some [])) (.dfr true) p0 rfl rfl ⟨fun hk => absurd (hS.rep.old _ hk) (Nat.lt_irrefl _), push_get _ _⟩
      obtain ⟨ex, st', ρ', a', w', cs', r1, r2, r3, r4⟩ := range_go (k := k) (b := b) (cs := cs) (f := f) (n := st.h.next) (w := w) (pr := p0) (mark := [{ target := .collected w.heap.size, args := #[] }]) Hc hL he hok.1 hok.2 hbf hax (hfi.grows hg) (hca.grows hg) hrep
        (by simp only [setLoc]; rw [if_neg (by omega)]; exact hS.rep.fresh _ (by omega)) (by show st.h.next + 1 < st.h.next + 1 + 1; omega) (by omega) (by simp [setLoc]) (hS.tm.grows hg) (.cons (.mark (p := p0) (by simp [setLoc])) (hS.df.grows hg)) (hS.cs.grows hg)
        (by rw [hrn, run_enterLoop_outer]; simp [p0, World.size_alloc]) hcl
      exact ⟨ex, st', ρ', a', w', cs', r1, r2, ⟨hg.trans r3.grows, fun q hq => (r3.off q hq).trans (by simp only [setLoc]; rw [if_neg (by omega)]), r3.next, r3.rep, (Low.push hS.rep.old _).trans r3.low⟩, r4⟩
    | some l₀ =>
      simp only at hh
      cases hm : st.h.m l₀ with
      | none => rw [hm] at hh; cases hh
      | some y =>
        rw [hm] at hh
        cases y with
        | loop x =>
          simp only at hh
          obtain ⟨g, first, cap, first', cap', hax, hfi, hca, hcl⟩ := key (l := st.h.next) (hp := _) (d := _) hh
          obtain ⟨q, x', g1, g2, g3, g4, g5, g6, g7, g8, g9, g10, g11, p2, g12, g13⟩ := loop_there hS.rep hm
          have hro : b.roundOf = some q.blk := by
            cases hx : b.roundOf with
            | none => rw [hx] at hrd; exact hrd.elim
            | some z => rw [hx] at hrd; obtain ⟨p, u, v⟩ := hrd; rw [g1] at u; cases u; rw [v]
          have hrep : Rep ρ st.h.bump Z w := hS.rep.next (Nat.le_succ _)
          obtain ⟨ex, st', ρ', a', w', cs', r1, r2, r3, r4⟩ := range_go (k := k) (b := b) (cs := cs) (f := f) (n := st.h.next) (w := w) (w₁ := w) (pr := p2) (mark := []) Hc hL he hok.1 hok.2 hbf hax hfi hca hrep
            (hS.rep.fresh _ (Nat.le_refl _)) (Nat.lt_succ_self _) (Nat.le_refl _) g12 hS.tm hS.df hS.cs
            (by rw [hro, enterLoop_inner g4, g13]) hcl
          exact ⟨ex, st', ρ', a', w', cs', r1, r2, r3, r4⟩
        | _ => cases hh
  | _ =>
    intro _ _ K k ρ st a w cs hrd hS hh
    simp [evCode] at hh
end Go.Ev
