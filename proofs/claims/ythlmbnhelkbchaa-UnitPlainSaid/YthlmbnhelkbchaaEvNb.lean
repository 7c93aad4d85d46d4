/- What code and calls answer does not hang on what is done with it; regions whose order is drawn, with what follows told ahead. -/
import Derived.Test.YthlmbnhelkbchaaEvNa
namespace Go.Ev
abbrev NatC (call : CallP) : Prop := ∀ (A B : Type) (c : Cal) (args : List AV) (h : Heap) (m : Md) (K : Out → Heap → Md → Option A) (K' : Out → Heap → Md → Option B) (u : B → Option A),
  (∀ o h m, K o h m = (K' o h m).bind u) → call A c args h m K = (call B c args h m K').bind u
abbrev NatF (g : CallF) : Prop := ∀ (A B : Type) (args : List AV) (h : Heap) (m : Md) (K : Out → Heap → Md → Option A) (K' : Out → Heap → Md → Option B) (u : B → Option A),
  (∀ o h m, K o h m = (K' o h m).bind u) → g A args h m K = (g B args h m K').bind u
abbrev NatL (g : LoopF) : Prop := ∀ (A B : Type) (st : St) (K : Ex → St → Option A) (K' : Ex → St → Option B) (u : B → Option A),
  (∀ e s, K e s = (K' e s).bind u) → g A st K = (g B st K').bind u
variable {A B : Type} {P : Program} {call : CallP} {u : B → Option A}
theorem calleeK_b (H : NatC call) {f : AV} {args : List AV} {h : Heap} {K : Out → Heap → Md → Option A} {K' : Out → Heap → Md → Option B} (hk : ∀ o h m, K o h m = (K' o h m).bind u) :
    calleeK (call A) f args h K = (calleeK (call B) f args h K').bind u := by
  unfold calleeK; split <;> first | rfl | exact H _ _ _ _ _ _ _ _ _ hk
theorem addK_b {args : List AV} {K : AV → Option A} {K' : AV → Option B} (hk : ∀ v, K v = (K' v).bind u) : addK args K = (addK args K').bind u := by
  unfold addK; split <;> first | rfl | exact guardK_b (hk _)
theorem stepOp_b (H : NatC call) {rd : Option Nat} {o : Oper} {st : St} {K Kp : AV → St → Option A} {K' Kp' : AV → St → Option B} (hk : ∀ v s, K v s = (K' v s).bind u) (hp : ∀ v s, Kp v s = (Kp' v s).bind u) :
    stepOp P (call A) rd o st K Kp = (stepOp P (call B) rd o st K' Kp').bind u := by
  unfold stepOp
  split
  · cases isAdd P _ with
    | true => simp only [cond_true]; exact addK_b fun _ => hk _ _
    | false =>
      simp only [cond_false]
      refine calleeK_b H fun o h m => ?_
      cases o <;> first | exact hk _ _ | exact hp _ _
  · split <;> first | rfl | exact hk _ _
  · split <;> first | rfl | exact hp _ _
  · split <;> first | rfl | exact hk _ _
  · exact prim_b fun _ _ => hk _ _
theorem guarded_b {ops : Array Oper} {o : Oper} {t : List AV} {Y N : List AV → Option A} {Y' N' : List AV → Option B} (hy : ∀ t, Y t = (Y' t).bind u) (hn : ∀ t, N t = (N' t).bind u) : guarded ops o t Y N = (guarded ops o t Y' N').bind u := by
  unfold guarded
  split
  · exact hy _
  · rename_i j want _
    split
    · rfl
    · split
      · rfl
      · split
        · rename_i b _
          cases b <;> cases want <;> simp only [cond_true, cond_false] <;> first | exact hy _ | exact hn _
        · exact hn _
        · rfl
theorem seqOps_b (H : NatC call) {rd : Option Nat} {ops : Array Oper} {K : St → Option A} {K' : St → Option B} {Kp : AV → St → Option A} {Kp' : AV → St → Option B} (hk : ∀ s, K s = (K' s).bind u) (hp : ∀ v s, Kp v s = (Kp' v s).bind u) :
    ∀ (l : List Oper) (st : St), seqOps P (call A) rd ops l st K Kp = (seqOps P (call B) rd ops l st K' Kp').bind u
  | [], st => hk _
  | o :: rest, st => by
    simp only [seqOps]
    exact guarded_b (fun t => stepOp_b H (fun v s => seqOps_b H hk hp rest _) hp) (fun t => seqOps_b H hk hp rest _)
theorem loopN_b {body : St → (Ex → St → Option A) → Option A} {body' : St → (Ex → St → Option B) → Option B} (hb : ∀ st K K', (∀ e s, K e s = (K' e s).bind u) → body st K = (body' st K').bind u) {K : Ex → St → Option A} {K' : Ex → St → Option B} (hk : ∀ e s, K e s = (K' e s).bind u) :
    ∀ (n : Nat) (st : St), loopN body n st K = (loopN body' n st K').bind u
  | 0, st => rfl
  | n + 1, st => by
    simp only [loopN]
    refine hb _ _ _ fun e s => ?_
    cases e with
    | normal => exact loopN_b hb hk n s
    | _ => exact hk _ _
theorem normK_b {N : Norm} {n0 : Nat} {st : St} {K : St → Option A} {K' : St → Option B} (hk : ∀ s, K s = (K' s).bind u) : normK P N n0 st K = (normK P N n0 st K').bind u := by
  unfold normK; split <;> first | rfl | exact guardK_b (hk _)
theorem loopK_b {N : Norm} {n0 : Nat} {body : St → (Ex → St → Option A) → Option A} {body' : St → (Ex → St → Option B) → Option B} (hb : ∀ st K K', (∀ e s, K e s = (K' e s).bind u) → body st K = (body' st K').bind u) (st : St) {K : Ex → St → Option A} {K' : Ex → St → Option B} (hk : ∀ e s, K e s = (K' e s).bind u) :
    loopK P N n0 body st K = (loopK P N n0 body' st K').bind u := by
  unfold loopK
  refine hb _ _ _ fun e s => ?_
  cases e <;> first | exact hk _ _ | exact normK_b fun _ => hk _ _
theorem drawOneK_b (H : NatC call) {c : Cls} {o : Oper} {t : List AV} {h : Heap} {id : Nat} {K : AV → Heap → Option A} {K' : AV → Heap → Option B} (hk : ∀ v s, K v s = (K' v s).bind u) : drawOneK P call c o t h id K = (drawOneK P call c o t h id K').bind u := by
  unfold drawOneK
  have hc : ∀ {b : Bool} {x : Option A} {y : Option B}, x = y.bind u → (bif b then x else none) = (bif b then y else none).bind u := fun {b x y} e => by cases b <;> first | rfl | exact e
  split
  · exact prim_b fun v _ => hc (hk _ _)
  · refine prim_b fun v h' => ?_
    split <;> exact hc (hk _ _)
  · exact prim_b fun v _ => hc (hk _ _)
  · split
    · refine calleeK_b H fun o h m => ?_
      cases o <;> first | rfl | exact hk _ _
    · exact prim_b fun _ _ => hk _ _
theorem againK_b {ops : Array Oper} {t : List AV} {h : Heap} {base i : Nat} {K : Option A} {K' : Option B} (hk : K = K'.bind u) : againK P ops t h base i K = (againK P ops t h base i K').bind u := by
  unfold againK
  split
  · rfl
  · split
    · rfl
    · rename_i d _
      cases d with
      | false => exact hk
      | true =>
        simp only [cond_true]
        refine prim_b fun v _ => ?_
        cases (!news _ || simple v) && sameAt t _ v <;> first | rfl | exact hk
theorem againAllK_b {ops : Array Oper} {t : List AV} {h : Heap} {base : Nat} {K : Option A} {K' : Option B} (hk : K = K'.bind u) : ∀ l, againAllK P ops t h base K l = (againAllK P ops t h base K' l).bind u
  | [] => hk
  | _ :: l => againK_b (againAllK_b hk l)
theorem againEachK_b {ops : Array Oper} {t : List AV} {base i : Nat} {sn : List (Nat × Heap)} {K : Option A} {K' : Option B} (hk : K = K'.bind u) : ∀ l, againEachK P ops t base i sn K l = (againEachK P ops t base i sn K' l).bind u
  | [] => hk
  | w :: l => by
    simp only [againEachK]
    split <;> first | exact againEachK_b hk l | exact againK_b (againEachK_b hk l)
theorem drawOpsK_b (H : NatC call) {ops : Array Oper} {base : Nat} {K : List AV → Heap → Option A} {K' : List AV → Heap → Option B} (hk : ∀ v s, K v s = (K' v s).bind u) :
    ∀ (s : Sched) (t : List AV) (h : Heap) (sn : List (Nat × Heap)), drawOpsK P call ops base K s t h sn = (drawOpsK P call ops base K' s t h sn).bind u
  | [], _, _, _ => hk _ _
  | (i, c, af, bf) :: rest, t, h, sn => by
    simp only [drawOpsK]
    split
    · rfl
    · exact guarded_b (fun t => drawOneK_b H fun v h' => againAllK_b (againEachK_b (drawOpsK_b H hk rest _ _ _) _) _) (fun t => drawOpsK_b H hk rest _ _ _)
theorem evCode_b (H : NatC call) {pl : Plan} {lo : Nat → Option LoopF} (HL : ∀ id g, lo id = some g → NatL g) {fid : FuncId} {rd : Option Nat} :
    ∀ (c : Code) (st : St) (K : Ex → St → Option A) (K' : Ex → St → Option B), (∀ e s, K e s = (K' e s).bind u) → evCode P pl call lo fid rd c st K = (evCode P pl call lo fid rd c st K').bind u := by
  intro c
  induction c with
  | skip => exact fun st K K' hk => hk _ _
  | label l => exact fun st K K' hk => hk _ _
  | exit id => exact fun st K K' hk => hk _ _
  | ret => exact fun st K K' hk => hk _ _
  | region id ops draw =>
    intro st K K' hk
    simp only [evCode]
    cases pl.stop id <;> simp only [cond_true, cond_false] <;> first | rfl | skip
    cases draw with
    | true =>
      simp only [cond_true]
      split
      · rfl
      · exact drawOpsK_b H (fun t h => seqOps_b H (fun _ => hk _ _) (fun _ _ => hk _ _) _ _) _ _ _ _
    | false =>
      simp only [cond_false]
      exact seqOps_b H (fun _ => hk _ _) (fun _ _ => hk _ _) _ _
  | seq a b iha ihb =>
    intro st K K' hk
    simp only [evCode]
    refine iha _ _ _ fun e s => ?_
    cases e <;> first | exact hk _ _ | exact ihb _ _ _ hk
  | cond c a b iha ihb =>
    intro st K K' hk
    simp only [evCode]
    refine asBool_b fun t => ?_
    cases t <;> first | exact iha _ _ _ hk | exact ihb _ _ _ hk
  | block id a ih =>
    intro st K K' hk
    simp only [evCode]
    refine ih _ _ _ fun e s => ?_
    cases e with
    | exit j => simp only; cases Nat.beq j id <;> exact hk _ _
    | _ => exact hk _ _
  | loop a ih =>
    intro st K K' hk
    simp only [evCode]
    have main : (match (headId a).bind pl.norm with
      | none => loopN (fun st K => evCode P pl call lo fid rd a st K) rounds st K
      | some N => normK P N st.h.next st fun s => loopN (loopK P N st.h.next (fun st K => evCode P pl call lo fid rd a st K)) rounds s K) =
      (match (headId a).bind pl.norm with
      | none => loopN (fun st K => evCode P pl call lo fid rd a st K) rounds st K'
      | some N => normK P N st.h.next st fun s => loopN (loopK P N st.h.next (fun st K => evCode P pl call lo fid rd a st K)) rounds s K').bind u := by
      split
      · exact loopN_b (body := fun st K => evCode P pl call lo fid rd a st K) (body' := fun st K => evCode P pl call lo fid rd a st K) (fun st K K' hk => ih st K K' hk) hk _ _
      · exact normK_b fun s => loopN_b (body := fun st K => loopK P _ _ (fun st K => evCode P pl call lo fid rd a st K) st K) (body' := fun st K => loopK P _ _ (fun st K => evCode P pl call lo fid rd a st K) st K) (fun st K K' hk => loopK_b (body := fun st K => evCode P pl call lo fid rd a st K) (body' := fun st K => evCode P pl call lo fid rd a st K) (fun st K K' hk => ih st K K' hk) st hk) hk _ _
    cases rd with
    | some l => exact main
    | none =>
      cases hg : (headId a).bind lo with
      | none => exact main
      | some g =>
        obtain ⟨id, _, h2⟩ := Option.bind_eq_some_iff.1 hg
        exact HL id g h2 _ _ _ _ _ _ hk
  | rangeFunc f ps assign body _ _ =>
    intro st K K' hk
    simp only [evCode]
    have go : ∀ (r l : Nat) (h : Heap) (d : List ADef) , (match ev st.t f with
      | .fn g first cap => call A (.fn g) (appA first (.yield l :: cap)) (h.put l (.loop ⟨.ready, none, fid, st.t, ps.toList, assign, body, r⟩)) .off fun out h' _ => (match out with
        | .ret _ => (match h'.m l with
          | some (.loop x) => (match x.state with
            | .busy => none
            | _ => (match x.pending with
              | none => K .normal { st with h := h'.put l (.loop { x with state := .exhausted }), d := d }
              | some .ret => K .ret { st with h := h'.put l (.loop { x with state := .exhausted }), d := d }
              | some (.exit j) => K (.exit j) { st with h := h'.put l (.loop { x with state := .exhausted }), d := d }
              | _ => none))
          | _ => none)
        | .pan v => K (.pan v) { st with h := h', d := d })
      | _ => none) = (match ev st.t f with
      | .fn g first cap => call B (.fn g) (appA first (.yield l :: cap)) (h.put l (.loop ⟨.ready, none, fid, st.t, ps.toList, assign, body, r⟩)) .off fun out h' _ => (match out with
        | .ret _ => (match h'.m l with
          | some (.loop x) => (match x.state with
            | .busy => none
            | _ => (match x.pending with
              | none => K' .normal { st with h := h'.put l (.loop { x with state := .exhausted }), d := d }
              | some .ret => K' .ret { st with h := h'.put l (.loop { x with state := .exhausted }), d := d }
              | some (.exit j) => K' (.exit j) { st with h := h'.put l (.loop { x with state := .exhausted }), d := d }
              | _ => none))
          | _ => none)
        | .pan v => K' (.pan v) { st with h := h', d := d })
      | _ => none).bind u := fun r l h d => by
        split
        · refine H _ _ _ _ _ _ _ _ _ fun o h' m => ?_
          cases o with
          | pan v => exact hk _ _
          | ret v =>
            simp only
            split
            · split
              · rfl
              · split <;> first | rfl | exact hk _ _
            · rfl
        · rfl
    cases rd with
    | none => exact go _ _ _ _
    | some l₀ =>
      simp only
      split <;> first | rfl | exact go _ _ _ _
  | _ => exact fun st K K' hk => rfl
theorem resList_b {t : List AV} {h : Heap} {K : List AV → Option A} {K' : List AV → Option B} (hk : ∀ v, K v = (K' v).bind u) : ∀ rs, resList P t h rs K = (resList P t h rs K').bind u := by
  intro rs
  induction rs generalizing K K' with
  | nil => exact hk _
  | cons r rs ih =>
    cases r with
    | tmp i => exact ih fun _ => hk _
    | cell a ty => exact asAdr_b fun _ => loadK_b fun _ => ih fun _ => hk _
theorem resK_b {fn : Func} {t : List AV} {h : Heap} {K : AV → Option A} {K' : AV → Option B} (hk : ∀ v, K v = (K' v).bind u) : resK P fn t h K = (resK P fn t h K').bind u := by
  unfold resK
  refine resList_b (fun vs => ?_) _
  split <;> exact hk _
theorem leave_b (H : NatC call) {fn : Func} {t : List AV} {r : Md} : ∀ (ds : List ADef) (m : Md) (h : Heap) (K : Out → Heap → Md → Option A) (K' : Out → Heap → Md → Option B), (∀ o h m, K o h m = (K' o h m).bind u) →
    leave P (call A) fn t r ds m h K = (leave P (call B) fn t r ds m h K').bind u := by
  intro ds
  induction ds with
  | nil =>
    intro m h K K' hk
    cases m <;> simp only [leave] <;> first | rfl | exact hk _ _ _ | exact resK_b fun _ => hk _ _ _
  | cons d ds ih =>
    intro m h K K' hk
    cases d with
    | mark b =>
      simp only [leave]
      split <;> first | rfl | exact ih _ _ _ _ hk
    | call f args =>
      simp only [leave]
      refine H _ _ _ _ _ _ _ _ _ fun o h m => ?_
      cases o <;> first | rfl | exact ih _ _ _ _ hk
theorem evCall_b {S : Orc} {tb : FuncId → Option FnP} (Hf : ∀ f g, S.f f = some g → NatF g) (Hl : ∀ f id g, S.l f id = some g → NatL g) : ∀ n, NatC (evCall P S tb n) := by
  intro n
  induction n with
  | zero => exact fun _ _ _ _ _ _ _ _ _ _ => rfl
  | succ n ih =>
    intro A B c args h m K K' u hk
    cases c with
    | fn f =>
      simp only [evCall]
      split
      · rename_i g hg; exact Hf f g hg _ _ _ _ _ _ _ _ hk
      · split
        · rfl
        · refine evCode_b ih (fun id g hg => Hl f id g hg) _ _ _ _ fun e s => ?_
          cases e <;> first | rfl | exact leave_b ih _ _ _ _ _ hk
    | yield l =>
      simp only [evCall]
      split
      · split
        · rfl
        · refine guardK_b (evCode_b ih (fun id g hg => by cases hg) _ _ _ _ fun e s => ?_)
          cases e with
          | normal =>
            simp only
            split
            · split
              · refine evCode_b ih (fun id g hg => by cases hg) _ _ _ _ fun e s => ?_
                split <;> first | rfl | exact hk _ _ _
              · rfl
            · rfl
          | _ => rfl
      · rfl
/-! ### A drawn region, with what follows told ahead -/
theorem prim_some {r : A} {X : Type} {o : Oper} {e : Operand → AV} {h : Heap} {id : Nat} {K' : AV → Heap → Option X} {u : X → Option A} (hk : prim P o e h id (fun v h => (K' v h).bind u) = some r) : ∃ x, prim P o e h id K' = some x ∧ u x = some r := by
  rw [prim_b (K' := K') (u := u) fun _ _ => rfl] at hk
  exact Option.bind_eq_some_iff.1 hk
theorem drawOneK_some (H : NatC call) {r : A} {c : Cls} {o : Oper} {t : List AV} {h : Heap} {id : Nat} {K : AV → Heap → Option A} (hk : drawOneK P call c o t h id K = some r) : ∃ v h', drawOne P call c o t h id = some (v, h') ∧ K v h' = some r := by
  unfold drawOneK at hk
  unfold drawOne
  cases c with
  | p =>
    simp only at hk ⊢
    obtain ⟨v, h1, h2⟩ := prim_some (K' := fun v _ => some v) (u := fun v => bif !news o.op || simple v then K v h else none) hk
    rw [h1]
    simp only
    cases hg : !news o.op || simple v with
    | false => rw [hg] at h2; cases h2
    | true => rw [hg] at h2; exact ⟨v, h, rfl, h2⟩
  | a =>
    simp only at hk ⊢
    obtain ⟨⟨v, x⟩, h1, h2⟩ := prim_some (K' := fun v h' => some (v, h'.m id)) (u := fun x => match x.2 with | some b => bif b.writes then K x.1 (h.put id b) else none | none => bif simple x.1 then K x.1 h else none) hk
    rw [h1]
    cases x with
    | some b =>
      simp only at h2 ⊢
      cases hg : b.writes with
      | false => rw [hg] at h2; cases h2
      | true => rw [hg] at h2; exact ⟨_, _, rfl, h2⟩
    | none =>
      simp only at h2 ⊢
      cases hg : simple v with
      | false => rw [hg] at h2; cases h2
      | true => rw [hg] at h2; exact ⟨_, _, rfl, h2⟩
  | r =>
    simp only at hk ⊢
    obtain ⟨v, h1, h2⟩ := prim_some (K' := fun v _ => some v) (u := fun v => bif !news o.op || simple v then K v h else none) hk
    rw [h1]
    simp only
    cases hg : !news o.op || simple v with
    | false => rw [hg] at h2; cases h2
    | true => rw [hg] at h2; exact ⟨v, h, rfl, h2⟩
  | w =>
    have key : ∀ {X : Option A} {Y : Option (AV × Heap)}, X = Y.bind (fun x => K x.1 x.2) → X = some r → ∃ v h', Y = some (v, h') ∧ K v h' = some r := fun {X Y} e hx => by
      rw [e] at hx
      obtain ⟨⟨v, x⟩, h1, h2⟩ := Option.bind_eq_some_iff.1 hx
      exact ⟨v, x, h1, h2⟩
    simp only at hk ⊢
    revert hk
    split
    · refine key (calleeK_b H fun o h m => ?_)
      cases o <;> rfl
    · exact key (prim_b fun _ _ => rfl)
theorem againK_some {r : A} {ops : Array Oper} {t : List AV} {h : Heap} {base i : Nat} {K : Option A} (hk : againK P ops t h base i K = some r) : again P ops t h base i = true ∧ K = some r := by
  unfold againK at hk
  unfold again
  split at hk
  · cases hk
  · rename_i o _
    split at hk
    · cases hk
    · rename_i d hd
      rw [hd]
      cases d with
      | false => exact ⟨rfl, hk⟩
      | true =>
        simp only [cond_true] at hk ⊢
        obtain ⟨v, h1, h2⟩ := prim_some (K' := fun v _ => some v) (u := fun v => bif (!news o.op || simple v) && sameAt t o.dst v then K else none) hk
        rw [h1]
        simp only
        cases hg : (!news o.op || simple v) && sameAt t o.dst v with
        | false => rw [hg] at h2; cases h2
        | true => rw [hg] at h2; exact ⟨rfl, h2⟩
theorem againAllK_some {r : A} {ops : Array Oper} {t : List AV} {h : Heap} {base : Nat} {K : Option A} : ∀ l, againAllK P ops t h base K l = some r → againAll P ops t h base l = true ∧ K = some r
  | [], hk => ⟨rfl, hk⟩
  | i :: l, hk => by
    obtain ⟨h1, h2⟩ := againK_some hk
    obtain ⟨h3, h4⟩ := againAllK_some l h2
    exact ⟨by simp only [againAll, h1, h3, Bool.and_self], h4⟩
theorem againEachK_some {r : A} {ops : Array Oper} {t : List AV} {base i : Nat} {sn : List (Nat × Heap)} {K : Option A} : ∀ l, againEachK P ops t base i sn K l = some r → againEach P ops t base i sn l = true ∧ K = some r
  | [], hk => ⟨rfl, hk⟩
  | w :: l, hk => by
    simp only [againEachK] at hk
    simp only [againEach]
    split at hk
    · obtain ⟨h3, h4⟩ := againEachK_some l hk
      exact ⟨by simpa using h3, h4⟩
    · obtain ⟨h1, h2⟩ := againK_some hk
      obtain ⟨h3, h4⟩ := againEachK_some l h2
      exact ⟨by simp only [h1, h3, Bool.and_self], h4⟩
theorem setL_nth_self {b : Bool} : ∀ {t : List AV} {d : Nat}, nth t d = .bool b → setL t d (.bool b) = t
  | [], d, h => by cases d <;> rfl
  | x :: t, 0, h => by have h : x = .bool b := h; subst h; rfl
  | x :: t, d + 1, h => by
    have h : nth t d = .bool b := h
    show x :: setL t d (.bool b) = x :: t
    rw [setL_nth_self (d := d) h]
theorem guardedD_some {r : A} {ops : Array Oper} {o : Oper} {t : List AV} {Y N : List AV → Option A} (h : guarded ops o t Y N = some r) : (doneB ops o t = some true ∧ Y t = some r) ∨ (doneB ops o t = some false ∧ N t = some r) := by
  unfold guarded at h
  unfold doneB
  cases hg : o.guard with
  | none => rw [hg] at h; exact .inl ⟨rfl, h⟩
  | some jw =>
    obtain ⟨j, want⟩ := jw
    rw [hg] at h
    simp only at h ⊢
    cases hj : ops[j]? with
    | none => rw [hj] at h; cases h
    | some g =>
      rw [hj] at h
      simp only at h ⊢
      cases hd : g.dst with
      | none => rw [hd] at h; cases h
      | some d =>
        rw [hd] at h
        simp only at h ⊢
        cases hv : nth t d with
        | bool b =>
          rw [hv] at h
          simp only at h ⊢
          cases b <;> cases want <;> simp only [cond_true, cond_false, setL_nth_self hv, Bool.not_true, Bool.not_false] at h ⊢ <;> first | exact .inl ⟨trivial, h⟩ | exact .inr ⟨trivial, h⟩
        | tup x => rw [hv] at h; exact .inr ⟨rfl, h⟩
        | _ => rw [hv] at h; cases h
theorem drawOpsK_some (H : NatC call) {r : A} {ops : Array Oper} {base : Nat} {K : List AV → Heap → Option A} :
    ∀ (s : Sched) (t : List AV) (h : Heap) (sn : List (Nat × Heap)), drawOpsK P call ops base K s t h sn = some r → ∃ T hE, drawOps P call ops base s t h sn = some (T, hE) ∧ K T hE = some r
  | [], t, h, _, hk => ⟨t, h, rfl, hk⟩
  | (i, c, af, bf) :: rest, t, h, sn, hk => by
    simp only [drawOpsK] at hk
    simp only [drawOps]
    split at hk
    · cases hk
    · rename_i o _
      rcases guardedD_some hk with ⟨hd, hk⟩ | ⟨hd, hk⟩
      · rw [hd]
        obtain ⟨v, h', h1, h2⟩ := drawOneK_some H hk
        obtain ⟨h3, h4⟩ := againAllK_some _ h2
        obtain ⟨h5, h6⟩ := againEachK_some _ h4
        obtain ⟨T, hE, h7, h8⟩ := drawOpsK_some H rest _ _ _ h6
        refine ⟨T, hE, ?_, h8⟩
        simp only [h1, h3, h5, Bool.and_self, cond_true]
        exact h7
      · rw [hd]
        exact drawOpsK_some H rest _ _ _ hk
end Go.Ev
