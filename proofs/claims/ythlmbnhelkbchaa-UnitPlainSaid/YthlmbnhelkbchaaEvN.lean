/- Regions whose order is drawn: what is asked of the way in which they are gone through, and what a run then tells. -/
import Derived.Test.YthlmbnhelkbchaaEvM
import Derived.Orders
namespace Go.Ev

def memN (x : Nat) : List Nat → Bool
  | [] => false
  | y :: l => bif Nat.beq x y then true else memN x l
def addN : List Nat → List Nat → List Nat
  | [], acc => acc
  | x :: xs, acc => bif memN x acc then addN xs acc else addN xs (x :: acc)
def deps (o : Oper) : List Nat := o.after.toList.filterMap fun e => if Region.binds .any e then some e.on else none
abbrev Seen := List (Nat × Cls × List Nat)
def ancAt (d : Nat) : Seen → List Nat
  | [] => []
  | (i, _, an) :: l => bif Nat.beq d i then an else ancAt d l
def ancOf (seen : Seen) : List Nat → List Nat → List Nat
  | [], acc => acc
  | d :: ds, acc => ancOf seen ds (addN (d :: ancAt d seen) acc)
def okPair (c₁ c₂ : Cls) (i : Nat) (af bf : List Nat) : Bool := match c₁, c₂ with
  | .w, .w => false
  | .a, .w => false
  | .a, .r => false
  | .r, .w => memN i af
  | .w, .r => memN i bf
  | _, _ => true
def dstOf (ops : Array Oper) (i : Nat) : Option Tmp := (ops[i]?).bind (·.dst)
def isDst (ops : Array Oper) (j : Nat) (x : Tmp) : Bool := match dstOf ops j with
  | some d => Nat.beq d x
  | none => false
def drawOk (ops : Array Oper) : Sched → Seen → Bool
  | [], seen => Nat.beq seen.length ops.size
  | (i, c, af, bf) :: rest, seen => match ops[i]? with
    | none => false
    | some o =>
      let an := ancOf seen (deps o) []
      !(seen.any fun s => Nat.beq s.1 i) && (deps o).all (fun d => seen.any fun s => Nat.beq s.1 d) &&
      (o.looksAt ops).all (fun x => (List.range ops.size).all fun j => !isDst ops j x || memN j an) &&
      seen.all (fun s => (memN s.1 an || okPair s.2.1 c s.1 af bf) && (match o.dst with | some d => !isDst ops s.1 d | none => true)) &&
      drawOk ops rest ((i, c, an) :: seen)

/-- The plan's operations, with those that are ahead of them. -/
def seenOf (ops : Array Oper) : Sched → Seen → Seen
  | [], seen => seen
  | (i, c, _, _) :: rest, seen => match ops[i]? with
    | none => seen
    | some o => seenOf ops rest ((i, c, ancOf seen (deps o) []) :: seen)
/-- The operations behind the plan's: each one waits for all that stand ahead of it. -/
def tailOk : Nat → List Oper → Seen → Bool
  | _, [], _ => true
  | j, o :: l, seen => (List.range j).all (fun i => memN i (ancOf seen (deps o) [])) && (deps o).all (fun d => decide (d < j)) && tailOk (j + 1) l ((j, .w, ancOf seen (deps o) []) :: seen)
def regionOk (ops : Array Oper) (s : Sched) : Bool := drawOk (mainOps ops s) s [] && tailOk s.length (ops.toList.drop s.length) (seenOf (mainOps ops s) s [])
theorem mainOps_get {ops : Array Oper} {s : Sched} {i : Nat} {o : Oper} (h : (mainOps ops s)[i]? = some o) : ops[i]? = some o := by
  have h1 : (ops.toList.take s.length)[i]? = some o := by simpa [mainOps] using h
  rw [List.getElem?_take] at h1
  split at h1
  · simpa using h1
  · cases h1
theorem memN_iff {x : Nat} {l : List Nat} : memN x l = true ↔ x ∈ l := by
  induction l with
  | nil => simp [memN]
  | cons y l ih =>
    simp only [memN, List.mem_cons]
    cases h : Nat.beq x y with
    | true => simp [Nat.eq_of_beq_eq_true h]
    | false =>
      have : x ≠ y := fun e => by subst e; simp at h
      simp [ih, this]
theorem addN_mem {x : Nat} : ∀ {xs acc : List Nat}, x ∈ addN xs acc → x ∈ xs ∨ x ∈ acc
  | [], acc, h => .inr h
  | y :: xs, acc, h => by
    simp only [addN] at h
    cases hm : memN y acc with
    | true => rw [hm] at h; rcases addN_mem h with h | h
              · exact .inl (List.mem_cons_of_mem _ h)
              · exact .inr h
    | false => rw [hm] at h; rcases addN_mem h with h | h
               · exact .inl (List.mem_cons_of_mem _ h)
               · rcases List.mem_cons.1 h with h | h
                 · exact .inl (h ▸ List.mem_cons_self)
                 · exact .inr h

/-- Operation a is carried out ahead of j, in every order. -/
inductive Before (ops : Array Oper) : Nat → Nat → Prop
  | one {a j : Nat} {o : Oper} (h : ops[j]? = some o) (hd : a ∈ deps o) : Before ops a j
  | trans {a b c : Nat} (h : Before ops a b) (k : Before ops b c) : Before ops a c

theorem ancAt_mem {ops : Array Oper} {a d : Nat} : ∀ {seen : Seen}, (∀ s ∈ seen, ∀ a ∈ s.2.2, Before ops a s.1) → a ∈ ancAt d seen → Before ops a d
  | [], _, h => by simp [ancAt] at h
  | (i, c, an) :: l, hs, h => by
    simp only [ancAt] at h
    cases hb : Nat.beq d i with
    | true =>
      rw [hb] at h
      have := Nat.eq_of_beq_eq_true hb
      subst this
      exact hs (d, c, an) List.mem_cons_self a h
    | false => rw [hb] at h; exact ancAt_mem (fun s hm => hs s (List.mem_cons_of_mem _ hm)) h
theorem ancOf_mem {ops : Array Oper} {seen : Seen} {i : Nat} {o : Oper} (ho : ops[i]? = some o) (hs : ∀ s ∈ seen, ∀ a ∈ s.2.2, Before ops a s.1) :
    ∀ (ds acc : List Nat), (∀ d ∈ ds, d ∈ deps o) → (∀ a ∈ acc, Before ops a i) → ∀ a ∈ ancOf seen ds acc, Before ops a i
  | [], acc, _, h, a, ha => h a ha
  | d :: ds, acc, hd, h, a, ha => by
    have hdi : Before ops d i := .one ho (hd d List.mem_cons_self)
    refine ancOf_mem ho hs ds _ (fun x hx => hd x (List.mem_cons_of_mem _ hx)) (fun x hx => ?_) a ha
    rcases addN_mem hx with hx | hx
    · rcases List.mem_cons.1 hx with e | e
      · exact e ▸ hdi
      · exact (ancAt_mem hs e).trans hdi
    · exact h x hx

theorem Before.mono {ops opsF : Array Oper} (hF : ∀ (i : Nat) (o : Oper), ops[i]? = some o → opsF[i]? = some o) {a j : Nat} (h : Before ops a j) : Before opsF a j := by
  induction h with
  | one h hd => exact .one (hF _ _ h) hd
  | trans _ _ ih1 ih2 => exact ih1.trans ih2
theorem seenOf_ok {ops : Array Oper} : ∀ (s : Sched) (seen : Seen), (∀ s ∈ seen, ∀ a ∈ s.2.2, Before ops a s.1) → ∀ s' ∈ seenOf ops s seen, ∀ a ∈ s'.2.2, Before ops a s'.1
  | [], seen, h => h
  | (i, c, af, bf) :: rest, seen, h => by
    simp only [seenOf]
    cases ho : ops[i]? with
    | none => exact h
    | some o =>
      refine seenOf_ok rest _ fun s' hs' => ?_
      rcases List.mem_cons.1 hs' with e | e
      · subst e; exact ancOf_mem ho h (deps o) [] (fun _ x => x) (fun _ x => by simp at x)
      · exact h s' e
theorem tailOk_get {opsF : Array Oper} : ∀ (l : List Oper) (j : Nat) (seen : Seen), tailOk j l seen = true → (∀ i o, l[i]? = some o → opsF[j + i]? = some o) → (∀ s ∈ seen, ∀ a ∈ s.2.2, Before opsF a s.1) →
    ∀ i o, l[i]? = some o → (∀ q, q < j + i → Before opsF q (j + i)) ∧ ∀ d ∈ deps o, d < j + i
  | [], _, _, _, _, _, i, o, h => by simp at h
  | a :: l, j, seen, hk, hl, hs, i, o, h => by
    simp only [tailOk, Bool.and_eq_true, List.all_eq_true] at hk
    obtain ⟨⟨h1, h2⟩, h3⟩ := hk
    have h0 := hl 0 a (by simp)
    have han := ancOf_mem (i := j) (by simpa using h0) hs (deps a) [] (fun _ x => x) (fun _ x => by simp at x)
    cases i with
    | zero =>
      simp only [List.getElem?_cons_zero, Option.some.injEq] at h
      subst h
      exact ⟨fun q hq => han q (memN_iff.1 (h1 q (List.mem_range.2 hq))), fun d hd => of_decide_eq_true (h2 d hd)⟩
    | succ i =>
      have := tailOk_get (opsF := opsF) l (j + 1) _ h3 (fun i o hi => by rw [show j + 1 + i = j + (i + 1) by omega]; exact hl (i + 1) o (by simpa using hi)) (fun s' hs' => by
        rcases List.mem_cons.1 hs' with e | e
        · subst e; exact han
        · exact hs s' e) i o (by simpa using h)
      rw [show j + (i + 1) = j + 1 + i by omega]; exact this

/-- The same, in words. -/
inductive SOk (ops : Array Oper) : List (Nat × Cls) → Sched → Prop
  | nil {seen : List (Nat × Cls)} (h : seen.length = ops.size) : SOk ops seen []
  | cons {seen : List (Nat × Cls)} {i : Nat} {c : Cls} {af bf : List Nat} {rest : Sched} {o : Oper} (ho : ops[i]? = some o) (hn : ∀ s ∈ seen, s.1 ≠ i)
      (hd : ∀ d ∈ deps o, ∃ s ∈ seen, s.1 = d) (hl : ∀ x ∈ o.looksAt ops, ∀ j, dstOf ops j = some x → Before ops j i)
      (hp : ∀ s ∈ seen, Before ops s.1 i ∨ okPair s.2 c s.1 af bf = true) (ht : ∀ s ∈ seen, ∀ d, dstOf ops s.1 = some d → o.dst ≠ some d)
      (hr : SOk ops ((i, c) :: seen) rest) : SOk ops seen ((i, c, af, bf) :: rest)

theorem isDst_iff {ops : Array Oper} {j : Nat} {x : Tmp} : isDst ops j x = true ↔ dstOf ops j = some x := by
  unfold isDst
  cases h : dstOf ops j with
  | none => simp
  | some d => simp only [Option.some.injEq]; exact ⟨Nat.eq_of_beq_eq_true, fun e => by subst e; simp⟩
theorem dstOf_lt {ops : Array Oper} {j : Nat} {x : Tmp} (h : dstOf ops j = some x) : j < ops.size := by
  unfold dstOf at h
  cases ho : ops[j]? with
  | none => simp [ho] at h
  | some o => exact (Array.getElem?_eq_some_iff.1 ho).1
theorem drawOk_spec {ops : Array Oper} : ∀ (s : Sched) (seen : Seen), drawOk ops s seen = true → (∀ s ∈ seen, ∀ a ∈ s.2.2, Before ops a s.1) →
    SOk ops (seen.map fun s => (s.1, s.2.1)) s
  | [], seen, h, _ => .nil (by simpa using Nat.eq_of_beq_eq_true h)
  | (i, c, af, bf) :: rest, seen, h, hs => by
    simp only [drawOk] at h
    cases ho : ops[i]? with
    | none => rw [ho] at h; cases h
    | some o =>
      rw [ho] at h
      simp only [Bool.and_eq_true] at h
      obtain ⟨⟨⟨⟨h1, h2⟩, h3⟩, h4⟩, h5⟩ := h
      have han := ancOf_mem (seen := seen) ho hs (deps o) [] (fun _ x => x) (fun _ x => by simp at x)
      have h6 := drawOk_spec rest _ h5 (fun s hm => by
        rcases List.mem_cons.1 hm with e | e
        · subst e; exact han
        · exact hs s e)
      refine .cons ho (fun s hm e => ?_) (fun d hd => ?_) (fun x hx j hj => ?_) (fun s hm => ?_) (fun s hm d hd e => ?_) h6
      · obtain ⟨s', hs', rfl⟩ := List.mem_map.1 hm
        simp only [Bool.not_eq_true', List.any_eq_false] at h1
        have h1 := h1 s' hs'
        simp only at e
        rw [e] at h1; simp at h1
      · rw [List.all_eq_true] at h2
        obtain ⟨s, a, b⟩ := List.any_eq_true.1 (h2 d hd)
        exact ⟨_, List.mem_map.2 ⟨s, a, rfl⟩, Nat.eq_of_beq_eq_true b⟩
      · rw [List.all_eq_true] at h3
        have h3 := h3 x hx
        rw [List.all_eq_true] at h3
        have h3 := h3 j (List.mem_range.2 (dstOf_lt hj))
        rw [isDst_iff.2 hj] at h3
        exact han j (memN_iff.1 (by simpa using h3))
      · obtain ⟨s', hs', rfl⟩ := List.mem_map.1 hm
        rw [List.all_eq_true] at h4
        have h4 := h4 s' hs'
        simp only [Bool.and_eq_true, Bool.or_eq_true] at h4
        exact h4.1.imp (fun h => han _ (memN_iff.1 h)) id
      · obtain ⟨s', hs', rfl⟩ := List.mem_map.1 hm
        rw [List.all_eq_true] at h4
        have h4 := h4 s' hs'
        simp only [Bool.and_eq_true] at h4
        have h4 := h4.2
        rw [e] at h4
        simp only at h4 hd
        rw [isDst_iff.2 hd] at h4
        simp at h4

/-! ### Operands -/
section
variable {A : Type} {P : Program}
theorem prim_congr {e e' : Operand → AV} (o : Oper) {h : Heap} {id : Nat} {K : AV → Heap → Option A} (hh : ∀ x ∈ o.op.operands, e x = e' x) : prim P o e h id K = prim P o e' h id K := by
  obtain ⟨dst, op, type, pos, after, guard⟩ := o
  have pairs : ∀ ps : Array (Nat × Operand), (∀ x ∈ ps.map (·.2), e x = e' x) → (ps.toList.map fun p => (p.1, e p.2)) = (ps.toList.map fun p => (p.1, e' p.2)) := fun ps hp =>
    List.map_congr_left fun p hm => by simp only [hp p.2 (Array.mem_map.2 ⟨p, by simpa using hm, rfl⟩)]
  cases op <;> simp only [Op.operands] at hh <;> simp only [prim]
  case build t ps => rw [pairs ps fun x hx => hh x (by simpa using hx)]
  case buildSlice t n ps => rw [pairs ps fun x hx => hh x (by simpa using hx)]
  case makeFunc fn first cap =>
    cases fn <;> first | rfl | skip
    simp only
    rw [List.map_congr_left (l := first.toList) fun x hx => hh x (by simp at hx; simp [hx]), List.map_congr_left (l := cap.toList) fun x hx => hh x (by simp at hx; simp [hx])]
  case call c =>
    obtain ⟨cl, args, tys⟩ := c
    cases cl <;> first | rfl | skip
    simp only
    rw [List.map_congr_left (l := args.toList) fun x hx => hh x (by simp at hx; simp [Call.operands, hx])]
  case makeMap t r => cases r <;> rfl
  case slice t x lo hi mx => cases lo <;> cases hi <;> cases mx <;> simp_all
  all_goals (first | rfl | (simp_all; done))
theorem prim_id {e : Operand → AV} (o : Oper) {h : Heap} {id id' : Nat} {K : AV → Heap → Option A} (hn : news o.op = false) : prim P o e h id K = prim P o e h id' K := by
  obtain ⟨dst, op, type, pos, after, guard⟩ := o
  cases op
  case makeFunc f first cap => cases f <;> rfl
  case call c =>
    obtain ⟨cl, args, tys⟩ := c
    cases cl
    case builtin bi =>
      cases bi
      case append => simp [news] at hn
      all_goals (simp only [prim]; unfold builtinK; generalize tys.toList = ts; generalize args.toList.map e = xs; rcases ts with _ | ⟨t, _ | ⟨u, _ | ⟨u', ts⟩⟩⟩ <;> rcases xs with _ | ⟨x, _ | ⟨y, _ | ⟨z, xs⟩⟩⟩ <;> rfl)
    all_goals rfl
  case makeMap t r => cases r <;> first | rfl | (simp [news] at hn; done)
  all_goals first | rfl | (simp [news] at hn; done)
theorem drawOne_congr {call : CallP} {c : Cls} {o : Oper} {t t' : List AV} {h : Heap} {id : Nat} (hh : ∀ x ∈ o.op.operands, ev t x = ev t' x) :
    drawOne P call c o t h id = drawOne P call c o t' h id := by
  have hcall : ∀ (f : Operand) (args : Array Operand) tys, o.op = .call ⟨.value f, args, tys⟩ → ev t f = ev t' f ∧ args.toList.map (ev t) = args.toList.map (ev t') := fun f args tys ho => by
    rw [ho] at hh
    exact ⟨hh f (by simp [Op.operands, Call.operands]), List.map_congr_left fun x hx => hh x (by simp at hx; simp [Op.operands, Call.operands, hx])⟩
  cases c <;> simp only [drawOne]
  · rw [prim_congr o hh]
  · rw [prim_congr o hh]
  · rw [prim_congr o hh]
  · split
    · rename_i f args tys ho
      obtain ⟨h1, h2⟩ := hcall f args tys ho
      rw [h1, h2]
    · exact prim_congr o hh
end
theorem ev_congr {t t' : List AV} {ops : Array Oper} {o : Oper} (h : ∀ x ∈ o.looksAt ops, nth t x = nth t' x) : ∀ x ∈ o.op.operands, ev t x = ev t' x := by
  intro x hx
  cases x with
  | tmp i => exact h i (List.mem_append_left _ (List.mem_filterMap.2 ⟨.tmp i, by simpa using hx, rfl⟩))
  | _ => rfl
theorem doneB_congr {t t' : List AV} {ops : Array Oper} {o : Oper} (h : ∀ x ∈ o.looksAt ops, nth t x = nth t' x) : doneB ops o t = doneB ops o t' := by
  unfold doneB
  split
  · rfl
  · rename_i j want hg
    split
    · rfl
    · rename_i g hj
      split
      · rfl
      · rename_i d hd
        have : nth t d = nth t' d := h d (by simp [Oper.looksAt, hg, hj, hd])
        rw [this]
end Go.Ev
