/- What a run of a region whose order is drawn tells of each of its operations, in the temporaries as they are at its end. -/
import Derived.Test.YthlmbnhelkbchaaEvN
namespace Go.Ev
theorem nth_setL_ne {t : List AV} {d x : Nat} {v : AV} (h : d ≠ x) : nth (setL t d v) x = nth t x := by
  simp [nth_eq, setL_eq, List.getD, h]
theorem nth_setL_same (t : List AV) (d : Nat) (v : AV) : nth (setL t d v) d = v ∨ nth (setL t d v) d = .dead := by
  rcases Nat.lt_or_ge d t.length with h | h
  · left; simp [nth_eq, setL_eq, List.getD, h]
  · right; simp [nth_eq, setL_eq, List.getD, h]
theorem nth_putT_ne {t : List AV} {dst : Option Tmp} {x : Nat} {v : AV} (h : dst ≠ some x) : nth (putT t dst v) x = nth t x := by
  cases dst with
  | none => rfl
  | some d => exact nth_setL_ne fun e => h (by rw [e])
theorem nth_putT_same {t : List AV} {dst : Option Tmp} {d : Nat} {v : AV} (h : dst = some d) : nth (putT t dst v) d = v ∨ nth (putT t dst v) d = .dead := by
  subst h; exact nth_setL_same t d v

structure Ent where
  i : Nat
  c : Cls
  af : List Nat
  bf : List Nat
  o : Oper
  done : Bool
  v : AV
  h0 : Heap
  h1 : Heap
section
variable (P : Program) (ops : Array Oper) (base : Nat) (call : CallP) (T : List AV)
structure EntOk (e : Ent) : Prop where
  op : ops[e.i]? = some e.o
  look : ∀ x ∈ e.o.looksAt ops, ∀ j, dstOf ops j = some x → Before ops j e.i
  dn : doneB ops e.o T = some e.done
  val : ∀ d, e.o.dst = some d → nth T d = e.v ∨ nth T d = .dead
  ev : e.done = true → drawOne P call e.c e.o T e.h0 (base + e.i) = some (e.v, e.h1)
  sk : e.done = false → e.h1 = e.h0 ∧ e.v = .tup []
structure Cross (a b : Ent) : Prop where
  ne : a.i ≠ b.i
  ord : Before ops a.i b.i ∨ okPair a.c b.c a.i b.af b.bf = true
  dst : ∀ d, a.o.dst = some d → b.o.dst ≠ some d
  af : a.done = true → b.done = true → a.i ∈ b.af → again P ops T b.h1 base a.i = true
  bf : a.done = true → b.done = true → a.i ∈ b.bf → again P ops T a.h0 base b.i = true
inductive Chain : Heap → List Ent → Heap → Prop
  | nil (h : Heap) : Chain h [] h
  | cons {e : Ent} {es : List Ent} {hE : Heap} (h : Chain e.h1 es hE) : Chain e.h0 (e :: es) hE
end
variable {P : Program} {ops : Array Oper} {base : Nat} {call : CallP} {T : List AV}

theorem before_closed {X : Nat → Prop} {a j : Nat} (hb : Before ops a j) (hX : ∀ j o, X j → ops[j]? = some o → ∀ d ∈ deps o, X d) (hj : X j) : X a := by
  induction hb with
  | one ho hd => exact hX _ _ hj ho _ hd
  | trans _ _ ih1 ih2 => exact ih1 (ih2 hj)
theorem again_congr {t t' : List AV} {h : Heap} {i : Nat} {o : Oper} (ho : ops[i]? = some o) (hl : ∀ x ∈ o.looksAt ops, nth t x = nth t' x) (hd : ∀ d, o.dst = some d → nth t d = nth t' d) :
    again P ops t h base i = again P ops t' h base i := by
  have hs : ∀ v, sameAt t o.dst v = sameAt t' o.dst v := fun v => by
    unfold sameAt
    cases hdd : o.dst with
    | none => rfl
    | some d => simp only [hd d hdd]
  unfold again
  rw [ho]
  simp only
  rw [doneB_congr hl, prim_congr o (ev_congr hl)]
  cases doneB ops o t' with
  | none => rfl
  | some b =>
    cases b with
    | false => rfl
    | true =>
      simp only
      split
      · rfl
      · rw [hs]
theorem againAll_mem {t : List AV} {h : Heap} : ∀ {l : List Nat}, againAll P ops t h base l = true → ∀ i ∈ l, again P ops t h base i = true
  | [], _, i, hi => by simp at hi
  | j :: l, hh, i, hi => by
    simp only [againAll, Bool.and_eq_true] at hh
    rcases List.mem_cons.1 hi with e | e
    · exact e ▸ hh.1
    · exact againAll_mem hh.2 i e
theorem againEach_mem {t : List AV} {i : Nat} {sn : List (Nat × Heap)} {h : Heap} {w : Nat} : ∀ {l : List Nat}, againEach P ops t base i sn l = true → w ∈ l → heapAt w sn = some h → again P ops t h base i = true
  | [], _, hi, _ => by simp at hi
  | j :: l, hh, hi, hs => by
    simp only [againEach, Bool.and_eq_true] at hh
    rcases List.mem_cons.1 hi with e | e
    · subst e; rw [hs] at hh; exact hh.1
    · exact againEach_mem hh.2 e hs

structure PreOk (P : Program) (ops : Array Oper) (base : Nat) (call : CallP) (pre : List Ent) (sn : List (Nat × Heap)) : Prop where
  op : ∀ p ∈ pre, ops[p.i]? = some p.o
  look : ∀ p ∈ pre, ∀ x ∈ p.o.looksAt ops, ∀ j, dstOf ops j = some x → Before ops j p.i
  clo : ∀ p ∈ pre, ∀ d ∈ deps p.o, ∃ q ∈ pre, q.i = d
  sn : ∀ p ∈ pre, p.done = true → heapAt p.i sn = some p.h0
/-- The run, told. -/
theorem canon {hE : Heap} : ∀ (s : Sched) (t : List AV) (h : Heap) (sn : List (Nat × Heap)) (pre : List Ent), SOk ops (pre.map fun p => (p.i, p.c)) s → PreOk P ops base call pre sn →
    drawOps P call ops base s t h sn = some (T, hE) →
    ∃ es : List Ent, Chain h es hE ∧ (∀ e ∈ es, EntOk P ops base call T e) ∧ es.Pairwise (Cross P ops base T) ∧ (∀ p ∈ pre, ∀ e ∈ es, Cross P ops base T p e) ∧
      (∀ a e b, es = a ++ e :: b → ∀ d ∈ deps e.o, ∃ p ∈ pre ++ a, p.i = d) ∧ pre.length + es.length = ops.size ∧ T.length = t.length ∧ (∀ x, (∀ e ∈ es, e.o.dst ≠ some x) → nth T x = nth t x)
  | [], t, h, sn, pre, hs, hp, hh => by
    simp only [drawOps, Option.some.injEq, Prod.mk.injEq] at hh
    obtain ⟨rfl, rfl⟩ := hh
    cases hs with
    | nil hlen => exact ⟨[], .nil _, by simp, .nil, by simp, by simp, by simpa using hlen, rfl, fun _ _ => rfl⟩
  | (i, c, af, bf) :: rest, t, h, sn, pre, hs, hp, hh => by
    cases hs with
    | cons ho hn hd hl hpair ht hr =>
    rename_i o
    simp only [drawOps, ho] at hh
    have hne : ∀ p ∈ pre, p.i ≠ i := fun p hm => hn _ (List.mem_map.2 ⟨p, hm, rfl⟩)
    have hdeps : ∀ d ∈ deps o, ∃ q ∈ pre, q.i = d := fun d hm => by
      obtain ⟨s, a, b⟩ := hd d hm
      obtain ⟨q, c, rfl⟩ := List.mem_map.1 a
      exact ⟨q, c, b⟩
    have hclo : ∀ j o', (∃ q ∈ pre, q.i = j) → ops[j]? = some o' → ∀ d ∈ deps o', ∃ q ∈ pre, q.i = d := fun j o' ⟨q, a, b⟩ ho' d hd' => by
      have := hp.op q a
      rw [b, ho'] at this
      cases this
      exact hp.clo q a d hd'
    have bclo : ∀ j, Before ops j i → ∃ q ∈ pre, q.i = j := fun j hb => by
      have key : ∀ (a j' : Nat), Before ops a j' → j' = i → ∃ q ∈ pre, q.i = a := by
        intro a j' hb
        induction hb with
        | one ho' hd' => intro e; subst e; rw [ho] at ho'; cases ho'; exact hdeps _ hd'
        | trans h1 h2 ih1 ih2 => intro e; exact before_closed h1 hclo (ih2 e)
      exact key _ _ hb rfl
    have bpre : ∀ (p : Ent), p ∈ pre → ∀ j, Before ops j p.i → ∃ q ∈ pre, q.i = j := fun p hm j hb => before_closed hb hclo ⟨p, hm, rfl⟩
    cases hdone : doneB ops o t with
    | none => rw [hdone] at hh; cases hh
    | some dn =>
      rw [hdone] at hh
      -- what both ways share
      have main : ∀ (v : AV) (h' : Heap) (sn' : List (Nat × Heap)), drawOps P call ops base rest (putT t o.dst v) h' sn' = some (T, hE) → (dn = true → heapAt i sn' = some h) → (∀ p ∈ pre, p.done = true → heapAt p.i sn' = some p.h0) →
          (∀ p ∈ pre, p.done = true → dn = true → (p.i ∈ af → again P ops (putT t o.dst v) h' base p.i = true) ∧ (p.i ∈ bf → again P ops (putT t o.dst v) p.h0 base i = true)) →
          (dn = true → drawOne P call c o t h (base + i) = some (v, h')) → (dn = false → h' = h ∧ v = .tup []) →
          ∃ es : List Ent, Chain h es hE ∧ (∀ e ∈ es, EntOk P ops base call T e) ∧ es.Pairwise (Cross P ops base T) ∧ (∀ p ∈ pre, ∀ e ∈ es, Cross P ops base T p e) ∧
            (∀ a e b, es = a ++ e :: b → ∀ d ∈ deps e.o, ∃ p ∈ pre ++ a, p.i = d) ∧ pre.length + es.length = ops.size ∧ T.length = t.length ∧ (∀ x, (∀ e ∈ es, e.o.dst ≠ some x) → nth T x = nth t x) := by
        intro v h' sn' hrun hsn hsnp hchk hev hsk
        let e : Ent := ⟨i, c, af, bf, o, dn, v, h, h'⟩
        have hpre' : PreOk P ops base call (e :: pre) sn' := by
          refine ⟨fun p hm => ?_, fun p hm => ?_, fun p hm d hd' => ?_, fun p hm hdn => ?_⟩ <;> rcases List.mem_cons.1 hm with eq | hm'
          · subst eq; exact ho
          · exact hp.op p hm'
          · subst eq; exact hl
          · exact hp.look p hm'
          · subst eq; obtain ⟨q, a, b⟩ := hdeps d hd'; exact ⟨q, List.mem_cons_of_mem _ a, b⟩
          · obtain ⟨q, a, b⟩ := hp.clo p hm' d hd'; exact ⟨q, List.mem_cons_of_mem _ a, b⟩
          · subst eq; exact hsn hdn
          · exact hsnp p hm' hdn
        obtain ⟨es, f1, f2, f3, f4, f5, f6, f7, f8⟩ := canon rest (putT t o.dst v) h' sn' (e :: pre) (by simpa [e] using hr) hpre' hrun
        have hlater : ∀ x, (∃ q : Nat, (q = i ∨ ∃ p ∈ pre, p.i = q) ∧ ∀ j, dstOf ops j = some x → Before ops j q) → ∀ e' ∈ es, e'.o.dst ≠ some x := fun x ⟨q, hq, hb⟩ e' he' hx => by
          have h1 : dstOf ops e'.i = some x := by unfold dstOf; rw [(f2 e' he').op]; exact hx
          have h2 : ∃ p ∈ pre, p.i = e'.i := by
            rcases hq with rfl | ⟨p, a, rfl⟩
            · exact bclo _ (hb _ h1)
            · exact bpre p a _ (hb _ h1)
          obtain ⟨p, a, b⟩ := h2
          exact (f4 p (List.mem_cons_of_mem _ a) e' he').ne b
        have hself : ∀ x ∈ o.looksAt ops, o.dst ≠ some x := fun x hx hdx => by
          obtain ⟨p, a, b⟩ := bclo i (hl x hx i (by unfold dstOf; rw [ho]; exact hdx))
          exact hne p a b
        have hlookE : ∀ x ∈ o.looksAt ops, nth t x = nth T x := fun x hx => by
          rw [f8 x (hlater x ⟨i, .inl rfl, hl x hx⟩), nth_putT_ne (hself x hx)]
        have hlookE' : ∀ x ∈ o.looksAt ops, nth (putT t o.dst v) x = nth T x := fun x hx => by
          rw [f8 x (hlater x ⟨i, .inl rfl, hl x hx⟩)]
        have hdstE : ∀ d, o.dst = some d → nth (putT t o.dst v) d = nth T d := fun d hd' => by
          rw [f8 d (fun e' he' hx => (f4 e List.mem_cons_self e' he').dst d hd' hx)]
        have hlookP : ∀ p ∈ pre, ∀ x ∈ p.o.looksAt ops, nth (putT t o.dst v) x = nth T x := fun p hm x hx => by
          rw [f8 x (hlater x ⟨p.i, .inr ⟨p, hm, rfl⟩, hp.look p hm x hx⟩)]
        have hdstP : ∀ p ∈ pre, ∀ d, p.o.dst = some d → nth (putT t o.dst v) d = nth T d := fun p hm d hd' => by
          rw [f8 d (fun e' he' hx => (f4 p (List.mem_cons_of_mem _ hm) e' he').dst d hd' hx)]
        have hEok : EntOk P ops base call T e := by
          refine ⟨ho, hl, ?_, fun d hd' => ?_, fun hdn => ?_, fun hdn => hsk hdn⟩
          · show doneB ops o T = some dn
            rw [← doneB_congr hlookE]; exact hdone
          · rw [← hdstE d hd']; exact nth_putT_same hd'
          · show drawOne P call c o T h (base + i) = some (v, h')
            rw [← drawOne_congr (ev_congr hlookE)]; exact hev hdn
        have hCr : ∀ p ∈ pre, Cross P ops base T p e := fun p hm => by
          refine ⟨hne p hm, hpair _ (List.mem_map.2 ⟨p, hm, rfl⟩), fun d hd' => ht _ (List.mem_map.2 ⟨p, hm, rfl⟩) d ?_, fun a b hm' => ?_, fun a b hm' => ?_⟩
          · show dstOf ops p.i = some d
            unfold dstOf; rw [hp.op p hm]; exact hd'
          · rw [← again_congr (hp.op p hm) (hlookP p hm) (hdstP p hm)]; exact (hchk p hm a b).1 hm'
          · rw [← again_congr ho hlookE' hdstE]; exact (hchk p hm a b).2 hm'
        refine ⟨e :: es, (Chain.cons (e := e) f1 : Chain e.h0 (e :: es) hE), fun e' he' => ?_, List.pairwise_cons.2 ⟨fun e' he' => f4 e List.mem_cons_self e' he', f3⟩, fun p hm e' he' => ?_, fun a e' b heq d hd' => ?_, ?_, ?_, fun x hx => ?_⟩
        · rcases List.mem_cons.1 he' with eq | hm
          · subst eq; exact hEok
          · exact f2 e' hm
        · rcases List.mem_cons.1 he' with eq | hm'
          · subst eq; exact hCr p hm
          · exact f4 p (List.mem_cons_of_mem _ hm) e' hm'
        · cases a with
          | nil =>
            simp only [List.nil_append, List.cons.injEq] at heq
            obtain ⟨rfl, _⟩ := heq
            obtain ⟨q, x, y⟩ := hdeps d hd'
            exact ⟨q, by simpa using x, y⟩
          | cons a0 a =>
            simp only [List.cons_append, List.cons.injEq] at heq
            obtain ⟨rfl, heq⟩ := heq
            obtain ⟨q, x, y⟩ := f5 a e' b heq d hd'
            refine ⟨q, ?_, y⟩
            simp only [List.cons_append, List.mem_cons, List.mem_append] at x ⊢
            rcases x with x | x | x
            · exact .inr (.inl x)
            · exact .inl x
            · exact .inr (.inr x)
        · simp only [List.length_cons] at f6 ⊢; omega
        · rw [f7]; cases o.dst <;> simp [putT, setL_eq]
        · rw [f8 x fun e' he' => hx e' (List.mem_cons_of_mem _ he'), nth_putT_ne (hx e List.mem_cons_self)]
      cases dn with
      | false =>
        simp only at hh
        exact main _ _ _ hh (fun x => by cases x) hp.sn (fun _ _ _ x => by cases x) (fun x => by cases x) (fun _ => ⟨rfl, rfl⟩)
      | true =>
        simp only at hh
        split at hh
        · cases hh
        · rename_i v h' hone
          cases hg : againAll P ops (putT t o.dst v) h' base af && againEach P ops (putT t o.dst v) base i sn bf with
          | false => rw [hg] at hh; cases hh
          | true =>
            rw [hg] at hh
            simp only [Bool.and_eq_true] at hg
            refine main v h' _ hh (fun _ => by simp [heapAt]) (fun p hm hdn => ?_) (fun p hm hdn _ => ⟨fun hm' => againAll_mem hg.1 _ hm', fun hm' => againEach_mem hg.2 hm' (hp.sn p hm hdn)⟩) (fun _ => hone) (fun x => by cases x)
            have : Nat.beq p.i i = false := by
              cases hb : Nat.beq p.i i with
              | false => rfl
              | true => exact absurd (Nat.eq_of_beq_eq_true hb) (hne p hm)
            simp only [heapAt, this, cond_false]
            exact hp.sn p hm hdn
end Go.Ev
