/- A region whose order is drawn, fourth part: all of it. -/
import Derived.Test.YthlmbnhelkbchaaEvS
namespace Go.Ev
variable {P : Program} {ops opsF : Array Oper} {base : Nat} {call : CallP} {T : List AV} {L : ALoop → Prop}

theorem countP_less {α : Type} {p q : α → Bool} : ∀ {l : List α}, (∀ x ∈ l, q x = true → p x = true) → ∀ {j : α}, j ∈ l → p j = true → q j = false → l.countP q < l.countP p
  | [], _, j, hj, _, _ => by cases hj
  | x :: l, h, j, hj, hp, hq => by
    have hm : l.countP q ≤ l.countP p := List.countP_mono_left fun y hy => h y (List.mem_cons_of_mem _ hy)
    rcases List.mem_cons.1 hj with e | e
    · subst e; simp only [List.countP_cons, hp, hq, if_true, Bool.false_eq_true, if_false]; omega
    · have := countP_less (fun y hy => h y (List.mem_cons_of_mem _ hy)) e hp hq
      have h1 := h x List.mem_cons_self
      simp only [List.countP_cons]
      cases hx : q x with
      | true => simp [h1 hx]; omega
      | false => simp; omega
def Lst (listed : Array Bool) (i : Nat) : Prop := listed.getD i false = true
theorem Lst.set {listed : Array Bool} {i : Nat} (hi : i < listed.size) : Lst (listed.setIfInBounds i true) = fun k => Lst listed k ∨ k = i := by
  funext k
  apply propext
  unfold Lst
  simp only [Array.getD_eq_getD_getElem?, Array.getElem?_setIfInBounds]
  by_cases h : i = k
  · subst h; simp [hi]
  · have : k ≠ i := fun e => h e.symm
    simp [h, this]
theorem mem_deps {o : Oper} {e : Edge} (he : e ∈ o.after) (hb : Region.binds .any e = true) : e.on ∈ deps o := by
  unfold deps
  exact List.mem_filterMap.2 ⟨e, by simpa using he, by simp [hb]⟩
theorem of_deps {o : Oper} {d : Nat} (hd : d ∈ deps o) : ∃ e ∈ o.after, Region.binds .any e = true ∧ e.on = d := by
  unfold deps at hd
  obtain ⟨e, a, b⟩ := List.mem_filterMap.1 hd
  cases hb : Region.binds .any e with
  | false => rw [hb] at b; cases b
  | true => rw [hb] at b; simp at b; exact ⟨e, by simpa using a, hb, b⟩

theorem before_ready {ops : Array Oper} {X : Nat → Prop} {i a : Nat} {o : Oper} (ho : ops[i]? = some o) (hd : ∀ d ∈ deps o, X d) (hclo : ∀ j o, X j → ops[j]? = some o → ∀ d ∈ deps o, X d) (hb : Before ops a i) : X a := by
  have key : ∀ (p q : Nat), Before ops p q → q = i → X p := by
    intro p q hb
    induction hb with
    | one h1 h2 => intro eq; subst eq; rw [ho] at h1; cases h1; exact hd _ h2
    | trans h1 h2 ih1 ih2 => intro eq; exact before_closed h1 hclo (ih2 eq)
  exact key _ _ hb rfl
theorem draw_all (hF : ∀ (i : Nat) (o : Oper), ops[i]? = some o → opsF[i]? = some o) (htl : ∀ (j : Nat) (o : Oper), ops.size ≤ j → opsF[j]? = some o → (∀ i, i < j → Before opsF i j) ∧ ∀ d ∈ deps o, d < j) (Hc : CallSim P L call) {Z : Zone} (hL : Z.L = L) {es : List Ent} {hE : Heap} (hok : ∀ e ∈ es, EntOk P ops base call T e) (hcr : es.Pairwise (Cross P ops base T))
    (hall : ∀ j, j < ops.size → ∃ e ∈ es, e.i = j) (hlin : ∀ a e b, es = a ++ e :: b → ∀ d ∈ deps e.o, ∃ p ∈ a, p.i = d) (b : Frame) (k : List Item) (cs : List Frame) :
    ∀ (fuel t : Nat) (listed : Array Bool) (A B : List Ent) (hA : Heap) (H : Nat → Option Blk) (ρ : Loc) (w : World) (a : Act), listed.size = opsF.size →
      (List.range opsF.size).countP (fun i => !listed.getD i false) ≤ fuel → (∀ j, Lst listed j → j < ops.size) → DInv P ops base T es A B hA hE (Lst listed) H ρ Z w a.tmps.toList → base ≤ hA.next →
      (∀ j o, Lst listed j → ops[j]? = some o → ∀ d ∈ deps o, Lst listed d) →
      ∃ a' w' ρ' A' B' hA' H' fuel' t' listed', Steps P (lone (b.atR a (.inRegion opsF (Region.linearise.go .any opsF fuel t listed []) :: k)) cs w) (lone (b.atR a' (.inRegion opsF (Region.linearise.go .any opsF fuel' t' listed' []) :: k)) cs w') ∧ a'.defers = a.defers ∧
        DInv P ops base T es A' B' hA' hE (Lst listed') H' ρ' Z w' a'.tmps.toList ∧ (∀ e ∈ es, Lst listed' e.i) ∧ Grows ρ ρ' ∧ (∀ c, c < base → ρ' c = ρ c) ∧ Low Z w w' ∧ hA.next ≤ hA'.next ∧
        listed'.size = opsF.size ∧ (List.range opsF.size).countP (fun i => !listed'.getD i false) ≤ fuel' ∧ (∀ j, Lst listed' j → j < ops.size) ∧ (∀ j o, Lst listed' j → ops[j]? = some o → ∀ d ∈ deps o, Lst listed' d) := by
  have hszF : ops.size ≤ opsF.size := by
    rcases Nat.lt_or_ge opsF.size ops.size with h | h
    · have := hF opsF.size ops[opsF.size] (Array.getElem?_eq_getElem h)
      simp at this
    · exact h
  have stop : ∀ (listed : Array Bool), Region.ready .any opsF listed = [] → listed.size = opsF.size → ∀ e ∈ es, Lst listed e.i := fun listed hr hsz => by
    have key : ∀ n, n ≤ es.length → ∀ p ∈ es.take n, Lst listed p.i := by
      intro n
      induction n with
      | zero => intro _ p hp; simp at hp
      | succ n ih =>
        intro hn p hp
        rw [List.take_succ_eq_append_getElem (by omega)] at hp
        rcases List.mem_append.1 hp with hp | hp
        · exact ih (by omega) p hp
        · simp at hp
          have hsplit : es = es.take n ++ es[n] :: es.drop (n + 1) := by
            rw [← List.drop_eq_getElem_cons (by omega), List.take_append_drop]
          have hd := hlin _ _ _ hsplit
          rw [← hp] at hd
          have hpe : p ∈ es := by rw [hp]; exact List.getElem_mem _
          cases hl : listed.getD p.i false with
          | true => exact hl
          | false =>
            exfalso
            have hi : p.i < ops.size := (Array.getElem?_eq_some_iff.1 (hok p hpe).op).1
            have hmem : p.i ∈ Region.ready .any opsF listed := by
              rw [mem_ready]
              refine ⟨?_, p.o, hF _ _ (hok p hpe).op, fun e he hb => ?_⟩
              · have h1 : p.i < listed.size := by omega
                simp only [Array.getD_eq_getD_getElem?, Array.getElem?_eq_getElem h1, Option.getD_some] at hl ⊢
                exact hl
              · obtain ⟨q, a, c⟩ := hd _ (mem_deps he hb)
                have := ih (by omega) q a
                rw [c] at this; exact this
            rw [hr] at hmem; cases hmem
    intro e he
    exact key es.length (Nat.le_refl _) e (by simpa using he)
  intro fuel
  induction fuel with
  | zero =>
    intro t listed A B hA H ρ w a hsz hcnt hmn D hb hclo
    refine ⟨a, w, ρ, A, B, hA, H, 0, t, listed, Steps.refl _ _, rfl, D, fun e he => ?_, Grows.refl _, fun _ _ => rfl, Low.refl _ _, Nat.le_refl _, hsz, hcnt, hmn, hclo⟩
    have hi : e.i < ops.size := (Array.getElem?_eq_some_iff.1 (hok e he).op).1
    have h0 := Nat.eq_zero_of_le_zero hcnt
    rw [List.countP_eq_zero] at h0
    have := h0 e.i (List.mem_range.2 (by omega))
    simpa [Lst] using this
  | succ fuel ih =>
    intro t listed A B hA H ρ w a hsz hcnt hmn D hb hclo
    have hgo : Region.linearise.go .any opsF (fuel + 1) t listed [] = match (Region.ready .any opsF listed)[t % (Region.ready .any opsF listed).length]? with
        | some i => Region.linearise.go .any opsF fuel (t / (Region.ready .any opsF listed).length) (listed.setIfInBounds i true) [i]
        | none => [].reverse := rfl
    cases hi : (Region.ready .any opsF listed)[t % (Region.ready .any opsF listed).length]? with
    | none =>
      have hnil : Region.ready .any opsF listed = [] := by
        cases hr : Region.ready .any opsF listed with
        | nil => rfl
        | cons x xs =>
          rw [hr] at hi
          have hlt : t % (x :: xs).length < (x :: xs).length := Nat.mod_lt _ (by simp)
          rw [List.getElem?_eq_getElem hlt] at hi; cases hi
      exact ⟨a, w, ρ, A, B, hA, H, fuel + 1, t, listed, Steps.refl _ _, rfl, D, stop listed hnil hsz, Grows.refl _, fun _ _ => rfl, Low.refl _ _, Nat.le_refl _, hsz, hcnt, hmn, hclo⟩
    | some i =>
      obtain ⟨hun, o, ho, hdeps⟩ := mem_ready.1 (List.mem_of_getElem? hi)
      have hltF : i < opsF.size := (Array.getElem?_eq_some_iff.1 ho).1
      rcases Nat.lt_or_ge i ops.size with hlt | hge
      · rw [hgo, hi]
        simp only
        rw [linearise_go_acc, List.reverse_singleton, List.singleton_append]
        obtain ⟨e, hm, rfl⟩ := hall i hlt
        have hoe : e.o = o := by have := hF _ _ (hok e hm).op; rw [ho] at this; cases this; rfl
        have hx : ¬ Lst listed e.i := fun h => by
          have h1 : e.i < listed.size := by omega
          unfold Lst at h
          simp only [Array.getD_eq_getD_getElem?, Array.getElem?_eq_getElem h1, Option.getD_some] at hun h
          rw [hun] at h; cases h
        have hdep : ∀ d ∈ deps e.o, Lst listed d := fun d hd => by
          rw [hoe] at hd
          obtain ⟨ed, x, y, rfl⟩ := of_deps hd
          exact hdeps ed x y
        obtain ⟨a', w', ρ', A', B', hA', H', s1, s2, s3, s4, s5, s6, s7⟩ := (draw_step hF Hc hL hok hcr D hclo hm hx hdep (Region.linearise.go .any opsF fuel (t / (Region.ready .any opsF listed).length) (listed.setIfInBounds e.i true) [])).out b k cs
        rw [← Lst.set (by omega)] at s3
        have hX : ∀ j, Lst (listed.setIfInBounds e.i true) j → Lst listed j ∨ j = e.i := fun j h => by rw [Lst.set (by omega)] at h; exact h
        have hX' : ∀ j, Lst listed j → Lst (listed.setIfInBounds e.i true) j := fun j h => by rw [Lst.set (by omega)]; exact .inl h
        obtain ⟨a2, w2, ρ2, A2, B2, hA2, H2, fuel2, t2, listed2, r1, r2, r3, r4, r5, r6, r7, r8, r9, r10, r11, r12⟩ := ih (t / (Region.ready .any opsF listed).length) (listed.setIfInBounds e.i true) A' B' hA' H' ρ' w' a' (by simp [hsz]) (by
            have := countP_less (p := fun i => !listed.getD i false) (q := fun i => !(listed.setIfInBounds e.i true).getD i false) (l := List.range opsF.size) (fun x _ hq => by
                cases hp : listed.getD x false with
                | false => rfl
                | true =>
                  have := hX' x hp
                  unfold Lst at this
                  simp only [this] at hq; cases hq) (j := e.i) (List.mem_range.2 hltF) (by
                cases hp : listed.getD e.i false with
                | false => rfl
                | true => exact absurd hp hx) (by
                have : Lst (listed.setIfInBounds e.i true) e.i := by rw [Lst.set (by omega)]; exact .inr rfl
                unfold Lst at this
                simp only [this, Bool.not_true])
            omega) (fun j hj => by
            rcases hX j hj with h | h
            · exact hmn j h
            · omega) s3 (Nat.le_trans hb s7) (fun j o' hj ho' d hd => by
            rcases hX j hj with h | h
            · exact hX' d (hclo j o' h ho' d hd)
            · subst h
              rw [(hok e hm).op] at ho'
              cases ho'
              exact hX' d (hdep d hd))
        exact ⟨a2, w2, ρ2, A2, B2, hA2, H2, fuel2, t2, listed2, s1.trans r1, r2.trans s2, r3, r4, s4.trans r5, fun c hc => (r6 c hc).trans (s5 c hc), s6.trans r7, Nat.le_trans s7 r8, r9, r10, r11, r12⟩
      · refine ⟨a, w, ρ, A, B, hA, H, fuel + 1, t, listed, Steps.refl _ _, rfl, D, fun e he => ?_, Grows.refl _, fun _ _ => rfl, Low.refl _ _, Nat.le_refl _, hsz, hcnt, hmn, hclo⟩
        have hei : e.i < ops.size := (Array.getElem?_eq_some_iff.1 (hok e he).op).1
        refine before_ready ho (fun d hd => ?_) (fun j o' hj ho' d hd => ?_) ((htl i o hge ho).1 e.i (by omega))
        · obtain ⟨ed, x, y, rfl⟩ := of_deps hd
          exact hdeps ed x y
        · have hlt' := hmn j hj
          have h2 := hF j _ (Array.getElem?_eq_getElem hlt')
          rw [ho'] at h2
          cases h2
          exact hclo j _ hj (Array.getElem?_eq_getElem hlt') d hd
/-- The operations behind the plan's come in order. -/
theorem tail_go (htl : ∀ (j : Nat) (o : Oper), ops.size ≤ j → opsF[j]? = some o → (∀ i, i < j → Before opsF i j) ∧ ∀ d ∈ deps o, d < j) : ∀ (fuel t : Nat) (listed : Array Bool) (j : Nat), ops.size ≤ j → j ≤ opsF.size → listed.size = opsF.size →
    (∀ i, i < j → Lst listed i) → (∀ i, j ≤ i → ¬ Lst listed i) → (∀ q o, Lst listed q → opsF[q]? = some o → ∀ d ∈ deps o, Lst listed d) → opsF.size - j ≤ fuel → Region.linearise.go .any opsF fuel t listed [] = List.range' j (opsF.size - j) := by
  intro fuel
  induction fuel with
  | zero =>
    intro t listed j h1 h2 hsz hl hn hcl hf
    have : opsF.size - j = 0 := by omega
    rw [this]; rfl
  | succ fuel ih =>
    intro t listed j h1 h2 hsz hl hn hcl hf
    have hgo : Region.linearise.go .any opsF (fuel + 1) t listed [] = match (Region.ready .any opsF listed)[t % (Region.ready .any opsF listed).length]? with
        | some i => Region.linearise.go .any opsF fuel (t / (Region.ready .any opsF listed).length) (listed.setIfInBounds i true) [i]
        | none => [].reverse := rfl
    have only : ∀ i ∈ Region.ready .any opsF listed, i = j ∧ j < opsF.size := fun i hi => by
      obtain ⟨hun, o, ho, hdeps⟩ := mem_ready.1 hi
      have hlt : i < opsF.size := (Array.getElem?_eq_some_iff.1 ho).1
      have hnl : ¬ Lst listed i := fun h => by
        have h1 : i < listed.size := by omega
        unfold Lst at h
        simp only [Array.getD_eq_getD_getElem?, Array.getElem?_eq_getElem h1, Option.getD_some] at hun h
        rw [hun] at h; cases h
      have hij : j ≤ i := by
        rcases Nat.lt_or_ge i j with h | h
        · exact absurd (hl i h) hnl
        · exact h
      rcases Nat.lt_or_ge j i with h | h
      · exfalso
        refine hn j (Nat.le_refl _) (before_ready ho (fun d hd => ?_) hcl ((htl i o (by omega) ho).1 j h))
        obtain ⟨ed, x, y, rfl⟩ := of_deps hd
        exact hdeps ed x y
      · exact ⟨by omega, by omega⟩
    rcases Nat.lt_or_ge j opsF.size with hj | hj
    · have hmem : j ∈ Region.ready .any opsF listed := by
        rw [mem_ready]
        refine ⟨?_, opsF[j], Array.getElem?_eq_getElem hj, fun e he hb => hl _ ((htl j _ h1 (Array.getElem?_eq_getElem hj)).2 _ (mem_deps he hb))⟩
        have h1 : j < listed.size := by omega
        have := hn j (Nat.le_refl _)
        unfold Lst at this
        simp only [Array.getD_eq_getD_getElem?, Array.getElem?_eq_getElem h1, Option.getD_some] at this ⊢
        simpa using this
      have hpos : 0 < (Region.ready .any opsF listed).length := List.length_pos_of_mem hmem
      have hlt := Nat.mod_lt t hpos
      have hget := List.getElem?_eq_getElem hlt
      have hx := (only _ (List.getElem_mem hlt)).1
      rw [hx] at hget
      rw [hgo, hget]
      simp only
      rw [linearise_go_acc, List.reverse_singleton, List.singleton_append]
      rw [ih _ _ (j + 1) (by omega) hj (by simp [hsz]) (fun i hi => by
          rw [Lst.set (by omega)]
          rcases Nat.lt_or_ge i j with h | h
          · exact .inl (hl i h)
          · exact .inr (by omega)) (fun i hi h => by
          rw [Lst.set (by omega)] at h
          rcases h with h | h
          · exact hn i (by omega) h
          · omega) (fun q o hq ho d hd => by
          rw [Lst.set (by omega)] at hq ⊢
          rcases hq with hq | hq
          · exact .inl (hcl q o hq ho d hd)
          · subst hq
            exact .inl (hl d ((htl _ o h1 ho).2 d hd))) (by omega)]
      rw [show opsF.size - j = (opsF.size - (j + 1)) + 1 by omega, List.range'_succ]
    · have hnil : Region.ready .any opsF listed = [] := by
        cases hr : Region.ready .any opsF listed with
        | nil => rfl
        | cons x xs => have := (only x (by rw [hr]; simp)).2; omega
      rw [hgo, hnil, show opsF.size - j = 0 by omega]; rfl
theorem nodup_le : ∀ {l m : List Nat}, l.Pairwise (· ≠ ·) → (∀ x ∈ l, x ∈ m) → l.length ≤ m.length
  | [], _, _, _ => Nat.zero_le _
  | x :: l, m, h, hs => by
    rw [List.pairwise_cons] at h
    have hx := hs x List.mem_cons_self
    have h1 := nodup_le (m := m.erase x) h.2 fun y hy => (List.mem_erase_of_ne (Ne.symm (h.1 y hy))).2 (hs y (List.mem_cons_of_mem _ hy))
    rw [List.length_erase_of_mem hx] at h1
    have : 0 < m.length := List.length_pos_of_mem hx
    simp only [List.length_cons]; omega
theorem nodup_all {n : Nat} {l : List Ent} (hp : l.Pairwise (fun a b => a.i ≠ b.i)) (hlt : ∀ e ∈ l, e.i < n) (hlen : l.length = n) (j : Nat) (hj : j < n) : ∃ e ∈ l, e.i = j := by
  rcases Classical.em (∃ e ∈ l, e.i = j) with h | h
  · exact h
  · exfalso
    have h1 : (j :: l.map (·.i)).Pairwise (· ≠ ·) := by
      rw [List.pairwise_cons, List.pairwise_map]
      refine ⟨fun x hx e => ?_, hp⟩
      obtain ⟨q, a, b⟩ := List.mem_map.1 hx
      exact h ⟨q, a, b.trans e.symm⟩
    have := nodup_le (m := List.range n) h1 fun x hx => by
      rcases List.mem_cons.1 hx with e | e
      · exact List.mem_range.2 (e ▸ hj)
      · obtain ⟨q, a, rfl⟩ := List.mem_map.1 e
        exact List.mem_range.2 (hlt q a)
    simp at this; omega

/-- A region whose order is drawn. -/
theorem draw_sim (Hc : CallSim P L call) (hfol : P.follows .mixedOrders = true) {Z : Zone} (hL : Z.L = L) {s : Sched} {t : List AV} {h hE : Heap} (hsok : regionOk opsF s = true)
    (hrun : drawOps P call (mainOps opsF s) h.next s t ⟨h.m, h.next + opsF.size⟩ [] = some (T, hE)) {ρ : Loc} {w : World} {a : Act} (hr : Rep ρ h Z w) (ht : RL ρ t a.tmps.toList) (b : Frame) (id : Nat) (k : List Item) (cs : List Frame) :
    ∃ a' w' ρ', Steps P (lone (b.atR a (.code (.region id opsF true) :: k)) cs w) (lone (b.atR a' (.inRegion opsF (List.range' s.length (opsF.size - s.length)) :: k)) cs w') ∧ a'.defers = a.defers ∧ RL ρ' T a'.tmps.toList ∧ Went ρ ρ' Z h.next hE w w' := by
  simp only [regionOk, Bool.and_eq_true] at hsok
  obtain ⟨hsok, htok⟩ := hsok
  have hS := drawOk_spec s [] hsok (by simp)
  have hF : ∀ (i : Nat) (o : Oper), (mainOps opsF s)[i]? = some o → opsF[i]? = some o := fun i o ho => mainOps_get ho
  obtain ⟨es, f1, f2, f3, _, f5, f6, f7, f8⟩ := canon s t ⟨h.m, h.next + opsF.size⟩ [] [] hS ⟨by simp, by simp, by simp, by simp⟩ hrun
  have hpw : es.Pairwise (fun a b => a.i ≠ b.i) := f3.imp fun h => h.ne
  have hlt : ∀ e ∈ es, e.i < (mainOps opsF s).size := fun e he => (Array.getElem?_eq_some_iff.1 (f2 e he).op).1
  have hlen : es.length = (mainOps opsF s).size := by simpa using f6
  have hmsz : (mainOps opsF s).size ≤ opsF.size := by simp [mainOps]; omega
  have hfresh : ∀ c, h.next ≤ c → ρ c = none := hr.fresh
  have hnone : ∀ e ∈ es, h.m (h.next + e.i) = none := fun e _ => by
    cases hc : h.m (h.next + e.i) with
    | none => rfl
    | some x => obtain ⟨p, x1, _⟩ := hr.blk _ x hc; rw [hfresh _ (by omega)] at x1; cases x1
  have hnl : ∀ i, ¬ Lst (Array.replicate opsF.size false) i := fun i hi => by
    unfold Lst at hi
    simp only [Array.getD_eq_getD_getElem?, Array.getElem?_replicate] at hi
    split at hi <;> cases hi
  have hD : DInv P (mainOps opsF s) h.next T es [] es ⟨h.m, h.next + opsF.size⟩ hE (Lst (Array.replicate opsF.size false)) h.m ρ Z { w with drawn := w.drawn + 1 } a.tmps.toList :=
    ⟨rfl, f1, fun e _ _ _ hx => hnl _ hx, .inl rfl, (hr.drew).next (Nat.le_add_right _ _), fun _ _ hx => hx, fun e _ _ _ hx => absurd hx (hnl _), hnone, fun e _ _ => hfresh _ (by omega), fun e _ _ => hfresh _ (by omega),
      fun e he y hy => (by rw [hnone e he] at hy; cases hy), fun e he => (by have := hlt e he; show h.next + e.i < h.next + opsF.size; omega), (by rw [f7, ht.len]),
      fun x hx => by
        have : nth T x = nth t x := f8 x fun e he hd => hnl e.i (hx e.i (by unfold dstOf; rw [(f2 e he).op]; exact hd))
        rw [this, nth_eq]; exact ht.getD x undef⟩
  have hslen : s.length = (mainOps opsF s).size := by
    have := hS
    have key : ∀ (seen : List (Nat × Cls)) (s' : Sched), SOk (mainOps opsF s) seen s' → seen.length + s'.length = (mainOps opsF s).size := by
      intro seen s' h
      induction h with
      | nil h => simpa using h
      | cons _ _ _ _ _ _ _ ih => simp only [List.length_cons] at ih ⊢; omega
    have := key _ _ hS
    simpa using this
  have htl : ∀ (j : Nat) (o : Oper), (mainOps opsF s).size ≤ j → opsF[j]? = some o → (∀ i, i < j → Before opsF i j) ∧ ∀ d ∈ deps o, d < j := fun j o hj ho => by
    have := tailOk_get (opsF := opsF) _ _ _ htok (fun i o hi => by
      rw [List.getElem?_drop] at hi; simpa using hi) (fun s' hs' a ha => Before.mono hF (seenOf_ok s [] (by simp) s' hs' a ha)) (j - s.length) o (by
      rw [List.getElem?_drop, show s.length + (j - s.length) = j by omega]; simpa using ho)
    rw [show s.length + (j - s.length) = j by omega] at this
    exact this
  obtain ⟨a', w', ρ', A', B', hA', H', fuel', t', listed', s1, s2, D, s4, s5, s6, s7, s8, s9, s10, s11, s12⟩ := draw_all hF htl Hc hL f2 f3 (nodup_all hpw hlt hlen) (fun a e b' he d hd => by simpa using f5 a e b' he d hd) b k cs opsF.size
    (w.tape w.drawn (.order b.fn id)) (Array.replicate opsF.size false) [] es _ _ ρ _ a (by simp) (by
      have := List.countP_le_length (p := fun i => !(Array.replicate opsF.size false).getD i false) (l := List.range opsF.size)
      simpa using this) (fun j hj => absurd hj (hnl j)) hD (Nat.le_add_right _ _) (fun j o hj => absurd hj (hnl j))
  have hgo : Region.linearise.go .any opsF fuel' t' listed' [] = List.range' s.length (opsF.size - s.length) := by
    rw [hslen]
    refine tail_go htl fuel' t' listed' _ (Nat.le_refl _) hmsz s9 (fun i hi => ?_) (fun i hi h => ?_) ?_ ?_
    · obtain ⟨e, x, rfl⟩ := nodup_all hpw hlt hlen i hi
      exact s4 e x
    · have := s11 i h; omega
    · intro q o hq ho d hd
      have hq' := s11 q hq
      have h2 := hF q _ (Array.getElem?_eq_getElem hq')
      rw [ho] at h2
      cases h2
      exact s12 q _ hq (Array.getElem?_eq_getElem hq') d hd
    · refine Nat.le_trans ?_ s10
      have : (List.range' (mainOps opsF s).size (opsF.size - (mainOps opsF s).size)).countP (fun i => !listed'.getD i false) ≤ (List.range opsF.size).countP (fun i => !listed'.getD i false) := by
        refine List.Sublist.countP_le ?_
        rw [List.range_eq_range', ← Nat.add_sub_of_le hmsz, show (mainOps opsF s).size + (opsF.size - (mainOps opsF s).size) - (mainOps opsF s).size = opsF.size - (mainOps opsF s).size by omega, ← List.range'_append_1]
        simp
      refine Nat.le_trans ?_ this
      rw [List.countP_eq_length.2 (fun i hi => ?_)]
      · simp
      · have h2 : ¬ Lst listed' i := fun h => by
          have := s11 i h
          have := (List.mem_range'_1.1 hi).1
          omega
        cases hc : listed'.getD i false with
        | true => exact absurd hc h2
        | false => rfl
  have hinB : ∀ e ∈ B', e ∈ es := fun e he => by rw [D.eq]; exact List.mem_append_right _ he
  obtain ⟨hF, g1, g2, g3, _⟩ := chain_le (P := P) (ops := mainOps opsF s) (base := h.next) (call := call) (T := T) (hE := hE) (H := H') B' (rest := []) (by simpa using D.chain) (fun e he => f2 e (hinB e he)) (fun e he ⟨x, y⟩ => D.bw e he x y (s4 e (hinB e he)))
    (fun e he hc hd x hx1 hx2 => D.ext e he hc hd (s4 e (hinB e he)) x hx1 hx2) D.le
  cases g1
  have hst : Steps P (lone (b.atR a (.code (.region id opsF true) :: k)) cs w) (lone (b.atR a' (.inRegion opsF (List.range' s.length (opsF.size - s.length)) :: k)) cs w') := by
    refine .head stepR_region_draw ?_
    simp only [Region.schedule, hfol, Bool.true_or, if_true]
    rw [← hgo]
    exact s1
  have hnx : h.next ≤ hE.next := by rw [g3]; exact Nat.le_trans (Nat.le_add_right _ _) s8
  refine ⟨a', w', ρ', hst, s2, ⟨D.len, fun i v v' h1 h2 => ?_⟩, s5, s6, hnx, ?_, ⟨s7.os, s7.tape, s7.output, s7.size, s7.block⟩⟩
  · have := D.tm i fun j hj => by
      obtain ⟨e, x, rfl⟩ := nodup_all hpw hlt hlen j (dstOf_lt hj)
      exact s4 e x
    rw [nth_eq] at this
    simpa [List.getD, h1, h2] using this
  · have := D.rep.sub (h' := hE) g2 (Nat.le_refl _)
    rw [show (⟨H', hA'.next⟩ : Heap).next = hE.next from g3.symm] at this
    exact this
end Go.Ev
