/- The evaluator's operations on memory: loads, stores, new blocks. -/
import Derived.Test.YthlmbnhelkbchaaEvF
import Derived.Laws.IdiomStrings
namespace Go.Ev
open Go.RowKit
section
variable {A : Type} {P : Program} {r : A} {ρ : Loc} {N : Zone} {n id : Nat} {h : Heap} {w : World}

/-- An operation on memory: the model's run answers what is told; the number 'id' alone may have got a place. -/
def SimM (P : Program) (ρ : Loc) (N : Zone) (n id : Nat) (h : Heap) (w : World) (s : Sem Value) (K : AV → Heap → Option A) (r : A) : Prop :=
  ∃ v h' v' w' ρ', K v h' = some r ∧ h'.next = h.next ∧ s.run P w = .ok v' w' ∧ GrowsS ρ ρ' ∧ (∀ b, b ≠ id → ρ' b = ρ b) ∧ Rep ρ' ⟨h'.m, n⟩ N w' ∧ R ρ' v v' ∧ Low N w w'
theorem SimV.mem {s : Sem Value} {K : AV → Heap → Option A} (hr : Rep ρ ⟨h.m, n⟩ N w) (hs : SimV P ρ s (fun v => K v h) r) : SimM P ρ N n id h w s K r := by
  obtain ⟨v, v', a, b, c⟩ := hs
  exact ⟨v, h, v', w, ρ, a, rfl, c w, GrowsS.refl _, fun _ _ => rfl, hr, b, Low.refl _ _⟩

theorem cell_of {w : World} {b i : Nat} {c : Array Value} {e : TypeId} {fz : Nat × Nat} (h : w.heap[b]? = some (.cells c e fz)) : w.cell? ⟨b, i, none⟩ = c[i]? := by
  simp [World.cell?, h]
theorem frozen_of {w : World} {b i : Nat} {c : Array Value} {e : TypeId} {fz : Nat × Nat} (h : w.heap[b]? = some (.cells c e fz)) : w.frozen? ⟨b, i, none⟩ = (decide (fz.1 ≤ i) && decide (i < fz.2)) := by
  obtain ⟨lo, hi⟩ := fz
  simp [World.frozen?, h]
/-- Cells that are told are there. -/
theorem cells_there {b o k : Nat} {wr : Bool} {vs : List AV} (hr : Rep ρ h N w) (hb : h.m b = some (.cells wr vs)) (hk : o + k ≤ vs.length) :
    ∃ p cs', ρ b = some p ∧ cs'.length = k ∧ RL ρ ((vs.drop o).take k) cs' ∧ ∀ j v, cs'[j]? = some v → w.cell? ⟨p.blk, p.off + o + j, none⟩ = some v := by
  obtain ⟨p, hp, c, e, fz, h1, h2, h3, h4, h5⟩ := hr.blk b _ hb
  refine ⟨p, (c.toList.drop (p.off + o)).take k, hp, ?_, ⟨?_, fun i v v' a b' => ?_⟩, fun j v hj => ?_⟩
  · have : c.toList.length = c.size := by simp
    simp only [List.length_take, List.length_drop, this]
    omega
  · have : c.toList.length = c.size := by simp
    simp only [List.length_take, List.length_drop, this]
    omega
  · simp only [List.getElem?_take, List.getElem?_drop] at a b'
    split at a
    · rename_i hi
      simp only [hi, if_true] at b'
      obtain ⟨u, hu, hR⟩ := h4 _ _ a
      have e1 : p.off + (o + i) = p.off + o + i := by omega
      rw [e1] at hu
      have b2 : c[p.off + o + i]? = some v' := by simpa using b'
      rw [hu] at b2; cases b2; exact hR
    · cases a
  · rw [cell_of h1]
    simp only [List.getElem?_take, List.getElem?_drop] at hj
    split at hj
    · simpa using hj
    · cases hj
theorem run_cells {o k : Nat} {p : Pl} {cs' : List Value} (hl : cs'.length = k) (hc : ∀ j v, cs'[j]? = some v → w.cell? ⟨p.blk, p.off + o + j, none⟩ = some v) :
    (loadCells ⟨p.blk, p.off + o, none⟩ k).run P w = .ok cs'.toArray w := by
  rw [← hl]
  exact run_loadCells_list w _ cs' fun j v hj => by rw [add_at]; exact hc j v hj
theorem ldN_some {p : Nat × Nat} {k : Nat} {K : List AV → Option A} (hh : ldN h p k K = some r) : ∃ wr vs, h.m p.1 = some (.cells wr vs) ∧ p.2 + k ≤ vs.length ∧ K ((vs.drop p.2).take k) = some r := by
  unfold ldN at hh
  split at hh
  · obtain ⟨h1, h2⟩ := guardK_some hh
    rw [lenA_eq] at h1
    rw [takeA_eq, dropA_eq] at h2
    exact ⟨_, _, by assumption, Nat.le_of_ble_eq_true h1, h2⟩
  · cases hh
theorem ld1_some {p : Nat × Nat} {K : AV → Option A} (hh : ld1 h p K = some r) : ∃ wr vs v, h.m p.1 = some (.cells wr vs) ∧ vs[p.2]? = some v ∧ K v = some r := by
  unfold ld1 at hh
  split at hh
  · rename_i wr vs hm
    obtain ⟨h1, h2⟩ := guardK_some hh
    rw [lenA_eq] at h1
    have h3 : p.2 < vs.length := Nat.le_of_ble_eq_true h1
    refine ⟨wr, vs, vs[p.2], by assumption, List.getElem?_eq_getElem h3, ?_⟩
    rw [nth_eq] at h2
    simpa [List.getD, List.getElem?_eq_getElem h3] using h2
  · cases hh
theorem sim_load {t : TypeId} {b o : Nat} {p : Pl} {K : AV → Option A} (hr : Rep ρ h N w) (hp : ρ b = some p) (hh : loadK P t h (b, o) K = some r) :
    ∃ v v', K v = some r ∧ R ρ v v' ∧ (loadVar t ⟨p.blk, p.off + o, none⟩).run P w = .ok v' w := by
  obtain ⟨d, hd, hk⟩ := tyK_some hh
  clear hh
  cases hg : isAggD d with
  | true =>
    simp only [hg, cond_true] at hk
    obtain ⟨i, h1, hk1⟩ := sizeK_some hk
    obtain ⟨wr, vs, h2, h3, hk2⟩ := ldN_some hk1
    obtain ⟨p', cs', e1, e2, e3, e4⟩ := cells_there hr h2 h3
    rw [hp] at e1; cases e1
    exact ⟨_, _, hk2, e3.agg, by simp [loadVar, run_agg hd, hg, run_size h1, run_cells e2 e4]⟩
  | false =>
    simp only [hg, cond_false] at hk
    obtain ⟨wr, vs, v, h2, h3, hk1⟩ := ld1_some hk
    have hk2 := asTy_some hk1
    obtain ⟨p', hp', c, e, fz, g1, g2, g3, g4, g5⟩ := hr.blk b _ h2
    rw [hp] at hp'; cases hp'
    obtain ⟨v', hv, hR⟩ := g4 _ _ h3
    refine ⟨v, v', hk2, hR, ?_⟩
    simp [loadVar, run_agg hd, hg, cell_of g1, hv]

theorem sim_loadF {t : TypeId} {cs : List AV} {o : Nat} {x' : Value} {K : AV → Option A} (hr : Rep ρ h N w) (hx : R ρ (.fp cs o) x') (hh : loadF P t cs o K = some r) :
    ∃ v v' a, K v = some r ∧ R ρ v v' ∧ x' = .pointer (some a) ∧ (loadVar t a).run P w = .ok v' w := by
  obtain ⟨b, q, o0, cs0, rfl, hf, hcs, hl⟩ := hx.fp_inv
  obtain ⟨d, hd, hk⟩ := tyK_some hh
  clear hh
  have part : ∀ k, o + k ≤ cs.length → ∃ cs', RL ρ ((cs.drop o).take k) cs' ∧ cs'.length = k ∧ ∀ j v, cs'[j]? = some v → w.cell? ⟨b, q + o0 + o + j, none⟩ = some v := fun k hk => by
    obtain ⟨cs', e1, e2, e3⟩ := frz_cells hr hf (o := o0 + o) (k := k) (by omega)
    refine ⟨cs', ?_, e2, fun j v hj => by rw [show q + o0 + o + j = q + (o0 + o) + j by omega]; exact e3 j v hj⟩
    have : (cs.drop o).take k = (cs0.drop (o0 + o)).take k := by
      rw [hcs]; exact take_drop_part _ _ _ _ _ hk
    rw [this]; exact e1
  cases hg : isAggD d with
  | true =>
    simp only [hg, cond_true] at hk
    obtain ⟨i, h1, hk1⟩ := sizeK_some hk
    obtain ⟨g0, hk1⟩ := guardK_some hk1
    have g0 := Nat.eq_of_beq_eq_true g0
    obtain ⟨g1, hk2⟩ := guardK_some hk1
    obtain ⟨g2, hk2⟩ := guardK_some hk2
    have g1 := Nat.le_of_ble_eq_true g1
    rw [lenA_eq] at g1
    obtain ⟨cs', e1, e2, e3⟩ := part i.size g1
    have hproj : ∀ (ds : List TypeDesc) (j : Nat), j + lenD ds ≤ i.size → isTs cs (o + j) ds = true → ∀ (q : Nat) v, (projTs cs (o + j) ds)[q]? = some v → ∃ v', cs'[j + q]? = some v' ∧ R ρ v v' := by
      intro ds
      induction ds with
      | nil => intro j _ _ q v hq; simp [projTs] at hq
      | cons d ds ih =>
        intro j hj ht q v hq
        simp only [isTs, Bool.and_eq_true] at ht
        simp only [lenD] at hj
        cases q with
        | zero =>
          simp only [projTs, List.getElem?_cons_zero, Option.some.injEq] at hq
          subst hq
          have g3 : ((cs.drop o).take i.size)[j]? = some cs[o + j] := by
            rw [List.getElem?_take, if_pos (by omega), List.getElem?_drop]
            simp [show o + j < cs.length by omega]
          obtain ⟨v', hv, hR⟩ := e1.get_some g3
          refine ⟨v', hv, R.proj ?_ ht.1⟩
          rw [nth_eq]; simp only [List.getD, List.getElem?_eq_getElem (show o + j < cs.length by omega), Option.getD_some]; exact hR
        | succ q =>
          simp only [projTs, List.getElem?_cons_succ] at hq
          have := ih (j + 1) (by omega) (by rw [show o + (j + 1) = o + j + 1 by omega]; exact ht.2) q v (by rw [show o + (j + 1) = o + j + 1 by omega]; exact hq)
          rw [show j + (q + 1) = j + 1 + q by omega]; exact this
    have hlenp : ∀ (ds : List TypeDesc) (j : Nat), (projTs cs j ds).length = lenD ds := by
      intro ds
      induction ds with
      | nil => intro j; rfl
      | cons d ds ih => intro j; simp [projTs, lenD, ih]
    refine ⟨_, .agg cs'.toArray, _, hk2, RL.agg ⟨by rw [hlenp, g0, e2], fun q v v' a b => ?_⟩, rfl, ?_⟩
    · obtain ⟨u, h5, h6⟩ := hproj (leafD P 8 t) 0 (by omega) (by simpa using g2) q v (by simpa using a)
      rw [Nat.zero_add] at h5
      rw [h5] at b; cases b; exact h6
    · have := run_cells (P := P) (w := w) (o := o) (p := ⟨b, q + o0, 0⟩) e2 (fun j v hj => e3 j v hj)
      simp [loadVar, run_agg hd, hg, run_size h1, this]
  | false =>
    simp only [hg, cond_false] at hk
    obtain ⟨g1, hk1⟩ := guardK_some hk
    obtain ⟨g3, hk2⟩ := guardK_some hk1
    rw [lenA_eq] at g1
    have g1 : o + 1 ≤ cs.length := Nat.le_of_ble_eq_true g1
    obtain ⟨cs', e1, e2, e3⟩ := part 1 g1
    have g2 : ((cs.drop o).take 1)[0]? = some cs[o] := by
      rw [List.getElem?_take, if_pos (by omega), List.getElem?_drop]
      simp [show o < cs.length by omega]
    obtain ⟨v', hv, hR⟩ := e1.get_some g2
    have e4 := e3 0 v' hv
    refine ⟨_, v', _, hk2, R.proj ?_ g3, rfl, ?_⟩
    · rw [nth_eq]; simp only [List.getD, List.getElem?_eq_getElem (show o < cs.length by omega), Option.getD_some]; exact hR
    · simp only [Nat.add_zero] at e4
      simp [loadVar, run_agg hd, hg, e4]

/-! ### Stores -/
theorem setCells_block (b : Nat) (e : TypeId) (fz : Nat × Nat) : ∀ (vs : List Value) (o : Nat) (c : Array Value) (w : World), w.heap[b]? = some (.cells c e fz) → o + vs.length ≤ c.size →
    ∃ c', (w.setCells b o vs).heap[b]? = some (.cells c' e fz) ∧ c'.size = c.size ∧ ∀ i : Nat, c'[i]? = if o ≤ i ∧ i < o + vs.length then vs[i - o]? else c[i]?
  | [], o, c, w, hb, _ => ⟨c, hb, rfl, fun i => by rw [if_neg (by simp only [List.length_nil]; omega)]⟩
  | v :: vs, o, c, w, hb, hl => by
    have h1 : (w.setCell ⟨b, o, none⟩ v).heap[b]? = some (.cells (c.setIfInBounds o v) e fz) := by
      simp [World.setCell, Array.getElem?_modify, hb]
    obtain ⟨c', g1, g2, g3⟩ := setCells_block b e fz vs (o + 1) (c.setIfInBounds o v) _ h1 (by simp only [List.length_cons, Array.size_setIfInBounds] at hl ⊢; omega)
    refine ⟨c', g1, by simpa using g2, fun i => ?_⟩
    rw [g3]
    simp only [List.length_cons] at hl ⊢
    by_cases e1 : o = i
    · subst e1
      rw [if_neg (by omega), if_pos (by omega)]
      have : o < c.size := by omega
      simp [this]
    · by_cases e2 : o + 1 ≤ i ∧ i < o + 1 + vs.length
      · rw [if_pos e2, if_pos (by omega)]
        rw [show i - o = (i - (o + 1)) + 1 by omega]; simp
      · rw [if_neg e2, if_neg (by omega)]
        simp [e1]
theorem setCells_other (b : Nat) : ∀ (vs : List Value) (o : Nat) (w : World) (k : Nat), k ≠ b → (w.setCells b o vs).heap[k]? = w.heap[k]?
  | [], _, _, _, _ => rfl
  | v :: vs, o, w, k, hk => by rw [World.setCells, setCells_other b vs (o + 1) _ k hk, Below.heap_setCell _ _ _ _ hk]
theorem setCells_same (b : Nat) : ∀ (vs : List Value) (o : Nat) (w : World), (w.setCells b o vs).os = w.os ∧ (w.setCells b o vs).tape = w.tape ∧ (w.setCells b o vs).output = w.output ∧ (w.setCells b o vs).heap.size = w.heap.size
  | [], _, _ => ⟨rfl, rfl, rfl, rfl⟩
  | v :: vs, o, w => by
    obtain ⟨a, b', c, d⟩ := setCells_same b vs (o + 1) (w.setCell ⟨b, o, none⟩ v)
    exact ⟨a, b', c, d.trans (by simp [World.setCell])⟩
/-- Cells are written. -/
theorem store_cells {b o : Nat} {p : Pl} {vs cs : List AV} {cs' : List Value} (hr : Rep ρ h N w) (hb : h.m b = some (.cells true vs)) (hp : ρ b = some p) (hl : o + cs.length ≤ vs.length)
    (hc : RL ρ cs cs') (h1 : ∀ v ∈ cs', v.oneCell' = true) :
    ∃ w', (storeCells ⟨p.blk, p.off + o, none⟩ cs').run P w = .ok () w' ∧ Rep ρ (h.put b (.cells true (splice vs o cs))) N w' ∧ Low N w w' := by
  obtain ⟨p', hp', c, e, fz, g1, g2, g3, g4, g5⟩ := hr.blk b _ hb
  rw [hp] at hp'; cases hp'
  obtain ⟨g6, g7⟩ := g5.1 rfl
  have hlen := hc.len
  refine ⟨w.setCells p.blk (p.off + o) cs', ?_, ?_, ?_⟩
  · have := run_storeCells_cells (P := P) p.blk (p.off + o) cs' 0 w (fun j hj => by rw [cell_of g1]; simp; omega)
      (fun j hj => by
        rw [frozen_of g1]
        have := g7 (p.off + o + 0 + j) (by omega) (by omega)
        cases ha : decide (fz.1 ≤ p.off + o + 0 + j) with
        | false => rfl
        | true =>
          cases hb : decide (p.off + o + 0 + j < fz.2) with
          | false => rfl
          | true => exact absurd ⟨of_decide_eq_true ha, of_decide_eq_true hb⟩ this) h1
    simpa using this
  · obtain ⟨c', k1, k2, k3⟩ := setCells_block p.blk e fz cs' (p.off + o) c w g1 (by omega)
    refine hr.write hb rfl hp (setCells_same _ _ _ _).2.2.2 (fun q hq => setCells_other _ _ _ _ _ hq) ⟨c', e, fz, k1, by omega, by rw [splice_length]; exact g3, fun i v hi => ?_, g5⟩
    rw [splice_get _ _ _ _ hl] at hi
    rw [k3]
    by_cases hin : o ≤ i ∧ i < o + cs.length
    · rw [if_pos hin] at hi
      rw [if_pos (by omega), show p.off + i - (p.off + o) = i - o by omega]
      exact hc.get_some hi
    · rw [if_neg hin] at hi
      rw [if_neg (by omega)]
      exact g4 i v hi
  · obtain ⟨a, b', c', d⟩ := setCells_same p.blk cs' (p.off + o) w
    exact ⟨a, b', c', by omega, fun k hk => setCells_other _ _ _ _ _ (fun e => g6 (e ▸ hk))⟩
theorem stN_some {p : Nat × Nat} {cs : List AV} {K : Heap → Option A} (hh : stN h p cs K = some r) : ∃ vs, h.m p.1 = some (.cells true vs) ∧ p.2 + cs.length ≤ vs.length ∧ K (h.put p.1 (.cells true (splice vs p.2 cs))) = some r := by
  unfold stN at hh
  split at hh
  · obtain ⟨h1, h2⟩ := guardK_some hh
    rw [lenA_eq, lenA_eq] at h1
    exact ⟨_, by assumption, Nat.le_of_ble_eq_true h1, h2⟩
  · cases hh
theorem cellsK_some {v : AV} {v' : Value} {K : List AV → Option A} (hv : R ρ v v') (hh : cellsK v K = some r) : ∃ cs cs', K cs = some r ∧ v'.cells = cs' ∧ RL ρ cs cs'.toList ∧ ∀ x ∈ cs'.toList, x.oneCell' = true := by
  unfold cellsK at hh
  split at hh
  · rename_i cs
    obtain ⟨h1, h2⟩ := guardK_some hh
    obtain ⟨cs', rfl, hc⟩ := hv.of_agg
    refine ⟨cs, cs'.toArray, h2, rfl, by simpa using hc, fun x hx => ?_⟩
    obtain ⟨i, hi⟩ := List.getElem?_of_mem hx
    have hi2 : cs'[i]? = some x := by simpa using hi
    have hlt : i < cs.length := by
      rw [hc.len]
      rcases Nat.lt_or_ge i cs'.length with h' | h'
      · exact h'
      · rw [List.getElem?_eq_none h'] at hi2; cases hi2
    rw [flatL_eq, List.all_eq_true] at h1
    exact (hc.get i _ x (List.getElem?_eq_getElem hlt) hi2).flat_one (h1 _ (List.getElem_mem hlt))
  · obtain ⟨h1, h2⟩ := guardK_some hh
    have h3 := hv.flat_one h1
    have h4 : v'.cells = #[v'] := by cases v' <;> first | rfl | (simp [Value.oneCell'] at h3)
    exact ⟨[v], #[v'], h2, h4, RL.cons hv (RL.nil ρ), fun x hx => by simp at hx; subst hx; exact h3⟩

/-! ### New blocks -/
theorem Low.push {N : Zone} {w : World} (hN : ∀ q, N.keep q → q < w.heap.size) (o : Obj) : Low N w { w with heap := w.heap.push o } :=
  ⟨rfl, rfl, rfl, by simp, fun k hk => by have := hN k hk; show (w.heap.push o)[k]? = _; rw [Array.getElem?_push, if_neg (by omega)]⟩
theorem push_get (w : World) (o : Obj) : ({ w with heap := w.heap.push o } : World).heap[w.heap.size]? = some o := by simp
/-- A new row of cells, of which the first are told. -/
theorem new_cells {vs : List AV} {c : Array Value} {e : TypeId} {fz : Nat × Nat} (hr : Rep ρ ⟨h.m, n⟩ N w) (hid : ρ id = none) (hlt : id < n) (hc : ∀ (i : Nat) v, vs[i]? = some v → ∃ v', c[i]? = some v' ∧ R ρ v v') (hl : vs.length ≤ c.size)
    (hfz : ∀ i, i < c.size → ¬ (fz.1 ≤ i ∧ i < fz.2)) :
    Rep (setLoc ρ id ⟨w.heap.size, 0, c.size⟩) ⟨(h.put id (.cells true vs)).m, n⟩ N { w with heap := w.heap.push (.cells c e fz) } := by
  have hg : Grows ρ (setLoc ρ id ⟨w.heap.size, 0, c.size⟩) := setLoc_grows hid
  refine Rep.new (h := ⟨h.m, n⟩) hr hid hlt (.cells c e fz) (.cells true vs) ⟨w.heap.size, 0, c.size⟩ rfl rfl ⟨c, e, fz, push_get _ _, by simp, hl, fun i v hi => ?_, ⟨fun _ => ⟨fun hk => absurd (hr.old _ hk) (Nat.lt_irrefl _), fun i _ hi => hfz i (by simpa using hi)⟩, fun hx => by cases hx⟩⟩
  obtain ⟨v', a, b⟩ := hc i v hi
  exact ⟨v', by simpa using a, b.grows hg⟩
theorem new_ptr {vs : List AV} {c : Array Value} {e : TypeId} {K : AV → Heap → Option A} {s : Sem Value} (hr : Rep ρ ⟨h.m, n⟩ N w) (hid : ρ id = none) (hlt : id < n) (hc : RL ρ vs c.toList)
    (hk : K (.ptr (some (id, 0))) (h.put id (.cells true vs)) = some r) (hs : s.run P w = .ok (.pointer (some ⟨w.heap.size, 0, none⟩)) { w with heap := w.heap.push (.cells c e) }) :
    SimM P ρ N n id h w s K r := by
  have hl : vs.length = c.size := by simpa using hc.len
  refine ⟨_, _, _, _, setLoc ρ id ⟨w.heap.size, 0, c.size⟩, hk, rfl, hs, setLoc_growsS hid, fun b hb => by simp [setLoc, hb], new_cells hr hid hlt (fun i v hi => ?_) (by omega) (by simp), ?_, Low.push hr.old _⟩
  · obtain ⟨v', a, b⟩ := hc.get_some hi
    exact ⟨v', by simpa using a, b⟩
  · have := R.ptr (ρ := setLoc ρ id ⟨w.heap.size, 0, c.size⟩) (b := id) (o := 0) (p := ⟨w.heap.size, 0, c.size⟩) (by simp [setLoc])
    simpa using this
theorem sim_alloc {t : TypeId} {K : AV → Heap → Option A} (hr : Rep ρ ⟨h.m, n⟩ N w) (hid : ρ id = none) (hlt : id < n)
    (hh : (zeroK P t fun zs => K (.ptr (some (id, 0))) (h.put id (.cells true zs))) = some r) : SimM P ρ N n id h w (Instr.alloc t true (.tuple #[])) K r := by
  obtain ⟨i, z, h1, h2, hk⟩ := zeroK_some hh
  refine new_ptr (c := z.cells) (e := t) hr hid hlt (RL.ofLits ρ z.cells.toList) hk ?_
  simp [Instr.alloc, run_zero h1 h2, newVar, newRow]
theorem sim_box {t : TypeId} {x : AV} {x' : Value} {K : AV → Heap → Option A} (hr : Rep ρ ⟨h.m, n⟩ N w) (hid : ρ id = none) (hlt : id < n) (hx : R ρ x x')
    (hh : (cellsK x fun cs => K (.ptr (some (id, 0))) (h.put id (.cells true cs))) = some r) : SimM P ρ N n id h w (Instr.box t x') K r := by
  obtain ⟨cs, cs', hk, hc, hl, _⟩ := cellsK_some hx hh
  refine new_ptr (c := cs') (e := t) hr hid hlt hl hk ?_
  simp [Instr.box, newVar, newRow, hc]

/-! ### Composite literals -/
theorem fold_cells (off : Nat) : ∀ (vs : List Value) (k : Nat) (cells : Array Value), off + k + vs.length ≤ cells.size →
    ((vs.zipIdx k).foldl (fun (cs : Array Value) (x : Value × Nat) => cs.setIfInBounds (off + x.2) x.1) cells).size = cells.size ∧
    ∀ i : Nat, ((vs.zipIdx k).foldl (fun (cs : Array Value) (x : Value × Nat) => cs.setIfInBounds (off + x.2) x.1) cells)[i]? = if off + k ≤ i ∧ i < off + k + vs.length then vs[i - (off + k)]? else cells[i]?
  | [], k, cells, _ => ⟨rfl, fun i => by rw [if_neg (by simp only [List.length_nil]; omega)]; rfl⟩
  | v :: vs, k, cells, hl => by
    simp only [List.length_cons] at hl
    obtain ⟨h1, h2⟩ := fold_cells off vs (k + 1) (cells.setIfInBounds (off + k) v) (by simp only [Array.size_setIfInBounds]; omega)
    simp only [List.zipIdx_cons, List.foldl_cons]
    refine ⟨by rw [h1]; simp, fun i => ?_⟩
    rw [h2]
    simp only [List.length_cons]
    by_cases e1 : off + k = i
    · subst e1
      rw [if_neg (by omega), if_pos (by omega)]
      have : off + k < cells.size := by omega
      simp [this]
    · by_cases e2 : off + (k + 1) ≤ i ∧ i < off + (k + 1) + vs.length
      · rw [if_pos e2, if_pos (by omega)]
        rw [show i - (off + k) = (i - (off + (k + 1))) + 1 by omega]; simp
      · rw [if_neg e2, if_neg (by omega)]
        simp [e1]
/-- The parts of a literal, each as it is told. -/
def Parts (ρ : Loc) : List (Nat × AV) → List (Nat × Value) → Prop
  | [], [] => True
  | x :: xs, y :: ys => x.1 = y.1 ∧ R ρ x.2 y.2 ∧ Parts ρ xs ys
  | _, _ => False
theorem Parts.map {e : Operand → AV} {e' : Operand → Value} (he : ∀ x, R ρ (e x) (e' x)) : ∀ l : List (Nat × Operand), Parts ρ (l.map fun p => (p.1, e p.2)) (l.map fun p => (p.1, e' p.2))
  | [] => trivial
  | _ :: xs => ⟨rfl, he _, Parts.map he xs⟩
theorem fill_some {place : Nat → Option (Nat × Nat)} : ∀ (parts : List (Nat × AV)) (parts' : List (Nat × Value)) (cs : List AV) (cs' : Array Value) (K : List AV → Option A), Parts ρ parts parts' → RL ρ cs cs'.toList →
    fillA place parts cs K = some r → ∃ ds ds', K ds = some r ∧ Instr.fill place cs' parts' = some ds' ∧ RL ρ ds ds'.toList
  | [], [], cs, cs', K, _, hc, hh => ⟨cs, cs', hh, rfl, hc⟩
  | (i, v) :: rest, (j, v') :: rest', cs, cs', K, hp, hc, hh => by
    obtain ⟨rfl, hv, hp⟩ := hp
    simp only [fillA] at hh
    split at hh
    · cases hh
    · rename_i off size hpl
      obtain ⟨vs, vs', hk, e1, hl, _⟩ := cellsK_some hv hh
      obtain ⟨h1, hk1⟩ := guardK_some hk
      obtain ⟨h2, hk2⟩ := guardK_some hk1
      rw [lenA_eq] at h1 h2
      rw [lenA_eq] at h2
      have h1 := Nat.eq_of_beq_eq_true h1
      have h2 := Nat.le_of_ble_eq_true h2
      have hlv := hl.len
      have hlc := hc.len
      simp only [Array.length_toList] at hlv hlc
      obtain ⟨f1, f2⟩ := fold_cells off vs'.toList 0 cs' (by simp only [Array.length_toList]; omega)
      simp only [Array.length_toList] at f2
      have hc' : RL ρ (splice cs off vs) ((vs'.toList.zipIdx 0).foldl (fun (cs : Array Value) (x : Value × Nat) => cs.setIfInBounds (off + x.2) x.1) cs').toList := by
        refine ⟨by rw [splice_length]; simp only [Array.length_toList]; omega, fun q x x' a b => ?_⟩
        rw [splice_get _ _ _ _ h2] at a
        rw [Array.getElem?_toList, f2] at b
        by_cases hin : off ≤ q ∧ q < off + vs.length
        · rw [if_pos hin] at a
          rw [if_pos (by omega)] at b
          exact hl.get _ _ _ a b
        · rw [if_neg hin] at a
          rw [if_neg (by omega)] at b
          exact hc.get _ _ _ a (by simpa using b)
      obtain ⟨ds, ds', a, b, c⟩ := fill_some rest rest' _ _ K hp hc' hk2
      refine ⟨ds, ds', a, ?_, c⟩
      have hn : ¬ (v'.cells.size ≠ size ∨ off + v'.cells.size > cs'.size) := by rw [e1]; omega
      have hn1 : v'.cells.size = size := by rw [e1]; omega
      have hn2 : ¬ (off + v'.cells.size > cs'.size) := by rw [e1]; omega
      simp only [Instr.fill, hpl, hn1, ne_eq, not_true_eq_false, decide_false, Bool.false_or, decide_eq_true_eq]
      rw [hn1] at hn2
      rw [if_neg hn2, e1]
      have : (vs'.zipIdx.foldl (fun (cs : Array Value) (x : Value × Nat) => cs.setIfInBounds (off + x.2) x.1) cs') = ((vs'.toList.zipIdx 0).foldl (fun (cs : Array Value) (x : Value × Nat) => cs.setIfInBounds (off + x.2) x.1) cs') := by
        rw [← Array.foldl_toList, Array.toList_zipIdx]
      rw [this]
      exact b
theorem places_some : ∀ (fs : List Field) (i : Nat), placesOf P fs i = (fs[i]?).bind fun f => (P.info? f.type).map fun x => (f.offset, x.size)
  | [], i => by simp [placesOf]
  | f :: fs, 0 => by simp [placesOf]; cases P.info? f.type <;> rfl
  | f :: fs, i + 1 => by simp [placesOf, places_some fs i]
end
end Go.Ev
