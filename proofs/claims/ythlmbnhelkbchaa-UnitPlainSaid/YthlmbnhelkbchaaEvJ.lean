/- append, copy, clear: the evaluator's answers are the model's. -/
import Derived.Test.YthlmbnhelkbchaaEvI
namespace Go.Ev
open Go.RowKit
section
variable {A : Type} {P : Program} {r : A} {ρ : Loc} {N : Zone} {n id : Nat} {h : Heap} {w : World}

theorem flat_cells {cs : List AV} {cs' : List Value} (hc : RL ρ cs cs') (hf : flatL cs = true) : ∀ v ∈ cs', v.oneCell' = true := by
  intro x hx
  obtain ⟨i, hi⟩ := List.getElem?_of_mem hx
  have hlt : i < cs.length := by
    rw [hc.len]
    rcases Nat.lt_or_ge i cs'.length with h' | h'
    · exact h'
    · rw [List.getElem?_eq_none h'] at hi; cases hi
  rw [flatL_eq, List.all_eq_true] at hf
  exact (hc.get i _ x (List.getElem?_eq_getElem hlt) hi).flat_one (hf _ (List.getElem_mem hlt))
/-- What is appended, in the model: the cells of a slice or a string, or so many zeros. -/
def Src (P : Program) (xt : TypeId) (i : TypeInfo) (z x' : Value) (k : Nat) (cs' : List Value) (w : World) : Prop :=
  (((∃ q, P.underlying xt = some (.slice q)) ∨ P.underlying xt = some .string) ∧ (∀ w, (Builtin.lenOf x').run P w = .ok k w) ∧ ∀ w' : World, w'.heap = w.heap → (Builtin.firstCells i.size k x').run P w' = .ok cs'.toArray w') ∨
  (∃ kk kk' l, P.underlying xt = some (.int kk) ∧ x' = .int kk' l ∧ IntKind.i64.wrap l = (k : Int) ∧ (if k * i.size = 0 then #[] else Builtin.zeroCells z.cells k) = cs'.toArray ∧ k * i.bytes ≤ limit)
theorem append_head {st et xt : TypeId} {i : TypeInfo} {z : Value} {x' : Value} {base : Option Addr} {len cap k : Nat} {cs' : List Value} {ty : TypeId} (hs : P.underlying st = some (.slice et))
    (hi : P.info? et = some i) (hz : i.zero = some z) (hx : Src P xt i z x' k cs' w) (hin : len + k ≤ cap) :
    (Builtin.append_ #[st, xt] ty #[.slice base len cap, x']).run P w = ((match base with | some a => storeCells (a.add (len * i.size)) cs' | none => pure () : Sem Unit).run P w).andThen fun _ w' => .ok (.slice base (len + k) cap) w' := by
  rcases hx with ⟨hxt, hlen, hcs⟩ | ⟨kk, kk', l, hd, rfl, hl, hcs, hb⟩
  · have hcs := hcs w rfl
    rcases hxt with ⟨q, hd⟩ | hd <;> cases base <;> simp [Builtin.append_, run_und hs, run_size hi, run_und hd, hlen, hin, hcs]
  · have hno : ¬ (281474976710656 < (k : Int) * (i.bytes : Int)) := by
      have e : ((k * i.bytes : Nat) : Int) = (k : Int) * (i.bytes : Int) := Int.natCast_mul _ _
      rw [← e]
      unfold limit at hb
      omega
    have hnn : ¬ ((k : Int) < 0) := by omega
    by_cases h0 : k * i.size = 0
    · rw [if_pos h0] at hcs
      have hcs' : cs' = [] := by simpa using hcs.symm
      subst hcs'
      cases base <;> simp [Builtin.append_, run_und hs, run_size hi, run_und hd, Go.asInt, Go.asIntOf, hl, hnn, run_info hi, hno, hin, h0, storeCells]
    · rw [if_neg h0] at hcs
      cases base <;> simp [Builtin.append_, run_und hs, run_size hi, run_und hd, Go.asInt, Go.asIntOf, hl, hnn, run_info hi, hno, hin, h0, run_zero hi hz, hcs]
theorem append_grow {st et xt : TypeId} {i : TypeInfo} {z : Value} {x' : Value} {base : Option Addr} {len cap k : Nat} {cs' old : List Value} {ty : TypeId} (hs : P.underlying st = some (.slice et))
    (hi : P.info? et = some i) (hz : i.zero = some z) (hx : Src P xt i z x' k cs' w) (hin : ¬ (len + k ≤ cap))
    (hold : (Builtin.firstCells i.size len (.slice base len cap)).run P w.drew = .ok old.toArray w.drew) (hb1 : (len + k) * i.bytes ≤ limit) (hb2 : len + k ≤ limit) :
    ∃ newCap, len + k ≤ newCap ∧ (Builtin.append_ #[st, xt] ty #[.slice base len cap, x']).run P w = .ok (.slice (some ⟨w.heap.size, 0, none⟩) (len + k) newCap)
      (w.drew.alloc (.cells (old.toArray ++ cs'.toArray ++ Builtin.zeroCells z.cells (newCap - (len + k))) et)) := by
  have hno : ¬ (281474976710656 < Builtin.nextslicecap (len + k) cap * i.bytes) := by
    have := growslice_fits (by omega : cap < len + k) hb1
    omega
  have hno2 : ¬ (9223372036854775807 < ((len : Int) + (k : Int))) := by
    unfold limit at hb2
    omega
  refine ⟨grownCap w (len + k) cap et, by simp [grownCap, Question.cut], ?_⟩
  rcases hx with ⟨hxt, hlen, hcs⟩ | ⟨kk, kk', l, hd, rfl, hl, hcs, hb⟩
  · have hcs := hcs w.drew rfl
    rcases hxt with ⟨q, hd⟩ | hd
    · simp [Builtin.append_, run_und hs, run_size hi, run_und hd, hlen, hin, run_info hi, hno, hno2, Question.forced, run_zero hi hz, newRow, hcs, hold, grownCap]
      congr 2
      apply Array.ext'
      simp [List.append_assoc]
    · simp [Builtin.append_, run_und hs, run_size hi, run_und hd, hlen, hin, run_info hi, hno, hno2, Question.forced, run_zero hi hz, newRow, hcs, hold, grownCap]
      congr 2
      apply Array.ext'
      simp [List.append_assoc]
  · have hno3 : ¬ (281474976710656 < (k : Int) * (i.bytes : Int)) := by
      have e : ((k * i.bytes : Nat) : Int) = (k : Int) * (i.bytes : Int) := Int.natCast_mul _ _
      rw [← e]
      unfold limit at hb
      omega
    have hnn : ¬ ((k : Int) < 0) := by omega
    by_cases h0 : k * i.size = 0
    · rw [if_pos h0] at hcs
      have hcs' : cs' = [] := by simpa using hcs.symm
      subst hcs'
      simp [Builtin.append_, run_und hs, run_size hi, run_und hd, Go.asInt, Go.asIntOf, hl, hnn, hno3, h0, hin, run_info hi, hno, hno2, Question.forced, run_zero hi hz, newRow, hold, grownCap]
      try (congr 2; apply Array.ext'; simp [List.append_assoc])
    · rw [if_neg h0] at hcs
      simp [Builtin.append_, run_und hs, run_size hi, run_und hd, Go.asInt, Go.asIntOf, hl, hnn, hno3, h0, hin, run_info hi, hno, hno2, Question.forced, run_zero hi hz, newRow, hcs, hold, grownCap]
      try (congr 2; apply Array.ext'; simp [List.append_assoc])
theorem beq_false {a b : Nat} (h : a ≠ b) : Nat.beq a b = false := by
  cases hb : Nat.beq a b with
  | false => rfl
  | true => exact absurd (Nat.eq_of_beq_eq_true hb) h
theorem beq_iff' {a b : Nat} : Nat.beq a b = true ↔ a = b := ⟨Nat.eq_of_beq_eq_true, fun h => by subst h; simp⟩
/-- A row is written on behind what is told of it, and goes by another number from then on. -/
theorem take_over {b o : Nat} {p : Pl} {vs old new : List AV} {new' : List Value} (hr : Rep ρ ⟨h.m, n⟩ N w) (hb : h.m b = some (.cells true vs)) (hp : ρ b = some p) (hid : ρ id = none) (hlt : id < n)
    (hold : ∀ i v, old[i]? = some v → vs[o + i]? = some v) (hfit : o + old.length + new.length ≤ p.ext) (hn : RL ρ new new') (h1 : ∀ v ∈ new', v.oneCell' = true) :
    ∃ w', (storeCells ⟨p.blk, p.off + (o + old.length), none⟩ new').run P w = .ok () w' ∧
      Rep (setLoc ρ id ⟨p.blk, p.off + o, p.ext - o⟩) ⟨((h.kill b).put id (.cells true (old ++ new))).m, n⟩ N w' ∧ Low N w w' := by
  obtain ⟨p', hp', c, e, fz, g1, g2, g3, g4, g5⟩ := hr.blk b _ hb
  rw [hp] at hp'; cases hp'
  obtain ⟨g6, g7⟩ := g5.1 rfl
  have hlen := hn.len
  have hg : Grows ρ (setLoc ρ id ⟨p.blk, p.off + o, p.ext - o⟩) := setLoc_grows hid
  have hbid : b ≠ id := fun x => by rw [x, hid] at hp; cases hp
  obtain ⟨c', k1, k2, k3⟩ := setCells_block p.blk e fz new' (p.off + (o + old.length)) c w g1 (by omega)
  refine ⟨w.setCells p.blk (p.off + (o + old.length)) new', ?_, ⟨fun x y hx => ?_, fun x x' y y' q q' hx hx' hne hy hq hq' => ?_, ?_, fun x hx => ?_, fun x xo xs hf => ?_⟩, ?_⟩
  · have := run_storeCells_cells (P := P) p.blk (p.off + (o + old.length)) new' 0 w (fun j hj => by rw [cell_of g1]; simp; omega)
      (fun j hj => by
        rw [frozen_of g1]
        have := g7 (p.off + (o + old.length) + 0 + j) (by omega) (by omega)
        cases ha : decide (fz.1 ≤ p.off + (o + old.length) + 0 + j) with
        | false => rfl
        | true =>
          cases hb : decide (p.off + (o + old.length) + 0 + j < fz.2) with
          | false => rfl
          | true => exact absurd ⟨of_decide_eq_true ha, of_decide_eq_true hb⟩ this) h1
    simpa using this
  · have hx2 : (if x = id then some (Blk.cells true (old ++ new)) else (h.kill b).m x) = some y := by rw [← Heap.put_m]; exact hx
    by_cases ex : x = id
    · rw [if_pos ex] at hx2; cases hx2
      refine ⟨⟨p.blk, p.off + o, p.ext - o⟩, by simp [setLoc, ex], c', e, fz, k1, by simp only; omega, by simp only [List.length_append]; omega, fun i v hi => ?_, ⟨fun _ => ⟨g6, fun i h0 h1 => g7 i (by simp only at h0; omega) (by simp only at h1; omega)⟩, fun hx => by cases hx⟩⟩
      simp only
      rw [k3]
      by_cases hi2 : i < old.length
      · rw [List.getElem?_append_left hi2] at hi
        rw [if_neg (by omega)]
        obtain ⟨v', a, b'⟩ := g4 (o + i) v (hold i v hi)
        exact ⟨v', by rw [show p.off + o + i = p.off + (o + i) by omega]; exact a, b'.grows hg⟩
      · rw [List.getElem?_append_right (by omega)] at hi
        obtain ⟨v', a, b'⟩ := hn.get_some hi
        have : i - old.length < new'.length := by
          rcases Nat.lt_or_ge (i - old.length) new'.length with h' | h'
          · exact h'
          · rw [List.getElem?_eq_none h'] at a; cases a
        rw [if_pos (by omega)]
        exact ⟨v', by rw [show p.off + o + i - (p.off + (o + old.length)) = i - old.length by omega]; exact a, b'.grows hg⟩
    · rw [if_neg ex, Heap.kill_m] at hx2
      by_cases exb : x = b
      · rw [if_pos exb] at hx2; cases hx2
      · rw [if_neg exb] at hx2
        obtain ⟨q, a, b'⟩ := hr.blk x y hx2
        exact ⟨q, hg _ _ a, b'.keep hg (setCells_other _ _ _ _ _ (fun eq => hr.inj b x _ y p q hb hx2 (Ne.symm exb) rfl hp a eq.symm))⟩
  · have hx2 : (if x = id then some (Blk.cells true (old ++ new)) else (h.kill b).m x) = some y := by rw [← Heap.put_m]; exact hx
    have hx2' : (if x' = id then some (Blk.cells true (old ++ new)) else (h.kill b).m x') = some y' := by rw [← Heap.put_m]; exact hx'
    by_cases ex : x = id
    · have ex' : x' ≠ id := fun z => hne (ex.trans z.symm)
      rw [if_neg ex', Heap.kill_m] at hx2'
      by_cases exb : x' = b
      · rw [if_pos exb] at hx2'; cases hx2'
      · rw [if_neg exb] at hx2'
        simp only [setLoc, if_pos ex, Option.some.injEq] at hq
        simp only [setLoc, if_neg ex'] at hq'
        subst hq
        exact hr.inj b x' _ y' p q' hb hx2' (Ne.symm exb) rfl hp hq'
    · rw [if_neg ex, Heap.kill_m] at hx2
      by_cases exb : x = b
      · rw [if_pos exb] at hx2; cases hx2
      · rw [if_neg exb] at hx2
        simp only [setLoc, if_neg ex] at hq
        by_cases ex' : x' = id
        · simp only [setLoc, if_pos ex', Option.some.injEq] at hq'
          subst hq'
          exact hr.inj x b y _ q p hx2 hb exb hy hq hp
        · rw [if_neg ex', Heap.kill_m] at hx2'
          by_cases exb' : x' = b
          · rw [if_pos exb'] at hx2'; cases hx2'
          · rw [if_neg exb'] at hx2'
            simp only [setLoc, if_neg ex'] at hq'
            exact hr.inj x x' y y' q q' hx2 hx2' hne hy hq hq'
  · rw [(setCells_same _ _ _ _).2.2.2]; exact hr.old
  · have hx' : n ≤ x := hx
    simp only [setLoc]
    rw [if_neg (by omega)]
    exact hr.fresh x hx'
  · obtain ⟨f1, f2, f3⟩ := hr.frz x xo xs hf
    have hbx := f2 b _ p hb rfl hp
    refine ⟨f1.keep hg (setCells_other _ _ _ _ _ (fun e => hbx e.symm)), fun c y q hc hy hq => ?_, f3⟩
    have hc2 : (if c = id then some (Blk.cells true (old ++ new)) else (h.kill b).m c) = some y := by rw [← Heap.put_m]; exact hc
    by_cases ex : c = id
    · simp only [setLoc, if_pos ex, Option.some.injEq] at hq
      subst hq
      exact hbx
    · rw [if_neg ex, Heap.kill_m] at hc2
      simp only [setLoc, if_neg ex] at hq
      by_cases exb : c = b
      · rw [if_pos exb] at hc2; cases hc2
      · rw [if_neg exb] at hc2
        exact f2 c y q hc2 hy hq
  · obtain ⟨a, b', c', d⟩ := setCells_same p.blk new' (p.off + (o + old.length)) w
    exact ⟨a, b', c', by omega, fun k hk => setCells_other _ _ _ _ _ (fun e => g6 (e ▸ hk))⟩
theorem oldK_some {size b o len sz : Nat} {K : List AV → Option A} (hh : oldK size (b, o) len sz h K = some r) :
    ∃ old, K old = some r ∧ ((len = 0 ∧ old = []) ∨ (0 < len ∧ sz = size ∧ ∃ wr vs, h.m b = some (.cells wr vs) ∧ o + len * size ≤ vs.length ∧ old = (vs.drop o).take (len * size))) := by
  unfold oldK at hh
  by_cases h0 : len = 0
  · subst h0; simp at hh; exact ⟨[], hh, .inl ⟨rfl, rfl⟩⟩
  · rw [beq_false h0] at hh
    simp only [cond_false] at hh
    obtain ⟨h1, h2⟩ := guardK_some hh
    obtain ⟨wr, vs, a, b', c⟩ := ldN_some h2
    exact ⟨_, c, .inr ⟨by omega, beq_iff'.1 h1, wr, vs, a, b', rfl⟩⟩
theorem grown_row {old' new' : List Value} {z : Value} {len k size newCap : Nat} (hz : z.cells.size = size) (ho : old'.length = len * size) (hn : new'.length = k * size) (hc : len + k ≤ newCap) :
    (old'.toArray ++ new'.toArray ++ Builtin.zeroCells z.cells (newCap - (len + k))).size = newCap * size := by
  have : (Builtin.zeroCells z.cells (newCap - (len + k))).size = (newCap - (len + k)) * size := by simp [Builtin.zeroCells, hz]
  simp only [Array.size_append, List.size_toArray, this, ho, hn]
  rw [← Nat.add_mul, ← Nat.add_mul]
  congr 1
  omega
theorem grown_told {old new : List AV} {old' new' : List Value} {rest : Array Value} (ho : RL ρ old old') (hn : RL ρ new new') (i : Nat) (v : AV) (hi : (old ++ new)[i]? = some v) : ∃ v', (old'.toArray ++ new'.toArray ++ rest)[i]? = some v' ∧ R ρ v v' := by
  obtain ⟨v', a, b⟩ := (ho.append hn).get_some hi
  refine ⟨v', ?_, b⟩
  have hlt : i < (old' ++ new').length := by
    rcases Nat.lt_or_ge i (old' ++ new').length with h' | h'
    · exact h'
    · rw [List.getElem?_eq_none h'] at a; cases a
  rw [Array.getElem?_append_left (by simpa using hlt)]
  simpa using a
theorem Rep.drewN {ρ : Loc} {h : Heap} {N : Zone} {w : World} (hr : Rep ρ h N w) : Rep ρ h N w.drew := hr.drew
theorem Low.drew' {N : Zone} {w : World} : Low N w w.drew := (Low.refl N w).drew
theorem R.sl_gr {b o len cap sz : Nat} {ex : Bool} {v' : Value} (h : R ρ (.sl (some (b, o)) len cap ex sz) v') : R ρ (.gr (b, o) len sz) v' := by
  obtain ⟨p, a, cap', q1, rfl, q2, q3, q4, q5⟩ := h.sl_inv
  exact .gr q1 (Nat.le_trans q5 q2) q4
/-- An append whose elements are told, as a whole. -/
theorem sim_append {st et xt : TypeId} {ty : TypeId} {s x : AV} {s' x' : Value} {K : AV → Heap → Option A} (hr : Rep ρ ⟨h.m, n⟩ N w) (hid : ρ id = none) (hlt : id < n) (hs : R ρ s s') (hx : R ρ x x')
    {zr : Bool} (hst : P.underlying st = some (.slice et)) (hxt : (zr = false ∧ ((∃ q, P.underlying xt = some (.slice q)) ∨ P.underlying xt = some .string)) ∨ (zr = true ∧ ∃ kk, P.underlying xt = some (.int kk))) (hh : appendK P zr et s x h id K = some r) :
    SimM P ρ N n id h w (Builtin.append_ #[st, xt] ty #[s', x']) K r := by
  obtain ⟨i, h1, hk⟩ := sizeK_some hh
  obtain ⟨i', h1', hk2⟩ := bytesK_some hk
  rw [h1] at h1'; cases h1'
  obtain ⟨i', z, h1', h2, hk3⟩ := zeroK_some hk2
  rw [h1] at h1'; cases h1'
  obtain ⟨g1, hk4⟩ := guardK_some hk3
  clear hk3 hk2 hk hh
  simp only [Bool.and_eq_true] at g1
  obtain ⟨g1a, g1b⟩ := g1
  rw [lenA_eq] at g1a
  have g1a := Nat.eq_of_beq_eq_true g1a
  have g1b : 0 < i.size := Nat.le_of_ble_eq_true g1b
  simp only [List.length_map, Array.length_toList] at g1a
  have hsrc : ∀ {G : Nat → List AV → Option A}, (bif zr then zsrcK (z.cells.toList.map ofLit1) x else srcK i.size x h) G = some r →
      ∃ (k : Nat) (new : List AV) (new' : List Value), G k new = some r ∧ (k * i.bytes ≤ limit → Src P xt i z x' k new' w) ∧ RL ρ new new' ∧ new.length = k * i.size := by
    intro G hk5
    rcases hxt with ⟨rfl, hxt⟩ | ⟨rfl, kk, hd⟩
    · simp only [cond_false] at hk5
      obtain ⟨k, new, new', hk6, l1, l2, l3, l4⟩ := srcK_some (P := P) hr hx hk5
      refine ⟨k, new, new', hk6, fun _ => .inl ⟨hxt, l1, fun w' hw => ?_⟩, l3, l4⟩
      have := l2 w' hw k (Nat.le_refl _)
      rwa [List.take_of_length_le (by rw [← l3.len, l4]; exact Nat.le_refl _)] at this
    · simp only [cond_true] at hk5
      unfold zsrcK at hk5
      obtain ⟨kk', l, rfl, hk6⟩ := anyInt_some hk5
      obtain ⟨hg, hk7⟩ := guardK_some hk6
      have hg := of_decide_eq_true hg
      have := hx.int_inv; subst this
      refine ⟨_, _, ((Array.range ((IntKind.i64.wrap l).toNat * z.cells.size)).map fun i => z.cells[i % z.cells.size]!).toList, hk7, fun hb => .inr ⟨kk, kk', l, hd, rfl, by omega, ?_, hb⟩, zeros_told z.cells _, by rw [repL_length]; simp [g1a]⟩
      split
      · rename_i h0
        rw [← g1a] at h0
        simp [h0]
      · apply Array.ext'; simp [Builtin.zeroCells]
  obtain ⟨k, new, new', hk7, hsrc, l3, l4⟩ := hsrc hk4
  clear hk4
  have hnl : new'.length = k * i.size := by rw [← l3.len, l4]
  have bd : ∀ {len : Nat}, (len + k) * i.bytes ≤ limit → k * i.bytes ≤ limit := fun hb => Nat.le_trans (Nat.mul_le_mul_right _ (Nat.le_add_left _ _)) hb
  have nb : ∀ {a b : Nat}, ¬ a ≤ b → Nat.ble a b = false := fun {a b} hn => by
    cases hb : Nat.ble a b with
    | false => rfl
    | true => exact absurd (Nat.le_of_ble_eq_true hb) hn
  -- growth, with what is old
  have grow : ∀ (base : Option Addr) (len cap : Nat) (old : List AV) (old' : List Value), ¬ (len + k ≤ cap) → RL ρ old old' → old.length = len * i.size → (len + k) * i.bytes ≤ limit → len + k ≤ limit →
      (∀ w', w'.heap = w.heap → (Builtin.firstCells i.size len (.slice base len cap)).run P w' = .ok old'.toArray w') → ∀ h₁ : Heap, h₁.next = h.next → Rep ρ ⟨h₁.m, n⟩ N w →
      K (.gr (id, 0) (len + k) i.size) (h₁.put id (.cells true (old ++ new))) = some r →
      SimM P ρ N n id h w (Builtin.append_ #[st, xt] ty #[.slice base len cap, x']) K r := by
    intro base len cap old old' hin ho hol hb1 hb2 hold h₁ hn₁ hr₁ hK
    obtain ⟨newCap, c1, c2⟩ := append_grow (ty := ty) hst h1 h2 (hsrc (bd hb1)) hin (hold w.drew rfl) hb1 hb2
    have hrow := grown_row (newCap := newCap) (z := z) g1a (by rw [← ho.len, hol]) hnl c1
    have hsim := new_slice (h := h₁) (P := P) (K := fun v h' => K (match v with | .sl (some q) len _ _ sz => .gr q len sz | v => v) h') (vs := old ++ new) (c := old'.toArray ++ new'.toArray ++ Builtin.zeroCells z.cells (newCap - (len + k))) (e := et) (fz := (0, 0)) (len := len + k) (cap := len + k) (cap' := newCap) (sz := i.size) (ex := false) (w := w.drew) (w₀ := w)
      hr₁.drew hid hlt (fun j v hj => grown_told ho l3 j v hj) (by rw [hrow, List.length_append, hol, l4, ← Nat.add_mul]; exact Nat.mul_le_mul_right _ c1) (by simp) (Nat.le_refl _) c1 (by simp) (by rw [hrow]; exact Nat.le_refl _) hK (Low.refl _ _).drew c2
    obtain ⟨v, h', v', w', ρ', a1, a2, a3, a4, a5, a6, a7, a8⟩ := hsim
    refine ⟨_, h', v', w', ρ', a1, a2.trans hn₁, a3, a4, a5, a6, ?_, a8⟩
    split
    · exact R.sl_gr a7
    · exact a7
  -- what is written behind a slice's elements, in a row of its own
  have over : ∀ (b o len cap' sz : Nat) (a : Addr) (p : Pl), ρ b = some p → len ≤ cap' → (0 < cap' → a = ⟨p.blk, p.off + o, none⟩ ∧ o + cap' * sz ≤ p.ext) → 0 < k → (len + k) * i.bytes ≤ limit → len + k ≤ limit →
      growK i.size (b, o) len sz new k h id K = some r → SimM P ρ N n id h w (Builtin.append_ #[st, xt] ty #[.slice (some a) len cap', x']) K r := by
    intro b o len cap' sz a p q1 q2 q4 hk0 g2a g2b hh
    unfold growK at hh
    obtain ⟨old, hk8, hold⟩ := oldK_some hh
    rw [appA_eq] at hk8
    split at hk8
    · rename_i vs f1
      obtain ⟨e1, hk9⟩ := guardK_some hk8
      simp only [Bool.and_eq_true] at e1
      obtain ⟨e1, e2⟩ := e1
      have e1 := Nat.eq_of_beq_eq_true e1
      subst e1
      have hold' : ∃ old', RL ρ old old' ∧ old.length = len * i.size ∧ ∀ w', w'.heap = w.heap → (Builtin.firstCells i.size len (.slice (some a) len cap')).run P w' = .ok old'.toArray w' := by
        rcases hold with ⟨rfl, rfl⟩ | ⟨hl0, _, wr, vs, f1, f2, rfl⟩
        · exact ⟨[], RL.nil ρ, by simp, fun w' _ => by simp [Builtin.firstCells, loadCells, loadCellsFrom]⟩
        · obtain ⟨p', cs', e1, e2, e3, e4⟩ := cells_there (h := ⟨h.m, n⟩) hr f1 f2
          rw [q1] at e1; cases e1
          obtain ⟨ha, _⟩ := q4 (by omega)
          subst ha
          refine ⟨cs', e3, by simp; omega, fun w' hw => ?_⟩
          simp only [Builtin.firstCells]
          exact run_cells e2 fun j v hj => by rw [cell_same hw]; exact e4 j v hj
      obtain ⟨old', o1, o2, o3⟩ := hold'
      by_cases hin : len + k ≤ cap'
      · obtain ⟨ha, hb⟩ := q4 (by omega)
        subst ha
        have hmul : len * i.size + k * i.size ≤ cap' * i.size := by rw [← Nat.add_mul]; exact Nat.mul_le_mul_right _ hin
        obtain ⟨w', s1, s2, s3⟩ := take_over (P := P) (b := b) (o := o) (old := old) (new := new) hr f1 q1 hid hlt (fun j v hj => by
            rcases hold with ⟨rfl, rfl⟩ | ⟨hl0, _, wr, vs', f1', f2, rfl⟩
            · simp at hj
            · rw [f1] at f1'; cases f1'
              simp only [List.getElem?_take, List.getElem?_drop] at hj
              split at hj
              · exact hj
              · cases hj) (by rw [o2, l4]; omega) l3 (flat_cells l3 e2)
        have hrun := append_head (P := P) (w := w) (base := some ⟨p.blk, p.off + o, none⟩) (cap := cap') (ty := ty) hst h1 h2 (hsrc (bd g2a)) hin
        refine ⟨_, _, _, w', _, hk9, rfl, ?_, setLoc_growsS hid, fun c hc => by simp [setLoc, hc], s2, .gr (p := ⟨p.blk, p.off + o, p.ext - o⟩) (by simp [setLoc]) hin (fun _ => ⟨rfl, ?_⟩), s3⟩
        · rw [hrun]
          simp only [add_at]
          rw [show p.off + o + len * i.size = p.off + (o + old.length) by omega, s1]
          rfl
        · simp only; omega
      · exact grow (some a) len cap' old old' hin o1 o2 g2a g2b o3 (h.kill b) rfl (Rep.kill (h := ⟨h.m, n⟩) hr b) hk9
    · cases hk8
  have bnd : ∀ {c : Bool} {len : Nat}, (Nat.ble ((len + k) * i.bytes) limit && Nat.ble (len + k) limit) = true → (len + k) * i.bytes ≤ limit ∧ len + k ≤ limit := fun {c len} hb => by
    simp only [Bool.and_eq_true] at hb
    exact ⟨Nat.le_of_ble_eq_true hb.1, Nat.le_of_ble_eq_true hb.2⟩
  have stay : ∀ (base : Option Addr) (len cap : Nat) (u : AV), k = 0 → len ≤ cap → R ρ u (.slice base len cap) → K u h = some r → SimM P ρ N n id h w (Builtin.append_ #[st, xt] ty #[.slice base len cap, x']) K r := by
    intro base len cap u hk0 hle hu hK
    subst hk0
    have hn0 : new' = [] := by
      have : new'.length = 0 := by simpa using hnl
      exact List.eq_nil_of_length_eq_zero this
    subst hn0
    have := append_head (P := P) (w := w) (base := base) (len := len) (cap := cap) (ty := ty) hst h1 h2 (hsrc (by simp)) hle
    refine ⟨_, h, _, w, ρ, hK, rfl, ?_, GrowsS.refl _, fun _ _ => rfl, hr, hu, Low.refl _ _⟩
    rw [this]
    cases base <;> simp [storeCells]
  split at hk7
  · rename_i q len sz
    obtain ⟨b, o⟩ := q
    obtain ⟨hb, hk8⟩ := guardK_some hk7
    obtain ⟨g2a, g2b⟩ := bnd (c := true) hb
    have hs2 := hs
    cases hs with
    | gr q1 q2 q4 =>
    by_cases hk0 : k = 0
    · subst hk0
      simp only [Nat.beq_refl, cond_true] at hk8
      exact stay _ _ _ _ rfl q2 hs2 hk8
    · simp only [beq_false hk0, cond_false] at hk8
      exact over _ _ _ _ _ _ _ q1 q2 q4 (by omega) g2a g2b hk8
  · rename_i cs len ex sz
    obtain ⟨a, cap', rfl, f1, f2, f3, f4, f5⟩ := hs.fz_inv
    by_cases hk0 : k = 0
    · subst hk0
      simp only [Nat.beq_refl, cond_true] at hk7
      exact stay _ _ _ _ rfl f4 hs hk7
    · simp only [beq_false hk0, cond_false] at hk7
      obtain ⟨hb, hk8⟩ := guardK_some hk7
      rw [appA_eq] at hk8
      simp only [Bool.and_eq_true, Bool.or_eq_true] at hb
      obtain ⟨⟨⟨g2a, g2b⟩, hex⟩, hsz⟩ := hb
      have g2a := Nat.le_of_ble_eq_true g2a
      have g2b := Nat.le_of_ble_eq_true g2b
      have hcap := (f5 hex).symm
      subst hcap
      rcases Nat.eq_zero_or_pos len with hl0 | hl0
      · subst hl0
        have hcs : cs = [] := by
          have : cs.length = 0 := by simpa using f3
          exact List.eq_nil_of_length_eq_zero this
        subst hcs
        exact grow a 0 0 [] [] (by omega) (RL.nil ρ) (by simp) g2a g2b (fun w' _ => by cases a <;> simp [Builtin.firstCells, loadCells, loadCellsFrom]) h rfl hr hk8
      · have hsz : sz = i.size := by
          rcases hsz with e | e
          · exact Nat.eq_of_beq_eq_true e
          · have := Nat.eq_of_beq_eq_true e; omega
        subst hsz
        obtain ⟨b, q, o, cs0, e1, rfl, e2, e3⟩ := f1 hl0
        obtain ⟨cs', r1, r2, r3⟩ := frz_cells hr e1 e3
        rw [← e2] at r1
        exact grow _ len len cs cs' (by omega) r1 f3 g2a g2b (fun w' hw => by
          simp only [Builtin.firstCells]
          exact run_cells (p := ⟨b, q, 0⟩) r2 fun j v hj => by rw [cell_same hw]; exact r3 j v hj) h rfl hr hk8
  · rename_i p len cap ex sz
    obtain ⟨hb, hk8⟩ := guardK_some hk7
    obtain ⟨g2a, g2b⟩ := bnd (c := true) hb
    cases p with
    | none =>
      obtain ⟨rfl, rfl, rfl, rfl⟩ := hs.nils_inv
      by_cases hk0 : k = 0
      · subst hk0
        simp only [Nat.beq_refl, cond_true] at hk8
        exact stay _ _ _ _ rfl (Nat.le_refl 0) (.sln 0) hk8
      · simp only [beq_false hk0, cond_false] at hk8
        refine grow none 0 0 [] [] (by omega) (RL.nil ρ) (by simp) (by simpa using g2a) (by simpa using g2b) (fun w' _ => by simp [Builtin.firstCells]) h rfl hr ?_
        simpa using hk8
    | some q =>
      obtain ⟨b, o⟩ := q
      obtain ⟨p, a, cap', q1, rfl, q2, q3, q4, q5⟩ := hs.sl_inv
      simp only at hk8
      by_cases hfit : len + k ≤ cap
      · rw [show Nat.ble (len + k) cap = true from Nat.ble_eq_true_of_le hfit] at hk8
        simp only [cond_true] at hk8
        by_cases hk0 : k = 0
        · subst hk0
          simp only [Nat.beq_refl, cond_true] at hk8
          exact stay _ _ _ _ rfl (Nat.le_trans q5 q2) hs hk8
        · simp only [beq_false hk0, cond_false] at hk8
          have hrun := append_head (P := P) (w := w) (base := some a) (len := len) (k := k) (cap := cap') (ty := ty) hst h1 h2 (hsrc (bd g2a)) (Nat.le_trans hfit q2)
          obtain ⟨e1, hk8⟩ := guardK_some hk8
          simp only [Bool.and_eq_true] at e1
          obtain ⟨e1, e2⟩ := e1
          have e1 := Nat.eq_of_beq_eq_true e1
          subst e1
          obtain ⟨vs, f1, f2, f3⟩ := stN_some hk8
          obtain ⟨ha, hb⟩ := q4 (by omega)
          subst ha
          obtain ⟨w', s1, s2, s3⟩ := store_cells (P := P) (h := ⟨h.m, n⟩) hr f1 q1 f2 l3 (flat_cells l3 e2)
          refine ⟨_, _, _, w', ρ, f3, rfl, ?_, GrowsS.refl _, fun _ _ => rfl, s2, .sl q1 q2 q3 (fun _ => ⟨rfl, hb⟩) hfit, s3⟩
          rw [hrun]
          simp only [add_at]
          simp only at s1
          rw [show p.off + o + len * i.size = p.off + (o + len * i.size) by omega, s1]
          rfl
      · rw [nb hfit] at hk8
        simp only [cond_false] at hk8
        have hk0 : 0 < k := by omega
        cases ex with
        | true =>
          simp only [cond_true] at hk8
          have := q3 rfl
          subst this
          obtain ⟨old, hk9, hold⟩ := oldK_some hk8
          rw [appA_eq] at hk9
          have hold' : ∃ old', RL ρ old old' ∧ old.length = len * i.size ∧ ∀ w', w'.heap = w.heap → (Builtin.firstCells i.size len (.slice (some a) len cap')).run P w' = .ok old'.toArray w' := by
            rcases hold with ⟨rfl, rfl⟩ | ⟨hl0, rfl, wr, vs, f1, f2, rfl⟩
            · exact ⟨[], RL.nil ρ, by simp, fun w' _ => by simp [Builtin.firstCells, loadCells, loadCellsFrom]⟩
            · obtain ⟨p', cs', e1, e2, e3, e4⟩ := cells_there (h := ⟨h.m, n⟩) hr f1 f2
              rw [q1] at e1; cases e1
              obtain ⟨ha, _⟩ := q4 (by omega)
              subst ha
              refine ⟨cs', e3, by simp; omega, fun w' hw => ?_⟩
              simp only [Builtin.firstCells]
              exact run_cells e2 fun j v hj => by rw [cell_same hw]; exact e4 j v hj
          obtain ⟨old', o1, o2, o3⟩ := hold'
          exact grow (some a) len cap' old old' hfit o1 o2 g2a g2b o3 h rfl hr hk9
        | false =>
          simp only [cond_false] at hk8
          exact over b o len cap' sz a p q1 (Nat.le_trans q5 q2) q4 hk0 g2a g2b hk8
  · cases hk7
end
end Go.Ev
