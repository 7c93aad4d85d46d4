/- The arguments of a law: data that lie in the world's memory, as values that are never written any more. -/
import Derived.Test.YthlmbnhelkbchaaEvX1
import Derived.ChangeArms
import Derived.ChangeOld
import Derived.Carry
namespace Go.Ev
open Go.RowKit
section
variable (P : Program) {H : Type}
/-- Cells laid over others, one list behind the other, each at its place. -/
def lay : List AV → List (Nat × List AV) → List AV
  | acc, [] => acc
  | acc, x :: l => lay (bif Nat.ble (x.1 + lenA x.2) (lenA acc) then splice acc x.1 x.2 else acc) l
def catA : List (List AV) → List AV
  | [] => []
  | x :: l => x ++ catA l
/-- The cells of data of a type. -/
def dCells : Nat → TypeId → DataW H → List AV
  | 0, _, _ => []
  | k + 1, t, d => match P.underlying t, d with
    | some .bool, .lit (.bool b) => [.bool b]
    | some (.int _), .lit (.int k n) => [.int k n]
    | some .string, .lit (.string s) => [.str s]
    | some (.slice e), .nil => [.fz [] 0 false (P.cellsOf e)]
    | some (.slice e), .slice ds _ => [.fz (catA (ds.map (dCells k e))) ds.length false (P.cellsOf e)]
    | some (.struct fs), .agg ds => lay (repA .dead (P.cellsOf t)) ((fs.toList.zip ds).map fun x => (x.1.offset, dCells k x.1.type x.2))
    | _, _ => repA .dead (P.cellsOf t)
def dVal (k : Nat) (t : TypeId) (d : DataW H) : AV := match P.underlying t with
  | some (.struct _) => .agg (dCells P k t d)
  | some (.array _ _) => .agg (dCells P k t d)
  | _ => nth (dCells P k t d) 0
/-- A list of types, each of which is built of others of it: bools, numbers, strings, slices, structs. -/
def clT (T : List TypeId) : Bool := T.all fun t => match P.underlying t with
  | some .bool => true
  | some (.int _) => true
  | some .string => true
  | some (.slice e) => T.contains e && Nat.blt 0 (P.cellsOf e)
  | some (.struct fs) => fs.toList.all fun f => T.contains f.type
  | _ => false
/-- Data of a type. -/
def WT : Nat → TypeId → DataW H → Prop
  | 0, _, _ => False
  | k + 1, t, d => match P.underlying t with
    | some .bool => ∃ b, d = .lit (.bool b)
    | some (.int j) => ∃ n, d = .lit (.int j n) ∧ (Lit.int j n).wf = true
    | some .string => ∃ s : List UInt8, d = .lit (.string s) ∧ s.length ≤ maxLen
    | some (.slice e) => d = .nil ∨ ∃ ds sp, d = .slice ds sp ∧ ds.length ≤ maxLen ∧ ∀ x ∈ ds, WT k e x
    | some (.struct fs) => ∃ ds, d = .agg ds ∧ ds.length = fs.size ∧ ∀ (i : Nat) f x, fs[i]? = some f → ds[i]? = some x → WT k f.type x
    | _ => True
end
variable {P : Program} {H : Type} {enc : TypeId × Value → H} {W : World}
theorem cells?_spec {a : Addr} {n : Nat} {cs : List Value} (h : W.cells? 0 a n = some cs) : cs.length = n ∧ ∀ i, i < n → W.cell? (a.add i) = cs[i]? := by
  have := World.cells?_some h
  exact ⟨this.2.1, this.2.2⟩

/-! ### The cells that the arguments reach -/
section
variable (P) (enc) (W)
def Lies (k : Nat) (e : TypeId) (b : Nat) : Nat → List (DataW H) → Prop
  | _, [] => True
  | o, d :: ds => (∃ ps, (W.cells? 0 ⟨b, o, none⟩ (P.cellsOf e)).bind (DataW.trod enc P W 0 (fun _ => true) true k e) = some (d, ps)) ∧ Lies k e b (o + P.cellsOf e) ds
def argLoc (T : List TypeId) : Loc := ⟨fun _ => none, fun b o cs => ∃ (k : Nat) (e : TypeId) (ds : List (DataW H)), (0 < ds.length ∧ e ∈ T ∧ 0 < P.cellsOf e) ∧ cs = catA (ds.map (dCells P k e)) ∧ Lies P enc W k e b o ds⟩
end
theorem catA_append {l m : List (List AV)} : catA (l ++ m) = catA l ++ catA m := by
  induction l <;> simp_all [catA]
theorem lay_length : ∀ (l : List (Nat × List AV)) (acc : List AV), (lay acc l).length = acc.length
  | [], acc => rfl
  | x :: l, acc => by
    simp only [lay]
    rw [lay_length l]
    cases Nat.ble (x.1 + lenA x.2) (lenA acc) <;> simp [splice_length]
theorem lay_R {ρ : Loc} {cs : List Value} : ∀ (l : List (Nat × List AV)) (acc : List AV), RL ρ acc cs → (∀ x ∈ l, ∀ (j : Nat) v v', x.2[j]? = some v → cs[x.1 + j]? = some v' → R ρ v v') → RL ρ (lay acc l) cs
  | [], acc, ha, _ => ha
  | x :: l, acc, ha, hl => by
    simp only [lay]
    refine lay_R l _ ?_ (fun y hy => hl y (List.mem_cons_of_mem _ hy))
    cases hb : Nat.ble (x.1 + lenA x.2) (lenA acc) with
    | false => exact ha
    | true =>
      have hb := Nat.le_of_ble_eq_true hb
      rw [lenA_eq, lenA_eq] at hb
      refine ⟨by simp [splice_length, ha.len], fun i v v' a b => ?_⟩
      simp only [cond_true] at a
      rw [splice_get _ _ _ _ hb] at a
      split at a
      · rename_i hi
        exact hl x List.mem_cons_self _ v v' a (by rw [show x.1 + (i - x.1) = i by omega]; exact b)
      · exact ha.get i v v' a b
theorem dead_RL {ρ : Loc} (cs : List Value) : RL ρ (repA .dead cs.length) cs := by
  rw [repA_eq]
  exact ⟨by simp, fun i v v' a b => by
    simp only [List.getElem?_replicate] at a
    split at a
    · cases a; exact .dead _
    · cases a⟩
theorem catA_length {n : Nat} : ∀ (l : List (List AV)), (∀ x ∈ l, x.length = n) → (catA l).length = l.length * n
  | [], _ => by simp [catA]
  | x :: l, h => by
    simp only [catA, List.length_append, List.length_cons, h x List.mem_cons_self, catA_length l (fun y hy => h y (List.mem_cons_of_mem _ hy)), Nat.succ_mul]
    omega
/-- What a reading tells, holds of the values. -/
theorem trod_told {T : List TypeId} (hT : clT P T = true) : ∀ (k : Nat) (t : TypeId) (cs : List Value) (d : DataW H) (ps : List MemPlace), t ∈ T → DataW.trod enc P W 0 (fun _ => true) true k t cs = some (d, ps) →
    WT P k t d ∧ RL (argLoc P enc W T) (dCells P k t d) cs
  | 0, t, cs, d, ps, _, h => by simp [DataW.trod] at h
  | k + 1, t, cs, d, ps, htT, h => by
    have hcl := List.all_eq_true.1 hT t htT
    have fin : ∀ (l : List AV), WT P (k + 1) t d → dCells P (k + 1) t d = l → RL (argLoc P enc W T) l cs →
        WT P (k + 1) t d ∧ RL (argLoc P enc W T) (dCells P (k + 1) t d) cs := fun l hw he hr => by
      rw [he]; exact ⟨hw, hr⟩
    cases ht : P.underlying t with
    | none =>
      unfold DataW.trod at h
      rw [ht] at h
      simp at h
    | some desc =>
      cases desc with
      | bool =>
        obtain ⟨b, rfl, hx⟩ := DataW.trod_bool ht h
        cases hx
        exact fin _ (by simp only [WT, ht]; exact ⟨b, rfl⟩) (by simp only [dCells, ht]) (RL.cons (.bool b) (RL.nil _))
      | int j =>
        obtain ⟨n, rfl, hx, hw⟩ := DataW.trod_int ht h
        cases hx
        exact fin _ (by simp only [WT, ht]; exact ⟨n, rfl, hw⟩) (by simp only [dCells, ht]) (RL.cons (.int j n) (RL.nil _))
      | string =>
        obtain ⟨s, rfl, hx, hw⟩ := DataW.trod_string ht h
        cases hx
        exact fin _ (by simp only [WT, ht]; exact ⟨_, rfl, by simpa using hw⟩) (by simp only [dCells, ht]) (RL.cons (.str s) (RL.nil _))
      | slice e =>
        rw [ht] at hcl
        simp only [Bool.and_eq_true, List.contains_iff_mem] at hcl
        have heT := hcl.1
        have hz : 0 < P.cellsOf e := Nat.le_of_ble_eq_true hcl.2
        rcases DataW.trod_slice ht h with ⟨rfl, hx⟩ | ⟨a, len, cap, elems, rest, n, hn, rfl, hx, hb, hl, hm, hlen, hel, hsp, _⟩
        · cases hx
          refine fin [.fz [] 0 false (P.cellsOf e)] (by simp [WT, ht]) (by simp only [dCells, ht]) (RL.cons ?_ (RL.nil _))
          exact .fz (fun h0 => absurd h0 (Nat.lt_irrefl _)) (fun _ => rfl) (by simp) (Nat.le_refl 0) (by simp) (fun _ hx => by cases hx)
        · cases hn
          cases hx
          have each : ∀ x ∈ elems, ∃ c i, i < len ∧ W.cells? 0 (a.add (i * P.cellsOf e)) (P.cellsOf e) = some c ∧ DataW.trod enc P W 0 (fun _ => true) true k e c = some x := fun x hx => by
            obtain ⟨i, hi⟩ := List.getElem?_of_mem hx
            have hil : i < len := by rw [← hlen]; exact (List.getElem?_eq_some_iff.1 hi).1
            have := hel i hil
            rw [hi] at this
            obtain ⟨c, h1, h2⟩ := Option.bind_eq_some_iff.1 this
            exact ⟨c, i, hil, h1, h2⟩
          have htold : ∀ x ∈ elems, WT P k e x.1 ∧ (dCells P k e x.1).length = P.cellsOf e := fun x hx => by
            obtain ⟨c, i, _, h1, h2⟩ := each x hx
            obtain ⟨t1, t2⟩ := trod_told hT k e c x.1 x.2 heT h2
            exact ⟨t1, by rw [t2.len, (cells?_spec h1).1]⟩
          have hlen2 : (catA ((elems.map (·.1)).map (dCells P k e))).length = (elems.map (·.1)).length * P.cellsOf e := by
            rw [catA_length (n := P.cellsOf e) _ (fun x hx => by
              obtain ⟨y, h1, rfl⟩ := List.mem_map.1 hx
              obtain ⟨z, h2, rfl⟩ := List.mem_map.1 h1
              exact (htold z h2).2)]
            simp
          refine fin [.fz (catA ((elems.map (·.1)).map (dCells P k e))) (elems.map (·.1)).length false (P.cellsOf e)] (by
            simp only [WT, ht]
            refine .inr ⟨_, _, rfl, by simp [hlen]; omega, fun x hx => ?_⟩
            obtain ⟨y, h1, rfl⟩ := List.mem_map.1 hx
            exact (htold y h1).1) (by simp only [dCells, ht]) (RL.cons ?_ (RL.nil _))
          have hll : (elems.map (·.1)).length = len := by simpa using hlen
          rw [hll] at hlen2 ⊢
          have spot0 : ∀ x c, W.cells? 0 (a.add (0 * P.cellsOf e)) (P.cellsOf e) = some c → a = x → x.spot = none := fun x c h2 ex => by
            subst ex
            obtain ⟨h3, h4⟩ := cells?_spec h2
            have h5 := h4 0 hz
            rw [List.getElem?_eq_getElem (by omega)] at h5
            have h6 : W.cell? a = some c[0] := by simpa [Addr.add] using h5
            exact World.cell?_spot h6
          refine .fz (fun h0 => ?_) (by simp) hlen2 hl (by simp) (fun x hx hp => ?_)
          rotate_left
          · cases hx
            by_cases h0 : 0 < len
            · have h1 := hel 0 h0
              rw [List.getElem?_eq_getElem (by omega)] at h1
              obtain ⟨c, h2, _⟩ := Option.bind_eq_some_iff.1 h1
              exact spot0 _ c h2 rfl
            · obtain ⟨r1, r2⟩ := hsp rfl
              have h1 := r2 0 (by omega)
              rw [List.getElem?_eq_getElem (by omega)] at h1
              obtain ⟨c, h2, _⟩ := Option.bind_eq_some_iff.1 h1
              rw [show len + 0 = 0 by omega] at h2
              exact spot0 _ c h2 rfl
          · have hspot : a.spot = none := by
              have hx0 : elems[0]? = some elems[0] := List.getElem?_eq_getElem (by omega)
              have h1 := hel 0 h0
              rw [hx0] at h1
              obtain ⟨c, h2, _⟩ := Option.bind_eq_some_iff.1 h1
              obtain ⟨h3, h4⟩ := cells?_spec h2
              have h5 := h4 0 hz
              rw [List.getElem?_eq_getElem (by omega)] at h5
              have h6 : W.cell? a = some c[0] := by simpa [Addr.add] using h5
              exact World.cell?_spot h6
            obtain ⟨ab, ao, as⟩ := a
            simp only at hspot
            subst hspot
            refine ⟨ab, ao, 0, catA ((elems.map (·.1)).map (dCells P k e)), ⟨k, e, elems.map (·.1), ⟨by rw [hll]; exact h0, heT, hz⟩, rfl, ?_⟩, by simp, ?_, by rw [hlen2]; omega⟩
            · have lies : ∀ (l : List (DataW H × List MemPlace)) (i : Nat), (∀ j x, l[j]? = some x → elems[i + j]? = some x) → i + l.length ≤ len → Lies P enc W k e ab (ao + i * P.cellsOf e) (l.map (·.1)) := by
                intro l
                induction l with
                | nil => intro i _ _; exact trivial
                | cons x l ih =>
                  intro i hi hle
                  simp only [List.length_cons] at hle
                  refine ⟨⟨x.2, ?_⟩, ?_⟩
                  · have h1 := hel i (by omega)
                    rw [show elems[i]? = some x by have := hi 0 x (by simp); simpa using this, add_at] at h1
                    exact h1
                  · have := ih (i + 1) (fun j y hj => by rw [show i + 1 + j = i + (j + 1) by omega]; exact hi (j + 1) y (by simpa using hj)) (by omega)
                    rw [show ao + (i + 1) * P.cellsOf e = ao + i * P.cellsOf e + P.cellsOf e by rw [Nat.succ_mul]; omega] at this
                    exact this
              have := lies elems 0 (fun j x hj => by simpa using hj) (by omega)
              simpa using this
            · rw [List.drop_zero, List.take_of_length_le (by rw [hlen2]; exact Nat.le_refl _)]
      | struct fs =>
        rw [ht] at hcl
        simp only [List.all_eq_true, List.contains_iff_mem] at hcl
        have hfT : ∀ (i : Nat) f, fs[i]? = some f → f.type ∈ T := fun i f hf => hcl f (List.mem_of_getElem? (by simpa using hf))
        obtain ⟨xs, n, hn, hx, hcl, hxl, hf⟩ := DataW.trod_struct ht h
        cases hn
        cases hx
        refine fin _ (by
          simp only [WT, ht]
          refine ⟨_, rfl, by simpa using hxl, fun i f x h1 h2 => ?_⟩
          rw [List.getElem?_map] at h2
          cases hxi : xs[i]? with
          | none => rw [hxi] at h2; cases h2
          | some y =>
            rw [hxi] at h2
            simp only [Option.map_some, Option.some.injEq] at h2
            subst h2
            have := hf i f h1
            rw [hxi] at this
            exact (trod_told hT k _ _ _ _ (hfT i f h1) this).1) (by simp only [dCells, ht]; rfl) ?_
        refine lay_R _ _ (by rw [← hcl]; exact dead_RL cs) (fun x hx j v v' a b => ?_)
        obtain ⟨⟨f, d'⟩, h1, rfl⟩ := List.mem_map.1 hx
        obtain ⟨i, hi⟩ := List.getElem?_of_mem h1
        rw [List.getElem?_zip_eq_some] at hi
        obtain ⟨i1, i2⟩ := hi
        rw [List.getElem?_map] at i2
        cases hxi : xs[i]? with
        | none => rw [hxi] at i2; cases i2
        | some y =>
          rw [hxi] at i2
          simp only [Option.map_some, Option.some.injEq] at i2
          subst i2
          have := hf i f (by simpa using i1)
          rw [hxi] at this
          obtain ⟨_, t4⟩ := trod_told hT k _ _ _ _ (hfT i f (by simpa using i1)) this
          refine t4.get j v v' a ?_
          have hj : j < ((cs.drop f.offset).take (P.cellsOf f.type)).length := by rw [← t4.len]; exact (List.getElem?_eq_some_iff.1 a).1
          rw [List.getElem?_take, List.getElem?_drop]
          rw [List.length_take] at hj
          rw [if_pos (by omega)]
          exact b
      | _ => rw [ht] at hcl; cases hcl

theorem dCells_pure : ∀ (k : Nat) (t : TypeId) (d : DataW H), ∀ v ∈ dCells P k t d, Pure v
  | 0, t, d, v, hv => by simp [dCells] at hv
  | k + 1, t, d, v, hv => by
    have hdead : ∀ n, ∀ v ∈ repA .dead n, Pure v := fun n v hv => by
      rw [repA_eq] at hv
      rw [(List.mem_replicate.1 hv).2]; exact .dead
    have hsp : ∀ (cs acc : List AV) (o : Nat), (∀ v ∈ acc, Pure v) → (∀ v ∈ cs, Pure v) → ∀ v ∈ splice acc o cs, Pure v := by
      intro cs
      induction cs with
      | nil => intro acc o ha _; exact ha
      | cons c cs ih =>
        intro acc o ha hc
        refine ih _ _ (fun v hv => ?_) (fun v hv => hc v (List.mem_cons_of_mem _ hv))
        rw [setL_eq] at hv
        rcases List.mem_or_eq_of_mem_set hv with h | rfl
        · exact ha v h
        · exact hc _ List.mem_cons_self
    have hlay : ∀ (l : List (Nat × List AV)) (acc : List AV), (∀ v ∈ acc, Pure v) → (∀ x ∈ l, ∀ v ∈ x.2, Pure v) → ∀ v ∈ lay acc l, Pure v := by
      intro l
      induction l with
      | nil => intro acc ha _; exact ha
      | cons x l ih =>
        intro acc ha hl
        refine ih _ ?_ (fun y hy => hl y (List.mem_cons_of_mem _ hy))
        cases Nat.ble (x.1 + lenA x.2) (lenA acc) with
        | false => exact ha
        | true => exact hsp _ _ _ ha (hl x List.mem_cons_self)
    simp only [dCells] at hv
    split at hv
    · simp at hv; subst hv; exact .bool _
    · simp at hv; subst hv; exact .int _ _
    · simp at hv; subst hv; exact .str _
    · simp at hv; subst hv; exact .fz _ _ _ _
    · simp at hv; subst hv; exact .fz _ _ _ _
    · refine hlay _ _ (hdead _) (fun x hx => ?_) v hv
      obtain ⟨y, _, rfl⟩ := List.mem_map.1 hx
      exact dCells_pure k _ _
    · exact hdead _ v hv
theorem catA_mem {l : List (List AV)} {v : AV} (h : v ∈ catA l) : ∃ x ∈ l, v ∈ x := by
  induction l with
  | nil => simp [catA] at h
  | cons x l ih =>
    simp only [catA, List.mem_append] at h
    rcases h with h | h
    · exact ⟨x, List.mem_cons_self, h⟩
    · obtain ⟨y, a, b⟩ := ih h; exact ⟨y, List.mem_cons_of_mem _ a, b⟩
theorem lies_there {T : List TypeId} (hT : clT P T = true) {k : Nat} {e : TypeId} {b : Nat} (heT : e ∈ T) : ∀ (ds : List (DataW H)) (o : Nat), Lies P enc W k e b o ds → 0 < P.cellsOf e → 0 < ds.length →
    ∃ c ty fz, W.heap[b]? = some (.cells c ty fz) ∧ o + (catA (ds.map (dCells P k e))).length ≤ c.size ∧ ∀ (i : Nat) v, (catA (ds.map (dCells P k e)))[i]? = some v → ∃ v', c[o + i]? = some v' ∧ R (argLoc P enc W T) v v'
  | [], o, _, _, h => by simp at h
  | d :: ds, o, hl, hz, _ => by
    obtain ⟨⟨ps, h1⟩, h2⟩ := hl
    obtain ⟨cs, h3, h4⟩ := Option.bind_eq_some_iff.1 h1
    obtain ⟨l1, l2⟩ := cells?_spec h3
    obtain ⟨_, t2⟩ := trod_told hT k e cs d ps heT h4
    have hcell : ∀ i, i < P.cellsOf e → W.cell? ⟨b, o + i, none⟩ = cs[i]? := fun i hi => by have := l2 i hi; rwa [add_at] at this
    have hthere : ∃ c ty fz, W.heap[b]? = some (.cells c ty fz) := by
      have h5 := hcell 0 hz
      rw [List.getElem?_eq_getElem (by omega)] at h5
      unfold World.cell? at h5
      split at h5
      · rename_i c ty fz hb; exact ⟨c, ty, fz, hb⟩
      · cases h5
    obtain ⟨c, ty, fz, hb⟩ := hthere
    have hc : ∀ i, i < P.cellsOf e → c[o + i]? = cs[i]? := fun i hi => by
      have := hcell i hi
      rwa [World.cell?, hb] at this
    have hlen1 : (dCells P k e d).length = P.cellsOf e := by rw [t2.len, l1]
    have hsz1 : o + P.cellsOf e ≤ c.size := by
      have h5 := hc (P.cellsOf e - 1) (by omega)
      rw [List.getElem?_eq_getElem (by omega)] at h5
      have := (Array.getElem?_eq_some_iff.1 h5).1
      omega
    have hfirst : ∀ (i : Nat) v, (dCells P k e d)[i]? = some v → ∃ v', c[o + i]? = some v' ∧ R (argLoc P enc W T) v v' := fun i v hi => by
      have hlt : i < P.cellsOf e := by rw [← hlen1]; exact (List.getElem?_eq_some_iff.1 hi).1
      have h5 := hc i hlt
      rw [List.getElem?_eq_getElem (by omega)] at h5
      exact ⟨_, h5, t2.get i v _ hi (List.getElem?_eq_getElem (by omega))⟩
    cases ds with
    | nil =>
      refine ⟨c, ty, fz, hb, ?_, ?_⟩
      · simp only [List.map_cons, List.map_nil, catA, List.append_nil, hlen1]; exact hsz1
      · simpa [catA] using hfirst
    | cons d2 ds =>
      obtain ⟨c2, ty2, fz2, g1, g2, g3⟩ := lies_there hT heT (d2 :: ds) (o + P.cellsOf e) h2 hz (by simp)
      rw [hb] at g1
      cases g1
      refine ⟨c, ty, fz, hb, ?_, fun i v hi => ?_⟩
      · rw [List.map_cons, catA, List.length_append, hlen1]; omega
      · rw [List.map_cons, catA] at hi
        by_cases hlt : i < P.cellsOf e
        · rw [List.getElem?_append_left (by omega)] at hi; exact hfirst i v hi
        · rw [List.getElem?_append_right (by omega), hlen1] at hi
          obtain ⟨v', a, b⟩ := g3 _ v hi
          exact ⟨v', by rw [show o + i = o + P.cellsOf e + (i - P.cellsOf e) by omega]; exact a, b⟩
theorem arg_rep {T : List TypeId} (hT : clT P T = true) (L : ALoop → Prop) : Rep (argLoc P enc W T) ⟨fun _ => none, 0⟩ (Zone.all L W) W := by
  refine ⟨fun b x hb => (by cases hb), fun b b' x x' p p' hb => (by cases hb), fun q hq => hq, fun _ _ => rfl, fun b o cs hf => ?_⟩
  obtain ⟨k, e, ds, ⟨h1, h2, h3⟩, rfl, h4⟩ := hf
  have hF : Fzn (argLoc P enc W T) W b o (catA (ds.map (dCells P k e))) := lies_there hT h2 ds o h4 h3 h1
  refine ⟨hF, (fun c x p hc => by cases hc), fun _ => .inl hF.size, fun v hv => ?_⟩
  obtain ⟨x, hx, hv⟩ := catA_mem hv
  obtain ⟨d, _, rfl⟩ := List.mem_map.1 hx
  exact dCells_pure k e d v hv
open Go.WideShapes in
theorem arg_told {T : List TypeId} (hT : clT P T = true) {k : Nat} {t : TypeId} {v : Value} {d : DataW H} {ps : List MemPlace} {r : Reach} {base : Nat} (ht : t ∈ T) (hval : Value.okWide P W r base t v)
    (h : DataW.trod enc P W 0 (fun _ => true) true k t v.cells.toList = some (d, ps)) : WT P k t d ∧ R (argLoc P enc W T) (dVal P k t d) v := by
  obtain ⟨h1, h2⟩ := trod_told hT k t _ d ps ht h
  refine ⟨h1, ?_⟩
  have one : (∀ fs, P.underlying t ≠ some (.struct fs)) → (∀ n e, P.underlying t ≠ some (.array n e)) → v.cells.toList = [v] → R (argLoc P enc W T) (dVal P k t d) v := fun n1 n2 hc => by
    rw [hc] at h2
    have h3 : dVal P k t d = nth (dCells P k t d) 0 := by
      unfold dVal
      split
      · rename_i fs e; exact absurd e (n1 fs)
      · rename_i n e e'; exact absurd e' (n2 n e)
      · rfl
    rw [h3]
    have hl := h2.len
    cases hd : dCells P k t d with
    | nil => rw [hd] at hl; simp at hl
    | cons x l => rw [hd] at h2; exact h2.head
  have hcl := List.all_eq_true.1 hT t ht
  cases hu : P.underlying t with
  | none => rw [hu] at hcl; cases hcl
  | some desc =>
    rw [hu] at hcl
    cases desc with
    | bool => obtain ⟨b, rfl⟩ := okWide_bool hu hval; exact one (by simp [hu]) (by simp [hu]) rfl
    | int j => obtain ⟨b, rfl⟩ := okWide_int hu hval; exact one (by simp [hu]) (by simp [hu]) rfl
    | string => obtain ⟨b, rfl⟩ := okWide_string hu hval; exact one (by simp [hu]) (by simp [hu]) rfl
    | slice e => obtain ⟨a, l, c, rfl⟩ := okWide_slice hu hval; exact one (by simp [hu]) (by simp [hu]) rfl
    | struct fs =>
      obtain ⟨cs, rfl, _⟩ := okWide_struct hu hval
      have h3 : dVal P k t d = .agg (dCells P k t d) := by
        unfold dVal; rw [hu]
      rw [h3]
      have := h2.agg
      simpa [Value.cells] using this
    | _ => cases hcl
theorem low_below {L : ALoop → Prop} {w w' : World} (h : Low (Zone.all L w) w w') : Below w.heap.size w w' := ⟨h.os, h.tape, h.output, h.size, h.block⟩
theorem calls_of_data {S : Orc} {tb : FuncId → Option FnP} {T : List TypeId} (hT : TbOk P tb) (hSm : OrcOk P tb S) (hcl : clT P T = true) {f : FuncId} {avs : List AV} {args' : Array Value}
    (hrun : evCall P S tb 100 Bool (.fn f) avs ⟨fun _ => none, 0⟩ .off (fun out _ _ => match out with | .ret (.bool b) => some b | _ => none) = some true) (ha : RL (argLoc P enc W T) avs args'.toList) :
    Calls P f args' W fun e w' => e = .returned (.bool true) ∧ Low (Zone.all (LP tb) W) W w' :=
  calls_of_run hT hSm (ρ := argLoc P enc W T) (h := ⟨fun _ => none, 0⟩) (Z := Zone.all (LP tb) W) rfl 100 hrun (arg_rep hcl _) ha
end Go.Ev
