/- Composite literals, slices that are made, conversions: the evaluator's answers are the model's. -/
import Derived.Test.YthlmbnhelkbchaaEvG
namespace Go.Ev
open Go.RowKit
section
variable {A : Type} {P : Program} {r : A} {ρ : Loc} {N : Zone} {n id : Nat} {h : Heap} {w : World}

theorem mapM_places : ∀ (fs : List Field) (pl : List (Nat × Nat)), True → (∀ (i : Nat) f, fs[i]? = some f → ∃ x, P.info? f.type = some x ∧ pl[i]? = some (f.offset, x.size)) → pl.length = fs.length →
    ∀ w, (fs.mapM (m := Sem) fun f => do pure (f.offset, ← sizeOf f.type)).run P w = .ok pl w
  | [], pl, _, _, hl, w => by
    cases pl with
    | nil => simp
    | cons _ _ => simp at hl
  | f :: fs, pl, _, hp, hl, w => by
    cases pl with
    | nil => simp at hl
    | cons q pl =>
      obtain ⟨x, h1, h2⟩ := hp 0 f (by simp)
      simp at h2
      have ih := mapM_places fs pl trivial (fun i g hg => by
        obtain ⟨y, a, b⟩ := hp (i + 1) g (by simpa using hg)
        exact ⟨y, a, by simpa using b⟩) (by simpa using hl) w
      simp only [List.mapM_cons, Sem.run_bind, run_size h1, Result.andThen_ok, Sem.run_pure]
      rw [ih]
      simp [h2]
/-- The struct's fields are all known: else nothing would be told. -/
theorem fieldsKnownA_eq (fs : List Field) : fieldsKnownA P fs = fs.all fun f => (P.info? f.type).isSome := by
  induction fs <;> simp_all [fieldsKnownA]
theorem sim_build {t : TypeId} {parts : List (Nat × AV)} {parts' : List (Nat × Value)} {K : AV → Option A} (hp : Parts ρ parts parts') (hh : buildK P t parts K = some r) : SimV P ρ (Instr.build t parts'.toArray) K r := by
  obtain ⟨i, z, h1, h2, hk⟩ := zeroK_some hh
  obtain ⟨d, hd, hk1⟩ := tyK_some hk
  clear hh hk
  split at hk1
  · rename_i fs
    obtain ⟨hf, hk1⟩ := guardK_some hk1
    obtain ⟨ds, ds', a, b, c⟩ := fill_some parts parts' _ z.cells _ hp (RL.ofLits ρ z.cells.toList) hk1
    have hf' : ∀ f ∈ fs.toList, (P.info? f.type).isSome = true := by rw [fieldsKnownA_eq] at hf; exact List.all_eq_true.1 hf
    let pl : List (Nat × Nat) := fs.toList.map fun f => (f.offset, ((P.info? f.type).map (·.size)).getD 0)
    have hrun : ∀ w, (fs.mapM (m := Sem) fun f => do pure (f.offset, ← sizeOf f.type)).run P w = .ok pl.toArray w := by
      intro w
      rw [Array.mapM_eq_mapM_toList]
      have := mapM_places (P := P) fs.toList pl trivial (fun i f hi => by
        obtain ⟨x, hx⟩ := Option.isSome_iff_exists.1 (hf' f (List.mem_of_getElem? hi))
        exact ⟨x, hx, by simp [pl, hi, hx]⟩) (by simp [pl]) w
      simp only [Sem.run_map, this, Result.andThen_ok]
    have hpl : (fun i => pl.toArray[i]?) = placesOf P fs.toList := by
      funext i
      rw [places_some]
      cases hi : fs.toList[i]? with
      | none => simp [pl, hi]
      | some f =>
        obtain ⟨x, hx⟩ := Option.isSome_iff_exists.1 (hf' f (List.mem_of_getElem? hi))
        simp [pl, hi, hx]
    refine ⟨_, .agg ds', a, ?_, fun w => ?_⟩
    · have := c.agg; simpa using this
    · simp only [Instr.build, Sem.run_bind, run_zero h1 h2, Result.andThen_ok, run_und hd, hrun]
      rw [hpl, b]
      rfl
  · rename_i e
    obtain ⟨j, h3, hk2⟩ := sizeK_some hk1
    obtain ⟨ds, ds', a, b, c⟩ := fill_some parts parts' _ z.cells _ hp (RL.ofLits ρ z.cells.toList) hk2
    refine ⟨_, .agg ds', a, ?_, fun w => ?_⟩
    · have := c.agg; simpa using this
    · simp only [Instr.build, Sem.run_bind, run_zero h1 h2, Result.andThen_ok, run_und hd, run_size h3]
      rw [b]
      rfl
  · cases hk1

/-- Zero values one behind the other. -/
theorem repL_length (zs : List AV) (k : Nat) : (repL zs k).length = k * zs.length := by
  induction k with
  | zero => simp [repL]
  | succ k ih => simp [repL, appA_eq, ih, Nat.succ_mul, Nat.add_comm]
theorem repL_get (zs : List AV) : ∀ (k i : Nat), i < k * zs.length → (repL zs k)[i]? = zs[i % zs.length]?
  | 0, i, hi => by simp at hi
  | k + 1, i, hi => by
    simp only [repL, appA_eq]
    rw [Nat.succ_mul] at hi
    by_cases h1 : i < zs.length
    · rw [List.getElem?_append_left h1, Nat.mod_eq_of_lt h1]
    · rw [List.getElem?_append_right (by omega), repL_get zs k _ (by omega)]
      rw [Nat.mod_eq_sub_mod (by omega : i ≥ zs.length)]
theorem zeros_told (z : Array Value) (k : Nat) : RL ρ (repL (z.toList.map ofLit1) k) ((Array.range (k * z.size)).map fun i => z[i % z.size]!).toList := by
  refine ⟨by simp [repL_length], fun i v v' a b => ?_⟩
  have hi : i < k * z.size := by
    rcases Nat.lt_or_ge i (k * z.size) with h' | h'
    · exact h'
    · rw [List.getElem?_eq_none (by simpa using h')] at b; cases b
  rw [repL_get _ _ _ (by simpa using hi)] at a
  have hz : 0 < z.size := by
    rcases Nat.eq_zero_or_pos z.size with h0 | h0
    · rw [h0] at hi; simp at hi
    · exact h0
  have hm : i % z.size < z.size := Nat.mod_lt _ hz
  have e1 : ((Array.range (k * z.size)).map fun i => z[i % z.size]!).toList[i]? = some (z[i % z.size]!) := by
    simp [hi]
  rw [e1] at b
  cases b
  simp only [List.length_map, Array.length_toList] at a
  have e2 : z[i % z.size]! = z[i % z.size] := by simp [hm]
  rw [e2]
  simp only [List.getElem?_map, Array.getElem?_toList, Array.getElem?_eq_getElem hm, Option.map_some, Option.some.injEq] at a
  subst a
  exact .ofLit1 ρ _
theorem new_slice {vs : List AV} {c : Array Value} {e : TypeId} {fz : Nat × Nat} {K : AV → Heap → Option A} {s : Sem Value} {len cap cap' sz : Nat} {ex : Bool} {w₀ : World} (hr : Rep ρ ⟨h.m, n⟩ N w) (hid : ρ id = none) (hlt : id < n)
    (hc : ∀ (i : Nat) v, vs[i]? = some v → ∃ v', c[i]? = some v' ∧ R ρ v v') (hvl : vs.length ≤ c.size) (hfz : ∀ i, i < c.size → ¬ (fz.1 ≤ i ∧ i < fz.2))
    (hlen : len ≤ cap) (hcap : cap ≤ cap') (hex : ex = true → cap' = cap) (hl : cap' * sz ≤ c.size)
    (hk : K (.sl (some (id, 0)) len cap ex sz) (h.put id (.cells true vs)) = some r) (hw : Low N w₀ w)
    (hs : s.run P w₀ = .ok (.slice (some ⟨w.heap.size, 0, none⟩) len cap') { w with heap := w.heap.push (.cells c e fz) }) :
    SimM P ρ N n id h w₀ s K r := by
  refine ⟨_, _, _, _, setLoc ρ id ⟨w.heap.size, 0, c.size⟩, hk, rfl, hs, setLoc_growsS hid, fun b hb => by simp [setLoc, hb], new_cells hr hid hlt hc hvl hfz, ?_, hw.trans (Low.push hr.old _)⟩
  exact .sl (p := ⟨w.heap.size, 0, c.size⟩) (by simp [setLoc]) hcap hex (fun _ => ⟨by simp, by simpa using hl⟩) hlen
theorem sim_buildSlice {t : TypeId} {len : Nat} {parts : List (Nat × AV)} {parts' : List (Nat × Value)} {K : AV → Heap → Option A} (hr : Rep ρ ⟨h.m, n⟩ N w) (hid : ρ id = none) (hlt : id < n) (hp : Parts ρ parts parts')
    (hh : buildSliceK P t len parts h id K = some r) : SimM P ρ N n id h w (Instr.buildSlice t len parts'.toArray) K r := by
  obtain ⟨d, hd, hk⟩ := tyK_some hh
  clear hh
  split at hk
  · rename_i e
    obtain ⟨i, h1, hk1⟩ := sizeK_some hk
    obtain ⟨i', z, h1', h2, hk2⟩ := zeroK_some hk1
    rw [h1] at h1'; cases h1'
    obtain ⟨g1, hk3⟩ := guardK_some hk2
    obtain ⟨g2, hk4⟩ := guardK_some hk3
    have g1 := Nat.le_of_ble_eq_true g1
    have g2 := Nat.eq_of_beq_eq_true g2
    rw [lenA_eq] at g2
    simp only [List.length_map, Array.length_toList] at g2
    have hz := zeros_told (ρ := ρ) z.cells len
    rw [g2] at hz
    let zero : Array Value := if len * i.size = 0 then #[] else z.cells
    have hzero : (Array.range (len * i.size)).map (fun q => zero[q % zero.size]!) = (Array.range (len * i.size)).map (fun q => z.cells[q % i.size]!) := by
      by_cases h0 : len * i.size = 0
      · rw [h0]; simp
      · simp only [zero, if_neg h0, g2]
    obtain ⟨ds, ds', a0, b, c⟩ := fill_some parts parts' _ _ _ hp hz hk4
    obtain ⟨g3, a⟩ := guardK_some a0
    have hl := c.len
    have hdl : ds.length = len * i.size := by rw [lenA_eq] at g3; exact Nat.eq_of_beq_eq_true g3
    have hds : ds'.size = len * i.size := by simp only [Array.length_toList] at hl; omega
    refine new_slice (c := ds') (len := len) (cap := len) (cap' := len) (sz := i.size) (ex := true) (e := e) (fz := (0, 0)) hr hid hlt (fun j v hj => ?_) (by simp only [Array.length_toList] at hl; omega) (by simp) (Nat.le_refl _) (Nat.le_refl _) (fun _ => rfl) (by omega) a (Low.refl _ _) ?_
    · obtain ⟨v', p, q⟩ := c.get_some hj
      exact ⟨v', by simpa using p, q⟩
    · have hgt : ¬ (len * i.size > 2 ^ 24) := by omega
      by_cases h0 : len * i.size = 0
      · have hz0 : zero = #[] := by simp [zero, h0]
        rw [← hzero, hz0, h0] at b
        have hgt0 : ¬ (0 > 2 ^ 24) := by decide
        simp only [Instr.buildSlice, Sem.run_bind, run_und hd, Result.andThen_ok, run_size h1, h0, if_true, Sem.run_pure, hgt0, if_false, Sem.run_ite]
        rw [b]
        rfl
      · have hz0 : zero = z.cells := by simp [zero, h0]
        rw [← hzero, hz0] at b
        simp only [Instr.buildSlice, Sem.run_bind, run_und hd, Result.andThen_ok, run_size h1, h0, hgt, if_false, Sem.run_ite, run_zero h1 h2, Sem.run_pure]
        rw [b]
        rfl
  · cases hk
end
end Go.Ev
