/- The arguments of a law, by their types: lists of numbers, lists of lists, structs. -/
import Derived.Test.YthlmbnhelkbchaaEvY
namespace Go.Ev
variable {P : Program} {H : Type}
def int64 (n : Int) : AV := .int .i64 n
/-- A number that an int holds. -/
def I64 (n : Int) : Prop := -9223372036854775808 ≤ n ∧ n ≤ 9223372036854775807
theorem I64.of_wf {n : Int} (h : (Lit.int .i64 n).wf = true) : I64 n := by
  simp only [Lit.wf, Bool.and_eq_true, decide_eq_true_eq] at h
  have e1 : IntKind.i64.min = -9223372036854775808 := rfl
  have e2 : IntKind.i64.max = 9223372036854775807 := rfl
  rw [e1, e2] at h
  exact h
theorem catA_single {α : Type} (f : α → AV) (l : List α) : catA (l.map fun a => [f a]) = l.map f := by
  induction l <;> simp_all [catA]
theorem WT.int {t : TypeId} {j : IntKind} (ht : P.underlying t = some (.int j)) {k : Nat} {d : DataW H} (h : WT P k t d) : ∃ n, dCells P k t d = [.int j n] ∧ (Lit.int j n).wf = true := by
  cases k with
  | zero => exact h.elim
  | succ k =>
    simp only [WT, ht] at h
    obtain ⟨n, rfl, hw⟩ := h
    exact ⟨n, by simp only [dCells, ht], hw⟩
theorem WT.bool {t : TypeId} (ht : P.underlying t = some .bool) {k : Nat} {d : DataW H} (h : WT P k t d) : ∃ b, dCells P k t d = [.bool b] := by
  cases k with
  | zero => exact h.elim
  | succ k =>
    simp only [WT, ht] at h
    obtain ⟨b, rfl⟩ := h
    exact ⟨b, by simp only [dCells, ht]⟩
theorem WT.str {t : TypeId} (ht : P.underlying t = some .string) {k : Nat} {d : DataW H} (h : WT P k t d) : ∃ s : List UInt8, dCells P k t d = [.str s] ∧ s.length ≤ maxLen := by
  cases k with
  | zero => exact h.elim
  | succ k =>
    simp only [WT, ht] at h
    obtain ⟨s, rfl, hw⟩ := h
    exact ⟨s, by simp only [dCells, ht], hw⟩
theorem WT.slice {t e : TypeId} (ht : P.underlying t = some (.slice e)) {α : Type} (enc : α → List AV) (Q : α → Prop) (he : ∀ k (d : DataW H), WT P k e d → ∃ a, dCells P k e d = enc a ∧ Q a) {k : Nat} {d : DataW H} (h : WT P k t d) :
    ∃ l : List α, dCells P k t d = [.fz (catA (l.map enc)) l.length false (P.cellsOf e)] ∧ l.length ≤ maxLen ∧ ∀ a ∈ l, Q a := by
  cases k with
  | zero => exact h.elim
  | succ k =>
    simp only [WT, ht] at h
    rcases h with rfl | ⟨ds, sp, rfl, hl, hall⟩
    · exact ⟨[], by simp only [dCells, ht]; rfl, by simp, by simp⟩
    · have key : ∀ ds : List (DataW H), (∀ x ∈ ds, WT P k e x) → ∃ l : List α, ds.map (dCells P k e) = l.map enc ∧ l.length = ds.length ∧ ∀ a ∈ l, Q a := by
        intro ds
        induction ds with
        | nil => intro _; exact ⟨[], rfl, rfl, by simp⟩
        | cons d ds ih =>
          intro h
          obtain ⟨a, h1, h2⟩ := he k d (h d List.mem_cons_self)
          obtain ⟨l, g1, g2, g3⟩ := ih fun x hx => h x (List.mem_cons_of_mem _ hx)
          exact ⟨a :: l, by simp [h1, g1], by simp [g2], fun b hb => by
            rcases List.mem_cons.1 hb with rfl | hb
            · exact h2
            · exact g3 b hb⟩
      obtain ⟨l, g1, g2, g3⟩ := key ds hall
      exact ⟨l, by simp only [dCells, ht]; rw [g1, g2], by omega, g3⟩
/-- Slices of numbers, of slices of numbers. -/
def ints (xs : List Int) : AV := .fz (xs.map int64) xs.length false 1
def rows (xs : List (List Int)) : AV := .fz (xs.map ints) xs.length false 1
theorem WT.ints {t e : TypeId} (ht : P.underlying t = some (.slice e)) (he : P.underlying e = some (.int .i64)) (hc : P.cellsOf e = 1) {k : Nat} {d : DataW H} (h : WT P k t d) :
    ∃ xs : List Int, dCells P k t d = [Ev.ints xs] ∧ xs.length ≤ maxLen ∧ ∀ x ∈ xs, I64 x := by
  obtain ⟨l, h1, h2, h3⟩ := WT.slice ht (fun n => [int64 n]) I64 (fun k d h => let ⟨n, a, b⟩ := WT.int he h; ⟨n, a, .of_wf b⟩) h
  exact ⟨l, by rw [h1, catA_single, hc]; rfl, h2, h3⟩
theorem WT.rows {t e f : TypeId} (ht : P.underlying t = some (.slice e)) (he : P.underlying e = some (.slice f)) (hf : P.underlying f = some (.int .i64)) (hc : P.cellsOf f = 1) (hc' : P.cellsOf e = 1) {k : Nat} {d : DataW H} (h : WT P k t d) :
    ∃ xs : List (List Int), dCells P k t d = [Ev.rows xs] ∧ xs.length ≤ maxLen ∧ ∀ x ∈ xs, x.length ≤ maxLen ∧ ∀ y ∈ x, I64 y := by
  obtain ⟨l, h1, h2, h3⟩ := WT.slice ht (fun xs => [Ev.ints xs]) (fun xs => xs.length ≤ maxLen ∧ ∀ y ∈ xs, I64 y) (fun k d h => WT.ints he hf hc h) h
  exact ⟨l, by rw [h1, catA_single, hc']; rfl, h2, h3⟩
theorem dVal_one {t : TypeId} {k : Nat} {d : DataW H} {v : AV} (h : dCells P k t d = [v]) (h1 : ∀ fs, P.underlying t ≠ some (.struct fs)) (h2 : ∀ n e, P.underlying t ≠ some (.array n e)) : dVal P k t d = v := by
  unfold dVal
  split
  · rename_i fs e; exact absurd e (h1 fs)
  · rename_i n e e'; exact absurd e' (h2 n e)
  · rw [h]; rfl
theorem WT.vint {t : TypeId} (ht : P.underlying t = some (.int .i64)) {k : Nat} {d : DataW H} (h : WT P k t d) : ∃ n, dVal P k t d = int64 n ∧ I64 n := by
  obtain ⟨n, h1, h2⟩ := WT.int ht h
  exact ⟨n, dVal_one h1 (by simp [ht]) (by simp [ht]), .of_wf h2⟩
theorem WT.vstr {t : TypeId} (ht : P.underlying t = some .string) {k : Nat} {d : DataW H} (h : WT P k t d) : ∃ s : List UInt8, dVal P k t d = .str s ∧ s.length ≤ maxLen := by
  obtain ⟨n, h1, h2⟩ := WT.str ht h
  exact ⟨n, dVal_one h1 (by simp [ht]) (by simp [ht]), h2⟩
theorem WT.vints {t e : TypeId} (ht : P.underlying t = some (.slice e)) (he : P.underlying e = some (.int .i64)) (hc : P.cellsOf e = 1) {k : Nat} {d : DataW H} (h : WT P k t d) :
    ∃ xs : List Int, dVal P k t d = Ev.ints xs ∧ xs.length ≤ maxLen ∧ ∀ x ∈ xs, I64 x := by
  obtain ⟨l, h1, h2⟩ := WT.ints ht he hc h
  exact ⟨l, dVal_one h1 (by simp [ht]) (by simp [ht]), h2⟩
theorem WT.vrows {t e f : TypeId} (ht : P.underlying t = some (.slice e)) (he : P.underlying e = some (.slice f)) (hf : P.underlying f = some (.int .i64)) (hc : P.cellsOf f = 1) (hc' : P.cellsOf e = 1) {k : Nat} {d : DataW H} (h : WT P k t d) :
    ∃ xs : List (List Int), dVal P k t d = Ev.rows xs ∧ xs.length ≤ maxLen ∧ ∀ x ∈ xs, x.length ≤ maxLen ∧ ∀ y ∈ x, I64 y := by
  obtain ⟨l, h1, h2⟩ := WT.rows ht he hf hc hc' h
  exact ⟨l, dVal_one h1 (by simp [ht]) (by simp [ht]), h2⟩
/-- A struct's fields: where, and of what type. -/
def structOf (P : Program) (t : TypeId) : Option (List (Nat × TypeId)) := match P.underlying t with
  | some (.struct fs) => some (fs.toList.map fun f => (f.offset, f.type))
  | _ => none
theorem WT.struct {t : TypeId} {l : List (Nat × TypeId)} (hl : structOf P t = some l) {k : Nat} {d : DataW H} (h : WT P k t d) :
    ∃ (k' : Nat) (ds : List (DataW H)), ds.length = l.length ∧ (∀ (i : Nat) x y, l[i]? = some x → ds[i]? = some y → WT P k' x.2 y) ∧ dVal P k t d = .agg (lay (repA .dead (P.cellsOf t)) ((l.zip ds).map fun x => (x.1.1, dCells P k' x.1.2 x.2))) := by
  unfold structOf at hl
  split at hl
  · rename_i fs ht
    cases hl
    cases k with
    | zero => exact h.elim
    | succ k =>
      simp only [WT, ht] at h
      obtain ⟨ds, rfl, h1, h2⟩ := h
      refine ⟨k, ds, by simp [h1], fun i x y hx hy => ?_, ?_⟩
      · simp only [List.getElem?_map, Option.map_eq_some_iff] at hx
        obtain ⟨f, hf, rfl⟩ := hx
        exact h2 i f y (by simpa using hf) hy
      · simp only [dVal, dCells, ht, List.zip_map_left, List.map_map]
        rfl
  · cases hl
end Go.Ev
