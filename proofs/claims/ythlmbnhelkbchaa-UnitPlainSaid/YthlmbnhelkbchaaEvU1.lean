/- A heap seen by other numbers, with less in it: what the world says of the one it says of the other. -/
import Derived.Test.YthlmbnhelkbchaaEvU
namespace Go.Ev
variable {P : Program} {φ : List (Nat × Nat)} {h : Heap} {ρ ρ' : Loc} {N : Zone} {w : World}

theorem beq_eq {a b : Nat} : Nat.beq a b = true ↔ a = b := ⟨Nat.eq_of_beq_eq_true, fun h => by subst h; simp⟩
theorem find1_mem {b c : Nat} : ∀ {φ : List (Nat × Nat)}, find1 b φ = some c → (b, c) ∈ φ
  | [], h => by cases h
  | x :: l, h => by
    simp only [find1] at h
    cases hb : Nat.beq b x.1 with
    | true =>
      rw [hb] at h
      simp only [cond_true, Option.some.injEq] at h
      have := beq_eq.1 hb
      subst this; subst h
      exact List.mem_cons_self
    | false => rw [hb] at h; exact List.mem_cons_of_mem _ (find1_mem h)
theorem find1_none {b : Nat} : ∀ {φ : List (Nat × Nat)}, find1 b φ = none → ∀ c, (b, c) ∉ φ
  | [], _, c => by simp
  | x :: l, h, c => by
    simp only [find1] at h
    cases hb : Nat.beq b x.1 with
    | true => rw [hb] at h; cases h
    | false =>
      rw [hb] at h
      intro hm
      rcases List.mem_cons.1 hm with e | e
      · subst e; simp at hb
      · exact find1_none h c e
theorem find1_of_mem {b c : Nat} : ∀ {φ : List (Nat × Nat)}, (φ.map (·.1)).Nodup → (b, c) ∈ φ → find1 b φ = some c
  | [], _, h => by cases h
  | x :: l, hn, h => by
    simp only [List.map_cons, List.nodup_cons] at hn
    simp only [find1]
    rcases List.mem_cons.1 h with e | e
    · subst e; simp
    · have hne : b ≠ x.1 := fun e2 => hn.1 (List.mem_map.2 ⟨_, e, e2⟩)
      rw [show Nat.beq b x.1 = false from beq_false hne]
      exact find1_of_mem hn.2 e
/-- The number that goes by a number. -/
def inv1 (c : Nat) : List (Nat × Nat) → Option Nat
  | [] => none
  | x :: l => if c = x.2 then some x.1 else inv1 c l
theorem inv1_of_mem {b c : Nat} : ∀ {φ : List (Nat × Nat)}, (φ.map (·.2)).Nodup → (b, c) ∈ φ → inv1 c φ = some b
  | [], _, h => by cases h
  | x :: l, hn, h => by
    simp only [List.map_cons, List.nodup_cons] at hn
    simp only [inv1]
    rcases List.mem_cons.1 h with e | e
    · subst e; simp
    · have hne : c ≠ x.2 := fun e2 => hn.1 (List.mem_map.2 ⟨_, e, e2⟩)
      rw [if_neg hne]
      exact inv1_of_mem hn.2 e
theorem inv1_mem {b c : Nat} : ∀ {φ : List (Nat × Nat)}, inv1 c φ = some b → (b, c) ∈ φ
  | [], h => by cases h
  | x :: l, h => by
    simp only [inv1] at h
    by_cases e : c = x.2
    · rw [if_pos e] at h; cases h; subst e; exact List.mem_cons_self
    · rw [if_neg e] at h; exact List.mem_cons_of_mem _ (inv1_mem h)

theorem fixLen_length : ∀ (n : Nat) (cs : List AV), (fixLen n cs).length = n
  | 0, _ => rfl
  | n + 1, [] => by simp [fixLen, fixLen_length n []]
  | n + 1, c :: cs => by simp [fixLen, fixLen_length n cs]
theorem fixLen_get : ∀ (n : Nat) (cs : List AV) (i : Nat) (v : AV), (fixLen n cs)[i]? = some v → cs[i]? = some v ∨ v = .dead
  | 0, _, i, v, h => by simp [fixLen] at h
  | n + 1, [], i, v, h => by
    cases i with
    | zero => simp [fixLen] at h; exact .inr h.symm
    | succ i =>
      simp only [fixLen, List.getElem?_cons_succ] at h
      rcases fixLen_get n [] i v h with h | h
      · simp at h
      · exact .inr h
  | n + 1, c :: cs, i, v, h => by
    cases i with
    | zero => simp [fixLen] at h; exact .inl (by simp [h])
    | succ i =>
      simp only [fixLen, List.getElem?_cons_succ] at h ⊢
      exact fixLen_get n cs i v h
theorem mapCyc_length {f : Option TypeId → AV → AV} {all : List (Option TypeId)} : ∀ (ls : List (Option TypeId)) (cs : List AV), (mapCyc f all ls cs).length = cs.length
  | [], [] => by simp [mapCyc]
  | _ :: _, [] => by simp [mapCyc]
  | l :: ls, c :: cs => by simp [mapCyc, mapCyc_length ls cs]
  | [], c :: cs => by
    simp only [mapCyc]
    split
    · simp [mapCyc_length [] cs]
    · rename_i ls; simp [mapCyc_length ls cs]
theorem mapCyc_get {f : Option TypeId → AV → AV} {all : List (Option TypeId)} : ∀ (ls : List (Option TypeId)) (cs : List AV) (i : Nat) (v : AV), (mapCyc f all ls cs)[i]? = some v → ∃ c l, cs[i]? = some c ∧ v = f l c
  | [], [], i, v, h => by simp [mapCyc] at h
  | _ :: _, [], i, v, h => by simp [mapCyc] at h
  | l :: ls, c :: cs, i, v, h => by
    cases i with
    | zero => simp [mapCyc] at h; exact ⟨c, l, by simp, h.symm⟩
    | succ i => simp only [mapCyc, List.getElem?_cons_succ] at h ⊢; exact mapCyc_get ls cs i v h
  | [], c :: cs, i, v, h => by
    simp only [mapCyc] at h
    split at h
    · cases i with
      | zero => simp at h; exact ⟨c, none, by simp, h.symm⟩
      | succ i => simp only [List.getElem?_cons_succ] at h ⊢; exact mapCyc_get [] cs i v h
    · rename_i l ls
      cases i with
      | zero => simp at h; exact ⟨c, l, by simp, h.symm⟩
      | succ i => simp only [List.getElem?_cons_succ] at h ⊢; exact mapCyc_get ls cs i v h
theorem RL.cyc {f : Option TypeId → AV → AV} (hf : ∀ l v v', R ρ v v' → R ρ' (f l v) v') {all ls : List (Option TypeId)} {cs : List AV} {cs' : List Value} (hc : RL ρ cs cs') : RL ρ' (mapCyc f all ls cs) cs' :=
  ⟨by rw [mapCyc_length, hc.len], fun i v v' a b => by
    obtain ⟨c, l, h1, rfl⟩ := mapCyc_get _ _ _ _ a
    exact hf l c v' (hc.get i c v' h1 b)⟩
theorem RL.mapA {f : AV → AV} (hf : ∀ v v', R ρ v v' → R ρ' (f v) v') {cs : List AV} {cs' : List Value} (hc : RL ρ cs cs') : RL ρ' (cs.map f) cs' :=
  ⟨by simp [hc.len], fun i v v' a b => by
    simp only [List.getElem?_map, Option.map_eq_some_iff] at a
    obtain ⟨c, h1, rfl⟩ := a
    exact hf c v' (hc.get i c v' h1 b)⟩

/-- What is told of a world by other numbers. -/
structure Sees (P : Program) (φ : List (Nat × Nat)) (h : Heap) (ρ ρ' : Loc) : Prop where
  at' : ∀ b c, find1 b φ = some c → ρ' c = ρ b
  F : ∀ b o cs, ρ.F b o cs → ρ'.F b o cs
  nw : ∀ id p wr vs o n k ls, h.m id = some (.cells wr vs) → find1 id φ = none → ρ id = some p → o + n ≤ p.ext → ρ'.F p.blk (p.off + o) (fixLen n (mapCyc (vw P φ h true k) ls ls (vs.drop o)))
theorem vw_slice (hs : Sees P φ h ρ ρ') {k : Nat} {ls : List (Option TypeId)} {b o len cap sz : Nat} {ex : Bool} {v' : Value} (hv : R ρ (.sl (some (b, o)) len cap ex sz) v') (hn : find1 b φ = none) :
    R ρ' (match h.m b with
      | some (.cells _ vs) => .fz (fixLen (len * sz) (mapCyc (vw P φ h true k) ls ls (dropA vs o))) len false sz
      | _ => .dead) v' := by
  obtain ⟨p, a, cap', q1, rfl, q2, q3, q4, q5⟩ := hv.sl_inv
  split
  · rename_i wr vs hm
    rw [dropA_eq]
    refine .fz (fun h0 => ?_) (by simp) (fixLen_length _ _) (Nat.le_trans q5 q2) (by simp) (fun x hx h0 => by cases hx; rw [(q4 h0).1])
    obtain ⟨ha, hb⟩ := q4 (by omega)
    have hle : o + len * sz ≤ p.ext := by
      have : len * sz ≤ cap' * sz := Nat.mul_le_mul_right _ (Nat.le_trans q5 q2)
      omega
    refine ⟨p.blk, p.off + o, 0, _, hs.nw b p wr vs o (len * sz) k ls hm hn q1 hle, by rw [ha]; rfl, ?_, ?_⟩
    · rw [List.drop_zero, List.take_of_length_le (by rw [fixLen_length]; exact Nat.le_refl _)]
    · rw [fixLen_length]; omega
  · exact .dead _
theorem vw_R (hs : Sees P φ h ρ ρ') : ∀ (k : Nat) (pur : Bool) (l : Option TypeId) (v : AV) (v' : Value), R ρ v v' → R ρ' (vw P φ h pur k l v) v'
  | 0, pur, l, v, v', hv => .dead _
  | k + 1, pur, l, v, v', hv => by
    have ih := vw_R hs k pur
    cases hv with
    | dead v => exact .dead _
    | int k n => exact .int _ _
    | bool b => exact .bool _
    | str s => exact .str _
    | ptrn => exact .ptrn
    | ptr hp =>
      simp only [vw]
      split
      · rename_i c hc
        cases pur with
        | true => exact .dead _
        | false => exact .ptr ((hs.at' _ _ hc).trans hp)
      · exact .dead _
    | sln sz =>
      simp only [vw]
      split
      · exact .fz (fun h0 => absurd h0 (Nat.lt_irrefl _)) (fun _ => rfl) (by simp) (Nat.le_refl 0) (by simp) (fun _ hx => by cases hx)
      · exact .sln _
    | sl hp h1 h2 h3 h4 =>
      have hv : R ρ (.sl (some (_, _)) _ _ _ _) _ := .sl hp h1 h2 h3 h4
      simp only [vw]
      split
      · rename_i c hc
        cases pur with
        | true => exact .dead _
        | false => exact .sl ((hs.at' _ _ hc).trans hp) h1 h2 h3 h4
      · rename_i hc
        exact vw_slice hs hv hc
    | gr hp h1 h3 =>
      have hv : R ρ (.gr (_, _) _ _) _ := .gr hp h1 h3
      simp only [vw]
      split
      · rename_i c hc
        cases pur with
        | true => exact .dead _
        | false => exact .gr ((hs.at' _ _ hc).trans hp) h1 h3
      · rename_i hc
        exact vw_slice hs hv.gr_sl hc
    | fz hh h0 hl h1 h2 h5 =>
      simp only [vw]
      split
      · exact .fz (fun h' => let ⟨b, q, o, cs0, x, y⟩ := hh h'; ⟨b, q, o, cs0, hs.F _ _ _ x, y⟩) h0 hl h1 (by simp) h5
      · exact .fz (fun h' => let ⟨b, q, o, cs0, x, y⟩ := hh h'; ⟨b, q, o, cs0, hs.F _ _ _ x, y⟩) h0 hl h1 h2 h5
    | fp hh hc hl => exact .fp (hs.F _ _ _ hh) hc hl
    | mapn => exact .mapn
    | map hp =>
      simp only [vw]
      split
      · rename_i c hc
        cases pur with
        | true => exact .dead _
        | false => exact .map ((hs.at' _ _ hc).trans hp)
      · exact .dead _
    | fn f h1 h2 h3 h4 =>
      simp only [vw]
      refine .fn f (by simpa using h1) (fun i v v' a b => ?_) (by simpa using h3) (fun i v v' a b => ?_)
      · simp only [List.getElem?_map, Option.map_eq_some_iff] at a
        obtain ⟨c, a1, rfl⟩ := a
        exact ih _ _ _ (h2 i c v' a1 b)
      · simp only [List.getElem?_map, Option.map_eq_some_iff] at a
        obtain ⟨c, a1, rfl⟩ := a
        exact ih _ _ _ (h4 i c v' a1 b)
    | yield hp =>
      simp only [vw]
      split
      · rename_i c hc
        cases pur with
        | true => exact .dead _
        | false => exact .yield ((hs.at' _ _ hc).trans hp)
      · exact .dead _
    | nilf => exact .nilf
    | iface t hx => exact .iface t (ih _ _ _ hx)
    | nili => exact .nili
    | agg h1 h2 =>
      simp only [vw]
      refine .agg (by rw [mapCyc_length]; exact h1) (fun i v v' a b => ?_)
      obtain ⟨c, l', a1, rfl⟩ := mapCyc_get _ _ _ _ a
      exact ih _ _ _ (h2 i c v' a1 b)
    | tup h1 h2 =>
      simp only [vw]
      refine .tup (by simpa using h1) (fun i v v' a b => ?_)
      simp only [List.getElem?_map, Option.map_eq_some_iff] at a
      obtain ⟨c, a1, rfl⟩ := a
      exact ih _ _ _ (h2 i c v' a1 b)
theorem vw_pure : ∀ (k : Nat) (l : Option TypeId) (v : AV), Pure (vw P φ h true k l v)
  | 0, l, v => .dead
  | k + 1, l, v => by
    have ih := vw_pure k
    cases v with
    | dead => exact .dead
    | int k n => exact .int _ _
    | bool b => exact .bool _
    | str s => exact .str _
    | ptr p =>
      cases p with
      | none => exact .ptrn
      | some p => simp only [vw]; split <;> exact .dead
    | sl p len cap ex sz =>
      cases p with
      | none =>
        simp only [vw]
        split
        · exact .fz _ _ _ _
        · exact .sln _ _ _ _
      | some p =>
        simp only [vw]
        split
        · exact .dead
        · split
          · exact .fz _ _ _ _
          · exact .dead
    | gr p len sz =>
      simp only [vw]
      split
      · exact .dead
      · split
        · exact .fz _ _ _ _
        · exact .dead
    | map r =>
      cases r with
      | none => exact .mapn
      | some b => simp only [vw]; split <;> exact .dead
    | fn f a c =>
      simp only [vw]
      refine .fn f (fun i v hv => ?_) (fun i v hv => ?_) <;>
      · simp only [List.getElem?_map, Option.map_eq_some_iff] at hv
        obtain ⟨c, _, rfl⟩ := hv
        exact ih _ _
    | yield l => simp only [vw]; split <;> exact .dead
    | nilf => exact .nilf
    | iface t v => exact .iface t (ih _ _)
    | nili => exact .nili
    | agg cs =>
      simp only [vw]
      refine .agg (fun i v hv => ?_)
      obtain ⟨c, l', a1, rfl⟩ := mapCyc_get _ _ _ _ hv
      exact ih _ _
    | tup cs =>
      simp only [vw]
      refine .tup (fun i v hv => ?_)
      simp only [List.getElem?_map, Option.map_eq_some_iff] at hv
      obtain ⟨c, _, rfl⟩ := hv
      exact ih _ _
    | fz cs len ex sz => simp only [vw]; split <;> exact .fz _ _ _ _
    | fp cs o => exact .fp _ _

/-- Numbers to numbers, one to one; below n0 as they are. -/
structure RenOk (φ : List (Nat × Nat)) (n0 nx : Nat) : Prop where
  k : (φ.map (·.1)).Nodup
  v : (φ.map (·.2)).Nodup
  low : ∀ b c, (b, c) ∈ φ → c < n0 → b = c
  lt : ∀ b c, (b, c) ∈ φ → c < nx
  le : n0 ≤ nx
def locOf (P : Program) (φ : List (Nat × Nat)) (n0 : Nat) (h : Heap) (ρ : Loc) : Loc where
  m c := if c < n0 then ρ c else (inv1 c φ).bind ρ
  F b o cs := ρ.F b o cs ∨ ∃ id p wr vs o' n k ls, h.m id = some (.cells wr vs) ∧ find1 id φ = none ∧ ρ id = some p ∧ o' + n ≤ p.ext ∧ b = p.blk ∧ o = p.off + o' ∧ cs = fixLen n (mapCyc (vw P φ h true k) ls ls (vs.drop o'))
theorem sees_locOf {n0 nx : Nat} (hφ : RenOk φ n0 nx) : Sees P φ h ρ (locOf P φ n0 h ρ) := by
  refine ⟨fun b c hc => ?_, fun b o cs hf => .inl hf, fun id p wr vs o n k ls h1 h2 h3 h4 => .inr ⟨id, p, wr, vs, o, n, k, ls, h1, h2, h3, h4, rfl, rfl, rfl⟩⟩
  have hm := find1_mem hc
  show (if c < n0 then ρ c else (inv1 c φ).bind ρ) = ρ b
  by_cases e : c < n0
  · rw [if_pos e, hφ.low _ _ hm e]
  · rw [if_neg e, inv1_of_mem hφ.v hm]; rfl
theorem look_mem {c : Nat} {x : Blk} : ∀ {l : List (Nat × Blk)}, look c l = some x → (c, x) ∈ l
  | [], h => by cases h
  | y :: l, h => by
    simp only [look] at h
    cases hb : Nat.beq c y.1 with
    | true =>
      rw [hb] at h
      simp only [cond_true, Option.some.injEq] at h
      have := beq_eq.1 hb
      subst this; subst h
      exact List.mem_cons_self
    | false => rw [hb] at h; exact List.mem_cons_of_mem _ (look_mem h)
theorem vwBlks_mem {ty : Nat → Option TypeId} {ψ : List (Nat × Nat)} {c : Nat} {x : Blk} : ∀ {l : List (Nat × Nat)}, (c, x) ∈ vwBlks P ψ h ty l → ∃ b y, (b, c) ∈ l ∧ h.m b = some y ∧ vwB P ψ h (ty b) y = some x
  | [], hm => by simp [vwBlks] at hm
  | (b, c') :: l, hm => by
    simp only [vwBlks] at hm
    split at hm
    · rename_i y hy
      rcases List.mem_cons.1 hm with e | e
      · cases e
        obtain ⟨z, h1, h2⟩ := Option.bind_eq_some_iff.1 hy
        exact ⟨b, z, List.mem_cons_self, h1, h2⟩
      · obtain ⟨b', z, a1, a2⟩ := vwBlks_mem e
        exact ⟨b', z, List.mem_cons_of_mem _ a1, a2⟩
    · obtain ⟨b', z, a1, a2⟩ := vwBlks_mem hm
      exact ⟨b', z, List.mem_cons_of_mem _ a1, a2⟩
theorem vwB_writes {l : Option TypeId} {x y : Blk} (hb : vwB P φ h l x = some y) : y.writes = x.writes := by
  cases x with
  | cells w vs => simp only [vwB, Option.some.injEq] at hb; subst hb; rfl
  | map es c => simp only [vwB, Option.some.injEq] at hb; subst hb; rfl
  | loop x =>
    simp only [vwB] at hb
    split at hb
    · simp only [Option.some.injEq] at hb; subst hb; rfl
    · cases hb
  | dfr b => simp only [vwB, Option.some.injEq] at hb; subst hb; rfl
/-- What is asked of loops' records does not hang on the numbers. -/
def LFree (L : ALoop → Prop) : Prop := ∀ (x : ALoop) t d, L x → L { x with tmps := t, defers := d }
theorem RB.vw (hs : Sees P φ h ρ ρ') (hL : LFree N.L) {p : Pl} {x y : Blk} {l : Option TypeId} (hx : RB ρ N w p x) (hb : vwB P φ h l x = some y) : RB ρ' N w p y := by
  have hR := vw_R hs deepV false
  cases x with
  | cells wr vs =>
    simp only [vwB, Option.some.injEq] at hb
    subst hb
    obtain ⟨c, e, fz, g1, g2, g3, g4, g5⟩ := hx
    refine ⟨c, e, fz, g1, g2, by rw [mapCyc_length]; exact g3, fun i v hi => ?_, g5⟩
    obtain ⟨u, l', a1, rfl⟩ := mapCyc_get _ _ _ _ hi
    obtain ⟨v', b1, b2⟩ := g4 i u a1
    exact ⟨v', b1, hR _ _ _ b2⟩
  | map es ck =>
    simp only [vwB, Option.some.injEq] at hb
    subst hb
    obtain ⟨h0, en, h1, h2, h3⟩ := hx
    refine ⟨h0, en, h1, by simpa using h2, fun i e e' a b => ?_⟩
    simp only [List.getElem?_map, Option.map_eq_some_iff] at a
    obtain ⟨u, a1, rfl⟩ := a
    obtain ⟨x1, x2, x3⟩ := h3 i u e' a1 b
    exact ⟨hR none _ _ x1, hR none _ _ x2, x3⟩
  | loop x =>
    simp only [vwB] at hb
    split at hb
    · rename_i d hd
      simp only [Option.some.injEq] at hb
      subst hb
      obtain ⟨h0, hl, l', h1, h2, h3, h4, h5, h6, h7, h8, p2, h9, h10⟩ := hx
      exact ⟨h0, hL _ _ _ hl, l', h1, h2, h3, h4, h5.mapA (fun v v' => hR none v v'), h6, h7, h8, p2, (hs.at' _ _ hd).trans h9, h10⟩
    · cases hb
  | dfr b =>
    simp only [vwB, Option.some.injEq] at hb
    subst hb
    exact hx
theorem view {n0 nx : Nat} {ty : Nat → Option TypeId} (hr : Rep ρ h N w) (hφ : RenOk φ n0 nx) (hL : LFree N.L) : Rep (locOf P φ n0 h ρ) (mkHeap (vwBlks P φ h ty φ) nx) N w := by
  have hs : Sees P φ h ρ (locOf P φ n0 h ρ) := sees_locOf hφ
  have key : ∀ c y, (mkHeap (vwBlks P φ h ty φ) nx).m c = some y → ∃ b x p, find1 b φ = some c ∧ h.m b = some x ∧ ρ b = some p ∧ RB ρ N w p x ∧ vwB P φ h (ty b) x = some y := fun c y hy => by
    obtain ⟨b, x, a1, a2, a3⟩ := vwBlks_mem (look_mem hy)
    obtain ⟨p, b1, b2⟩ := hr.blk b x a2
    exact ⟨b, x, p, find1_of_mem hφ.k a1, a2, b1, b2, a3⟩
  have kinj : ∀ b b' c, find1 b φ = some c → find1 b' φ = some c → b = b' := fun b b' c x y => by
    have h1 := inv1_of_mem hφ.v (find1_mem x)
    have h2 := inv1_of_mem hφ.v (find1_mem y)
    rw [h1] at h2; cases h2; rfl
  refine ⟨fun c y hy => ?_, fun c c' y y' q q' hy hy' hne hw hq hq' => ?_, hr.old, fun c hc => ?_, fun b o cs hf => ?_⟩
  · obtain ⟨b, x, p, a1, a2, a3, a4, a5⟩ := key c y hy
    exact ⟨p, (hs.at' _ _ a1).trans a3, a4.vw hs hL a5⟩
  · obtain ⟨b, x, p, a1, a2, a3, a4, a5⟩ := key c y hy
    obtain ⟨b', x', p', a1', a2', a3', a4', a5'⟩ := key c' y' hy'
    have e1 := (hs.at' _ _ a1).trans a3
    have e2 := (hs.at' _ _ a1').trans a3'
    rw [e1] at hq; cases hq
    rw [e2] at hq'; cases hq'
    refine hr.inj b b' x x' _ _ a2 a2' (fun e => ?_) (by rw [← vwB_writes a5]; exact hw) a3 a3'
    subst e
    rw [a1] at a1'; cases a1'; exact hne rfl
  · have hc' : nx ≤ c := hc
    show (if c < n0 then ρ c else (inv1 c φ).bind ρ) = none
    have := hφ.le
    rw [if_neg (by omega)]
    cases hi : inv1 c φ with
    | none => rfl
    | some b => have := hφ.lt _ _ (inv1_mem hi); omega
  · rcases hf with hf | ⟨id, p, wr, vs, o', n, k, ls, h1, h2, h3, h4, rfl, rfl, rfl⟩
    · obtain ⟨⟨c, e, fz, g1, g2, g3⟩, f2, f3, f4⟩ := hr.frz b o cs hf
      refine ⟨⟨c, e, fz, g1, g2, fun i v hi => ?_⟩, fun d y q hd hy hq => ?_, f3, f4⟩
      · obtain ⟨v', a, b⟩ := g3 i v hi
        exact ⟨v', a, b.pure hs.F (f4 v (List.mem_of_getElem? hi))⟩
      · obtain ⟨b', x, p, a1, a2, a3, a4, a5⟩ := key d y hd
        have e1 := (hs.at' _ _ a1).trans a3
        rw [e1] at hq; cases hq
        exact f2 b' x _ a2 (by rw [← vwB_writes a5]; exact hy) a3
    · obtain ⟨p', b1, b2⟩ := hr.blk id _ h1
      rw [h3] at b1; cases b1
      refine ⟨?_, fun d y q hd hy hq => ?_, fun hk => ?_, fun v hv => ?_⟩
      · obtain ⟨c, e, fz, g1, g2, g3, g4, g5⟩ := b2
        refine ⟨c, e, fz, g1, by rw [fixLen_length]; omega, fun i v hi => ?_⟩
        have hin : i < n := by
          have := (List.getElem?_eq_some_iff.1 hi).1
          rwa [fixLen_length] at this
        have hlt : p.off + o' + i < c.size := by omega
        rcases fixLen_get _ _ _ _ hi with hi | rfl
        · obtain ⟨u, l', a1, rfl⟩ := mapCyc_get _ _ _ _ hi
          rw [List.getElem?_drop] at a1
          obtain ⟨v', c1, c2⟩ := g4 _ _ a1
          exact ⟨v', by rw [show p.off + o' + i = p.off + (o' + i) by omega]; exact c1, vw_R hs _ _ _ _ _ c2⟩
        · exact ⟨c[p.off + o' + i], Array.getElem?_eq_getElem hlt, .dead _⟩
      · obtain ⟨b', x, p1, a1, a2, a3, a4, a5⟩ := key d y hd
        have e1 := (hs.at' _ _ a1).trans a3
        rw [e1] at hq; cases hq
        refine hr.inj b' id x _ _ _ a2 h1 (fun e => ?_) (by rw [← vwB_writes a5]; exact hy) a3 h3
        subst e
        rw [h2] at a1; cases a1
      · cases wr with
        | true => exact absurd hk (b2.low rfl)
        | false => obtain ⟨c, e, fz, g1, g2, g3, g4, g5, g6⟩ := b2; exact .inl (g6 rfl)
      · obtain ⟨i, hi⟩ := List.getElem?_of_mem hv
        rcases fixLen_get _ _ _ _ hi with hi | rfl
        · obtain ⟨u, l', a1, rfl⟩ := mapCyc_get _ _ _ _ hi
          exact vw_pure _ _ _
        · exact .dead

/-! ### What stays at a loop's head -/
theorem idents_mem {b c : Nat} : ∀ {n : Nat}, (b, c) ∈ idents h n → b = c ∧ b < n
  | 0, hm => by simp [idents] at hm
  | n + 1, hm => by
    simp only [idents] at hm
    split at hm
    · rcases List.mem_cons.1 hm with e | e
      · cases e; exact ⟨rfl, Nat.lt_succ_self _⟩
      · have := idents_mem e; exact ⟨this.1, by omega⟩
    · have := idents_mem hm; exact ⟨this.1, by omega⟩
theorem idents_nodup : ∀ n : Nat, ((idents h n).map (·.1)).Nodup ∧ ((idents h n).map (·.2)).Nodup
  | 0 => ⟨by simp [idents], by simp [idents]⟩
  | n + 1 => by
    have ih := idents_nodup n
    simp only [idents]
    split
    · refine ⟨?_, ?_⟩
      · simp only [List.map_cons, List.nodup_cons]
        refine ⟨fun hm => ?_, ih.1⟩
        obtain ⟨x, a, b⟩ := List.mem_map.1 hm
        have h1 : x.1 = n := b
        have := idents_mem (b := x.1) (c := x.2) a
        omega
      · simp only [List.map_cons, List.nodup_cons]
        refine ⟨fun hm => ?_, ih.2⟩
        obtain ⟨x, a, b⟩ := List.mem_map.1 hm
        have h1 : x.2 = n := b
        have := idents_mem (b := x.1) (c := x.2) a
        omega
    · exact ih
theorem pairsOf_ok {n0 : Nat} : ∀ (ps : List (Option Nat)) (i : Nat) (acc : List (Nat × Nat)), (acc.map (·.1)).Nodup → (acc.map (·.2)).Nodup → (∀ b c, (b, c) ∈ acc → (c < n0 → b = c) ∧ c < n0 + i) →
    RenOk (pairsOf n0 ps i acc) n0 (n0 + (i + lenO ps))
  | [], i, acc, h1, h2, h3 => ⟨h1, h2, fun b c hm hc => (h3 b c hm).1 hc, fun b c hm => (h3 b c hm).2, by omega⟩
  | none :: l, i, acc, h1, h2, h3 => by
    have := pairsOf_ok (n0 := n0) l (i + 1) acc h1 h2 (fun b c hm => ⟨(h3 b c hm).1, by have := (h3 b c hm).2; omega⟩)
    simp only [pairsOf, lenO]
    rw [show i + (lenO l + 1) = i + 1 + lenO l by omega]; exact this
  | some b :: l, i, acc, h1, h2, h3 => by
    have skip := pairsOf_ok (n0 := n0) l (i + 1) acc h1 h2 (fun b c hm => ⟨(h3 b c hm).1, by have := (h3 b c hm).2; omega⟩)
    simp only [pairsOf, lenO]
    rw [show i + (lenO l + 1) = i + 1 + lenO l by omega]
    cases hb : (Nat.ble n0 b && isNone' (find1 b acc)) with
    | false => exact skip
    | true =>
      simp only [Bool.and_eq_true] at hb
      have hf : find1 b acc = none := by
        cases hf : find1 b acc with
        | none => rfl
        | some c => rw [hf] at hb; simp [isNone'] at hb
      refine pairsOf_ok (n0 := n0) l (i + 1) ((b, n0 + i) :: acc) ?_ ?_ (fun b' c hm => ?_)
      · simp only [List.map_cons, List.nodup_cons]
        refine ⟨fun hm => ?_, h1⟩
        obtain ⟨x, a, e⟩ := List.mem_map.1 hm
        have e : x.1 = b := e
        exact find1_none hf x.2 (e ▸ a)
      · simp only [List.map_cons, List.nodup_cons]
        refine ⟨fun hm => ?_, h2⟩
        obtain ⟨x, a, e⟩ := List.mem_map.1 hm
        have e : x.2 = n0 + i := e
        have := (h3 x.1 x.2 a).2
        omega
      · rcases List.mem_cons.1 hm with e | e
        · cases e; exact ⟨fun h => by omega, by omega⟩
        · exact ⟨(h3 b' c e).1, by have := (h3 b' c e).2; omega⟩
theorem keepT_get {f : AV → AV} {keep : List Tmp} : ∀ (t : List AV) (i j : Nat) (v : AV), (keepT f keep i t)[j]? = some v → ∃ u, t[j]? = some u ∧ (v = f u ∨ v = .dead)
  | [], i, j, v, hv => by simp [keepT] at hv
  | u :: t, i, j, v, hv => by
    simp only [keepT] at hv
    cases j with
    | zero =>
      simp only [List.getElem?_cons_zero, Option.some.injEq] at hv
      refine ⟨u, by simp, ?_⟩
      cases hb : keep.any (Nat.beq i) with
      | true => rw [hb] at hv; exact .inl hv.symm
      | false => rw [hb] at hv; exact .inr hv.symm
    | succ j => simp only [List.getElem?_cons_succ] at hv ⊢; exact keepT_get t (i + 1) j v hv
theorem keepT_length {f : AV → AV} {keep : List Tmp} : ∀ (t : List AV) (i : Nat), (keepT f keep i t).length = t.length
  | [], _ => rfl
  | u :: t, i => by simp [keepT, keepT_length t (i + 1)]
def renOf (N : Norm) (n0 : Nat) (st : St) : List (Nat × Nat) := pairsOf n0 (posT st.t N.keep ++ posD st.t st.h N.der) 0 (idents st.h n0)
theorem renOf_ok (N : Norm) (n0 : Nat) (st : St) : RenOk (renOf N n0 st) n0 (n0 + lenO (posT st.t N.keep ++ posD st.t st.h N.der)) := by
  have := pairsOf_ok (n0 := n0) (posT st.t N.keep ++ posD st.t st.h N.der) 0 (idents st.h n0) (idents_nodup n0).1 (idents_nodup n0).2 (fun b c hm => ⟨fun _ => (idents_mem hm).1, by have := idents_mem hm; omega⟩)
  rwa [Nat.zero_add] at this
theorem vwD_sound {ρ ρ' : Loc} {n0 : Nat} (hs : Sees P φ h ρ ρ') (hlow : ∀ b, b < n0 → ρ' b = ρ b) : ∀ {l : List ADef} {l' : List Deferred}, DL ρ l l' → markLow n0 l = true → DL ρ' (l.map (vwD P φ h)) l' := by
  intro l l' hd
  induction hd with
  | nil => exact fun _ => .nil
  | cons hx hl ih =>
    intro hm
    cases hx with
    | call ha =>
      simp only [markLow] at hm
      exact .cons (.call (ha.mapA fun v v' => vw_R hs _ _ none v v')) (ih hm)
    | mark hp =>
      simp only [markLow, Bool.and_eq_true] at hm
      have hlt := Nat.le_of_ble_eq_true hm.1
      exact .cons (.mark ((hlow _ hlt).trans hp)) (ih hm.2)
theorem norm_sound {N' : Norm} {n0 : Nat} {st : St} {t' : List Value} {d' : List Deferred} (hr : Rep ρ st.h N w) (ht : RL ρ st.t t') (hd : DL ρ st.d d') (hL : LFree N.L) (hm : markLow n0 st.d = true) :
    ∃ ρ', Rep ρ' (normSt P N' n0 st).h N w ∧ RL ρ' (normSt P N' n0 st).t t' ∧ DL ρ' (normSt P N' n0 st).d d' ∧ (∀ b, b < n0 → ρ' b = ρ b) ∧ (∀ b o cs, ρ.F b o cs → ρ'.F b o cs) ∧ n0 ≤ (normSt P N' n0 st).h.next := by
  have hφ := renOf_ok N' n0 st
  have hs : Sees P (renOf N' n0 st) st.h ρ (locOf P (renOf N' n0 st) n0 st.h ρ) := sees_locOf hφ
  have hlow : ∀ b, b < n0 → (locOf P (renOf N' n0 st) n0 st.h ρ) b = ρ b := fun b hb => by
    show (if b < n0 then ρ b else _) = _
    rw [if_pos hb]
  refine ⟨locOf P (renOf N' n0 st) n0 st.h ρ, view hr hφ hL, ⟨?_, fun i v v' a b => ?_⟩, vwD_sound hs hlow hd hm, hlow, hs.F, hφ.le⟩
  · show (keepT _ _ _ _).length = _
    rw [keepT_length, ht.len]
  · obtain ⟨u, h1, h2⟩ := keepT_get _ _ _ _ a
    rcases h2 with rfl | rfl
    · exact vw_R hs _ _ _ _ _ (ht.get i u v' h1 b)
    · exact .dead _
end Go.Ev
