/- What is told of a function out of a run on a heap of its own: its objects alone, by small numbers. -/
import Derived.Test.YthlmbnhelkbchaaEvX
namespace Go.Ev

section
variable (P : Program)
/-- The arguments that point to objects, and the cells of these whose slices (or objects) are theirs alone; the results that point to new objects, alike. -/
structure Sc where
  owns : List (Nat × List Nat) := []
  news : List (Nat × List Nat) := []
def tyV (t : TypeId) : Option TypeId := match P.underlying t with
  | some (.slice e) => some e
  | some (.struct _) => some t
  | some (.array _ _) => some t
  | _ => none
def tyPt (t : TypeId) : Option TypeId := match P.underlying t with
  | some (.pointer e) => some e
  | _ => none
def nthT : List TypeId → Nat → TypeId
  | [], _ => 0
  | t :: _, 0 => t
  | _ :: l, n + 1 => nthT l n
def nthO : List (Option TypeId) → Nat → Option TypeId
  | [], _ => none
  | t :: _, 0 => t
  | _ :: l, n + 1 => nthO l n
def parsOf (f : FuncId) : List TypeId := match P.funcs[f]? with
  | some fn => fn.params.toList
  | none => []
def resOf (f : FuncId) : List TypeId := match P.funcs[f]? with
  | some fn => fn.resultTypes.toList
  | none => []
def posObj (args : List AV) (tys : List TypeId) (h : Heap) : List (Nat × List Nat) → List (Option Nat × Option TypeId)
  | [] => []
  | (i, ks) :: l => (idV (nth args i), tyPt P (nthT tys i)) :: (match nth args i with
    | .ptr (some p) => (match h.m p.1 with
      | some (.cells _ vs) => ks.map fun k => (idV (nth vs (p.2 + k)), nthO (eLeaves P (tyPt P (nthT tys i))) k)
      | _ => ks.map fun _ => (none, none))
    | _ => ks.map fun _ => (none, none)) ++ posObj args tys h l
def fst1 : List (Option Nat × Option TypeId) → List (Option Nat)
  | [] => []
  | x :: l => x.1 :: fst1 l
def tyAt : List (Option Nat × Option TypeId) → Nat → Option TypeId
  | [], _ => none
  | (some b, t) :: l, c => bif Nat.beq c b then t else tyAt l c
  | (none, _) :: l, c => tyAt l c
def vwArgs (φ : List (Nat × Nat)) (h : Heap) : List TypeId → List AV → List AV
  | _, [] => []
  | t :: ts, v :: vs => vw P φ h false deepV (tyV P t) v :: vwArgs φ h ts vs
  | [], v :: vs => vw P φ h false deepV none v :: vwArgs φ h [] vs
def vwRes (φ : List (Nat × Nat)) (h : Heap) (ts : List TypeId) (v : AV) : AV := match v with
  | .tup vs => .tup (vwArgs P φ h ts vs)
  | v => vw P φ h false deepV (tyV P (nthT ts 0)) v
def compsOf : AV → List AV
  | .tup vs => vs
  | v => [v]
/-- Blocks of one heap; what is not written any more, as another one tells. -/
def vwBlks2 (φ : List (Nat × Nat)) (h hf : Heap) (ty : Nat → Option TypeId) : List (Nat × Nat) → List (Nat × Blk)
  | [] => []
  | (b, c) :: l => match (h.m b).bind (vwB P φ hf (ty b)) with
    | some x => (c, x) :: vwBlks2 φ h hf ty l
    | none => vwBlks2 φ h hf ty l
def pairsNew (n0 : Nat) : List (Option Nat) → Nat → List (Nat × Nat) → List (Nat × Nat)
  | [], _, acc => acc
  | none :: l, i, acc => pairsNew n0 l (i + 1) acc
  | some b :: l, i, acc => bif isNone' (find1 b acc) then pairsNew n0 l (i + 1) ((b, n0 + i) :: acc) else pairsNew n0 l (i + 1) acc
def swapL : List (Nat × Nat) → List (Nat × Nat)
  | [] => []
  | x :: l => (x.2, x.1) :: swapL l
def hasK (c : Nat) : List (Nat × Nat) → Bool
  | [] => false
  | x :: l => Nat.beq c x.1 || hasK c l
def outM (m : Nat → Option Blk) (φ : List (Nat × Nat)) (l : List (Nat × Blk)) : Nat → Option Blk := fun c => match look c l with
  | some x => some x
  | none => bif hasK c φ then none else m c
def none0 : Heap := ⟨fun _ => none, 0⟩
def pairK : Out → Heap → Md → Option (AV × Heap) := fun out h' u' => match out, u' with
  | .ret v, .off => some (v, h')
  | _, _ => none
variable (S : Orc) (tb : FuncId → Option FnP)
/-- A run on a heap of its own. -/
def locF (sc : Sc) (f : FuncId) : CallF := fun _ args h u K => match u with
  | .off =>
    let tys := parsOf P f
    let ps := posObj P args tys h sc.owns
    let φ := pairsOf 0 (fst1 ps) 0 []
    let args' := vwArgs P φ none0 tys args
    (match evCall P S tb 100 (AV × Heap) (.fn f) args' (mkHeap (vwBlks2 P φ h none0 (tyAt ps) φ) (lenO (fst1 ps))) .off pairK with
    | some r =>
      let ps' := posObj P args' tys r.2 sc.owns ++ posObj P (compsOf r.1) (resOf P f) r.2 sc.news
      let φ' := pairsNew h.next (fst1 ps') 0 (swapL φ)
      K (.ret (vwRes P φ' r.2 (resOf P f) r.1)) ⟨outM h.m φ (vwBlks2 P φ' r.2 r.2 (tyAt ps') φ'), h.next + lenO (fst1 ps')⟩ .off
    | none => none)
  | _ => none
def scalar : AV → Bool
  | .int _ _ | .bool _ | .str _ => true
  | _ => false
def scalars : List AV → Bool
  | [] => true
  | v :: vs => scalar v && scalars vs
def scalarV (v : AV) : Bool := match v with
  | .tup vs => scalars vs
  | v => scalar v
/-- The same, for a function that reads alone and tells numbers, bools and strings: all is let be. -/
def locC (f : FuncId) : CallF := fun _ args h u K => match u with
  | .off => (match evCall P S tb 100 (AV × Heap) (.fn f) (vwArgs P [] h (parsOf P f) args) (mkHeap [] 0) .off pairK with
    | some r => guardK (scalarV r.1) (K (.ret r.1) h .off)
    | none => none)
  | _ => none
end

variable {P : Program} {S : Orc} {tb : FuncId → Option FnP} {ρ ρ' : Loc} {N : Zone} {w : World} {h : Heap} {φ : List (Nat × Nat)}
theorem LP_lfree (tb : FuncId → Option FnP) : LFree (LP tb) := LP_free tb
theorem fst1_eq (l : List (Option Nat × Option TypeId)) : fst1 l = l.map (·.1) := by induction l <;> simp_all [fst1]
theorem swapL_eq (l : List (Nat × Nat)) : swapL l = l.map fun x => (x.2, x.1) := by induction l <;> simp_all [swapL]
theorem hasK_iff {c : Nat} {l : List (Nat × Nat)} : hasK c l = true ↔ ∃ d, (c, d) ∈ l := by
  induction l with
  | nil => simp [hasK]
  | cons x l ih =>
    simp only [hasK, Bool.or_eq_true, ih, beq_eq, List.mem_cons]
    constructor
    · rintro (e | ⟨d, hd⟩)
      · exact ⟨x.2, .inl (by rw [e])⟩
      · exact ⟨d, .inr hd⟩
    · rintro ⟨d, e | hd⟩
      · exact .inl (by rw [← e])
      · exact .inr ⟨d, hd⟩
theorem vwArgs_RL {φ : List (Nat × Nat)} {hf : Heap} (hs : Sees P φ hf ρ ρ') : ∀ (ts : List TypeId) {args : List AV} {args' : List Value}, RL ρ args args' → RL ρ' (vwArgs P φ hf ts args) args'
  | ts, [], [], _ => by cases ts <;> exact RL.nil _
  | ts, [], b :: bs, ha => by have := ha.len; simp at this
  | ts, a :: as, [], ha => by have := ha.len; simp at this
  | t :: ts, a :: as, b :: bs, ha => RL.cons (vw_R hs _ _ _ _ _ ha.head) (vwArgs_RL hs ts ha.tail)
  | [], a :: as, b :: bs, ha => RL.cons (vw_R hs _ _ _ _ _ ha.head) (vwArgs_RL hs [] ha.tail)
theorem vwRes_R {φ : List (Nat × Nat)} {hf : Heap} (hs : Sees P φ hf ρ ρ') {ts : List TypeId} {v : AV} {v' : Value} (hv : R ρ v v') : R ρ' (vwRes P φ hf ts v) v' := by
  unfold vwRes
  split
  · rename_i vs
    obtain ⟨cs', rfl, hc⟩ := hv.of_tup
    exact (vwArgs_RL hs ts hc).tup
  · exact vw_R hs _ _ _ _ _ hv
theorem vwBlks2_mem {ty : Nat → Option TypeId} {ψ : List (Nat × Nat)} {hf : Heap} {c : Nat} {x : Blk} : ∀ {l : List (Nat × Nat)}, (c, x) ∈ vwBlks2 P ψ h hf ty l → ∃ b y, (b, c) ∈ l ∧ h.m b = some y ∧ vwB P ψ hf (ty b) y = some x
  | [], hm => by simp [vwBlks2] at hm
  | (b, c') :: l, hm => by
    simp only [vwBlks2] at hm
    split at hm
    · rename_i y hy
      rcases List.mem_cons.1 hm with e | e
      · cases e
        obtain ⟨z, h1, h2⟩ := Option.bind_eq_some_iff.1 hy
        exact ⟨b, z, List.mem_cons_self, h1, h2⟩
      · obtain ⟨b', z, a1, a2⟩ := vwBlks2_mem e
        exact ⟨b', z, List.mem_cons_of_mem _ a1, a2⟩
    · obtain ⟨b', z, a1, a2⟩ := vwBlks2_mem hm
      exact ⟨b', z, List.mem_cons_of_mem _ a1, a2⟩
theorem vwBlks2_self {ty : Nat → Option TypeId} {ψ : List (Nat × Nat)} : ∀ l : List (Nat × Nat), vwBlks2 P ψ h h ty l = vwBlks P ψ h ty l
  | [] => rfl
  | (b, c) :: l => by
    simp only [vwBlks2, vwBlks, vwBlks2_self l]
    cases (h.m b).bind (vwB P ψ h (ty b)) <;> rfl
/-- The same numbers, and no more is told of what is not written any more. -/
def locS (φ : List (Nat × Nat)) (ρ : Loc) : Loc := ⟨fun c => (inv1 c φ).bind ρ, ρ.F⟩
theorem sees_locS {nx : Nat} (hφ : RenOk φ 0 nx) : Sees P φ none0 ρ (locS φ ρ) :=
  ⟨fun b c hc => by
    show (inv1 c φ).bind ρ = ρ b
    rw [inv1_of_mem hφ.v (find1_mem hc)]; rfl, fun _ _ _ h => h, fun id p wr vs o n k ls h1 => by cases h1⟩
theorem viewS {nx : Nat} {ty : Nat → Option TypeId} (hr : Rep ρ h N w) (hφ : RenOk φ 0 nx) (hL : LFree N.L) : Rep (locS φ ρ) (mkHeap (vwBlks2 P φ h none0 ty φ) nx) N w := by
  have hs : Sees P φ none0 ρ (locS φ ρ) := sees_locS hφ
  have key : ∀ c y, (mkHeap (vwBlks2 P φ h none0 ty φ) nx).m c = some y → ∃ b x p, find1 b φ = some c ∧ h.m b = some x ∧ ρ b = some p ∧ RB ρ N w p x ∧ vwB P φ none0 (ty b) x = some y := fun c y hy => by
    obtain ⟨b, x, a1, a2, a3⟩ := vwBlks2_mem (look_mem hy)
    obtain ⟨p, b1, b2⟩ := hr.blk b x a2
    exact ⟨b, x, p, find1_of_mem hφ.k a1, a2, b1, b2, a3⟩
  refine ⟨fun c y hy => ?_, fun c c' y y' q q' hy hy' hne hw hq hq' => ?_, hr.old, fun c hc => ?_, fun b o cs hf => ?_⟩
  · obtain ⟨b, x, p, a1, a2, a3, a4, a5⟩ := key c y hy
    exact ⟨p, (hs.at' _ _ a1).trans a3, a4.vw hs hL a5⟩
  · obtain ⟨b, x, p, a1, a2, a3, a4, a5⟩ := key c y hy
    obtain ⟨b', x', p', a1', a2', a3', a4', a5'⟩ := key c' y' hy'
    have e1 := (hs.at' _ _ a1).trans a3
    have e2 := (hs.at' _ _ a1').trans a3'
    rw [e1] at hq; cases hq
    rw [e2] at hq'; cases hq'
    refine hr.inj b b' x x' _ _ a2 a2' (fun e => ?_) (by rw [← vwB_writes a5]; exact hw) a3 a3'
    subst e
    rw [a1] at a1'; cases a1'; exact hne rfl
  · have hc' : nx ≤ c := hc
    show (inv1 c φ).bind ρ = none
    cases hi : inv1 c φ with
    | none => rfl
    | some b => have := hφ.lt _ _ (inv1_mem hi); omega
  · obtain ⟨⟨c, e, fz, g1, g2, g3⟩, f2, f3, f4⟩ := hr.frz b o cs hf
    refine ⟨⟨c, e, fz, g1, g2, fun i v hi => ?_⟩, fun d y q hd hy hq => ?_, f3, f4⟩
    · obtain ⟨v', a, b⟩ := g3 i v hi
      exact ⟨v', a, b.pure hs.F (f4 v (List.mem_of_getElem? hi))⟩
    · obtain ⟨b', x, p, a1, a2, a3, a4, a5⟩ := key d y hd
      have e1 := (hs.at' _ _ a1).trans a3
      rw [e1] at hq; cases hq
      exact f2 b' x _ a2 (by rw [← vwB_writes a5]; exact hy) a3
/-- Each number that is found has a place. -/
theorem idV_R {v : AV} {v' : Value} {b : Nat} (hv : R ρ v v') (hb : idV v = some b) : ∃ p, ρ b = some p := by
  cases hv <;> simp [idV] at hb
  · rename_i hp; subst hb; exact ⟨_, hp⟩
  · rename_i hp _ _ _ _; subst hb; exact ⟨_, hp⟩
  · rename_i hp _ _; subst hb; exact ⟨_, hp⟩
  · rename_i hp; subst hb; exact ⟨_, hp⟩
theorem nth_R {l : List AV} {a : List Value} (hl : RL ρ l a) (i : Nat) : ∃ v', R ρ (nth l i) v' := by
  rw [nth_eq]
  exact ⟨_, hl.getD i undef⟩
theorem posObj_R {args : List AV} {args' : List Value} {tys : List TypeId} (hr : Rep ρ h N w) (ha : RL ρ args args') : ∀ (l : List (Nat × List Nat)) (b : Nat), some b ∈ fst1 (posObj P args tys h l) → ∃ p, ρ b = some p
  | [], b, hm => by simp [posObj, fst1] at hm
  | (i, ks) :: l, b, hm => by
    rw [fst1_eq] at hm
    simp only [posObj, List.map_cons, List.map_append, List.mem_cons, List.mem_append] at hm
    obtain ⟨v', hv⟩ := nth_R ha i
    rcases hm with (hm | hm) | hm
    · exact idV_R hv hm.symm
    · split at hm
      · rename_i p he
        split at hm
        · rename_i wr vs hb
          simp only [List.map_map, List.mem_map, Function.comp] at hm
          obtain ⟨k, _, hk⟩ := hm
          obtain ⟨q, _, c, e, fz, g1, g2, g3, g4, g5⟩ := hr.blk _ _ hb
          rw [nth_eq] at hk
          cases hg : vs[p.2 + k]? with
          | none => simp [List.getD, hg, idV] at hk
          | some u =>
            obtain ⟨u', _, hu⟩ := g4 _ _ hg
            simp only [List.getD, hg, Option.getD_some] at hk
            exact idV_R hu hk
        · simp at hm
      · simp at hm
    · rw [← fst1_eq] at hm; exact posObj_R hr ha l b hm
theorem pairsOf_keys {n0 : Nat} : ∀ (ps : List (Option Nat)) (i : Nat) (acc : List (Nat × Nat)) (b c : Nat), (b, c) ∈ pairsOf n0 ps i acc → some b ∈ ps ∨ (b, c) ∈ acc
  | [], i, acc, b, c, hm => .inr hm
  | none :: l, i, acc, b, c, hm => (pairsOf_keys l (i + 1) acc b c hm).imp (List.mem_cons_of_mem _) id
  | some d :: l, i, acc, b, c, hm => by
    simp only [pairsOf] at hm
    cases hb : (Nat.ble n0 d && isNone' (find1 d acc)) with
    | false => rw [hb] at hm; exact (pairsOf_keys l (i + 1) acc b c hm).imp (List.mem_cons_of_mem _) id
    | true =>
      rw [hb] at hm
      rcases pairsOf_keys l (i + 1) _ b c hm with h | h
      · exact .inl (List.mem_cons_of_mem _ h)
      · rcases List.mem_cons.1 h with e | e
        · cases e; exact .inl List.mem_cons_self
        · exact .inr e
theorem pairsNew_ok {n0 : Nat} : ∀ (ps : List (Option Nat)) (i : Nat) (acc : List (Nat × Nat)), (acc.map (·.1)).Nodup → (acc.map (·.2)).Nodup → (∀ b c, (b, c) ∈ acc → c < n0 + i) →
    RenOk (pairsNew n0 ps i acc) 0 (n0 + (i + lenO ps)) ∧ ∀ b c, (b, c) ∈ pairsNew n0 ps i acc → (b, c) ∈ acc ∨ n0 + i ≤ c
  | [], i, acc, h1, h2, h3 => ⟨⟨h1, h2, fun b c hm hc => by omega, fun b c hm => h3 b c hm, by omega⟩, fun b c hm => .inl hm⟩
  | none :: l, i, acc, h1, h2, h3 => by
    obtain ⟨a1, a2⟩ := pairsNew_ok (n0 := n0) l (i + 1) acc h1 h2 (fun b c hm => by have := h3 b c hm; omega)
    simp only [pairsNew, lenO]
    rw [show i + (lenO l + 1) = i + 1 + lenO l by omega]
    exact ⟨a1, fun b c hm => (a2 b c hm).imp id (by omega)⟩
  | some b :: l, i, acc, h1, h2, h3 => by
    obtain ⟨a1, a2⟩ := pairsNew_ok (n0 := n0) l (i + 1) acc h1 h2 (fun b c hm => by have := h3 b c hm; omega)
    simp only [pairsNew, lenO]
    rw [show i + (lenO l + 1) = i + 1 + lenO l by omega]
    cases hf : find1 b acc with
    | some c => exact ⟨a1, fun b c hm => (a2 b c hm).imp id (by omega)⟩
    | none =>
      obtain ⟨b1, b2⟩ := pairsNew_ok (n0 := n0) l (i + 1) ((b, n0 + i) :: acc) (by
          simp only [List.map_cons, List.nodup_cons]
          refine ⟨fun hm => ?_, h1⟩
          obtain ⟨x, a, e⟩ := List.mem_map.1 hm
          have e : x.1 = b := e
          exact find1_none hf x.2 (e ▸ a)) (by
          simp only [List.map_cons, List.nodup_cons]
          refine ⟨fun hm => ?_, h2⟩
          obtain ⟨x, a, e⟩ := List.mem_map.1 hm
          have e : x.2 = n0 + i := e
          have := h3 x.1 x.2 a
          omega) (fun b' c hm => by
          rcases List.mem_cons.1 hm with e | e
          · cases e; omega
          · have := h3 b' c e; omega)
      refine ⟨b1, fun b' c hm => ?_⟩
      rcases b2 b' c hm with h | h
      · rcases List.mem_cons.1 h with e | e
        · cases e; exact .inr (Nat.le_refl _)
        · exact .inl e
      · exact .inr (by omega)
theorem Zone.frame_L {ρ : Loc} {m : Nat → Option Blk} {w : World} : (N.frame ρ m w).L = N.L := rfl

/-- What such a run tells, holds. -/
theorem fnSim_loc (hT : TbOk P tb) (hSm : OrcOk P tb S) (sc : Sc) (f : FuncId) : FnSim P (LP tb) f (locF P S tb sc f) := by
  intro A K r args h u args' ρ Z w kind cs₀ cs hL hg hr ha hcs
  cases u <;> first | (cases hg; done) | skip
  unfold locF at hg
  simp only at hg
  split at hg
  rotate_left
  · cases hg
  rename_i rr hrun
  obtain ⟨v, h₁⟩ := rr
  simp only at hg
  have hLf : LFree Z.L := by rw [hL]; exact LP_free tb
  generalize hps : posObj P args (parsOf P f) h sc.owns = ps at hg hrun
  generalize hφ0 : pairsOf 0 (fst1 ps) 0 [] = φ at hg hrun
  have hφ : RenOk φ 0 (lenO (fst1 ps)) := by
    have := pairsOf_ok (n0 := 0) (fst1 ps) 0 [] (by simp) (by simp) (fun b c hm => by cases hm)
    rw [hφ0] at this
    rwa [Nat.zero_add, Nat.zero_add] at this
  have hin : ∀ b c, (b, c) ∈ φ → ∃ p, ρ b = some p := fun b c hm => by
    rw [← hφ0] at hm
    rcases pairsOf_keys _ _ _ _ _ hm with h | h
    · rw [← hps] at h; exact posObj_R hr ha _ _ h
    · cases h
  have hlt : ∀ b c, (b, c) ∈ φ → b < h.next := fun b c hm => by
    obtain ⟨p, hp⟩ := hin b c hm
    rcases Nat.lt_or_ge b h.next with h' | h'
    · exact h'
    · rw [hr.fresh b h'] at hp; cases hp
  let n1 := lenO (fst1 ps)
  let hl : Heap := mkHeap (vwBlks2 P φ h none0 (tyAt ps) φ) n1
  have hr1 : Rep (locS φ ρ) hl Z w := viewS hr hφ hLf
  have hr2 := hr1.frame
  let Z1 := Z.frame (locS φ ρ) hl.m w
  have hargs := vwArgs_RL (P := P) (sees_locS hφ) (parsOf P f) ha
  have hkn : kind = .normal ∧ cs = cs₀ := by
    rcases hcs with ⟨a, _, b⟩ | ⟨_, _, _, _, _, _, hu⟩
    · exact ⟨a, b⟩
    · exact hu.elim
  obtain ⟨rfl, rfl⟩ := hkn
  obtain ⟨e1, out, h', u', ρ1, w', cs', fr, k1, k2, k3, k4, k5, k6, k7⟩ := (callSim_of hT hSm 100).fn _ pairK (v, h₁) f _ hl .off args' (locS φ ρ) Z1 w .normal cs cs hL hrun hr2 hargs (.inl ⟨rfl, rfl, rfl⟩)
  have hout : out = .ret v ∧ h' = h₁ ∧ u' = .off := by
    unfold pairK at k1
    split at k1
    · simp only [Option.some.injEq, Prod.mk.injEq] at k1
      exact ⟨by rw [k1.1], k1.2, rfl⟩
    · cases k1
  obtain ⟨rfl, rfl, rfl⟩ := hout
  have hcs' : cs' = cs := k4.normal.2
  subst hcs'
  obtain ⟨v', hv, hgo⟩ := k7
  generalize hps2 : posObj P (vwArgs P φ none0 (parsOf P f) args) (parsOf P f) h' sc.owns ++ posObj P (compsOf v) (resOf P f) h' sc.news = ps2 at hg
  generalize hφ2 : pairsNew h.next (fst1 ps2) 0 (swapL φ) = φ2 at hg
  have hnew := pairsNew_ok (n0 := h.next) (fst1 ps2) 0 (swapL φ) (by
      rw [swapL_eq, List.map_map]; exact hφ.v) (by
      rw [swapL_eq, List.map_map]; exact hφ.k) (fun b c hm => by
      rw [swapL_eq, List.mem_map] at hm
      obtain ⟨x, a, e⟩ := hm
      cases e
      have := hlt x.1 x.2 a
      omega)
  rw [hφ2, Nat.zero_add] at hnew
  obtain ⟨hφ2ok, hsplit⟩ := hnew
  have hold : ∀ b c, (b, c) ∈ φ2 → c < h.next → (c, b) ∈ φ := fun b c hm hc => by
    rcases hsplit b c hm with h | h
    · rw [swapL_eq, List.mem_map] at h
      obtain ⟨x, a, e⟩ := h
      cases e; exact a
    · omega
  have hrep1 : Rep ρ1 h' Z1 w' := k3.rep
  have hr3 := view (P := P) (ty := tyAt ps2) hrep1 hφ2ok (by rw [Zone.frame_L]; exact hLf)
  have hs2 : Sees P φ2 h' ρ1 (locOf P φ2 0 h' ρ1) := sees_locOf hφ2ok
  rw [← vwBlks2_self] at hr3
  let ρ2 := locOf P φ2 0 h' ρ1
  let l2 := vwBlks2 P φ2 h' h' (tyAt ps2) φ2
  -- the numbers that went in
  have hcons : ∀ c p, ρ2 c = some p → c < h.next → ρ c = some p := fun c p hp hc => by
    have hp' : (if c < 0 then ρ1 c else (inv1 c φ2).bind ρ1) = some p := hp
    rw [if_neg (by omega)] at hp'
    cases hi : inv1 c φ2 with
    | none => rw [hi] at hp'; cases hp'
    | some x =>
      rw [hi] at hp'
      have hm := hold x c (inv1_mem hi) hc
      have hx : x < n1 := hφ.lt _ _ hm
      have h1 : ρ1 x = (locS φ ρ) x := k3.off x hx
      have h2 : (locS φ ρ) x = ρ c := (sees_locS (P := P) hφ).at' c x (find1_of_mem hφ.k hm)
      have hp2 : ρ1 x = some p := hp'
      rw [h1, h2] at hp2
      exact hp2
  let ρ3 : Loc := ⟨fun c => if c < h.next then ρ c else ρ2 c, ρ2.F⟩
  have hg23 : Grows ρ2 ρ3 := ⟨fun c p hp => by
    show (if c < h.next then ρ c else ρ2 c) = some p
    by_cases e : c < h.next
    · rw [if_pos e]; exact hcons c p hp e
    · rw [if_neg e]; exact hp, fun _ _ _ h => h⟩
  have hFup : ∀ b o cs, ρ.F b o cs → ρ2.F b o cs := fun b o cs hf => hs2.F _ _ _ (k3.grows.fz _ _ _ hf)
  have hg3 : Grows ρ ρ3 := ⟨fun c p hp => by
    show (if c < h.next then ρ c else ρ2 c) = some p
    have : c < h.next := by
      rcases Nat.lt_or_ge c h.next with h' | h'
      · exact h'
      · rw [hr.fresh c h'] at hp; cases hp
    rw [if_pos this]; exact hp, hFup⟩
  -- what is in the heap by other numbers is not touched
  have hin1 : ∀ x c p, hl.m c = some x → (locS φ ρ) c = some p → ∃ b y, (b, c) ∈ φ ∧ h.m b = some y ∧ ρ b = some p ∧ y.writes = x.writes := fun x c p hx hp => by
    obtain ⟨b, y, a1, a2, a3⟩ := vwBlks2_mem (look_mem hx)
    refine ⟨b, y, a1, a2, ?_, (vwB_writes a3).symm⟩
    have := (sees_locS (P := P) (ρ := ρ) hφ).at' b c (find1_of_mem hφ.k a1)
    rw [this] at hp; exact hp
  have hkeep : ∀ c x p, h.m c = some x → hasK c φ = false → ρ c = some p → Z1.keep p.blk := fun c x p hx hk hp => by
    obtain ⟨p', q1, q2⟩ := hr.blk c x hx
    rw [hp] at q1; cases q1
    refine .inr (.inl ⟨q2.size, fun b y q hb hy hq => ?_⟩)
    obtain ⟨d, z, d1, d2, d3, d4⟩ := hin1 y b q hb hq
    refine hr.inj d c z x q p d2 hx (fun e => ?_) (by rw [d4]; exact hy) d3 hp
    subst e
    rw [hasK_iff.2 ⟨b, d1⟩] at hk; cases hk
  have hF0 : ∀ b o cs, (locS φ ρ).F b o cs → Z.keep b → Z.ro b ∨ Z.fz b := fun b o cs hf => (hr.frz b o cs hf).2.2.1
  have hcase : ∀ c x, outM h.m φ l2 c = some x → (mkHeap l2 (h.next + lenO (fst1 ps2))).m c = some x ∨ (look c l2 = none ∧ hasK c φ = false ∧ h.m c = some x) := fun c x hx => by
    unfold outM at hx
    cases hlk : look c l2 with
    | some y => rw [hlk] at hx; exact .inl (by show look c l2 = some x; rw [hlk]; exact hx)
    | none =>
      rw [hlk] at hx
      cases hk : hasK c φ with
      | true => rw [hk] at hx; cases hx
      | false => rw [hk] at hx; exact .inr ⟨rfl, rfl, hx⟩
  have hlow : Low Z w w' := k3.low.unframe
  have hrepF : Rep ρ3 ⟨outM h.m φ l2, h.next + lenO (fst1 ps2)⟩ Z w' := by
    have apart : ∀ c x p d y q, (mkHeap l2 (h.next + lenO (fst1 ps2))).m c = some x → ρ2 c = some p → h.m d = some y → hasK d φ = false → ρ d = some q → (x.writes = true ∨ y.writes = true) → p.blk ≠ q.blk := fun c x p d y q hx hp hy hk hq hw heq => by
      obtain ⟨p', a1, a2⟩ := hr3.blk c x hx
      have hp' : ρ2 c = some p' := a1
      rw [hp] at hp'; cases hp'
      have hkq := hkeep d y q hy hk hq
      obtain ⟨q', b1, b2⟩ := hr.blk d y hy
      rw [hq] at b1; cases b1
      cases hxw : x.writes with
      | true => exact a2.low hxw (heq ▸ hkq)
      | false =>
        rcases hw with hw | hw
        · rw [hxw] at hw; cases hw
        · have hro : Z1.ro p.blk := by
            cases x with
            | cells wr vs => obtain ⟨c, e, fz, g1, g2, g3, g4, g5, g6⟩ := a2; exact g6 hxw
            | _ => cases hxw
          have hro : Z.ro p.blk := hro
          exact b2.low hw (heq ▸ Z.sub _ hro)
    refine ⟨fun c x hx => ?_, fun c d x y p q hx hy hne hw hp hq => ?_, fun q hq => Nat.lt_of_lt_of_le (hr.old q hq) hlow.size, fun c hc => ?_, fun b o cs hf => ?_⟩
    · rcases hcase c x hx with h2 | ⟨_, hk, h2⟩
      · obtain ⟨p, a1, a2⟩ := hr3.blk c x h2
        exact ⟨p, hg23 _ _ a1, RB.keep hg23 a2.unframe rfl⟩
      · obtain ⟨p, a1, a2⟩ := hr.blk c x h2
        exact ⟨p, hg3 _ _ a1, a2.keep hg3 (k3.low.block _ (hkeep c x p h2 hk a1))⟩
    · rcases hcase c x hx with h2 | ⟨_, hk, h2⟩ <;> rcases hcase d y hy with h3 | ⟨_, hk', h3⟩
      · obtain ⟨p', a1, _⟩ := hr3.blk c x h2
        obtain ⟨q', b1, _⟩ := hr3.blk d y h3
        rw [hg23 _ _ a1] at hp; cases hp
        rw [hg23 _ _ b1] at hq; cases hq
        exact hr3.inj c d x y _ _ h2 h3 hne hw a1 b1
      · obtain ⟨p', a1, _⟩ := hr3.blk c x h2
        obtain ⟨q', b1, _⟩ := hr.blk d y h3
        rw [hg23 _ _ a1] at hp; cases hp
        rw [hg3 _ _ b1] at hq; cases hq
        exact apart c x _ d y _ h2 a1 h3 hk' b1 (.inl hw)
      · obtain ⟨p', a1, _⟩ := hr.blk c x h2
        obtain ⟨q', b1, _⟩ := hr3.blk d y h3
        rw [hg3 _ _ a1] at hp; cases hp
        rw [hg23 _ _ b1] at hq; cases hq
        exact fun e => apart d y _ c x _ h3 b1 h2 hk a1 (.inr hw) e.symm
      · obtain ⟨p', a1, _⟩ := hr.blk c x h2
        obtain ⟨q', b1, _⟩ := hr.blk d y h3
        rw [hg3 _ _ a1] at hp; cases hp
        rw [hg3 _ _ b1] at hq; cases hq
        exact hr.inj c d x y _ _ h2 h3 hne hw a1 b1
    · have hc' : h.next + lenO (fst1 ps2) ≤ c := hc
      show (if c < h.next then ρ c else ρ2 c) = none
      rw [if_neg (by omega)]
      exact hr3.fresh c hc'
    · have hf2 : ρ2.F b o cs := hf
      obtain ⟨f1, f2, f3, f4⟩ := hr3.frz b o cs hf2
      refine ⟨f1.keep hg23 rfl, fun c x p hx hw hp => ?_, fun hk => ?_, f4⟩
      · rcases hcase c x hx with h2 | ⟨_, hk, h2⟩
        · obtain ⟨p', a1, _⟩ := hr3.blk c x h2
          rw [hg23 _ _ a1] at hp; cases hp
          exact f2 c x _ h2 hw a1
        · obtain ⟨p', a1, a2⟩ := hr.blk c x h2
          rw [hg3 _ _ a1] at hp; cases hp
          intro heq
          have hkp := hkeep c x _ h2 hk a1
          rw [heq] at hkp
          rcases f3 hkp with h5 | h5 | ⟨o', cs', h5⟩
          · exact a2.low hw (heq ▸ Z.sub _ h5)
          · exact a2.low hw (heq ▸ Z.fsub _ h5)
          · exact (hr.frz b o' cs' h5).2.1 c x _ h2 hw a1 heq
      · rcases f3 (.inl hk) with h5 | h5 | ⟨o', cs', h5⟩
        · exact .inl h5
        · exact .inr h5
        · exact hF0 b o' cs' h5 hk
  refine ⟨e1, _, _, _, ρ3, w', cs', fr, hg, k2, ⟨hg3, fun b hb => ?_, by show h.next ≤ h.next + lenO (fst1 ps2); omega, hrepF, hlow⟩, .inl ⟨rfl, rfl, rfl⟩, k5, k6, v', (vwRes_R hs2 hv).grows hg23, hgo⟩
  show (if b < h.next then ρ b else ρ2 b) = ρ b
  rw [if_pos hb]
theorem scalar_R {v : AV} {v' : Value} (hs : scalar v = true) (hv : R ρ v v') : R ρ' v v' := by
  cases v <;> simp [scalar] at hs <;> cases hv
  · exact .int _ _
  · exact .bool _
  · exact .str _
theorem scalars_R : ∀ {l : List AV} {a : List Value}, scalars l = true → RL ρ l a → RL ρ' l a
  | [], [], _, _ => RL.nil _
  | [], _ :: _, _, hl => by have := hl.len; simp at this
  | _ :: _, [], _, hl => by have := hl.len; simp at this
  | v :: l, b :: a, hs, hl => by
    simp only [scalars, Bool.and_eq_true] at hs
    exact RL.cons (scalar_R hs.1 hl.head) (scalars_R hs.2 hl.tail)
theorem scalarV_R {v : AV} {v' : Value} (hs : scalarV v = true) (hv : R ρ v v') : R ρ' v v' := by
  unfold scalarV at hs
  split at hs
  · obtain ⟨cs', rfl, hc⟩ := hv.of_tup
    exact (scalars_R hs hc).tup
  · exact scalar_R hs hv
theorem fnSim_locC (hT : TbOk P tb) (hSm : OrcOk P tb S) (f : FuncId) : FnSim P (LP tb) f (locC P S tb f) := by
  intro A K r args h u args' ρ Z w kind cs₀ cs hL hg hr ha hcs
  cases u <;> first | (cases hg; done) | skip
  unfold locC at hg
  simp only at hg
  split at hg
  rotate_left
  · cases hg
  rename_i rr hrun
  obtain ⟨v, h₁⟩ := rr
  simp only at hg
  obtain ⟨hsc, hg⟩ := guardK_some hg
  have hLf : LFree Z.L := by rw [hL]; exact LP_free tb
  have hφ : RenOk [] 0 0 := ⟨by simp, by simp, (fun b c hm => by cases hm), (fun b c hm => by cases hm), Nat.le_refl _⟩
  have hr1 := view (P := P) (ty := fun _ => none) hr hφ hLf
  have hr2 := hr1.frame
  have hargs := vwArgs_RL (P := P) (sees_locOf (h := h) (ρ := ρ) hφ) (parsOf P f) ha
  have hkn : kind = .normal ∧ cs = cs₀ := by
    rcases hcs with ⟨a, _, b⟩ | ⟨_, _, _, _, _, _, hu⟩
    · exact ⟨a, b⟩
    · exact hu.elim
  obtain ⟨rfl, rfl⟩ := hkn
  obtain ⟨e1, out, h', u', ρ1, w', cs', fr, k1, k2, k3, k4, k5, k6, k7⟩ := (callSim_of hT hSm 100).fn _ pairK (v, h₁) f _ _ .off args' (locOf P [] 0 h ρ) (Z.frame (locOf P [] 0 h ρ) (mkHeap [] 0).m w) w .normal cs cs hL hrun hr2 hargs (.inl ⟨rfl, rfl, rfl⟩)
  have hout : out = .ret v ∧ h' = h₁ ∧ u' = .off := by
    unfold pairK at k1
    split at k1
    · simp only [Option.some.injEq, Prod.mk.injEq] at k1
      exact ⟨by rw [k1.1], k1.2, rfl⟩
    · cases k1
  obtain ⟨rfl, rfl, rfl⟩ := hout
  have hcs' : cs' = cs := k4.normal.2
  subst hcs'
  obtain ⟨v', hv, hgo⟩ := k7
  have hl : Low (Z.read w) w w' := ⟨k3.low.os, k3.low.tape, k3.low.output, k3.low.size, fun q hq => k3.low.block q (.inr (.inl ⟨hq, fun b x p hb => by cases hb⟩))⟩
  refine ⟨e1, .ret v, h, .off, ρ, w', cs', fr, hg, k2, ⟨Grows.refl _, fun _ _ => rfl, Nat.le_refl _, hr.more (n := h.next) (GrowsS.refl _) hl hr.fresh, hl.unread hr⟩, .inl ⟨rfl, rfl, rfl⟩, k5, k6, v', scalarV_R hsc hv, hgo⟩
theorem natF_loc (sc : Sc) (f : FuncId) : NatF (locF P S tb sc f) := by
  intro A B args h m K K' u hk
  unfold locF
  cases m <;> first | rfl | skip
  simp only
  split <;> first | rfl | exact hk _ _ _
theorem natF_locC (f : FuncId) : NatF (locC P S tb f) := by
  intro A B args h m K K' u hk
  unfold locC
  cases m <;> first | rfl | skip
  simp only
  split <;> first | rfl | exact guardK_b (hk _ _ _)
end Go.Ev
