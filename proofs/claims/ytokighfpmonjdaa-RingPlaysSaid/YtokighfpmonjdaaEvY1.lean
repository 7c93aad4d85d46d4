/- What is told of a function out of a run on a heap of its own: its objects alone, by small numbers. -/
import Derived.Test.YtokighfpmonjdaaEvX
import Derived.ChangeArms
import Derived.ChangeOld
import Derived.Carry
namespace Go.Ev

section
variable (P : Program)
/-- The arguments that point to objects, and the cells of these whose slices (or objects) are theirs alone; the results that point to new objects, alike. -/
structure Sc where
  owns : List (Nat × List Nat) := []
  news : List (Nat × List Nat) := []
def tyV (t : TypeId) : Option TypeId := match P.underlying t with
  | some (.slice e) => some e
  | some (.struct _) => some t
  | some (.array _ _) => some t
  | _ => none
def tyPt (t : TypeId) : Option TypeId := match P.underlying t with
  | some (.pointer e) => some e
  | _ => none
def nthT : List TypeId → Nat → TypeId
  | [], _ => 0
  | t :: _, 0 => t
  | _ :: l, n + 1 => nthT l n
def nthO : List (Option TypeId) → Nat → Option TypeId
  | [], _ => none
  | t :: _, 0 => t
  | _ :: l, n + 1 => nthO l n
def parsOf (f : FuncId) : List TypeId := match P.funcs[f]? with
  | some fn => fn.params.toList
  | none => []
def resOf (f : FuncId) : List TypeId := match P.funcs[f]? with
  | some fn => fn.resultTypes.toList
  | none => []
def posObj (args : List AV) (tys : List TypeId) (h : Heap) : List (Nat × List Nat) → List (Option Nat × Option TypeId)
  | [] => []
  | (i, ks) :: l => (idV (nth args i), tyPt P (nthT tys i)) :: (match nth args i with
    | .ptr (some p) => (match h.m p.1 with
      | some (.cells _ vs) => ks.map fun k => (idV (nth vs (p.2 + k)), nthO (eLeaves P (tyPt P (nthT tys i))) k)
      | _ => ks.map fun _ => (none, none))
    | _ => ks.map fun _ => (none, none)) ++ posObj args tys h l
def fst1 : List (Option Nat × Option TypeId) → List (Option Nat)
  | [] => []
  | x :: l => x.1 :: fst1 l
def tyAt : List (Option Nat × Option TypeId) → Nat → Option TypeId
  | [], _ => none
  | (some b, t) :: l, c => bif Nat.beq c b then t else tyAt l c
  | (none, _) :: l, c => tyAt l c
def vwArgs (φ : List (Nat × Nat)) (h : Heap) : List TypeId → List AV → List AV
  | _, [] => []
  | t :: ts, v :: vs => vw P φ h false deepV (tyV P t) v :: vwArgs φ h ts vs
  | [], v :: vs => vw P φ h false deepV none v :: vwArgs φ h [] vs
def vwRes (φ : List (Nat × Nat)) (h : Heap) (ts : List TypeId) (v : AV) : AV := match v with
  | .tup vs => .tup (vwArgs P φ h ts vs)
  | v => vw P φ h false deepV (tyV P (nthT ts 0)) v
def compsOf : AV → List AV
  | .tup vs => vs
  | v => [v]
/-- Blocks of one heap; what is not written any more, as another one tells. -/
def vwBlks2 (φ : List (Nat × Nat)) (h hf : Heap) (ty : Nat → Option TypeId) : List (Nat × Nat) → List (Nat × Blk)
  | [] => []
  | (b, c) :: l => match (h.m b).bind (vwB P φ hf (ty b)) with
    | some x => (c, x) :: vwBlks2 φ h hf ty l
    | none => vwBlks2 φ h hf ty l
def pairsNew (n0 : Nat) : List (Option Nat) → Nat → List (Nat × Nat) → List (Nat × Nat)
  | [], _, acc => acc
  | none :: l, i, acc => pairsNew n0 l (i + 1) acc
  | some b :: l, i, acc => bif isNone' (find1 b acc) then pairsNew n0 l (i + 1) ((b, n0 + i) :: acc) else pairsNew n0 l (i + 1) acc
def swapL : List (Nat × Nat) → List (Nat × Nat)
  | [] => []
  | x :: l => (x.2, x.1) :: swapL l
def hasK (c : Nat) : List (Nat × Nat) → Bool
  | [] => false
  | x :: l => Nat.beq c x.1 || hasK c l
def outM (m : Nat → Option Blk) (φ : List (Nat × Nat)) (l : List (Nat × Blk)) : Nat → Option Blk := fun c => match look c l with
  | some x => some x
  | none => bif hasK c φ then none else m c
def none0 : Heap := ⟨fun _ => none, 0⟩
def pairK : Out → Heap → Md → Option (AV × Heap) := fun out h' u' => match out, u' with
  | .ret v, .off => some (v, h')
  | _, _ => none
variable (S : Orc) (tb : FuncId → Option FnP)
/-- A run on a heap of its own. -/
def locF (sc : Sc) (f : FuncId) : CallF := fun _ args h u K => match u with
  | .off =>
    let tys := parsOf P f
    let ps := posObj P args tys h sc.owns
    let φ := pairsOf 0 (fst1 ps) 0 []
    let args' := vwArgs P φ none0 tys args
    (match evCall P S tb 100 (AV × Heap) (.fn f) args' (mkHeap (vwBlks2 P φ h none0 (tyAt ps) φ) (lenO (fst1 ps))) .off pairK with
    | some r =>
      let ps' := posObj P args' tys r.2 sc.owns ++ posObj P (compsOf r.1) (resOf P f) r.2 sc.news
      let φ' := pairsNew h.next (fst1 ps') 0 (swapL φ)
      K (.ret (vwRes P φ' r.2 (resOf P f) r.1)) ⟨outM h.m φ (vwBlks2 P φ' r.2 r.2 (tyAt ps') φ'), h.next + lenO (fst1 ps')⟩ .off
    | none => none)
  | _ => none
def scalar : AV → Bool
  | .int _ _ | .bool _ | .str _ => true
  | _ => false
def scalars : List AV → Bool
  | [] => true
  | v :: vs => scalar v && scalars vs
def scalarV (v : AV) : Bool := match v with
  | .tup vs => scalars vs
  | v => scalar v
/-- The same, for a function that reads alone and tells numbers, bools and strings: all is let be. -/
def locC (f : FuncId) : CallF := fun _ args h u K => match u with
  | .off => (match evCall P S tb 100 (AV × Heap) (.fn f) (vwArgs P [] h (parsOf P f) args) (mkHeap [] 0) .off pairK with
    | some r => guardK (scalarV r.1) (K (.ret r.1) h .off)
    | none => none)
  | _ => none
end

variable {P : Program} {S : Orc} {tb : FuncId → Option FnP} {ρ ρ' : Loc} {N : Zone} {w : World} {h : Heap} {φ : List (Nat × Nat)}
theorem LP_lfree (tb : FuncId → Option FnP) : LFree (LP tb) := LP_free tb
theorem fst1_eq (l : List (Option Nat × Option TypeId)) : fst1 l = l.map (·.1) := by induction l <;> simp_all [fst1]
theorem swapL_eq (l : List (Nat × Nat)) : swapL l = l.map fun x => (x.2, x.1) := by induction l <;> simp_all [swapL]
theorem hasK_iff {c : Nat} {l : List (Nat × Nat)} : hasK c l = true ↔ ∃ d, (c, d) ∈ l := by
  induction l with
  | nil => simp [hasK]
  | cons x l ih =>
    simp only [hasK, Bool.or_eq_true, ih, beq_eq, List.mem_cons]
    constructor
    · rintro (e | ⟨d, hd⟩)
      · exact ⟨x.2, .inl (by rw [e])⟩
      · exact ⟨d, .inr hd⟩
    · rintro ⟨d, e | hd⟩
      · exact .inl (by rw [← e])
      · exact .inr ⟨d, hd⟩
theorem vwArgs_RL {φ : List (Nat × Nat)} {hf : Heap} (hs : Sees P φ hf ρ ρ') : ∀ (ts : List TypeId) {args : List AV} {args' : List Value}, RL ρ args args' → RL ρ' (vwArgs P φ hf ts args) args'
  | ts, [], [], _ => by cases ts <;> exact RL.nil _
  | ts, [], b :: bs, ha => by have := ha.len; simp at this
  | ts, a :: as, [], ha => by have := ha.len; simp at this
  | t :: ts, a :: as, b :: bs, ha => RL.cons (vw_R hs _ _ _ _ _ ha.head) (vwArgs_RL hs ts ha.tail)
  | [], a :: as, b :: bs, ha => RL.cons (vw_R hs _ _ _ _ _ ha.head) (vwArgs_RL hs [] ha.tail)
theorem vwRes_R {φ : List (Nat × Nat)} {hf : Heap} (hs : Sees P φ hf ρ ρ') {ts : List TypeId} {v : AV} {v' : Value} (hv : R ρ v v') : R ρ' (vwRes P φ hf ts v) v' := by
  unfold vwRes
  split
  · rename_i vs
    obtain ⟨cs', rfl, hc⟩ := hv.of_tup
    exact (vwArgs_RL hs ts hc).tup
  · exact vw_R hs _ _ _ _ _ hv
theorem vwBlks2_mem {ty : Nat → Option TypeId} {ψ : List (Nat × Nat)} {hf : Heap} {c : Nat} {x : Blk} : ∀ {l : List (Nat × Nat)}, (c, x) ∈ vwBlks2 P ψ h hf ty l → ∃ b y, (b, c) ∈ l ∧ h.m b = some y ∧ vwB P ψ hf (ty b) y = some x
  | [], hm => by simp [vwBlks2] at hm
  | (b, c') :: l, hm => by
    simp only [vwBlks2] at hm
    split at hm
    · rename_i y hy
      rcases List.mem_cons.1 hm with e | e
      · cases e
        obtain ⟨z, h1, h2⟩ := Option.bind_eq_some_iff.1 hy
        exact ⟨b, z, List.mem_cons_self, h1, h2⟩
      · obtain ⟨b', z, a1, a2⟩ := vwBlks2_mem e
        exact ⟨b', z, List.mem_cons_of_mem _ a1, a2⟩
    · obtain ⟨b', z, a1, a2⟩ := vwBlks2_mem hm
      exact ⟨b', z, List.mem_cons_of_mem _ a1, a2⟩
theorem vwBlks2_self {ty : Nat → Option TypeId} {ψ : List (Nat × Nat)} : ∀ l : List (Nat × Nat), vwBlks2 P ψ h h ty l = vwBlks P ψ h ty l
  | [] => rfl
  | (b, c) :: l => by
    simp only [vwBlks2, vwBlks, vwBlks2_self l]
    cases (h.m b).bind (vwB P ψ h (ty b)) <;> rfl
/-- The same numbers, and no more is told of what is not written any more. -/
def locS (φ : List (Nat × Nat)) (ρ : Loc) : Loc := ⟨fun c => (inv1 c φ).bind ρ, ρ.F⟩
theorem sees_locS {nx : Nat} (hφ : RenOk φ 0 nx) : Sees P φ none0 ρ (locS φ ρ) :=
  ⟨fun b c hc => by
    show (inv1 c φ).bind ρ = ρ b
    rw [inv1_of_mem hφ.v (find1_mem hc)]; rfl, fun _ _ _ h => h, fun id p wr vs o n k ls h1 => by cases h1⟩
theorem viewS {nx : Nat} {ty : Nat → Option TypeId} (hr : Rep ρ h N w) (hφ : RenOk φ 0 nx) (hL : LFree N.L) : Rep (locS φ ρ) (mkHeap (vwBlks2 P φ h none0 ty φ) nx) N w := by
  have hs : Sees P φ none0 ρ (locS φ ρ) := sees_locS hφ
  have key : ∀ c y, (mkHeap (vwBlks2 P φ h none0 ty φ) nx).m c = some y → ∃ b x p, find1 b φ = some c ∧ h.m b = some x ∧ ρ b = some p ∧ RB ρ N w p x ∧ vwB P φ none0 (ty b) x = some y := fun c y hy => by
    obtain ⟨b, x, a1, a2, a3⟩ := vwBlks2_mem (look_mem hy)
    obtain ⟨p, b1, b2⟩ := hr.blk b x a2
    exact ⟨b, x, p, find1_of_mem hφ.k a1, a2, b1, b2, a3⟩
  refine ⟨fun c y hy => ?_, fun c c' y y' q q' hy hy' hne hw hq hq' => ?_, hr.old, fun c hc => ?_, fun b o cs hf => ?_⟩
  · obtain ⟨b, x, p, a1, a2, a3, a4, a5⟩ := key c y hy
    exact ⟨p, (hs.at' _ _ a1).trans a3, a4.vw hs hL a5⟩
  · obtain ⟨b, x, p, a1, a2, a3, a4, a5⟩ := key c y hy
    obtain ⟨b', x', p', a1', a2', a3', a4', a5'⟩ := key c' y' hy'
    have e1 := (hs.at' _ _ a1).trans a3
    have e2 := (hs.at' _ _ a1').trans a3'
    rw [e1] at hq; cases hq
    rw [e2] at hq'; cases hq'
    refine hr.inj b b' x x' _ _ a2 a2' (fun e => ?_) (by rw [← vwB_writes a5]; exact hw) a3 a3'
    subst e
    rw [a1] at a1'; cases a1'; exact hne rfl
  · have hc' : nx ≤ c := hc
    show (inv1 c φ).bind ρ = none
    cases hi : inv1 c φ with
    | none => rfl
    | some b => have := hφ.lt _ _ (inv1_mem hi); omega
  · obtain ⟨⟨c, e, fz, g1, g2, g3⟩, f2, f3, f4⟩ := hr.frz b o cs hf
    refine ⟨⟨c, e, fz, g1, g2, fun i v hi => ?_⟩, fun d y q hd hy hq => ?_, f3, f4⟩
    · obtain ⟨v', a, b⟩ := g3 i v hi
      exact ⟨v', a, b.pure hs.F (f4 v (List.mem_of_getElem? hi))⟩
    · obtain ⟨b', x, p, a1, a2, a3, a4, a5⟩ := key d y hd
      have e1 := (hs.at' _ _ a1).trans a3
      rw [e1] at hq; cases hq
      exact f2 b' x _ a2 (by rw [← vwB_writes a5]; exact hy) a3
/-- Each number that is found has a place. -/
theorem idV_R {v : AV} {v' : Value} {b : Nat} (hv : R ρ v v') (hb : idV v = some b) : ∃ p, ρ b = some p := by
  cases hv <;> simp [idV] at hb
  · rename_i hp; subst hb; exact ⟨_, hp⟩
  · rename_i hp _ _ _ _; subst hb; exact ⟨_, hp⟩
  · rename_i hp _ _; subst hb; exact ⟨_, hp⟩
  · rename_i hp; subst hb; exact ⟨_, hp⟩
theorem nth_R {l : List AV} {a : List Value} (hl : RL ρ l a) (i : Nat) : ∃ v', R ρ (nth l i) v' := by
  rw [nth_eq]
  exact ⟨_, hl.getD i undef⟩
theorem posObj_R {args : List AV} {args' : List Value} {tys : List TypeId} (hr : Rep ρ h N w) (ha : RL ρ args args') : ∀ (l : List (Nat × List Nat)) (b : Nat), some b ∈ fst1 (posObj P args tys h l) → ∃ p, ρ b = some p
  | [], b, hm => by simp [posObj, fst1] at hm
  | (i, ks) :: l, b, hm => by
    rw [fst1_eq] at hm
    simp only [posObj, List.map_cons, List.map_append, List.mem_cons, List.mem_append] at hm
    obtain ⟨v', hv⟩ := nth_R ha i
    rcases hm with (hm | hm) | hm
    · exact idV_R hv hm.symm
    · split at hm
      · rename_i p he
        split at hm
        · rename_i wr vs hb
          simp only [List.map_map, List.mem_map, Function.comp] at hm
          obtain ⟨k, _, hk⟩ := hm
          obtain ⟨q, _, c, e, fz, g1, g2, g3, g4, g5⟩ := hr.blk _ _ hb
          rw [nth_eq] at hk
          cases hg : vs[p.2 + k]? with
          | none => simp [List.getD, hg, idV] at hk
          | some u =>
            obtain ⟨u', _, hu⟩ := g4 _ _ hg
            simp only [List.getD, hg, Option.getD_some] at hk
            exact idV_R hu hk
        · simp at hm
      · simp at hm
    · rw [← fst1_eq] at hm; exact posObj_R hr ha l b hm
theorem pairsOf_keys {n0 : Nat} : ∀ (ps : List (Option Nat)) (i : Nat) (acc : List (Nat × Nat)) (b c : Nat), (b, c) ∈ pairsOf n0 ps i acc → some b ∈ ps ∨ (b, c) ∈ acc
  | [], i, acc, b, c, hm => .inr hm
  | none :: l, i, acc, b, c, hm => (pairsOf_keys l (i + 1) acc b c hm).imp (List.mem_cons_of_mem _) id
  | some d :: l, i, acc, b, c, hm => by
    simp only [pairsOf] at hm
    cases hb : (Nat.ble n0 d && isNone' (find1 d acc)) with
    | false => rw [hb] at hm; exact (pairsOf_keys l (i + 1) acc b c hm).imp (List.mem_cons_of_mem _) id
    | true =>
      rw [hb] at hm
      rcases pairsOf_keys l (i + 1) _ b c hm with h | h
      · exact .inl (List.mem_cons_of_mem _ h)
      · rcases List.mem_cons.1 h with e | e
        · cases e; exact .inl List.mem_cons_self
        · exact .inr e
theorem pairsNew_ok {n0 : Nat} : ∀ (ps : List (Option Nat)) (i : Nat) (acc : List (Nat × Nat)), (acc.map (·.1)).Nodup → (acc.map (·.2)).Nodup → (∀ b c, (b, c) ∈ acc → c < n0 + i) →
    RenOk (pairsNew n0 ps i acc) 0 (n0 + (i + lenO ps)) ∧ ∀ b c, (b, c) ∈ pairsNew n0 ps i acc → (b, c) ∈ acc ∨ n0 + i ≤ c
  | [], i, acc, h1, h2, h3 => ⟨⟨h1, h2, fun b c hm hc => by omega, fun b c hm => h3 b c hm, by omega⟩, fun b c hm => .inl hm⟩
  | none :: l, i, acc, h1, h2, h3 => by
    obtain ⟨a1, a2⟩ := pairsNew_ok (n0 := n0) l (i + 1) acc h1 h2 (fun b c hm => by have := h3 b c hm; omega)
    simp only [pairsNew, lenO]
    rw [show i + (lenO l + 1) = i + 1 + lenO l by omega]
    exact ⟨a1, fun b c hm => (a2 b c hm).imp id (by omega)⟩
  | some b :: l, i, acc, h1, h2, h3 => by
    obtain ⟨a1, a2⟩ := pairsNew_ok (n0 := n0) l (i + 1) acc h1 h2 (fun b c hm => by have := h3 b c hm; omega)
    simp only [pairsNew, lenO]
    rw [show i + (lenO l + 1) = i + 1 + lenO l by omega]
    cases hf : find1 b acc with
    | some c => exact ⟨a1, fun b c hm => (a2 b c hm).imp id (by omega)⟩
    | none =>
      obtain ⟨b1, b2⟩ := pairsNew_ok (n0 := n0) l (i + 1) ((b, n0 + i) :: acc) (by
          simp only [List.map_cons, List.nodup_cons]
          refine ⟨fun hm => ?_, h1⟩
          obtain ⟨x, a, e⟩ := List.mem_map.1 hm
          have e : x.1 = b := e
          exact find1_none hf x.2 (e ▸ a)) (by
          simp only [List.map_cons, List.nodup_cons]
          refine ⟨fun hm => ?_, h2⟩
          obtain ⟨x, a, e⟩ := List.mem_map.1 hm
          have e : x.2 = n0 + i := e
          have := h3 x.1 x.2 a
          omega) (fun b' c hm => by
          rcases List.mem_cons.1 hm with e | e
          · cases e; omega
          · have := h3 b' c e; omega)
      refine ⟨b1, fun b' c hm => ?_⟩
      rcases b2 b' c hm with h | h
      · rcases List.mem_cons.1 h with e | e
        · cases e; exact .inr (Nat.le_refl _)
        · exact .inl e
      · exact .inr (by omega)
theorem Zone.frame_L {ρ : Loc} {m : Nat → Option Blk} {w : World} : (N.frame ρ m w).L = N.L := rfl

/-- What such a run tells, holds. -/
theorem fnSim_loc (hT : TbOk P tb) (hSm : OrcOk P tb S) (sc : Sc) (f : FuncId) : FnSim P (LP tb) f (locF P S tb sc f) := by
  intro A K r args h u args' ρ Z w kind cs₀ cs hL hg hr ha hcs
  cases u <;> first | (cases hg; done) | skip
  unfold locF at hg
  simp only at hg
  split at hg
  rotate_left
  · cases hg
  rename_i rr hrun
  obtain ⟨v, h₁⟩ := rr
  simp only at hg
  have hLf : LFree Z.L := by rw [hL]; exact LP_free tb
  generalize hps : posObj P args (parsOf P f) h sc.owns = ps at hg hrun
  generalize hφ0 : pairsOf 0 (fst1 ps) 0 [] = φ at hg hrun
  have hφ : RenOk φ 0 (lenO (fst1 ps)) := by
    have := pairsOf_ok (n0 := 0) (fst1 ps) 0 [] (by simp) (by simp) (fun b c hm => by cases hm)
    rw [hφ0] at this
    rwa [Nat.zero_add, Nat.zero_add] at this
  have hin : ∀ b c, (b, c) ∈ φ → ∃ p, ρ b = some p := fun b c hm => by
    rw [← hφ0] at hm
    rcases pairsOf_keys _ _ _ _ _ hm with h | h
    · rw [← hps] at h; exact posObj_R hr ha _ _ h
    · cases h
  have hlt : ∀ b c, (b, c) ∈ φ → b < h.next := fun b c hm => by
    obtain ⟨p, hp⟩ := hin b c hm
    rcases Nat.lt_or_ge b h.next with h' | h'
    · exact h'
    · rw [hr.fresh b h'] at hp; cases hp
  let n1 := lenO (fst1 ps)
  let hl : Heap := mkHeap (vwBlks2 P φ h none0 (tyAt ps) φ) n1
  have hr1 : Rep (locS φ ρ) hl Z w := viewS hr hφ hLf
  have hr2 := hr1.frame
  let Z1 := Z.frame (locS φ ρ) hl.m w
  have hargs := vwArgs_RL (P := P) (sees_locS hφ) (parsOf P f) ha
  have hkn : kind = .normal ∧ cs = cs₀ := by
    rcases hcs with ⟨a, _, b⟩ | ⟨_, _, _, _, _, _, hu⟩
    · exact ⟨a, b⟩
    · exact hu.elim
  obtain ⟨rfl, rfl⟩ := hkn
  obtain ⟨e1, out, h', u', ρ1, w', cs', fr, k1, k2, k3, k4, k5, k6, k7⟩ := (callSim_of hT hSm 100).fn _ pairK (v, h₁) f _ hl .off args' (locS φ ρ) Z1 w .normal cs cs hL hrun hr2 hargs (.inl ⟨rfl, rfl, rfl⟩)
  have hout : out = .ret v ∧ h' = h₁ ∧ u' = .off := by
    unfold pairK at k1
    split at k1
    · simp only [Option.some.injEq, Prod.mk.injEq] at k1
      exact ⟨by rw [k1.1], k1.2, rfl⟩
    · cases k1
  obtain ⟨rfl, rfl, rfl⟩ := hout
  have hcs' : cs' = cs := k4.normal.2
  subst hcs'
  obtain ⟨v', hv, hgo⟩ := k7
  generalize hps2 : posObj P (vwArgs P φ none0 (parsOf P f) args) (parsOf P f) h' sc.owns ++ posObj P (compsOf v) (resOf P f) h' sc.news = ps2 at hg
  generalize hφ2 : pairsNew h.next (fst1 ps2) 0 (swapL φ) = φ2 at hg
  have hnew := pairsNew_ok (n0 := h.next) (fst1 ps2) 0 (swapL φ) (by
      rw [swapL_eq, List.map_map]; exact hφ.v) (by
      rw [swapL_eq, List.map_map]; exact hφ.k) (fun b c hm => by
      rw [swapL_eq, List.mem_map] at hm
      obtain ⟨x, a, e⟩ := hm
      cases e
      have := hlt x.1 x.2 a
      omega)
  rw [hφ2, Nat.zero_add] at hnew
  obtain ⟨hφ2ok, hsplit⟩ := hnew
  have hold : ∀ b c, (b, c) ∈ φ2 → c < h.next → (c, b) ∈ φ := fun b c hm hc => by
    rcases hsplit b c hm with h | h
    · rw [swapL_eq, List.mem_map] at h
      obtain ⟨x, a, e⟩ := h
      cases e; exact a
    · omega
  have hrep1 : Rep ρ1 h' Z1 w' := k3.rep
  have hr3 := view (P := P) (ty := tyAt ps2) hrep1 hφ2ok (by rw [Zone.frame_L]; exact hLf)
  have hs2 : Sees P φ2 h' ρ1 (locOf P φ2 0 h' ρ1) := sees_locOf hφ2ok
  rw [← vwBlks2_self] at hr3
  let ρ2 := locOf P φ2 0 h' ρ1
  let l2 := vwBlks2 P φ2 h' h' (tyAt ps2) φ2
  -- the numbers that went in
  have hcons : ∀ c p, ρ2 c = some p → c < h.next → ρ c = some p := fun c p hp hc => by
    have hp' : (if c < 0 then ρ1 c else (inv1 c φ2).bind ρ1) = some p := hp
    rw [if_neg (by omega)] at hp'
    cases hi : inv1 c φ2 with
    | none => rw [hi] at hp'; cases hp'
    | some x =>
      rw [hi] at hp'
      have hm := hold x c (inv1_mem hi) hc
      have hx : x < n1 := hφ.lt _ _ hm
      have h1 : ρ1 x = (locS φ ρ) x := k3.off x hx
      have h2 : (locS φ ρ) x = ρ c := (sees_locS (P := P) hφ).at' c x (find1_of_mem hφ.k hm)
      have hp2 : ρ1 x = some p := hp'
      rw [h1, h2] at hp2
      exact hp2
  let ρ3 : Loc := ⟨fun c => if c < h.next then ρ c else ρ2 c, ρ2.F⟩
  have hg23 : Grows ρ2 ρ3 := ⟨fun c p hp => by
    show (if c < h.next then ρ c else ρ2 c) = some p
    by_cases e : c < h.next
    · rw [if_pos e]; exact hcons c p hp e
    · rw [if_neg e]; exact hp, fun _ _ _ h => h⟩
  have hFup : ∀ b o cs, ρ.F b o cs → ρ2.F b o cs := fun b o cs hf => hs2.F _ _ _ (k3.grows.fz _ _ _ hf)
  have hg3 : Grows ρ ρ3 := ⟨fun c p hp => by
    show (if c < h.next then ρ c else ρ2 c) = some p
    have : c < h.next := by
      rcases Nat.lt_or_ge c h.next with h' | h'
      · exact h'
      · rw [hr.fresh c h'] at hp; cases hp
    rw [if_pos this]; exact hp, hFup⟩
  -- what is in the heap by other numbers is not touched
  have hin1 : ∀ x c p, hl.m c = some x → (locS φ ρ) c = some p → ∃ b y, (b, c) ∈ φ ∧ h.m b = some y ∧ ρ b = some p ∧ y.writes = x.writes := fun x c p hx hp => by
    obtain ⟨b, y, a1, a2, a3⟩ := vwBlks2_mem (look_mem hx)
    refine ⟨b, y, a1, a2, ?_, (vwB_writes a3).symm⟩
    have := (sees_locS (P := P) (ρ := ρ) hφ).at' b c (find1_of_mem hφ.k a1)
    rw [this] at hp; exact hp
  have hkeep : ∀ c x p, h.m c = some x → hasK c φ = false → ρ c = some p → Z1.keep p.blk := fun c x p hx hk hp => by
    obtain ⟨p', q1, q2⟩ := hr.blk c x hx
    rw [hp] at q1; cases q1
    refine .inr (.inl ⟨q2.size, fun b y q hb hy hq => ?_⟩)
    obtain ⟨d, z, d1, d2, d3, d4⟩ := hin1 y b q hb hq
    refine hr.inj d c z x q p d2 hx (fun e => ?_) (by rw [d4]; exact hy) d3 hp
    subst e
    rw [hasK_iff.2 ⟨b, d1⟩] at hk; cases hk
  have hF0 : ∀ b o cs, (locS φ ρ).F b o cs → Z.keep b → Z.ro b ∨ Z.fz b := fun b o cs hf => (hr.frz b o cs hf).2.2.1
  have hcase : ∀ c x, outM h.m φ l2 c = some x → (mkHeap l2 (h.next + lenO (fst1 ps2))).m c = some x ∨ (look c l2 = none ∧ hasK c φ = false ∧ h.m c = some x) := fun c x hx => by
    unfold outM at hx
    cases hlk : look c l2 with
    | some y => rw [hlk] at hx; exact .inl (by show look c l2 = some x; rw [hlk]; exact hx)
    | none =>
      rw [hlk] at hx
      cases hk : hasK c φ with
      | true => rw [hk] at hx; cases hx
      | false => rw [hk] at hx; exact .inr ⟨rfl, rfl, hx⟩
  have hlow : Low Z w w' := k3.low.unframe
  have hrepF : Rep ρ3 ⟨outM h.m φ l2, h.next + lenO (fst1 ps2)⟩ Z w' := by
    have apart : ∀ c x p d y q, (mkHeap l2 (h.next + lenO (fst1 ps2))).m c = some x → ρ2 c = some p → h.m d = some y → hasK d φ = false → ρ d = some q → (x.writes = true ∨ y.writes = true) → p.blk ≠ q.blk := fun c x p d y q hx hp hy hk hq hw heq => by
      obtain ⟨p', a1, a2⟩ := hr3.blk c x hx
      have hp' : ρ2 c = some p' := a1
      rw [hp] at hp'; cases hp'
      have hkq := hkeep d y q hy hk hq
      obtain ⟨q', b1, b2⟩ := hr.blk d y hy
      rw [hq] at b1; cases b1
      cases hxw : x.writes with
      | true => exact a2.low hxw (heq ▸ hkq)
      | false =>
        rcases hw with hw | hw
        · rw [hxw] at hw; cases hw
        · have hro : Z1.ro p.blk := by
            cases x with
            | cells wr vs => obtain ⟨c, e, fz, g1, g2, g3, g4, g5, g6⟩ := a2; exact g6 hxw
            | _ => cases hxw
          have hro : Z.ro p.blk := hro
          exact b2.low hw (heq ▸ Z.sub _ hro)
    refine ⟨fun c x hx => ?_, fun c d x y p q hx hy hne hw hp hq => ?_, fun q hq => Nat.lt_of_lt_of_le (hr.old q hq) hlow.size, fun c hc => ?_, fun b o cs hf => ?_⟩
    · rcases hcase c x hx with h2 | ⟨_, hk, h2⟩
      · obtain ⟨p, a1, a2⟩ := hr3.blk c x h2
        exact ⟨p, hg23 _ _ a1, RB.keep hg23 a2.unframe rfl⟩
      · obtain ⟨p, a1, a2⟩ := hr.blk c x h2
        exact ⟨p, hg3 _ _ a1, a2.keep hg3 (k3.low.block _ (hkeep c x p h2 hk a1))⟩
    · rcases hcase c x hx with h2 | ⟨_, hk, h2⟩ <;> rcases hcase d y hy with h3 | ⟨_, hk', h3⟩
      · obtain ⟨p', a1, _⟩ := hr3.blk c x h2
        obtain ⟨q', b1, _⟩ := hr3.blk d y h3
        rw [hg23 _ _ a1] at hp; cases hp
        rw [hg23 _ _ b1] at hq; cases hq
        exact hr3.inj c d x y _ _ h2 h3 hne hw a1 b1
      · obtain ⟨p', a1, _⟩ := hr3.blk c x h2
        obtain ⟨q', b1, _⟩ := hr.blk d y h3
        rw [hg23 _ _ a1] at hp; cases hp
        rw [hg3 _ _ b1] at hq; cases hq
        exact apart c x _ d y _ h2 a1 h3 hk' b1 (.inl hw)
      · obtain ⟨p', a1, _⟩ := hr.blk c x h2
        obtain ⟨q', b1, _⟩ := hr3.blk d y h3
        rw [hg3 _ _ a1] at hp; cases hp
        rw [hg23 _ _ b1] at hq; cases hq
        exact fun e => apart d y _ c x _ h3 b1 h2 hk a1 (.inr hw) e.symm
      · obtain ⟨p', a1, _⟩ := hr.blk c x h2
        obtain ⟨q', b1, _⟩ := hr.blk d y h3
        rw [hg3 _ _ a1] at hp; cases hp
        rw [hg3 _ _ b1] at hq; cases hq
        exact hr.inj c d x y _ _ h2 h3 hne hw a1 b1
    · have hc' : h.next + lenO (fst1 ps2) ≤ c := hc
      show (if c < h.next then ρ c else ρ2 c) = none
      rw [if_neg (by omega)]
      exact hr3.fresh c hc'
    · have hf2 : ρ2.F b o cs := hf
      obtain ⟨f1, f2, f3, f4⟩ := hr3.frz b o cs hf2
      refine ⟨f1.keep hg23 rfl, fun c x p hx hw hp => ?_, fun hk => ?_, f4⟩
      · rcases hcase c x hx with h2 | ⟨_, hk, h2⟩
        · obtain ⟨p', a1, _⟩ := hr3.blk c x h2
          rw [hg23 _ _ a1] at hp; cases hp
          exact f2 c x _ h2 hw a1
        · obtain ⟨p', a1, a2⟩ := hr.blk c x h2
          rw [hg3 _ _ a1] at hp; cases hp
          intro heq
          have hkp := hkeep c x _ h2 hk a1
          rw [heq] at hkp
          rcases f3 hkp with h5 | h5 | ⟨o', cs', h5⟩
          · exact a2.low hw (heq ▸ Z.sub _ h5)
          · exact a2.low hw (heq ▸ Z.fsub _ h5)
          · exact (hr.frz b o' cs' h5).2.1 c x _ h2 hw a1 heq
      · rcases f3 (.inl hk) with h5 | h5 | ⟨o', cs', h5⟩
        · exact .inl h5
        · exact .inr h5
        · exact hF0 b o' cs' h5 hk
  refine ⟨e1, _, _, _, ρ3, w', cs', fr, hg, k2, ⟨hg3, fun b hb => ?_, by show h.next ≤ h.next + lenO (fst1 ps2); omega, hrepF, hlow⟩, .inl ⟨rfl, rfl, rfl⟩, k5, k6, v', (vwRes_R hs2 hv).grows hg23, hgo⟩
  show (if b < h.next then ρ b else ρ2 b) = ρ b
  rw [if_pos hb]
theorem scalar_R {v : AV} {v' : Value} (hs : scalar v = true) (hv : R ρ v v') : R ρ' v v' := by
  cases v <;> simp [scalar] at hs <;> cases hv
  · exact .int _ _
  · exact .bool _
  · exact .str _
theorem scalars_R : ∀ {l : List AV} {a : List Value}, scalars l = true → RL ρ l a → RL ρ' l a
  | [], [], _, _ => RL.nil _
  | [], _ :: _, _, hl => by have := hl.len; simp at this
  | _ :: _, [], _, hl => by have := hl.len; simp at this
  | v :: l, b :: a, hs, hl => by
    simp only [scalars, Bool.and_eq_true] at hs
    exact RL.cons (scalar_R hs.1 hl.head) (scalars_R hs.2 hl.tail)
theorem scalarV_R {v : AV} {v' : Value} (hs : scalarV v = true) (hv : R ρ v v') : R ρ' v v' := by
  unfold scalarV at hs
  split at hs
  · obtain ⟨cs', rfl, hc⟩ := hv.of_tup
    exact (scalars_R hs hc).tup
  · exact scalar_R hs hv
theorem fnSim_locC (hT : TbOk P tb) (hSm : OrcOk P tb S) (f : FuncId) : FnSim P (LP tb) f (locC P S tb f) := by
  intro A K r args h u args' ρ Z w kind cs₀ cs hL hg hr ha hcs
  cases u <;> first | (cases hg; done) | skip
  unfold locC at hg
  simp only at hg
  split at hg
  rotate_left
  · cases hg
  rename_i rr hrun
  obtain ⟨v, h₁⟩ := rr
  simp only at hg
  obtain ⟨hsc, hg⟩ := guardK_some hg
  have hLf : LFree Z.L := by rw [hL]; exact LP_free tb
  have hφ : RenOk [] 0 0 := ⟨by simp, by simp, (fun b c hm => by cases hm), (fun b c hm => by cases hm), Nat.le_refl _⟩
  have hr1 := view (P := P) (ty := fun _ => none) hr hφ hLf
  have hr2 := hr1.frame
  have hargs := vwArgs_RL (P := P) (sees_locOf (h := h) (ρ := ρ) hφ) (parsOf P f) ha
  have hkn : kind = .normal ∧ cs = cs₀ := by
    rcases hcs with ⟨a, _, b⟩ | ⟨_, _, _, _, _, _, hu⟩
    · exact ⟨a, b⟩
    · exact hu.elim
  obtain ⟨rfl, rfl⟩ := hkn
  obtain ⟨e1, out, h', u', ρ1, w', cs', fr, k1, k2, k3, k4, k5, k6, k7⟩ := (callSim_of hT hSm 100).fn _ pairK (v, h₁) f _ _ .off args' (locOf P [] 0 h ρ) (Z.frame (locOf P [] 0 h ρ) (mkHeap [] 0).m w) w .normal cs cs hL hrun hr2 hargs (.inl ⟨rfl, rfl, rfl⟩)
  have hout : out = .ret v ∧ h' = h₁ ∧ u' = .off := by
    unfold pairK at k1
    split at k1
    · simp only [Option.some.injEq, Prod.mk.injEq] at k1
      exact ⟨by rw [k1.1], k1.2, rfl⟩
    · cases k1
  obtain ⟨rfl, rfl, rfl⟩ := hout
  have hcs' : cs' = cs := k4.normal.2
  subst hcs'
  obtain ⟨v', hv, hgo⟩ := k7
  have hl : Low (Z.read w) w w' := ⟨k3.low.os, k3.low.tape, k3.low.output, k3.low.size, fun q hq => k3.low.block q (.inr (.inl ⟨hq, fun b x p hb => by cases hb⟩))⟩
  refine ⟨e1, .ret v, h, .off, ρ, w', cs', fr, hg, k2, ⟨Grows.refl _, fun _ _ => rfl, Nat.le_refl _, hr.more (n := h.next) (GrowsS.refl _) hl hr.fresh, hl.unread hr⟩, .inl ⟨rfl, rfl, rfl⟩, k5, k6, v', scalarV_R hsc hv, hgo⟩
theorem natF_loc (sc : Sc) (f : FuncId) : NatF (locF P S tb sc f) := by
  intro A B args h m K K' u hk
  unfold locF
  cases m <;> first | rfl | skip
  simp only
  split <;> first | rfl | exact hk _ _ _
theorem natF_locC (f : FuncId) : NatF (locC P S tb f) := by
  intro A B args h m K K' u hk
  unfold locC
  cases m <;> first | rfl | skip
  simp only
  split <;> first | rfl | exact guardK_b (hk _ _ _)
end Go.Ev
/- Loops that are told of by themselves. -/
namespace Go.Ev
/-- The loop of a function's code that begins with a region. -/
def loopC (id : Nat) : Code → Option Code
  | .seq a b => (match loopC id a with
    | some c => some c
    | none => loopC id b)
  | .cond _ a b => (match loopC id a with
    | some c => some c
    | none => loopC id b)
  | .block _ b => loopC id b
  | .loop b => (match headId b with
    | some j => bif Nat.beq j id then some b else loopC id b
    | none => loopC id b)
  | _ => none
def countL (id : Nat) : Code → Nat
  | .seq a b => countL id a + countL id b
  | .cond _ a b => countL id a + countL id b
  | .block _ b => countL id b
  | .loop b => (match headId b with
    | some j => bif Nat.beq j id then countL id b + 1 else countL id b
    | none => countL id b)
  | _ => 0
def butL (id : Nat) (lo : Nat → Option LoopF) : Nat → Option LoopF := fun j => bif Nat.beq j id then none else lo j
def withL (id : Nat) (g : LoopF) (lo : Nat → Option LoopF) : Nat → Option LoopF := fun j => bif Nat.beq j id then some g else lo j
variable {P : Program} {L : ALoop → Prop} {lo : Nat → Option LoopF} {id : Nat} {g : LoopF} {tb : FuncId → Option FnP} {S : Orc} {fid : FuncId}
theorem lp_but : ∀ {c : Code}, lpOk P L fid lo c → lpOk P L fid (butL id lo) c := by
  intro c
  induction c with
  | seq a b iha ihb => exact fun h => ⟨iha h.1, ihb h.2⟩
  | cond x a b iha ihb => exact fun h => ⟨iha h.1, ihb h.2⟩
  | block i b ih => exact fun h => ih h
  | loop b ih =>
    refine fun h => ⟨fun j f hj hf => ?_, ih h.2⟩
    unfold butL at hf
    cases hb : Nat.beq j id with
    | true => rw [hb] at hf; cases hf
    | false => rw [hb] at hf; exact h.1 j f hj hf
  | _ => exact fun _ => trivial
theorem lp_zero : ∀ {c : Code}, countL id c = 0 → lpOk P L fid lo c → lpOk P L fid (withL id g lo) c := by
  intro c
  induction c with
  | seq a b iha ihb => intro h0 h; simp only [countL] at h0; exact ⟨iha (by omega) h.1, ihb (by omega) h.2⟩
  | cond x a b iha ihb => intro h0 h; simp only [countL] at h0; exact ⟨iha (by omega) h.1, ihb (by omega) h.2⟩
  | block i b ih => exact fun h0 h => ih h0 h
  | loop b ih =>
    intro h0 h
    simp only [countL] at h0
    refine ⟨fun j f hj hf => ?_, ?_⟩
    · rw [hj] at h0
      simp only at h0
      unfold withL at hf
      cases hb : Nat.beq j id with
      | true => rw [hb] at h0; simp at h0
      | false => rw [hb] at hf; exact h.1 j f hj hf
    · refine ih ?_ h.2
      cases hh : headId b with
      | none => rw [hh] at h0; exact h0
      | some j =>
        rw [hh] at h0
        simp only at h0
        cases hb : Nat.beq j id with
        | true => rw [hb] at h0; simp at h0
        | false => rw [hb] at h0; exact h0
  | _ => exact fun _ _ => trivial
theorem loopC_none : ∀ {c : Code}, countL id c = 0 → loopC id c = none := by
  intro c
  induction c with
  | seq a b iha ihb => intro h0; simp only [countL] at h0; simp only [loopC, iha (by omega), ihb (by omega)]
  | cond x a b iha ihb => intro h0; simp only [countL] at h0; simp only [loopC, iha (by omega), ihb (by omega)]
  | block i b ih => exact fun h0 => ih h0
  | loop b ih =>
    intro h0
    simp only [countL] at h0
    simp only [loopC]
    cases hh : headId b with
    | none => rw [hh] at h0; exact ih h0
    | some j =>
      rw [hh] at h0
      simp only at h0
      cases hb : Nat.beq j id with
      | true => rw [hb] at h0; simp at h0
      | false => rw [hb] at h0; simp only [hb, cond_false]; exact ih h0
  | _ => exact fun _ => rfl
theorem lp_with : ∀ {c : Code}, countL id c ≤ 1 → (∀ b, loopC id c = some b → LoopSim P L fid b g) → lpOk P L fid lo c → lpOk P L fid (withL id g lo) c := by
  intro c
  have two : ∀ {a b : Code}, (countL id a ≤ 1 → (∀ x, loopC id a = some x → LoopSim P L fid x g) → lpOk P L fid lo a → lpOk P L fid (withL id g lo) a) → (countL id b ≤ 1 → (∀ x, loopC id b = some x → LoopSim P L fid x g) → lpOk P L fid lo b → lpOk P L fid (withL id g lo) b) →
      countL id a + countL id b ≤ 1 → (∀ x, (match loopC id a with | some c => some c | none => loopC id b) = some x → LoopSim P L fid x g) → lpOk P L fid lo a → lpOk P L fid lo b → lpOk P L fid (withL id g lo) a ∧ lpOk P L fid (withL id g lo) b := by
    intro a b iha ihb h0 hx ha hb
    rcases Nat.eq_zero_or_pos (countL id a) with h1 | h1
    · rw [loopC_none h1] at hx
      exact ⟨lp_zero h1 ha, ihb (by omega) hx hb⟩
    · refine ⟨iha (by omega) (fun x he => hx x (by rw [he])) ha, lp_zero (by omega) hb⟩
  induction c with
  | seq a b iha ihb => intro h0 hx h; simp only [countL] at h0; exact two iha ihb h0 hx h.1 h.2
  | cond x a b iha ihb => intro h0 hx h; simp only [countL] at h0; exact two iha ihb h0 hx h.1 h.2
  | block i b ih => exact fun h0 hx h => ih h0 hx h
  | loop b ih =>
    intro h0 hx h
    simp only [countL] at h0
    simp only [loopC] at hx
    cases hh : headId b with
    | none =>
      rw [hh] at h0 hx
      exact ⟨(fun j f hj => by rw [hh] at hj; cases hj), ih h0 hx h.2⟩
    | some j =>
      rw [hh] at h0 hx
      simp only at h0 hx
      cases hb : Nat.beq j id with
      | true =>
        rw [hb] at h0 hx
        simp only [cond_true] at h0 hx
        refine ⟨fun j' f hj hf => ?_, lp_zero (by omega) h.2⟩
        rw [hh] at hj; cases hj
        unfold withL at hf
        rw [hb] at hf
        cases hf
        exact hx b rfl
      | false =>
        rw [hb] at h0 hx
        simp only [cond_false] at h0 hx
        refine ⟨fun j' f hj hf => ?_, ih h0 hx h.2⟩
        have hj0 := hj
        rw [hh] at hj; cases hj
        unfold withL at hf
        rw [hb] at hf
        exact h.1 _ f hj0 hf
  | _ => exact fun _ _ _ => trivial
theorem loopC_ok {pl : Plan} : ∀ {c b : Code}, loopC id c = some b → codeOk pl c = true → lpOk P L fid lo c → codeOk pl b = true ∧ lpOk P L fid lo b := by
  intro c
  have two : ∀ {a b x : Code}, (∀ {y}, loopC id a = some y → codeOk pl a = true → lpOk P L fid lo a → codeOk pl y = true ∧ lpOk P L fid lo y) → (∀ {y}, loopC id b = some y → codeOk pl b = true → lpOk P L fid lo b → codeOk pl y = true ∧ lpOk P L fid lo y) →
      (match loopC id a with | some c => some c | none => loopC id b) = some x → (codeOk pl a && codeOk pl b) = true → lpOk P L fid lo a → lpOk P L fid lo b → codeOk pl x = true ∧ lpOk P L fid lo x := by
    intro a b x iha ihb hx hc ha hb
    simp only [Bool.and_eq_true] at hc
    cases hl : loopC id a with
    | none => rw [hl] at hx; exact ihb hx hc.2 hb
    | some y => rw [hl] at hx; cases hx; exact iha hl hc.1 ha
  induction c with
  | seq a b iha ihb => intro x hx hc h; exact two iha ihb hx hc h.1 h.2
  | cond x a b iha ihb => intro x hx hc h; exact two iha ihb hx hc h.1 h.2
  | block i b ih => exact fun hx hc h => ih hx hc h
  | loop b ih =>
    intro x hx hc h
    simp only [loopC] at hx
    cases hh : headId b with
    | none => rw [hh] at hx; exact ih hx hc h.2
    | some j =>
      rw [hh] at hx
      simp only at hx
      cases hb : Nat.beq j id with
      | true => rw [hb] at hx; cases hx; exact ⟨hc, h.2⟩
      | false => rw [hb] at hx; exact ih hx hc h.2
  | _ => intro x hx; cases hx
theorem loopC_head : ∀ {c b : Code}, loopC id c = some b → headId b = some id := by
  intro c
  have two : ∀ {a b x : Code}, (∀ {y}, loopC id a = some y → headId y = some id) → (∀ {y}, loopC id b = some y → headId y = some id) → (match loopC id a with | some c => some c | none => loopC id b) = some x → headId x = some id := by
    intro a b x iha ihb hx
    cases hl : loopC id a with
    | none => rw [hl] at hx; exact ihb hx
    | some y => rw [hl] at hx; cases hx; exact iha hl
  induction c with
  | seq a b iha ihb => intro x hx; exact two iha ihb hx
  | cond x a b iha ihb => intro x hx; exact two iha ihb hx
  | block i b ih => exact fun hx => ih hx
  | loop b ih =>
    intro x hx
    simp only [loopC] at hx
    cases hh : headId b with
    | none => rw [hh] at hx; exact ih hx
    | some j =>
      rw [hh] at hx
      simp only at hx
      cases hb : Nat.beq j id with
      | true => rw [hb] at hx; cases hx; rw [hh, beq_eq.1 hb]
      | false => rw [hb] at hx; exact ih hx
  | _ => intro x hx; cases hx
/-- The run of a loop. -/
def loopRun (P : Program) (S : Orc) (tb : FuncId → Option FnP) (f : FuncId) (id : Nat) : LoopF := fun _ st K => match tb f with
  | some e => (match loopC id e.code with
    | some c => evCode P (e.plan.stops (S.s f)) (evCall P S tb 100) (butL id (S.l f)) f none (.loop c) st K
    | none => none)
  | none => none
theorem loopRun_sim (hT : TbOk P tb) (hS : OrcOk P tb S) {f : FuncId} {e : FnP} {c : Code} (he : tb f = some e) (hc : loopC id e.code = some c) : LoopSim P (LP tb) f c (loopRun P S tb f id) := by
  intro A r K Z kind cs₀ b k ρ st a w cs hL hb hf hro hSt hg
  unfold loopRun at hg
  rw [he] at hg
  simp only [hc] at hg
  obtain ⟨_, _, _, hok⟩ := hT.fn f e he
  obtain ⟨h1, h2⟩ := loopC_ok (P := P) (L := LP tb) (fid := f) (lo := butL id (S.l f)) hc hok (lp_but (hS.l f e he))
  refine code_sim (callSim_of hT hS 100) hT hL he hf hb (rd := none) (lo := butL id (S.l f)) (.loop c) (by simpa [codeOk] using h1) (fun _ => ⟨fun j g' hj hg' => ?_, h2⟩) K k ρ st a w cs (by rw [hro]; trivial) hSt hg
  rw [loopC_head hc] at hj
  cases hj
  unfold butL at hg'
  simp at hg'
theorem natL_loop (hS : OrcOk P tb S) {f : FuncId} : NatL (loopRun P S tb f id) := by
  intro A B st K K' u hk
  unfold loopRun
  split
  · split
    · refine evCode_b (evCall_b hS.nf hS.nl 100) (fun j g hg => ?_) _ _ _ _ hk
      have hg : (bif Nat.beq j id then none else S.l f j) = some g := hg
      cases hj : Nat.beq j id with
      | false => rw [hj] at hg; exact hS.nl f j g hg
      | true => rw [hj] at hg; cases hg
    · rfl
  · rfl
/-- One loop more is told of. -/
def addL (f : FuncId) (id : Nat) (g : LoopF) (S : Orc) : Orc := ⟨S.f, fun x => bif Nat.beq x f then withL id g (S.l x) else S.l x, S.s⟩
theorem addL_gen (hS : OrcOk P tb S) {f : FuncId} {e : FnP} {g : LoopF} (he : tb f = some e) (hc : Nat.ble (countL id e.code) 1 = true) (hg : ∀ b, loopC id e.code = some b → LoopSim P (LP tb) f b g) (hn : NatL g) : OrcOk P tb (addL f id g S) := by
  refine ⟨hS.f, fun x e' he' => ?_, hS.nf, fun x j g' hg' => ?_⟩
  rotate_left
  · have hg' : (bif Nat.beq x f then withL id g (S.l x) else S.l x) j = some g' := hg'
    cases hb : Nat.beq x f with
    | false => rw [hb] at hg'; exact hS.nl x j g' hg'
    | true =>
      rw [hb] at hg'
      have hg' : (bif Nat.beq j id then some g else S.l x j) = some g' := hg'
      cases hj : Nat.beq j id with
      | false => rw [hj] at hg'; exact hS.nl x j g' hg'
      | true => rw [hj] at hg'; cases hg'; exact hn
  show lpOk P (LP tb) x (bif Nat.beq x f then withL id _ (S.l x) else S.l x) e'.code
  cases hb : Nat.beq x f with
  | false => exact hS.l x e' he'
  | true =>
    have := Nat.eq_of_beq_eq_true hb
    subst this
    rw [he] at he'; cases he'
    exact lp_with (Nat.le_of_ble_eq_true hc) hg (hS.l x e he)
theorem addL_ok (hT : TbOk P tb) (hS : OrcOk P tb S) {f : FuncId} {e : FnP} (he : tb f = some e) (hc : Nat.ble (countL id e.code) 1 = true) : OrcOk P tb (addL f id (loopRun P S tb f id) S) :=
  addL_gen hS he hc (fun _ hb => loopRun_sim hT hS he hb) (natL_loop hS)
/-- One function more is told of. -/
def addF (f : FuncId) (g : CallF) (S : Orc) : Orc := ⟨fun x => bif Nat.beq x f then some g else S.f x, S.l, S.s⟩
theorem addF_ok {f : FuncId} {g : CallF} (h : FnSim P (LP tb) f g) (hn : NatF g) (hS : OrcOk P tb S) : OrcOk P tb (addF f g S) := by
  have hnf : ∀ f' g', (addF f g S).f f' = some g' → NatF g' := fun f' g' he => by
    have he : (bif Nat.beq f' f then some g else S.f f') = some g' := he
    cases hb : Nat.beq f' f with
    | true => rw [hb] at he; cases he; exact hn
    | false => rw [hb] at he; exact hS.nf f' g' he
  refine ⟨fun f' g' he => ?_, hS.l, hnf, hS.nl⟩
  have he : (bif Nat.beq f' f then some g else S.f f') = some g' := he
  cases hb : Nat.beq f' f with
  | true => rw [hb] at he; cases he; have := Nat.eq_of_beq_eq_true hb; subst this; exact h
  | false => rw [hb] at he; exact hS.f f' g' he
def orc0 : Orc := ⟨fun _ => none, fun _ _ => none, fun _ _ => false⟩
/-- At these regions of a function nothing is told. -/
def stopAt (f : FuncId) (l : List Nat) (S : Orc) : Orc := ⟨S.f, S.l, fun x i => bif Nat.beq x f then l.any (Nat.beq i) else S.s x i⟩
theorem stopAt_ok {f : FuncId} {l : List Nat} (hS : OrcOk P tb S) : OrcOk P tb (stopAt f l S) := ⟨hS.f, hS.l, hS.nf, hS.nl⟩
theorem orc0_ok : OrcOk P tb orc0 := ⟨fun f g h => (by cases h), fun f e _ => lpOk_none _, fun f g h => (by cases h), fun f i g h => (by cases h)⟩
/-- One round of a loop at whose head what stays is told anew. -/
def loopB (P : Program) (S : Orc) (tb : FuncId → Option FnP) (f : FuncId) (id : Nat) (n0 : Nat) {A : Type} (st : St) (K : Ex → St → Option A) : Option A := match tb f with
  | some e => (match loopC id e.code, e.plan.norm id with
    | some c, some N => loopK P N n0 (fun st K => evCode P (e.plan.stops (S.s f)) (evCall P S tb 100) (butL id (S.l f)) f none c st K) st K
    | _, _ => none)
  | none => none
def loopN0 (tb : FuncId → Option FnP) (f : FuncId) (id : Nat) : Option Norm := match tb f with
  | some e => e.plan.norm id
  | none => none
theorem loopRun_eq {f : FuncId} {N : Norm} (hN : loopN0 tb f id = some N) {e : FnP} {c : Code} (he : tb f = some e) (hc : loopC id e.code = some c) {A : Type} {st : St} {K : Ex → St → Option A} :
    loopRun P S tb f id A st K = normK P N st.h.next st fun s => loopN (loopB P S tb f id st.h.next) rounds s K := by
  unfold loopN0 at hN
  rw [he] at hN
  simp only at hN
  have hb : @loopB P S tb f id st.h.next A = loopK P N st.h.next (fun st K => evCode P (e.plan.stops (S.s f)) (evCall P S tb 100) (butL id (S.l f)) f none c st K) := by
    funext st K
    unfold loopB
    rw [he]
    simp only [hc, hN]
  rw [hb]
  unfold loopRun
  rw [he]
  simp only [hc, evCode, loopC_head hc, Option.bind_some, stops_norm, hN]
  have : butL id (S.l f) id = none := by unfold butL; simp
  rw [this]
theorem loopN_succ {A : Type} (b : St → (Ex → St → Option A) → Option A) (n : Nat) (st : St) (K : Ex → St → Option A) : loopN b (n + 1) st K = b st fun e s => match e with | .normal => loopN b n s K | e => K e s := by
  simp only [loopN]
  refine congrArg (b st) ?_
  funext e s
  cases e <;> rfl
end Go.Ev
/- The arguments of a law: data that lie in the world's memory, as values that are never written any more. -/
namespace Go.Ev
open Go.RowKit
section
variable (P : Program) {H : Type}
/-- Cells laid over others, one list behind the other, each at its place. -/
def lay : List AV → List (Nat × List AV) → List AV
  | acc, [] => acc
  | acc, x :: l => lay (bif Nat.ble (x.1 + lenA x.2) (lenA acc) then splice acc x.1 x.2 else acc) l
def catA : List (List AV) → List AV
  | [] => []
  | x :: l => x ++ catA l
/-- The cells of data of a type. -/
def dCells : Nat → TypeId → DataW H → List AV
  | 0, _, _ => []
  | k + 1, t, d => match P.underlying t, d with
    | some .bool, .lit (.bool b) => [.bool b]
    | some (.int _), .lit (.int k n) => [.int k n]
    | some .string, .lit (.string s) => [.str s]
    | some (.slice e), .nil => [.fz [] 0 false (P.cellsOf e)]
    | some (.slice e), .slice ds _ => [.fz (catA (ds.map (dCells k e))) ds.length false (P.cellsOf e)]
    | some (.struct fs), .agg ds => lay (repA .dead (P.cellsOf t)) ((fs.toList.zip ds).map fun x => (x.1.offset, dCells k x.1.type x.2))
    | _, _ => repA .dead (P.cellsOf t)
def dVal (k : Nat) (t : TypeId) (d : DataW H) : AV := match P.underlying t with
  | some (.struct _) => .agg (dCells P k t d)
  | some (.array _ _) => .agg (dCells P k t d)
  | _ => nth (dCells P k t d) 0
/-- A list of types, each of which is built of others of it: bools, numbers, strings, slices, structs. -/
def clT (T : List TypeId) : Bool := T.all fun t => match P.underlying t with
  | some .bool => true
  | some (.int _) => true
  | some .string => true
  | some (.slice e) => T.contains e && Nat.blt 0 (P.cellsOf e)
  | some (.struct fs) => fs.toList.all fun f => T.contains f.type
  | _ => false
/-- Data of a type. -/
def WT : Nat → TypeId → DataW H → Prop
  | 0, _, _ => False
  | k + 1, t, d => match P.underlying t with
    | some .bool => ∃ b, d = .lit (.bool b)
    | some (.int j) => ∃ n, d = .lit (.int j n) ∧ (Lit.int j n).wf = true
    | some .string => ∃ s : List UInt8, d = .lit (.string s) ∧ s.length ≤ maxLen
    | some (.slice e) => d = .nil ∨ ∃ ds sp, d = .slice ds sp ∧ ds.length ≤ maxLen ∧ ∀ x ∈ ds, WT k e x
    | some (.struct fs) => ∃ ds, d = .agg ds ∧ ds.length = fs.size ∧ ∀ (i : Nat) f x, fs[i]? = some f → ds[i]? = some x → WT k f.type x
    | _ => True
end
variable {P : Program} {H : Type} {enc : TypeId × Value → H} {W : World}
theorem cells?_spec {a : Addr} {n : Nat} {cs : List Value} (h : W.cells? 0 a n = some cs) : cs.length = n ∧ ∀ i, i < n → W.cell? (a.add i) = cs[i]? := by
  have := World.cells?_some h
  exact ⟨this.2.1, this.2.2⟩

/-! ### The cells that the arguments reach -/
section
variable (P) (enc) (W)
def Lies (k : Nat) (e : TypeId) (b : Nat) : Nat → List (DataW H) → Prop
  | _, [] => True
  | o, d :: ds => (∃ ps, (W.cells? 0 ⟨b, o, none⟩ (P.cellsOf e)).bind (DataW.trod enc P W 0 (fun _ => true) true k e) = some (d, ps)) ∧ Lies k e b (o + P.cellsOf e) ds
def argLoc (T : List TypeId) : Loc := ⟨fun _ => none, fun b o cs => ∃ (k : Nat) (e : TypeId) (ds : List (DataW H)), (0 < ds.length ∧ e ∈ T ∧ 0 < P.cellsOf e) ∧ cs = catA (ds.map (dCells P k e)) ∧ Lies P enc W k e b o ds⟩
end
theorem catA_append {l m : List (List AV)} : catA (l ++ m) = catA l ++ catA m := by
  induction l <;> simp_all [catA]
theorem lay_length : ∀ (l : List (Nat × List AV)) (acc : List AV), (lay acc l).length = acc.length
  | [], acc => rfl
  | x :: l, acc => by
    simp only [lay]
    rw [lay_length l]
    cases Nat.ble (x.1 + lenA x.2) (lenA acc) <;> simp [splice_length]
theorem lay_R {ρ : Loc} {cs : List Value} : ∀ (l : List (Nat × List AV)) (acc : List AV), RL ρ acc cs → (∀ x ∈ l, ∀ (j : Nat) v v', x.2[j]? = some v → cs[x.1 + j]? = some v' → R ρ v v') → RL ρ (lay acc l) cs
  | [], acc, ha, _ => ha
  | x :: l, acc, ha, hl => by
    simp only [lay]
    refine lay_R l _ ?_ (fun y hy => hl y (List.mem_cons_of_mem _ hy))
    cases hb : Nat.ble (x.1 + lenA x.2) (lenA acc) with
    | false => exact ha
    | true =>
      have hb := Nat.le_of_ble_eq_true hb
      rw [lenA_eq, lenA_eq] at hb
      refine ⟨by simp [splice_length, ha.len], fun i v v' a b => ?_⟩
      simp only [cond_true] at a
      rw [splice_get _ _ _ _ hb] at a
      split at a
      · rename_i hi
        exact hl x List.mem_cons_self _ v v' a (by rw [show x.1 + (i - x.1) = i by omega]; exact b)
      · exact ha.get i v v' a b
theorem dead_RL {ρ : Loc} (cs : List Value) : RL ρ (repA .dead cs.length) cs := by
  rw [repA_eq]
  exact ⟨by simp, fun i v v' a b => by
    simp only [List.getElem?_replicate] at a
    split at a
    · cases a; exact .dead _
    · cases a⟩
theorem catA_length {n : Nat} : ∀ (l : List (List AV)), (∀ x ∈ l, x.length = n) → (catA l).length = l.length * n
  | [], _ => by simp [catA]
  | x :: l, h => by
    simp only [catA, List.length_append, List.length_cons, h x List.mem_cons_self, catA_length l (fun y hy => h y (List.mem_cons_of_mem _ hy)), Nat.succ_mul]
    omega
/-- What a reading tells, holds of the values. -/
theorem trod_told {T : List TypeId} (hT : clT P T = true) : ∀ (k : Nat) (t : TypeId) (cs : List Value) (d : DataW H) (ps : List MemPlace), t ∈ T → DataW.trod enc P W 0 (fun _ => true) true k t cs = some (d, ps) →
    WT P k t d ∧ RL (argLoc P enc W T) (dCells P k t d) cs
  | 0, t, cs, d, ps, _, h => by simp [DataW.trod] at h
  | k + 1, t, cs, d, ps, htT, h => by
    have hcl := List.all_eq_true.1 hT t htT
    have fin : ∀ (l : List AV), WT P (k + 1) t d → dCells P (k + 1) t d = l → RL (argLoc P enc W T) l cs →
        WT P (k + 1) t d ∧ RL (argLoc P enc W T) (dCells P (k + 1) t d) cs := fun l hw he hr => by
      rw [he]; exact ⟨hw, hr⟩
    cases ht : P.underlying t with
    | none =>
      unfold DataW.trod at h
      rw [ht] at h
      simp at h
    | some desc =>
      cases desc with
      | bool =>
        obtain ⟨b, rfl, hx⟩ := DataW.trod_bool ht h
        cases hx
        exact fin _ (by simp only [WT, ht]; exact ⟨b, rfl⟩) (by simp only [dCells, ht]) (RL.cons (.bool b) (RL.nil _))
      | int j =>
        obtain ⟨n, rfl, hx, hw⟩ := DataW.trod_int ht h
        cases hx
        exact fin _ (by simp only [WT, ht]; exact ⟨n, rfl, hw⟩) (by simp only [dCells, ht]) (RL.cons (.int j n) (RL.nil _))
      | string =>
        obtain ⟨s, rfl, hx, hw⟩ := DataW.trod_string ht h
        cases hx
        exact fin _ (by simp only [WT, ht]; exact ⟨_, rfl, by simpa using hw⟩) (by simp only [dCells, ht]) (RL.cons (.str s) (RL.nil _))
      | slice e =>
        rw [ht] at hcl
        simp only [Bool.and_eq_true, List.contains_iff_mem] at hcl
        have heT := hcl.1
        have hz : 0 < P.cellsOf e := Nat.le_of_ble_eq_true hcl.2
        rcases DataW.trod_slice ht h with ⟨rfl, hx⟩ | ⟨a, len, cap, elems, rest, n, hn, rfl, hx, hb, hl, hm, hlen, hel, hsp, _⟩
        · cases hx
          refine fin [.fz [] 0 false (P.cellsOf e)] (by simp [WT, ht]) (by simp only [dCells, ht]) (RL.cons ?_ (RL.nil _))
          exact .fz (fun h0 => absurd h0 (Nat.lt_irrefl _)) (fun _ => rfl) (by simp) (Nat.le_refl 0) (by simp) (fun _ hx => by cases hx)
        · cases hn
          cases hx
          have each : ∀ x ∈ elems, ∃ c i, i < len ∧ W.cells? 0 (a.add (i * P.cellsOf e)) (P.cellsOf e) = some c ∧ DataW.trod enc P W 0 (fun _ => true) true k e c = some x := fun x hx => by
            obtain ⟨i, hi⟩ := List.getElem?_of_mem hx
            have hil : i < len := by rw [← hlen]; exact (List.getElem?_eq_some_iff.1 hi).1
            have := hel i hil
            rw [hi] at this
            obtain ⟨c, h1, h2⟩ := Option.bind_eq_some_iff.1 this
            exact ⟨c, i, hil, h1, h2⟩
          have htold : ∀ x ∈ elems, WT P k e x.1 ∧ (dCells P k e x.1).length = P.cellsOf e := fun x hx => by
            obtain ⟨c, i, _, h1, h2⟩ := each x hx
            obtain ⟨t1, t2⟩ := trod_told hT k e c x.1 x.2 heT h2
            exact ⟨t1, by rw [t2.len, (cells?_spec h1).1]⟩
          have hlen2 : (catA ((elems.map (·.1)).map (dCells P k e))).length = (elems.map (·.1)).length * P.cellsOf e := by
            rw [catA_length (n := P.cellsOf e) _ (fun x hx => by
              obtain ⟨y, h1, rfl⟩ := List.mem_map.1 hx
              obtain ⟨z, h2, rfl⟩ := List.mem_map.1 h1
              exact (htold z h2).2)]
            simp
          refine fin [.fz (catA ((elems.map (·.1)).map (dCells P k e))) (elems.map (·.1)).length false (P.cellsOf e)] (by
            simp only [WT, ht]
            refine .inr ⟨_, _, rfl, by simp [hlen]; omega, fun x hx => ?_⟩
            obtain ⟨y, h1, rfl⟩ := List.mem_map.1 hx
            exact (htold y h1).1) (by simp only [dCells, ht]) (RL.cons ?_ (RL.nil _))
          have hll : (elems.map (·.1)).length = len := by simpa using hlen
          rw [hll] at hlen2 ⊢
          have spot0 : ∀ x c, W.cells? 0 (a.add (0 * P.cellsOf e)) (P.cellsOf e) = some c → a = x → x.spot = none := fun x c h2 ex => by
            subst ex
            obtain ⟨h3, h4⟩ := cells?_spec h2
            have h5 := h4 0 hz
            rw [List.getElem?_eq_getElem (by omega)] at h5
            have h6 : W.cell? a = some c[0] := by simpa [Addr.add] using h5
            exact World.cell?_spot h6
          refine .fz (fun h0 => ?_) (by simp) hlen2 hl (by simp) (fun x hx hp => ?_)
          rotate_left
          · cases hx
            by_cases h0 : 0 < len
            · have h1 := hel 0 h0
              rw [List.getElem?_eq_getElem (by omega)] at h1
              obtain ⟨c, h2, _⟩ := Option.bind_eq_some_iff.1 h1
              exact spot0 _ c h2 rfl
            · obtain ⟨r1, r2⟩ := hsp rfl
              have h1 := r2 0 (by omega)
              rw [List.getElem?_eq_getElem (by omega)] at h1
              obtain ⟨c, h2, _⟩ := Option.bind_eq_some_iff.1 h1
              rw [show len + 0 = 0 by omega] at h2
              exact spot0 _ c h2 rfl
          · have hspot : a.spot = none := by
              have hx0 : elems[0]? = some elems[0] := List.getElem?_eq_getElem (by omega)
              have h1 := hel 0 h0
              rw [hx0] at h1
              obtain ⟨c, h2, _⟩ := Option.bind_eq_some_iff.1 h1
              obtain ⟨h3, h4⟩ := cells?_spec h2
              have h5 := h4 0 hz
              rw [List.getElem?_eq_getElem (by omega)] at h5
              have h6 : W.cell? a = some c[0] := by simpa [Addr.add] using h5
              exact World.cell?_spot h6
            obtain ⟨ab, ao, as⟩ := a
            simp only at hspot
            subst hspot
            refine ⟨ab, ao, 0, catA ((elems.map (·.1)).map (dCells P k e)), ⟨k, e, elems.map (·.1), ⟨by rw [hll]; exact h0, heT, hz⟩, rfl, ?_⟩, by simp, ?_, by rw [hlen2]; omega⟩
            · have lies : ∀ (l : List (DataW H × List MemPlace)) (i : Nat), (∀ j x, l[j]? = some x → elems[i + j]? = some x) → i + l.length ≤ len → Lies P enc W k e ab (ao + i * P.cellsOf e) (l.map (·.1)) := by
                intro l
                induction l with
                | nil => intro i _ _; exact trivial
                | cons x l ih =>
                  intro i hi hle
                  simp only [List.length_cons] at hle
                  refine ⟨⟨x.2, ?_⟩, ?_⟩
                  · have h1 := hel i (by omega)
                    rw [show elems[i]? = some x by have := hi 0 x (by simp); simpa using this, add_at] at h1
                    exact h1
                  · have := ih (i + 1) (fun j y hj => by rw [show i + 1 + j = i + (j + 1) by omega]; exact hi (j + 1) y (by simpa using hj)) (by omega)
                    rw [show ao + (i + 1) * P.cellsOf e = ao + i * P.cellsOf e + P.cellsOf e by rw [Nat.succ_mul]; omega] at this
                    exact this
              have := lies elems 0 (fun j x hj => by simpa using hj) (by omega)
              simpa using this
            · rw [List.drop_zero, List.take_of_length_le (by rw [hlen2]; exact Nat.le_refl _)]
      | struct fs =>
        rw [ht] at hcl
        simp only [List.all_eq_true, List.contains_iff_mem] at hcl
        have hfT : ∀ (i : Nat) f, fs[i]? = some f → f.type ∈ T := fun i f hf => hcl f (List.mem_of_getElem? (by simpa using hf))
        obtain ⟨xs, n, hn, hx, hcl, hxl, hf⟩ := DataW.trod_struct ht h
        cases hn
        cases hx
        refine fin _ (by
          simp only [WT, ht]
          refine ⟨_, rfl, by simpa using hxl, fun i f x h1 h2 => ?_⟩
          rw [List.getElem?_map] at h2
          cases hxi : xs[i]? with
          | none => rw [hxi] at h2; cases h2
          | some y =>
            rw [hxi] at h2
            simp only [Option.map_some, Option.some.injEq] at h2
            subst h2
            have := hf i f h1
            rw [hxi] at this
            exact (trod_told hT k _ _ _ _ (hfT i f h1) this).1) (by simp only [dCells, ht]; rfl) ?_
        refine lay_R _ _ (by rw [← hcl]; exact dead_RL cs) (fun x hx j v v' a b => ?_)
        obtain ⟨⟨f, d'⟩, h1, rfl⟩ := List.mem_map.1 hx
        obtain ⟨i, hi⟩ := List.getElem?_of_mem h1
        rw [List.getElem?_zip_eq_some] at hi
        obtain ⟨i1, i2⟩ := hi
        rw [List.getElem?_map] at i2
        cases hxi : xs[i]? with
        | none => rw [hxi] at i2; cases i2
        | some y =>
          rw [hxi] at i2
          simp only [Option.map_some, Option.some.injEq] at i2
          subst i2
          have := hf i f (by simpa using i1)
          rw [hxi] at this
          obtain ⟨_, t4⟩ := trod_told hT k _ _ _ _ (hfT i f (by simpa using i1)) this
          refine t4.get j v v' a ?_
          have hj : j < ((cs.drop f.offset).take (P.cellsOf f.type)).length := by rw [← t4.len]; exact (List.getElem?_eq_some_iff.1 a).1
          rw [List.getElem?_take, List.getElem?_drop]
          rw [List.length_take] at hj
          rw [if_pos (by omega)]
          exact b
      | _ => rw [ht] at hcl; cases hcl

theorem dCells_pure : ∀ (k : Nat) (t : TypeId) (d : DataW H), ∀ v ∈ dCells P k t d, Pure v
  | 0, t, d, v, hv => by simp [dCells] at hv
  | k + 1, t, d, v, hv => by
    have hdead : ∀ n, ∀ v ∈ repA .dead n, Pure v := fun n v hv => by
      rw [repA_eq] at hv
      rw [(List.mem_replicate.1 hv).2]; exact .dead
    have hsp : ∀ (cs acc : List AV) (o : Nat), (∀ v ∈ acc, Pure v) → (∀ v ∈ cs, Pure v) → ∀ v ∈ splice acc o cs, Pure v := by
      intro cs
      induction cs with
      | nil => intro acc o ha _; exact ha
      | cons c cs ih =>
        intro acc o ha hc
        refine ih _ _ (fun v hv => ?_) (fun v hv => hc v (List.mem_cons_of_mem _ hv))
        rw [setL_eq] at hv
        rcases List.mem_or_eq_of_mem_set hv with h | rfl
        · exact ha v h
        · exact hc _ List.mem_cons_self
    have hlay : ∀ (l : List (Nat × List AV)) (acc : List AV), (∀ v ∈ acc, Pure v) → (∀ x ∈ l, ∀ v ∈ x.2, Pure v) → ∀ v ∈ lay acc l, Pure v := by
      intro l
      induction l with
      | nil => intro acc ha _; exact ha
      | cons x l ih =>
        intro acc ha hl
        refine ih _ ?_ (fun y hy => hl y (List.mem_cons_of_mem _ hy))
        cases Nat.ble (x.1 + lenA x.2) (lenA acc) with
        | false => exact ha
        | true => exact hsp _ _ _ ha (hl x List.mem_cons_self)
    simp only [dCells] at hv
    split at hv
    · simp at hv; subst hv; exact .bool _
    · simp at hv; subst hv; exact .int _ _
    · simp at hv; subst hv; exact .str _
    · simp at hv; subst hv; exact .fz _ _ _ _
    · simp at hv; subst hv; exact .fz _ _ _ _
    · refine hlay _ _ (hdead _) (fun x hx => ?_) v hv
      obtain ⟨y, _, rfl⟩ := List.mem_map.1 hx
      exact dCells_pure k _ _
    · exact hdead _ v hv
theorem catA_mem {l : List (List AV)} {v : AV} (h : v ∈ catA l) : ∃ x ∈ l, v ∈ x := by
  induction l with
  | nil => simp [catA] at h
  | cons x l ih =>
    simp only [catA, List.mem_append] at h
    rcases h with h | h
    · exact ⟨x, List.mem_cons_self, h⟩
    · obtain ⟨y, a, b⟩ := ih h; exact ⟨y, List.mem_cons_of_mem _ a, b⟩
theorem lies_there {T : List TypeId} (hT : clT P T = true) {k : Nat} {e : TypeId} {b : Nat} (heT : e ∈ T) : ∀ (ds : List (DataW H)) (o : Nat), Lies P enc W k e b o ds → 0 < P.cellsOf e → 0 < ds.length →
    ∃ c ty fz, W.heap[b]? = some (.cells c ty fz) ∧ o + (catA (ds.map (dCells P k e))).length ≤ c.size ∧ ∀ (i : Nat) v, (catA (ds.map (dCells P k e)))[i]? = some v → ∃ v', c[o + i]? = some v' ∧ R (argLoc P enc W T) v v'
  | [], o, _, _, h => by simp at h
  | d :: ds, o, hl, hz, _ => by
    obtain ⟨⟨ps, h1⟩, h2⟩ := hl
    obtain ⟨cs, h3, h4⟩ := Option.bind_eq_some_iff.1 h1
    obtain ⟨l1, l2⟩ := cells?_spec h3
    obtain ⟨_, t2⟩ := trod_told hT k e cs d ps heT h4
    have hcell : ∀ i, i < P.cellsOf e → W.cell? ⟨b, o + i, none⟩ = cs[i]? := fun i hi => by have := l2 i hi; rwa [add_at] at this
    have hthere : ∃ c ty fz, W.heap[b]? = some (.cells c ty fz) := by
      have h5 := hcell 0 hz
      rw [List.getElem?_eq_getElem (by omega)] at h5
      unfold World.cell? at h5
      split at h5
      · rename_i c ty fz hb; exact ⟨c, ty, fz, hb⟩
      · cases h5
    obtain ⟨c, ty, fz, hb⟩ := hthere
    have hc : ∀ i, i < P.cellsOf e → c[o + i]? = cs[i]? := fun i hi => by
      have := hcell i hi
      rwa [World.cell?, hb] at this
    have hlen1 : (dCells P k e d).length = P.cellsOf e := by rw [t2.len, l1]
    have hsz1 : o + P.cellsOf e ≤ c.size := by
      have h5 := hc (P.cellsOf e - 1) (by omega)
      rw [List.getElem?_eq_getElem (by omega)] at h5
      have := (Array.getElem?_eq_some_iff.1 h5).1
      omega
    have hfirst : ∀ (i : Nat) v, (dCells P k e d)[i]? = some v → ∃ v', c[o + i]? = some v' ∧ R (argLoc P enc W T) v v' := fun i v hi => by
      have hlt : i < P.cellsOf e := by rw [← hlen1]; exact (List.getElem?_eq_some_iff.1 hi).1
      have h5 := hc i hlt
      rw [List.getElem?_eq_getElem (by omega)] at h5
      exact ⟨_, h5, t2.get i v _ hi (List.getElem?_eq_getElem (by omega))⟩
    cases ds with
    | nil =>
      refine ⟨c, ty, fz, hb, ?_, ?_⟩
      · simp only [List.map_cons, List.map_nil, catA, List.append_nil, hlen1]; exact hsz1
      · simpa [catA] using hfirst
    | cons d2 ds =>
      obtain ⟨c2, ty2, fz2, g1, g2, g3⟩ := lies_there hT heT (d2 :: ds) (o + P.cellsOf e) h2 hz (by simp)
      rw [hb] at g1
      cases g1
      refine ⟨c, ty, fz, hb, ?_, fun i v hi => ?_⟩
      · rw [List.map_cons, catA, List.length_append, hlen1]; omega
      · rw [List.map_cons, catA] at hi
        by_cases hlt : i < P.cellsOf e
        · rw [List.getElem?_append_left (by omega)] at hi; exact hfirst i v hi
        · rw [List.getElem?_append_right (by omega), hlen1] at hi
          obtain ⟨v', a, b⟩ := g3 _ v hi
          exact ⟨v', by rw [show o + i = o + P.cellsOf e + (i - P.cellsOf e) by omega]; exact a, b⟩
theorem arg_rep {T : List TypeId} (hT : clT P T = true) (L : ALoop → Prop) : Rep (argLoc P enc W T) ⟨fun _ => none, 0⟩ (Zone.all L W) W := by
  refine ⟨fun b x hb => (by cases hb), fun b b' x x' p p' hb => (by cases hb), fun q hq => hq, fun _ _ => rfl, fun b o cs hf => ?_⟩
  obtain ⟨k, e, ds, ⟨h1, h2, h3⟩, rfl, h4⟩ := hf
  have hF : Fzn (argLoc P enc W T) W b o (catA (ds.map (dCells P k e))) := lies_there hT h2 ds o h4 h3 h1
  refine ⟨hF, (fun c x p hc => by cases hc), fun _ => .inl hF.size, fun v hv => ?_⟩
  obtain ⟨x, hx, hv⟩ := catA_mem hv
  obtain ⟨d, _, rfl⟩ := List.mem_map.1 hx
  exact dCells_pure k e d v hv
open Go.WideShapes in
theorem arg_told {T : List TypeId} (hT : clT P T = true) {k : Nat} {t : TypeId} {v : Value} {d : DataW H} {ps : List MemPlace} {r : Reach} {base : Nat} (ht : t ∈ T) (hval : Value.okWide P W r base t v)
    (h : DataW.trod enc P W 0 (fun _ => true) true k t v.cells.toList = some (d, ps)) : WT P k t d ∧ R (argLoc P enc W T) (dVal P k t d) v := by
  obtain ⟨h1, h2⟩ := trod_told hT k t _ d ps ht h
  refine ⟨h1, ?_⟩
  have one : (∀ fs, P.underlying t ≠ some (.struct fs)) → (∀ n e, P.underlying t ≠ some (.array n e)) → v.cells.toList = [v] → R (argLoc P enc W T) (dVal P k t d) v := fun n1 n2 hc => by
    rw [hc] at h2
    have h3 : dVal P k t d = nth (dCells P k t d) 0 := by
      unfold dVal
      split
      · rename_i fs e; exact absurd e (n1 fs)
      · rename_i n e e'; exact absurd e' (n2 n e)
      · rfl
    rw [h3]
    have hl := h2.len
    cases hd : dCells P k t d with
    | nil => rw [hd] at hl; simp at hl
    | cons x l => rw [hd] at h2; exact h2.head
  have hcl := List.all_eq_true.1 hT t ht
  cases hu : P.underlying t with
  | none => rw [hu] at hcl; cases hcl
  | some desc =>
    rw [hu] at hcl
    cases desc with
    | bool => obtain ⟨b, rfl⟩ := okWide_bool hu hval; exact one (by simp [hu]) (by simp [hu]) rfl
    | int j => obtain ⟨b, rfl⟩ := okWide_int hu hval; exact one (by simp [hu]) (by simp [hu]) rfl
    | string => obtain ⟨b, rfl⟩ := okWide_string hu hval; exact one (by simp [hu]) (by simp [hu]) rfl
    | slice e => obtain ⟨a, l, c, rfl⟩ := okWide_slice hu hval; exact one (by simp [hu]) (by simp [hu]) rfl
    | struct fs =>
      obtain ⟨cs, rfl, _⟩ := okWide_struct hu hval
      have h3 : dVal P k t d = .agg (dCells P k t d) := by
        unfold dVal; rw [hu]
      rw [h3]
      have := h2.agg
      simpa [Value.cells] using this
    | _ => cases hcl
theorem low_below {L : ALoop → Prop} {w w' : World} (h : Low (Zone.all L w) w w') : Below w.heap.size w w' := ⟨h.os, h.tape, h.output, h.size, h.block⟩
theorem calls_of_data {S : Orc} {tb : FuncId → Option FnP} {T : List TypeId} (hT : TbOk P tb) (hSm : OrcOk P tb S) (hcl : clT P T = true) {f : FuncId} {avs : List AV} {args' : Array Value}
    (hrun : evCall P S tb 100 Bool (.fn f) avs ⟨fun _ => none, 0⟩ .off (fun out _ _ => match out with | .ret (.bool b) => some b | _ => none) = some true) (ha : RL (argLoc P enc W T) avs args'.toList) :
    Calls P f args' W fun e w' => e = .returned (.bool true) ∧ Low (Zone.all (LP tb) W) W w' :=
  calls_of_run hT hSm (ρ := argLoc P enc W T) (h := ⟨fun _ => none, 0⟩) (Z := Zone.all (LP tb) W) rfl 100 hrun (arg_rep hcl _) ha
end Go.Ev
/- The arguments of a law, by their types: lists of numbers, lists of lists, structs. -/
namespace Go.Ev
variable {P : Program} {H : Type}
def int64 (n : Int) : AV := .int .i64 n
/-- A number that an int holds. -/
def I64 (n : Int) : Prop := -9223372036854775808 ≤ n ∧ n ≤ 9223372036854775807
theorem I64.of_wf {n : Int} (h : (Lit.int .i64 n).wf = true) : I64 n := by
  simp only [Lit.wf, Bool.and_eq_true, decide_eq_true_eq] at h
  have e1 : IntKind.i64.min = -9223372036854775808 := rfl
  have e2 : IntKind.i64.max = 9223372036854775807 := rfl
  rw [e1, e2] at h
  exact h
theorem catA_single {α : Type} (f : α → AV) (l : List α) : catA (l.map fun a => [f a]) = l.map f := by
  induction l <;> simp_all [catA]
theorem WT.int {t : TypeId} {j : IntKind} (ht : P.underlying t = some (.int j)) {k : Nat} {d : DataW H} (h : WT P k t d) : ∃ n, dCells P k t d = [.int j n] ∧ (Lit.int j n).wf = true := by
  cases k with
  | zero => exact h.elim
  | succ k =>
    simp only [WT, ht] at h
    obtain ⟨n, rfl, hw⟩ := h
    exact ⟨n, by simp only [dCells, ht], hw⟩
theorem WT.bool {t : TypeId} (ht : P.underlying t = some .bool) {k : Nat} {d : DataW H} (h : WT P k t d) : ∃ b, dCells P k t d = [.bool b] := by
  cases k with
  | zero => exact h.elim
  | succ k =>
    simp only [WT, ht] at h
    obtain ⟨b, rfl⟩ := h
    exact ⟨b, by simp only [dCells, ht]⟩
theorem WT.str {t : TypeId} (ht : P.underlying t = some .string) {k : Nat} {d : DataW H} (h : WT P k t d) : ∃ s : List UInt8, dCells P k t d = [.str s] ∧ s.length ≤ maxLen := by
  cases k with
  | zero => exact h.elim
  | succ k =>
    simp only [WT, ht] at h
    obtain ⟨s, rfl, hw⟩ := h
    exact ⟨s, by simp only [dCells, ht], hw⟩
theorem WT.slice {t e : TypeId} (ht : P.underlying t = some (.slice e)) {α : Type} (enc : α → List AV) (Q : α → Prop) (he : ∀ k (d : DataW H), WT P k e d → ∃ a, dCells P k e d = enc a ∧ Q a) {k : Nat} {d : DataW H} (h : WT P k t d) :
    ∃ l : List α, dCells P k t d = [.fz (catA (l.map enc)) l.length false (P.cellsOf e)] ∧ l.length ≤ maxLen ∧ ∀ a ∈ l, Q a := by
  cases k with
  | zero => exact h.elim
  | succ k =>
    simp only [WT, ht] at h
    rcases h with rfl | ⟨ds, sp, rfl, hl, hall⟩
    · exact ⟨[], by simp only [dCells, ht]; rfl, by simp, by simp⟩
    · have key : ∀ ds : List (DataW H), (∀ x ∈ ds, WT P k e x) → ∃ l : List α, ds.map (dCells P k e) = l.map enc ∧ l.length = ds.length ∧ ∀ a ∈ l, Q a := by
        intro ds
        induction ds with
        | nil => intro _; exact ⟨[], rfl, rfl, by simp⟩
        | cons d ds ih =>
          intro h
          obtain ⟨a, h1, h2⟩ := he k d (h d List.mem_cons_self)
          obtain ⟨l, g1, g2, g3⟩ := ih fun x hx => h x (List.mem_cons_of_mem _ hx)
          exact ⟨a :: l, by simp [h1, g1], by simp [g2], fun b hb => by
            rcases List.mem_cons.1 hb with rfl | hb
            · exact h2
            · exact g3 b hb⟩
      obtain ⟨l, g1, g2, g3⟩ := key ds hall
      exact ⟨l, by simp only [dCells, ht]; rw [g1, g2], by omega, g3⟩
/-- Slices of numbers, of slices of numbers. -/
def ints (xs : List Int) : AV := .fz (xs.map int64) xs.length false 1
def rows (xs : List (List Int)) : AV := .fz (xs.map ints) xs.length false 1
theorem WT.ints {t e : TypeId} (ht : P.underlying t = some (.slice e)) (he : P.underlying e = some (.int .i64)) (hc : P.cellsOf e = 1) {k : Nat} {d : DataW H} (h : WT P k t d) :
    ∃ xs : List Int, dCells P k t d = [Ev.ints xs] ∧ xs.length ≤ maxLen ∧ ∀ x ∈ xs, I64 x := by
  obtain ⟨l, h1, h2, h3⟩ := WT.slice ht (fun n => [int64 n]) I64 (fun k d h => let ⟨n, a, b⟩ := WT.int he h; ⟨n, a, .of_wf b⟩) h
  exact ⟨l, by rw [h1, catA_single, hc]; rfl, h2, h3⟩
theorem WT.rows {t e f : TypeId} (ht : P.underlying t = some (.slice e)) (he : P.underlying e = some (.slice f)) (hf : P.underlying f = some (.int .i64)) (hc : P.cellsOf f = 1) (hc' : P.cellsOf e = 1) {k : Nat} {d : DataW H} (h : WT P k t d) :
    ∃ xs : List (List Int), dCells P k t d = [Ev.rows xs] ∧ xs.length ≤ maxLen ∧ ∀ x ∈ xs, x.length ≤ maxLen ∧ ∀ y ∈ x, I64 y := by
  obtain ⟨l, h1, h2, h3⟩ := WT.slice ht (fun xs => [Ev.ints xs]) (fun xs => xs.length ≤ maxLen ∧ ∀ y ∈ xs, I64 y) (fun k d h => WT.ints he hf hc h) h
  exact ⟨l, by rw [h1, catA_single, hc']; rfl, h2, h3⟩
theorem dVal_one {t : TypeId} {k : Nat} {d : DataW H} {v : AV} (h : dCells P k t d = [v]) (h1 : ∀ fs, P.underlying t ≠ some (.struct fs)) (h2 : ∀ n e, P.underlying t ≠ some (.array n e)) : dVal P k t d = v := by
  unfold dVal
  split
  · rename_i fs e; exact absurd e (h1 fs)
  · rename_i n e e'; exact absurd e' (h2 n e)
  · rw [h]; rfl
theorem WT.vint {t : TypeId} (ht : P.underlying t = some (.int .i64)) {k : Nat} {d : DataW H} (h : WT P k t d) : ∃ n, dVal P k t d = int64 n ∧ I64 n := by
  obtain ⟨n, h1, h2⟩ := WT.int ht h
  exact ⟨n, dVal_one h1 (by simp [ht]) (by simp [ht]), .of_wf h2⟩
theorem WT.vstr {t : TypeId} (ht : P.underlying t = some .string) {k : Nat} {d : DataW H} (h : WT P k t d) : ∃ s : List UInt8, dVal P k t d = .str s ∧ s.length ≤ maxLen := by
  obtain ⟨n, h1, h2⟩ := WT.str ht h
  exact ⟨n, dVal_one h1 (by simp [ht]) (by simp [ht]), h2⟩
theorem WT.vints {t e : TypeId} (ht : P.underlying t = some (.slice e)) (he : P.underlying e = some (.int .i64)) (hc : P.cellsOf e = 1) {k : Nat} {d : DataW H} (h : WT P k t d) :
    ∃ xs : List Int, dVal P k t d = Ev.ints xs ∧ xs.length ≤ maxLen ∧ ∀ x ∈ xs, I64 x := by
  obtain ⟨l, h1, h2⟩ := WT.ints ht he hc h
  exact ⟨l, dVal_one h1 (by simp [ht]) (by simp [ht]), h2⟩
theorem WT.vrows {t e f : TypeId} (ht : P.underlying t = some (.slice e)) (he : P.underlying e = some (.slice f)) (hf : P.underlying f = some (.int .i64)) (hc : P.cellsOf f = 1) (hc' : P.cellsOf e = 1) {k : Nat} {d : DataW H} (h : WT P k t d) :
    ∃ xs : List (List Int), dVal P k t d = Ev.rows xs ∧ xs.length ≤ maxLen ∧ ∀ x ∈ xs, x.length ≤ maxLen ∧ ∀ y ∈ x, I64 y := by
  obtain ⟨l, h1, h2⟩ := WT.rows ht he hf hc hc' h
  exact ⟨l, dVal_one h1 (by simp [ht]) (by simp [ht]), h2⟩
/-- A struct's fields: where, and of what type. -/
def structOf (P : Program) (t : TypeId) : Option (List (Nat × TypeId)) := match P.underlying t with
  | some (.struct fs) => some (fs.toList.map fun f => (f.offset, f.type))
  | _ => none
theorem WT.struct {t : TypeId} {l : List (Nat × TypeId)} (hl : structOf P t = some l) {k : Nat} {d : DataW H} (h : WT P k t d) :
    ∃ (k' : Nat) (ds : List (DataW H)), ds.length = l.length ∧ (∀ (i : Nat) x y, l[i]? = some x → ds[i]? = some y → WT P k' x.2 y) ∧ dVal P k t d = .agg (lay (repA .dead (P.cellsOf t)) ((l.zip ds).map fun x => (x.1.1, dCells P k' x.1.2 x.2))) := by
  unfold structOf at hl
  split at hl
  · rename_i fs ht
    cases hl
    cases k with
    | zero => exact h.elim
    | succ k =>
      simp only [WT, ht] at h
      obtain ⟨ds, rfl, h1, h2⟩ := h
      refine ⟨k, ds, by simp [h1], fun i x y hx hy => ?_, ?_⟩
      · simp only [List.getElem?_map, Option.map_eq_some_iff] at hx
        obtain ⟨f, hf, rfl⟩ := hx
        exact h2 i f y (by simpa using hf) hy
      · simp only [dVal, dCells, ht, List.zip_map_left, List.map_map]
        rfl
  · cases hl
end Go.Ev
