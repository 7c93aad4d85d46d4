/- Functions with objects, told of by what they tell and by what the objects are then. -/
import Derived.Test.YtokighfpmonjdaaEvZ1
namespace Go.Ev
variable {P : Program} {tb : FuncId → Option FnP} {S : Orc}
def memO (b : Nat) : List (Option Nat) → Bool
  | [] => false
  | none :: l => memO b l
  | some c :: l => Nat.beq b c || memO b l
/-- Blocks of one heap by other numbers; some stay as they are. -/
def vwBlksO (P : Program) (φ : List (Nat × Nat)) (h hf : Heap) (ty : Nat → Option TypeId) (raw : Nat × Nat → Bool) : List (Nat × Nat) → List (Nat × Blk)
  | [] => []
  | x :: l => match (bif raw x then h.m x.1 else (h.m x.1).bind (vwB P φ hf (ty x.1))) with
    | some y => (x.2, y) :: vwBlksO P φ h hf ty raw l
    | none => vwBlksO P φ h hf ty raw l
def flatO (h : Heap) (raw : Nat × Nat → Bool) : List (Nat × Nat) → Bool
  | [] => true
  | x :: l => bif raw x then (match h.m x.1 with
    | some (.cells _ vs) => allS vs && flatO h raw l
    | none => flatO h raw l
    | _ => false) else flatO h raw l
theorem vwB_flat {φ : List (Nat × Nat)} {h : Heap} {l : Option TypeId} {w : Bool} {vs : List AV} (hv : allS vs = true) : vwB P φ h l (.cells w vs) = some (.cells w vs) := by
  show some (Blk.cells w (mapCyc (vw P φ h false (7 + 1)) _ _ vs)) = _
  rw [mapCyc_simple _ _ _ hv]
theorem vwBlksO_eq {φ : List (Nat × Nat)} {h hf : Heap} {ty : Nat → Option TypeId} {raw : Nat × Nat → Bool} : ∀ l : List (Nat × Nat), flatO h raw l = true → vwBlksO P φ h hf ty raw l = vwBlks2 P φ h hf ty l
  | [], _ => rfl
  | x :: l, hf => by
    obtain ⟨b, c⟩ := x
    simp only [flatO] at hf
    simp only [vwBlksO, vwBlks2]
    cases hr : raw (b, c) with
    | false =>
      rw [hr] at hf
      simp only [cond_false] at hf ⊢
      rw [vwBlksO_eq l hf]
      generalize (h.m b).bind _ = q
      cases q <;> rfl
    | true =>
      rw [hr] at hf
      simp only [cond_true] at hf ⊢
      cases hb : h.m b with
      | none =>
        rw [hb] at hf
        simp only at hf
        simp only [Option.bind_none]
        exact vwBlksO_eq l hf
      | some y =>
        rw [hb] at hf
        cases y with
        | cells w vs =>
          simp only [Bool.and_eq_true] at hf
          simp only [Option.bind_some, vwB_flat hf.1]
          rw [vwBlksO_eq l hf.2]
        | _ => cases hf
/-- A cell of an object: a number, or a list that is not written any more, or a list of its own. -/
def okCO (ids : List (Option Nat)) (v : AV) : Bool := match v with
  | .sl none _ _ _ _ => true
  | .sl (some p) _ _ _ _ => memO p.1 ids
  | .gr p _ _ => memO p.1 ids
  | v => calm v
def allO (ids : List (Option Nat)) : List AV → Bool
  | [] => true
  | v :: vs => okCO ids v && allO ids vs
theorem beq_ff {a b : Nat} (h : ¬ a = b) : Nat.beq a b = false := by
  cases e : Nat.beq a b with
  | false => rfl
  | true => exact absurd (Nat.eq_of_beq_eq_true e) h
theorem vw_sl {φ : List (Nat × Nat)} {h : Heap} {pur : Bool} {k : Nat} {l : Option TypeId} {b o len cap sz : Nat} {ex : Bool} : vw P φ h pur (k + 1) l (.sl (some (b, o)) len cap ex sz) = match find1 b φ with
    | some c => bif pur then .dead else .sl (some (c, o)) len cap ex sz
    | none => (match h.m b with
      | some (.cells _ vs) => .fz (fixLen (len * sz) (mapCyc (vw P φ h true k) (eLeaves P l) (eLeaves P l) (dropA vs o))) len false sz
      | _ => .dead) := rfl
theorem vw_gr {φ : List (Nat × Nat)} {h : Heap} {pur : Bool} {k : Nat} {l : Option TypeId} {b o len sz : Nat} : vw P φ h pur (k + 1) l (.gr (b, o) len sz) = match find1 b φ with
    | some c => bif pur then .dead else .gr (c, o) len sz
    | none => (match h.m b with
      | some (.cells _ vs) => .fz (fixLen (len * sz) (mapCyc (vw P φ h true k) (eLeaves P l) (eLeaves P l) (dropA vs o))) len false sz
      | _ => .dead) := rfl
theorem vw_ptr {φ : List (Nat × Nat)} {h : Heap} {pur : Bool} {k : Nat} {l : Option TypeId} {b o : Nat} : vw P φ h pur (k + 1) l (.ptr (some (b, o))) = match find1 b φ with
    | some c => bif pur then .dead else .ptr (some (c, o))
    | none => .dead := rfl
theorem vw_okC {ids : List (Option Nat)} {φ : List (Nat × Nat)} {h h' : Heap} {k : Nat} {l : Option TypeId} {v : AV} (hk : ∀ b, memO b ids = true → ∃ c, find1 b φ = some c) (hv : okCO ids v = true) : vw P φ h false (k + 1) l v = vw P φ h' false (k + 1) l v := by
  cases v with
  | sl p len cap ex sz =>
    cases p with
    | none => cases l <;> rfl
    | some p =>
      obtain ⟨c, hc⟩ := hk p.1 hv
      obtain ⟨b, o⟩ := p
      simp only at hc
      rw [vw_sl, vw_sl, hc]
  | gr p len sz =>
    obtain ⟨c, hc⟩ := hk p.1 hv
    obtain ⟨b, o⟩ := p
    simp only at hc
    rw [vw_gr, vw_gr, hc]
  | fz cs len ex sz => cases l <;> rfl
  | int | bool | str => rfl
  | _ => cases hv
theorem mapCyc_okCO {ids : List (Option Nat)} {φ : List (Nat × Nat)} {h h' : Heap} {k : Nat} (hk : ∀ b, memO b ids = true → ∃ c, find1 b φ = some c) (all : List (Option TypeId)) : ∀ (cs : List AV) (ls : List (Option TypeId)), allO ids cs = true → mapCyc (vw P φ h false (k + 1)) all ls cs = mapCyc (vw P φ h' false (k + 1)) all ls cs
  | [], ls, _ => by cases ls <;> rfl
  | c :: cs, ls, hc => by
    simp only [allO, Bool.and_eq_true] at hc
    have ih : ∀ ls, mapCyc (vw P φ h false (k + 1)) all ls cs = mapCyc (vw P φ h' false (k + 1)) all ls cs := fun ls => mapCyc_okCO hk all cs ls hc.2
    have e : ∀ l, vw P φ h false (k + 1) l c = vw P φ h' false (k + 1) l c := fun l => vw_okC hk hc.1
    cases ls with
    | cons l ls => simp only [mapCyc, e, ih]
    | nil =>
      cases all with
      | nil => simp only [mapCyc, e, ih]
      | cons l ls => simp only [mapCyc, e, ih]
/-- Blocks as they are. -/
def grab (h : Heap) : List (Option Nat) → List (Nat × Blk)
  | [] => []
  | none :: l => grab h l
  | some b :: l => match h.m b with
    | some x => (b, x) :: grab h l
    | none => grab h l
def okGrab (ids : List (Option Nat)) (fl : List Nat) (h : Heap) : List (Option Nat) → Bool
  | [] => true
  | none :: l => okGrab ids fl h l
  | some b :: l => (match h.m b with
    | some (.cells _ vs) => bif fl.any (Nat.beq b) then allS vs else allO ids vs
    | none => true
    | _ => false) && okGrab ids fl h l
theorem look_grab {h : Heap} {b : Nat} : ∀ l : List (Option Nat), memO b l = true → look b (grab h l) = h.m b
  | [], hm => by cases hm
  | none :: l, hm => look_grab l hm
  | some c :: l, hm => by
    simp only [memO, Bool.or_eq_true] at hm
    simp only [grab]
    by_cases e : b = c
    · subst e
      cases hb : h.m b with
      | some x => simp only [look]; rw [beq_eq.2 rfl]; rfl
      | none =>
        simp only
        by_cases hl : memO b l = true
        · rw [look_grab l hl, hb]
        · have : ∀ l : List (Option Nat), memO b l ≠ true → look b (grab h l) = none := by
            intro l
            induction l with
            | nil => intro _; rfl
            | cons y l ih =>
              intro hy
              cases y with
              | none => exact ih hy
              | some d =>
                simp only [memO, ne_eq, Bool.or_eq_true, not_or] at hy
                simp only [grab]
                cases hd : h.m d with
                | none => exact ih hy.2
                | some z =>
                  simp only [look]
                  rw [show Nat.beq b d = false from beq_ff fun e => hy.1 (by rw [e]; exact beq_eq.2 rfl)]
                  exact ih hy.2
          exact this l hl
    · have hm : memO b l = true := by
        rcases hm with h1 | h1
        · exact absurd (beq_eq.1 h1) e
        · exact h1
      cases hc : h.m c with
      | none => simp only; exact look_grab l hm
      | some x =>
        simp only [look]
        rw [beq_ff e]
        exact look_grab l hm
theorem okGrab_at {ids : List (Option Nat)} {fl : List Nat} {h : Heap} {b : Nat} : ∀ l : List (Option Nat), okGrab ids fl h l = true → memO b l = true →
    h.m b = none ∨ ∃ w vs, h.m b = some (.cells w vs) ∧ (bif fl.any (Nat.beq b) then allS vs else allO ids vs) = true
  | [], _, hm => by cases hm
  | none :: l, ho, hm => okGrab_at l ho hm
  | some c :: l, ho, hm => by
    simp only [okGrab, Bool.and_eq_true] at ho
    simp only [memO, Bool.or_eq_true] at hm
    by_cases e : b = c
    · subst e
      have h1 := ho.1
      cases hb : h.m b with
      | none => exact .inl rfl
      | some x =>
        rw [hb] at h1
        cases x with
        | cells w vs => exact .inr ⟨w, vs, rfl, h1⟩
        | _ => cases h1
    · rcases hm with h1 | h1
      · exact absurd (beq_eq.1 h1) e
      · exact okGrab_at l ho.2 h1
/-- What is told: numbers, lists (new ones, flat), objects. -/
def okR (n0 : Nat) (ids : List (Option Nat)) (h : Heap) (v : AV) : Bool := match v with
  | .ptr none => true
  | .ptr (some p) => memO p.1 ids
  | .sl none _ _ _ _ => true
  | .sl (some p) len cap ex sz => Nat.ble n0 p.1 && !memO p.1 ids && okV h (.sl (some p) len cap ex sz)
  | .gr p len sz => Nat.ble n0 p.1 && !memO p.1 ids && okV h (.gr p len sz)
  | v => calm v
def okRs (n0 : Nat) (ids : List (Option Nat)) (h : Heap) : List AV → Bool
  | [] => true
  | v :: vs => okR n0 ids h v && okRs n0 ids h vs
theorem vw_okR {n0 : Nat} {ids : List (Option Nat)} {φ : List (Nat × Nat)} {h h' : Heap} {l : Option TypeId} {v : AV} (hk : ∀ b, memO b ids = true → ∃ c, find1 b φ = some c) (hn : ∀ b, n0 ≤ b → memO b ids = false → find1 b φ = none) (hv : okR n0 ids h v = true) :
    vw P φ h false deepV l v = vw P φ h' false deepV l (flatV P h l v) := by
  have sl : ∀ b o len sz, find1 b φ = none → (match h.m b with | some (.cells _ vs) => allS (dropA vs o) | _ => true) = true →
      (match h.m b with | some (.cells _ vs) => AV.fz (fixLen (len * sz) (mapCyc (vw P φ h true (6 + 1)) (eLeaves P l) (eLeaves P l) (dropA vs o))) len false sz | _ => .dead) = vw P φ h' false deepV l (match h.m b with | some (.cells _ vs) => .fz (fixLen (len * sz) (dropA vs o)) len false sz | _ => .dead) := by
    intro b o len sz hf hh
    split
    · rename_i w vs hb
      rw [hb] at hh
      simp only at hh
      rw [mapCyc_simple _ _ _ hh]
      cases l <;> rfl
    · rfl
  cases v with
  | sl p len cap ex sz =>
    cases p with
    | none => cases l <;> rfl
    | some p =>
      obtain ⟨b, o⟩ := p
      simp only [okR, Bool.and_eq_true, Bool.not_eq_true'] at hv
      have hf := hn b (Nat.le_of_ble_eq_true hv.1.1) hv.1.2
      refine Eq.trans ?_ (sl b o len sz hf hv.2)
      show vw P φ h false (7 + 1) l _ = _
      rw [vw_sl, hf]
  | gr p len sz =>
    obtain ⟨b, o⟩ := p
    simp only [okR, Bool.and_eq_true, Bool.not_eq_true'] at hv
    have hf := hn b (Nat.le_of_ble_eq_true hv.1.1) hv.1.2
    refine Eq.trans ?_ (sl b o len sz hf hv.2)
    show vw P φ h false (7 + 1) l _ = _
    rw [vw_gr, hf]
  | ptr p =>
    cases p with
    | none => rfl
    | some p =>
      obtain ⟨b, o⟩ := p
      obtain ⟨c, hc⟩ := hk b hv
      show vw P φ h false (7 + 1) l _ = vw P φ h' false (7 + 1) l (.ptr (some (b, o)))
      rw [vw_ptr, vw_ptr, hc]
  | fz cs len ex sz => cases l <;> rfl
  | int | bool | str => rfl
  | _ => cases hv
theorem vwArgs_okR {n0 : Nat} {ids : List (Option Nat)} {φ : List (Nat × Nat)} {h h' : Heap} (hk : ∀ b, memO b ids = true → ∃ c, find1 b φ = some c) (hn : ∀ b, n0 ≤ b → memO b ids = false → find1 b φ = none) :
    ∀ (ts : List TypeId) (vs : List AV), okRs n0 ids h vs = true → vwArgs P φ h ts vs = vwArgs P φ h' ts (flatA P h ts vs)
  | ts, [], _ => by cases ts <;> rfl
  | t :: ts, v :: vs, ho => by
    simp only [okRs, Bool.and_eq_true] at ho
    simp only [vwArgs, flatA, vw_okR (h' := h') hk hn ho.1]
    rw [vwArgs_okR hk hn ts vs ho.2]
  | [], v :: vs, ho => by
    simp only [okRs, Bool.and_eq_true] at ho
    simp only [vwArgs, flatA, vw_okR (h' := h') hk hn ho.1]
    rw [vwArgs_okR hk hn [] vs ho.2]
def upTo : Nat → List (Option Nat)
  | 0 => []
  | n + 1 => some n :: upTo n
def flatRes (P : Program) (h : Heap) (ts : List TypeId) (v : AV) : AV := match v with
  | .tup vs => .tup (flatA P h ts vs)
  | v => flatV P h (tyV P (nthT ts 0)) v
def okRes (n0 : Nat) (ids : List (Option Nat)) (h : Heap) (v : AV) : Bool := match v with
  | .tup vs => okRs n0 ids h vs
  | v => okR n0 ids h v
theorem flatV_tup {h : Heap} {l : Option TypeId} {v : AV} {vs : List AV} (hv : ∀ us, v ≠ .tup us) : flatV P h l v ≠ .tup vs := by
  cases v with
  | sl p len cap ex sz =>
    cases p with
    | none => cases l <;> (unfold flatV flatV1; simp)
    | some p => unfold flatV flatV1; simp only; split <;> simp
  | gr p len sz => unfold flatV flatV1; simp only; split <;> simp
  | fz cs len ex sz => cases l <;> (unfold flatV flatV1; simp)
  | tup us => exact absurd rfl (hv us)
  | agg cs => unfold flatV; simp
  | _ => unfold flatV flatV1; simp
theorem vwRes_ok {n0 : Nat} {ids : List (Option Nat)} {φ : List (Nat × Nat)} {h h' : Heap} {ts : List TypeId} {v : AV} (hk : ∀ b, memO b ids = true → ∃ c, find1 b φ = some c) (hn : ∀ b, n0 ≤ b → memO b ids = false → find1 b φ = none) (hv : okRes n0 ids h v = true) :
    vwRes P φ h ts v = vwRes P φ h' ts (flatRes P h ts v) := by
  cases v with
  | tup vs =>
    show AV.tup _ = AV.tup _
    rw [vwArgs_okR (h' := h') hk hn ts vs hv]
  | _ =>
    unfold vwRes flatRes
    simp only
    split
    · rename_i he; exact absurd he (flatV_tup (fun us => by simp))
    · exact vw_okR hk hn hv
/-- What is told in the end, what the objects are then, and which blocks these are. -/
def objK (P : Program) (sc : Sc) (f : FuncId) (n0 : Nat) (fl : List Nat) (a0 : List AV) : Out → Heap → Md → Option ((AV × List (Nat × Blk)) × List (Option Nat × Option TypeId)) := fun out h u => match u with
  | .off => (match out with
    | .ret v =>
      let ps := posObj P a0 (parsOf P f) h sc.owns ++ posObj P (compsOf v) (resOf P f) h sc.news
      guardK (okGrab (fst1 ps) fl h (fst1 ps ++ upTo n0) && okRes n0 (fst1 ps) h v) (some ((flatRes P h (resOf P f) v, grab h (fst1 ps ++ upTo n0)), ps))
    | _ => none)
  | _ => none
/-- A fact of a function with objects: of these arguments and objects (by their own numbers) it tells so, and the objects are so then. -/
def OFact (P : Program) (tb : FuncId → Option FnP) (sc : Sc) (f : FuncId) (n0 : Nat) (fl1 : List Nat) (a0 : List AV) (l0 : List (Nat × Blk)) (v1 : AV) (l1 : List (Nat × Blk)) (ps1 : List (Option Nat × Option TypeId)) : Prop :=
  ∃ S, OrcOk P tb S ∧ evCall P S tb 100 _ (.fn f) a0 (mkHeap l0 n0) .off (objK P sc f n0 fl1 a0) = some ((v1, l1), ps1)
abbrev ORes := (AV × List (Nat × Blk)) × List (Option Nat × Option TypeId)
/-- The oracle: where it may be asked (G), and what it tells (V), by the arguments and the objects. -/
noncomputable def whenOb (P : Program) (sc : Sc) (f : FuncId) (n0 : Nat) (fl0 fl1 : List Nat) (G : List AV → List (Nat × Blk) → Prop) (V : List AV → List (Nat × Blk) → ORes) : CallF := fun _ args h u K => match u with
  | .off =>
    let ps := posObj P args (parsOf P f) h sc.owns
    let φ := pairsOf 0 (fst1 ps) 0 []
    let a := vwArgs P φ none0 (parsOf P f) args
    let l := vwBlksO P φ h none0 (tyAt ps) (fun x => fl0.any (Nat.beq x.2)) φ
    let r := V a l
    let φ' := pairsNew h.next (fst1 r.2) 0 (swapL φ)
    guardK (flatO h (fun x => fl0.any (Nat.beq x.2)) φ && Nat.beq (lenO (fst1 ps)) n0) <|
    bif isSo (G a l) then
      K (.ret (vwRes P φ' (mkHeap r.1.2 0) (resOf P f) r.1.1)) ⟨outM h.m φ (vwBlksO P φ' (mkHeap r.1.2 0) (mkHeap r.1.2 0) (tyAt r.2) (fun x => fl1.any (Nat.beq x.1)) φ'), h.next + lenO (fst1 r.2)⟩ .off
    else none
  | _ => none
theorem natF_whenOb {sc : Sc} {f : FuncId} {n0 : Nat} {fl0 fl1 : List Nat} {G : List AV → List (Nat × Blk) → Prop} {V : List AV → List (Nat × Blk) → ORes} : NatF (whenOb P sc f n0 fl0 fl1 G V) := by
  intro A B args h m K K' u hk
  unfold whenOb guardK
  cases m <;> first | rfl | skip
  simp only
  generalize (flatO h _ _ && _) = q
  cases q <;> first | rfl | skip
  simp only [cond_true]
  generalize isSo _ = q
  cases q <;> first | rfl | exact hk _ _ _
theorem memO_iff {b : Nat} : ∀ {l : List (Option Nat)}, memO b l = true ↔ some b ∈ l
  | [] => by simp [memO]
  | none :: l => by simp [memO, memO_iff (l := l)]
  | some c :: l => by simp [memO, memO_iff (l := l)]
theorem memO_app {b : Nat} {l m : List (Option Nat)} : memO b (l ++ m) = true ↔ memO b l = true ∨ memO b m = true := by
  simp only [memO_iff, List.mem_append]
theorem pairsNew_find {n0 : Nat} : ∀ (ps : List (Option Nat)) (i : Nat) (acc : List (Nat × Nat)) (b : Nat), (memO b ps = true ∨ ∃ c, find1 b acc = some c) → ∃ c, find1 b (pairsNew n0 ps i acc) = some c
  | [], i, acc, b, h => by
    rcases h with h | h
    · cases h
    · exact h
  | none :: l, i, acc, b, h => pairsNew_find l (i + 1) acc b h
  | some d :: l, i, acc, b, h => by
    simp only [pairsNew]
    cases hd : find1 d acc with
    | some c =>
      refine pairsNew_find l (i + 1) acc b ?_
      rcases h with h | h
      · simp only [memO, Bool.or_eq_true] at h
        rcases h with h | h
        · rw [beq_eq.1 h]; exact .inr ⟨c, hd⟩
        · exact .inl h
      · exact .inr h
    | none =>
      refine pairsNew_find l (i + 1) _ b ?_
      by_cases e : b = d
      · subst e
        exact .inr ⟨n0 + i, by simp only [find1]; rw [beq_eq.2 rfl]; rfl⟩
      · rcases h with h | ⟨c, h⟩
        · simp only [memO, Bool.or_eq_true] at h
          rcases h with h | h
          · exact absurd (beq_eq.1 h) e
          · exact .inl h
        · refine .inr ⟨c, ?_⟩
          simp only [find1]
          rw [beq_ff e]
          exact h
theorem pairsNew_keys {n0 : Nat} : ∀ (ps : List (Option Nat)) (i : Nat) (acc : List (Nat × Nat)) (b c : Nat), (b, c) ∈ pairsNew n0 ps i acc → memO b ps = true ∨ (b, c) ∈ acc
  | [], i, acc, b, c, h => .inr h
  | none :: l, i, acc, b, c, h => pairsNew_keys l (i + 1) acc b c h
  | some d :: l, i, acc, b, c, h => by
    simp only [pairsNew] at h
    simp only [memO, Bool.or_eq_true]
    cases hd : find1 d acc with
    | some e =>
      rw [hd] at h
      rcases pairsNew_keys l (i + 1) acc b c h with h | h
      · exact .inl (.inr h)
      · exact .inr h
    | none =>
      rw [hd] at h
      rcases pairsNew_keys l (i + 1) _ b c h with h | h
      · exact .inl (.inr h)
      · rcases List.mem_cons.1 h with e | e
        · cases e; exact .inl (.inl (beq_eq.2 rfl))
        · exact .inr e
theorem upTo_mem {b : Nat} : ∀ {n : Nat}, b < n → memO b (upTo n) = true
  | n + 1, h => by
    simp only [upTo, memO, Bool.or_eq_true]
    by_cases e : b = n
    · exact .inl (beq_eq.2 e)
    · exact .inr (upTo_mem (by omega))
theorem vwBlksO_grab {φ : List (Nat × Nat)} {h : Heap} {ty : Nat → Option TypeId} {fl : List Nat} {ids all : List (Option Nat)} (hk : ∀ b, memO b ids = true → ∃ c, find1 b φ = some c) (ho : okGrab ids fl h all = true) :
    ∀ l : List (Nat × Nat), (∀ x ∈ l, memO x.1 all = true) → vwBlksO P φ (mkHeap (grab h all) 0) (mkHeap (grab h all) 0) ty (fun x => fl.any (Nat.beq x.1)) l = vwBlks2 P φ h h ty l
  | [], _ => rfl
  | x :: l, hl => by
    obtain ⟨b, c⟩ := x
    have hb := hl (b, c) List.mem_cons_self
    have ih := vwBlksO_grab (ty := ty) hk ho l fun x hx => hl x (List.mem_cons_of_mem _ hx)
    have e1 : (mkHeap (grab h all) 0).m b = h.m b := look_grab all hb
    have hat := okGrab_at all ho hb
    simp only at hb
    simp only [vwBlksO, vwBlks2]
    rw [ih, e1]
    rcases hat with h0 | ⟨w, vs, h0, h1⟩
    · rw [h0]
      simp only [Option.bind_none]
      cases fl.any (Nat.beq b) <;> rfl
    · rw [h0]
      cases hr : fl.any (Nat.beq b) with
      | true =>
        rw [hr] at h1
        simp only [cond_true] at h1
        simp only [cond_true, Option.bind_some, vwB_flat h1]
      | false =>
        rw [hr] at h1
        simp only [cond_false] at h1
        simp only [cond_false, Option.bind_some]
        have e2 : vwB P φ (mkHeap (grab h all) 0) (ty b) (.cells w vs) = vwB P φ h (ty b) (.cells w vs) := by
          show some (Blk.cells w (mapCyc (vw P φ _ false (7 + 1)) _ _ vs)) = some (Blk.cells w (mapCyc (vw P φ h false (7 + 1)) _ _ vs))
          rw [mapCyc_okCO (h' := h) hk _ vs _ h1]
        rw [e2]
        generalize vwB P φ h (ty b) _ = q
        cases q <;> rfl
theorem fnSim_whenOb (hT : TbOk P tb) {sc : Sc} {f : FuncId} {n0 : Nat} {fl0 fl1 : List Nat} {G : List AV → List (Nat × Blk) → Prop} {V : List AV → List (Nat × Blk) → ORes} (hf : ∀ a l, G a l → OFact P tb sc f n0 fl1 a l (V a l).1.1 (V a l).1.2 (V a l).2) :
    FnSim P (LP tb) f (whenOb P sc f n0 fl0 fl1 G V) := by
  intro A K r args h u args' ρ Z w kind cs₀ cs hL hg hrep ha hcs
  unfold whenOb at hg
  cases u <;> first | (cases hg; done) | skip
  simp only at hg
  obtain ⟨g1, hg⟩ := guardK_some hg
  simp only [Bool.and_eq_true] at g1
  have g2 := Nat.eq_of_beq_eq_true g1.2
  generalize hps : posObj P args (parsOf P f) h sc.owns = ps at hg g1 g2
  generalize hφ0 : pairsOf 0 (fst1 ps) 0 [] = φ at hg g1
  have hφ : RenOk φ 0 (lenO (fst1 ps)) := by
    have := pairsOf_ok (n0 := 0) (fst1 ps) 0 [] (by simp) (by simp) (fun b c hm => by cases hm)
    rw [hφ0] at this
    rwa [Nat.zero_add, Nat.zero_add] at this
  rw [vwBlksO_eq _ g1.1] at hg
  generalize ha0 : vwArgs P φ none0 (parsOf P f) args = a0 at hg
  generalize hl0 : vwBlks2 P φ h none0 (tyAt ps) φ = l0 at hg
  cases hs : isSo (G a0 l0) with
  | false => rw [hs] at hg; cases hg
  | true =>
  rw [hs] at hg
  simp only [cond_true] at hg
  obtain ⟨S, hS, hr⟩ := hf a0 l0 (isSo_iff.1 hs)
  generalize hV : V a0 l0 = VV at hg hr
  obtain ⟨⟨v1, l1⟩, ps1⟩ := VV
  simp only at hg hr
  have e : evCall P S tb 100 _ (.fn f) a0 (mkHeap l0 n0) .off (objK P sc f n0 fl1 a0) = (evCall P S tb 100 (AV × Heap) (.fn f) a0 (mkHeap l0 n0) .off pairK).bind fun x => objK P sc f n0 fl1 a0 (.ret x.1) x.2 .off :=
    evCall_b hS.nf hS.nl 100 _ (AV × Heap) (.fn f) a0 (mkHeap l0 n0) .off _ pairK _ fun o h m => by
      cases m <;> cases o <;> rfl
  rw [e] at hr
  obtain ⟨⟨v, hr1⟩, h1, h2⟩ := Option.bind_eq_some_iff.1 hr
  unfold objK at h2
  simp only at h2
  obtain ⟨g3, h2⟩ := guardK_some h2
  simp only [Option.some.injEq, Prod.mk.injEq] at h2
  obtain ⟨⟨e1, e2⟩, e3⟩ := h2
  rw [e3] at g3 e2
  simp only [Bool.and_eq_true] at g3
  refine fnSim_loc hT hS sc f A K r args h .off args' ρ Z w kind cs₀ cs hL ?_ hrep ha hcs
  unfold locF
  simp only [hps, hφ0, ha0, hl0, g2, h1, e3]
  generalize hφ2 : pairsNew h.next (fst1 ps1) 0 (swapL φ) = φ2 at hg
  have hk : ∀ b, memO b (fst1 ps1) = true → ∃ c, find1 b φ2 = some c := fun b hb => by
    rw [← hφ2]
    exact pairsNew_find _ _ _ _ (.inl hb)
  have hkeys : ∀ b c, (b, c) ∈ φ2 → memO b (fst1 ps1) = true ∨ b < n0 := fun b c hm => by
    rw [← hφ2] at hm
    rcases pairsNew_keys _ _ _ _ _ hm with h | h
    · exact .inl h
    · rw [swapL_eq, List.mem_map] at h
      obtain ⟨x, a, e⟩ := h
      cases e
      have := hφ.lt _ _ a
      rw [g2] at this
      exact .inr this
  have hn : ∀ b, n0 ≤ b → memO b (fst1 ps1) = false → find1 b φ2 = none := fun b h1 h2 => by
    cases hf : find1 b φ2 with
    | none => rfl
    | some c =>
      rcases hkeys b c (find1_mem hf) with h3 | h3
      · rw [h2] at h3; cases h3
      · omega
  have k1 : vwRes P φ2 hr1 (resOf P f) v = vwRes P φ2 (mkHeap l1 0) (resOf P f) v1 := by
    rw [← e1]
    exact vwRes_ok hk hn g3.2
  have k2 : vwBlks2 P φ2 hr1 hr1 (tyAt ps1) φ2 = vwBlksO P φ2 (mkHeap l1 0) (mkHeap l1 0) (tyAt ps1) (fun x => fl1.any (Nat.beq x.1)) φ2 := by
    rw [← e2]
    refine (vwBlksO_grab hk g3.1 φ2 fun x hx => ?_).symm
    obtain ⟨b, c⟩ := x
    rw [memO_app]
    rcases hkeys b c hx with h | h
    · exact .inl h
    · exact .inr (upTo_mem h)
  rw [k1, k2]
  exact hg
noncomputable def knowOW (P : Program) (sc : Sc) (f : FuncId) (n0 : Nat) (fl0 fl1 : List Nat) (G : List AV → List (Nat × Blk) → Prop) (V : List AV → List (Nat × Blk) → ORes) (S : Orc) : Orc := addF f (whenOb P sc f n0 fl0 fl1 G V) S
theorem knowOW_ok (hT : TbOk P tb) {S : Orc} {sc : Sc} {f : FuncId} {n0 : Nat} {fl0 fl1 : List Nat} {G : List AV → List (Nat × Blk) → Prop} {V : List AV → List (Nat × Blk) → ORes} (hf : ∀ a l, G a l → OFact P tb sc f n0 fl1 a l (V a l).1.1 (V a l).1.2 (V a l).2) (hS : OrcOk P tb S) :
    OrcOk P tb (knowOW P sc f n0 fl0 fl1 G V S) := addF_ok (fnSim_whenOb hT hf) natF_whenOb hS
/-- One fact alone. -/
noncomputable def knowO (P : Program) (sc : Sc) (f : FuncId) (n0 : Nat) (fl0 fl1 : List Nat) (a0 : List AV) (l0 : List (Nat × Blk)) (v1 : AV) (l1 : List (Nat × Blk)) (ps1 : List (Option Nat × Option TypeId)) (S : Orc) : Orc := knowOW P sc f n0 fl0 fl1 (fun a l => a = a0 ∧ l = l0) (fun _ _ => ((v1, l1), ps1)) S
theorem knowO_ok (hT : TbOk P tb) {S : Orc} {sc : Sc} {f : FuncId} {n0 : Nat} {fl0 fl1 : List Nat} {a0 : List AV} {l0 : List (Nat × Blk)} {v1 : AV} {l1 : List (Nat × Blk)} {ps1 : List (Option Nat × Option TypeId)} (hf : OFact P tb sc f n0 fl1 a0 l0 v1 l1 ps1) (hS : OrcOk P tb S) :
    OrcOk P tb (knowO P sc f n0 fl0 fl1 a0 l0 v1 l1 ps1 S) := knowOW_ok hT (fun _ _ h => by obtain ⟨rfl, rfl⟩ := h; exact hf) hS
/-- A loop that is met in several states: one oracle or another. -/
def orL (c : St → Bool) (g g' : LoopF) : LoopF := fun A st K => bif c st then g A st K else g' A st K
theorem natL_or {c : St → Bool} {g g' : LoopF} (h : NatL g) (h' : NatL g') : NatL (orL c g g') := by
  intro A B st K K' u hk
  unfold orL
  cases c st
  · exact h' A B st K K' u hk
  · exact h A B st K K' u hk
theorem loopSim_or {f : FuncId} {b : Code} {c : St → Bool} {g g' : LoopF} (h : LoopSim P (LP tb) f b g) (h' : LoopSim P (LP tb) f b g') : LoopSim P (LP tb) f b (orL c g g') := by
  intro A r K Z kind cs₀ b k ρ st a w cs hL hb hfn hro hSt hg
  unfold orL at hg
  cases hc : c st with
  | false => rw [hc] at hg; exact h' A r K Z kind cs₀ b k ρ st a w cs hL hb hfn hro hSt hg
  | true => rw [hc] at hg; exact h A r K Z kind cs₀ b k ρ st a w cs hL hb hfn hro hSt hg
/-- Whether a temporary is this number. -/
def tmpIs (i : Tmp) (n : Int) (st : St) : Bool := match nth st.t i with
  | .int _ m => m == n
  | _ => false
/-! ### Where it is forgotten how much room a list has -/
def wkV : AV → AV
  | .sl (some p) len _ _ sz => .gr p len sz
  | v => v
def wkL : List AV → List AV
  | [] => []
  | v :: vs => wkV v :: wkL vs
def wkB : Blk → Blk
  | .cells w vs => .cells w (wkL vs)
  | b => b
def wkM (n0 : Nat) (h : Heap) (b : Nat) : Option Blk := bif Nat.ble n0 b then (match h.m b with
  | some x => some (wkB x)
  | none => none) else h.m b
def wkH (n0 : Nat) (h : Heap) : Heap := ⟨wkM n0 h, h.next⟩
theorem wkL_eq : ∀ vs : List AV, wkL vs = vs.map wkV
  | [] => rfl
  | v :: vs => by rw [wkL, wkL_eq vs]; rfl
theorem wk_R {ρ : Loc} {v : AV} {v' : Value} (h : R ρ v v') : R ρ (wkV v) v' := by
  unfold wkV
  split
  · cases h with
    | sl hp h1 h2 h3 h4 => exact .gr hp (Nat.le_trans h4 h1) h3
  · exact h
theorem wkB_writes (x : Blk) : (wkB x).writes = x.writes := by cases x <;> rfl
theorem wkM_cases {n0 : Nat} {h : Heap} {b : Nat} {y : Blk} (hy : wkM n0 h b = some y) : ∃ x, h.m b = some x ∧ (y = x ∨ y = wkB x) := by
  unfold wkM at hy
  cases hb : Nat.ble n0 b with
  | false => rw [hb] at hy; exact ⟨y, hy, .inl rfl⟩
  | true =>
    rw [hb] at hy
    simp only [cond_true] at hy
    cases hm : h.m b with
    | none => rw [hm] at hy; cases hy
    | some x => rw [hm] at hy; cases hy; exact ⟨x, rfl, .inr rfl⟩
theorem wkM_writes {n0 : Nat} {h : Heap} {b : Nat} {y : Blk} (hy : wkM n0 h b = some y) : ∃ x, h.m b = some x ∧ y.writes = x.writes := by
  obtain ⟨x, h1, h2⟩ := wkM_cases hy
  refine ⟨x, h1, ?_⟩
  rcases h2 with rfl | rfl
  · rfl
  · exact wkB_writes x
theorem wk_RB {ρ : Loc} {N : Zone} {w : World} {p : Pl} {x : Blk} (h : RB ρ N w p x) : RB ρ N w p (wkB x) := by
  cases x with
  | cells wr vs =>
    obtain ⟨c, e, fz, h1, h2, h3, h4, h5⟩ := h
    refine ⟨c, e, fz, h1, h2, ?_, fun i v hi => ?_, h5⟩
    · rw [wkL_eq, List.length_map]; exact h3
    · rw [wkL_eq, List.getElem?_map] at hi
      obtain ⟨u, hu, rfl⟩ := Option.map_eq_some_iff.1 hi
      obtain ⟨v', a, b⟩ := h4 i u hu
      exact ⟨v', a, wk_R b⟩
  | _ => exact h
theorem Rep.wk {ρ : Loc} {h : Heap} {N : Zone} {w : World} (hr : Rep ρ h N w) (n0 : Nat) : Rep ρ (wkH n0 h) N w := by
  refine ⟨fun b y hy => ?_, fun b b' y y' p p' hy hy' hne hw hp hp' => ?_, hr.old, hr.fresh, fun b o cs hf => ⟨(hr.frz b o cs hf).1, fun c y p hc hx => ?_, (hr.frz b o cs hf).2.2⟩⟩
  · obtain ⟨x, h1, h2⟩ := wkM_cases hy
    obtain ⟨p, a, b⟩ := hr.blk _ x h1
    refine ⟨p, a, ?_⟩
    rcases h2 with rfl | rfl
    · exact b
    · exact wk_RB b
  · obtain ⟨x, h1, h2⟩ := wkM_writes hy
    obtain ⟨x', h1', _⟩ := wkM_writes hy'
    exact hr.inj b b' x x' p p' h1 h1' hne (h2 ▸ hw) hp hp'
  · obtain ⟨x, h1, h2⟩ := wkM_writes hc
    exact (hr.frz b o cs hf).2.1 c x p h1 (h2 ▸ hx)
def wkO (g : CallF) : CallF := fun A args h u K => g A args h u fun o h' m => K o (wkH h.next h') m
theorem natF_wk {g : CallF} (hg : NatF g) : NatF (wkO g) := by
  intro A B args h m K K' u hk
  exact hg A B args h m _ _ u fun o h' m => hk o _ m
theorem fnSim_wk {f : FuncId} {g : CallF} (hg : FnSim P (LP tb) f g) : FnSim P (LP tb) f (wkO g) := by
  intro A K r args h u args' ρ Z w kind cs₀ cs hL hh hr ha hcs
  obtain ⟨e1, out, h', u', ρ', w', cs', fr, k1, k2, k3, k4, k5, k6, k7⟩ := hg A _ r args h u args' ρ Z w kind cs₀ cs hL hh hr ha hcs
  exact ⟨e1, out, wkH h.next h', u', ρ', w', cs', fr, k1, k2, ⟨k3.grows, k3.off, k3.next, k3.rep.wk _, k3.low⟩, k4, k5, k6, k7⟩
end Go.Ev
