/- Builders (lists, and lists of lists, that are built in loops), functions that tell lists, facts asked for of what the arguments are just now, slices.Clone. -/
import Derived.Test.YtokighfpmonjdaaEvZ
import Derived.Test.YtokighfpmonjdaaEvY1
import Derived.Laws.BitsLemmas
/- Builders: at a loop's head blocks of numbers, bools and strings alone stay as they are; a function that tells lists of such is told of by what it tells. -/
namespace Go.Ev
variable {P : Program} {tb : FuncId → Option FnP} {S : Orc}
/-- Numbers, bools, strings, and lists that are not written any more. -/
def calm : AV → Bool
  | .int _ _ | .bool _ | .str _ => true
  | .fz _ _ ex _ => !ex
  | _ => false
def allS : List AV → Bool
  | [] => true
  | v :: vs => calm v && allS vs
theorem vw_simple {φ : List (Nat × Nat)} {h : Heap} {pur : Bool} {k : Nat} {l : Option TypeId} {v : AV} (hv : calm v = true) : vw P φ h pur (k + 1) l v = v := by
  cases v <;> first | rfl | cases hv | skip
  rename_i cs len ex sz
  cases ex with
  | true => cases hv
  | false => cases l <;> rfl
theorem mapCyc_simple {φ : List (Nat × Nat)} {h : Heap} {pur : Bool} {k : Nat} (all : List (Option TypeId)) : ∀ (cs : List AV) (ls : List (Option TypeId)), allS cs = true → mapCyc (vw P φ h pur (k + 1)) all ls cs = cs
  | [], ls, _ => by cases ls <;> rfl
  | c :: cs, ls, hc => by
    simp only [allS, Bool.and_eq_true] at hc
    have ih : ∀ ls, mapCyc (vw P φ h pur (k + 1)) all ls cs = cs := fun ls => mapCyc_simple all cs ls hc.2
    cases ls with
    | cons l ls => simp only [mapCyc, vw_simple hc.1, ih]
    | nil =>
      cases all with
      | nil => simp only [mapCyc, vw_simple hc.1, ih]
      | cons l ls => simp only [mapCyc, vw_simple hc.1, ih]
def blkF (P : Program) (fl : List Nat) (φ : List (Nat × Nat)) (h : Heap) (b c : Nat) : Option Blk := bif fl.any (Nat.beq c) then (match h.m b with
    | some (.cells w vs) => some (.cells w vs)
    | x => x.bind (vwB P φ h none)) else (h.m b).bind (vwB P φ h none)
def vwBlksF (P : Program) (fl : List Nat) (φ : List (Nat × Nat)) (h : Heap) : List (Nat × Nat) → List (Nat × Blk)
  | [] => []
  | (b, c) :: l => match blkF P fl φ h b c with
    | some x => (c, x) :: vwBlksF P fl φ h l
    | none => vwBlksF P fl φ h l
def flatOk (fl : List Nat) (h : Heap) : List (Nat × Nat) → Bool
  | [] => true
  | (b, c) :: l => bif fl.any (Nat.beq c) then (match h.m b with
    | some (.cells _ vs) => allS vs && flatOk fl h l
    | _ => flatOk fl h l) else flatOk fl h l
theorem vwBlksF_eq {fl : List Nat} {φ : List (Nat × Nat)} {h : Heap} : ∀ l : List (Nat × Nat), flatOk fl h l = true → vwBlksF P fl φ h l = vwBlks P φ h (fun _ => none) l
  | [], _ => rfl
  | (b, c) :: l, hf => by
    simp only [flatOk] at hf
    simp only [vwBlksF, vwBlks, blkF]
    cases ha : fl.any (Nat.beq c) with
    | false =>
      rw [ha] at hf
      simp only [cond_false] at hf ⊢
      rw [vwBlksF_eq l hf]
      cases (h.m b).bind (vwB P φ h none) <;> rfl
    | true =>
      rw [ha] at hf
      simp only [cond_true] at hf ⊢
      cases hb : h.m b with
      | none =>
        rw [hb] at hf
        simp only at hf
        simp only [Option.bind_none]
        exact vwBlksF_eq l hf
      | some x =>
        rw [hb] at hf
        cases x with
        | cells w vs =>
          simp only [Bool.and_eq_true] at hf
          have e : vwB P φ h none (.cells w vs) = some (.cells w vs) := by
            show some (Blk.cells w (mapCyc (vw P φ h false (7 + 1)) _ _ vs)) = _
            rw [mapCyc_simple _ _ _ hf.1]
          simp only [Option.bind_some, e, vwBlksF_eq l hf.2]
        | _ =>
          simp only at hf
          simp only [Option.bind_some, vwBlksF_eq l hf]
          generalize vwB P φ h none _ = q
          cases q <;> rfl
def normStF (P : Program) (N : Norm) (fl : List Nat) (n0 : Nat) (st : St) : St :=
  let ps := posT st.t N.pos ++ posD st.t st.h N.der
  let φ := pairsOf n0 ps 0 (idsN N st n0)
  { t := keepT (vw P φ st.h false deepV none) N.keep 0 st.t, h := mkHeap (vwBlksF P fl φ st.h φ) (n0 + lenO ps), d := st.d.map (vwD P φ st.h), r := st.r }
def normKF (P : Program) (N : Norm) (fl : List Nat) (n0 : Nat) {A : Type} (st : St) (K : St → Option A) : Option A := match st.r with
  | .off => guardK (markLow n0 st.d) (guardK (flatOk fl st.h (pairsOf n0 (posT st.t N.pos ++ posD st.t st.h N.der) 0 (idsN N st n0))) (K (normStF P N fl n0 st)))
  | _ => none
theorem normKF_some {A : Type} {r : A} {N : Norm} {fl : List Nat} {n0 : Nat} {st : St} {K : St → Option A} (h : normKF P N fl n0 st K = some r) : normK P N n0 st K = some r := by
  unfold normKF at h
  unfold normK
  split at h
  · rename_i hr
    rw [hr]
    simp only
    cases hm : markLow n0 st.d with
    | false => rw [hm] at h; cases h
    | true =>
      rw [hm] at h
      simp only [guardK, cond_true] at h ⊢
      cases hf : flatOk fl st.h (pairsOf n0 (posT st.t N.pos ++ posD st.t st.h N.der) 0 (idsN N st n0)) with
      | false => rw [hf] at h; cases h
      | true =>
        rw [hf] at h
        simp only [cond_true] at h
        have e : normStF P N fl n0 st = normSt P N n0 st := by
          unfold normStF normSt
          simp only [vwBlksF_eq _ hf]
        rw [← e]; exact h
  · cases h
theorem normKF_b {A B : Type} {u : B → Option A} {N : Norm} {fl : List Nat} {n0 : Nat} {st : St} {K : St → Option A} {K' : St → Option B} (hk : ∀ s, K s = (K' s).bind u) : normKF P N fl n0 st K = (normKF P N fl n0 st K').bind u := by
  unfold normKF guardK
  split
  · cases markLow n0 st.d <;> simp only [cond_true, cond_false] <;> first | rfl | skip
    generalize flatOk fl st.h _ = q
    cases q <;> first | rfl | exact hk _
  · rfl
def loopKF (P : Program) (N : Norm) (fl : List Nat) (n0 : Nat) {A : Type} (body : St → (Ex → St → Option A) → Option A) (st : St) (K : Ex → St → Option A) : Option A :=
  body st fun e s => match e with
    | .pan v => K (.pan v) s
    | e => normKF P (N.on e) fl n0 s fun s => K e s
def loopBF (P : Program) (S : Orc) (tb : FuncId → Option FnP) (f : FuncId) (id : Nat) (fl : List Nat) (n0 : Nat) {A : Type} (st : St) (K : Ex → St → Option A) : Option A := match tb f with
  | some e => (match loopC id e.code, e.plan.norm id with
    | some c, some N => loopKF P N fl n0 (fun st K => evCode P (e.plan.stops (S.s f)) (evCall P S tb 100) (butL id (S.l f)) f none c st K) st K
    | _, _ => none)
  | none => none
theorem loopBF_some (hS : OrcOk P tb S) {f : FuncId} {id : Nat} {fl : List Nat} {n0 : Nat} {A : Type} {r : A} {st : St} {K K' : Ex → St → Option A} (hk : ∀ e s, K e s = some r → K' e s = some r) (h : loopBF P S tb f id fl n0 st K = some r) :
    loopB P S tb f id n0 st K' = some r := by
  unfold loopBF at h
  unfold loopB
  split at h
  · rename_i e he
    rw [he]
    simp only
    split at h
    · rename_i c N hc hN
      simp only [hc, hN]
      have nat : ∀ (Q : Ex → St → Option A), evCode P (e.plan.stops (S.s f)) (evCall P S tb 100) (butL id (S.l f)) f none c st Q = (evCode P (e.plan.stops (S.s f)) (evCall P S tb 100) (butL id (S.l f)) f none c st pairE).bind fun x => Q x.1 x.2 := fun Q =>
        evCode_b (evCall_b hS.nf hS.nl 100) (fun j g hg => by
          have hg : (bif Nat.beq j id then none else S.l f j) = some g := hg
          cases hj : Nat.beq j id with
          | false => rw [hj] at hg; exact hS.nl f j g hg
          | true => rw [hj] at hg; cases hg) _ st Q pairE (fun _ _ => rfl)
      unfold loopKF at h
      unfold loopK
      dsimp only at h ⊢
      rw [nat] at h ⊢
      obtain ⟨⟨x, s⟩, h1, h2⟩ := Option.bind_eq_some_iff.1 h
      rw [h1]
      simp only [Option.bind_some] at h2 ⊢
      cases x with
      | pan v => exact hk _ _ h2
      | _ =>
        simp only at h2 ⊢
        have h3 := normKF_some h2
        unfold normK at h3 ⊢
        split at h3
        · unfold guardK at h3 ⊢
          cases hm : markLow n0 s.d with
          | false => rw [hm] at h3; cases h3
          | true => rw [hm] at h3; simp only [cond_true] at h3 ⊢; exact hk _ _ h3
        · cases h3
    · cases h
  · cases h
theorem loopNF_some (hS : OrcOk P tb S) {f : FuncId} {id : Nat} {fl : List Nat} {n0 : Nat} {A : Type} {r : A} {K : Ex → St → Option A} : ∀ (n : Nat) (st : St), loopN (loopBF P S tb f id fl n0) n st K = some r → loopN (loopB P S tb f id n0) n st K = some r
  | 0, st, h => by cases h
  | n + 1, st, h => by
    rw [loopN_succ] at h ⊢
    refine loopBF_some hS (fun e s he => ?_) h
    cases e with
    | normal => exact loopNF_some hS n s he
    | _ => exact he
/-- A fact of a loop; the blocks fl of the state (by their numbers at its head) have numbers, bools and strings alone. -/
theorem LFact.flat (hS : OrcOk P tb S) {f : FuncId} {id : Nat} {fl : List Nat} {n0 : Nat} {st0 : St} {e : Ex} {s1 : St} (h : loopN (loopBF P S tb f id fl n0) rounds st0 pairE = some (e, s1)) : LFact P tb f id n0 st0 e s1 :=
  ⟨S, hS, loopNF_some hS rounds st0 h⟩
noncomputable def atLF (P : Program) (N : Norm) (fl : List Nat) (n0 : Nat) (st0 : St) (e : Ex) (s1 : St) : LoopF := fun _ st K =>
  bif Nat.beq st.h.next n0 then normKF P N fl n0 st fun s => bif sameSt s st0 then K e s1 else none else none
theorem natL_atF {N : Norm} {fl : List Nat} {n0 : Nat} {st0 s1 : St} {e : Ex} : NatL (atLF P N fl n0 st0 e s1) := by
  intro A B st K K' u hk
  unfold atLF
  cases Nat.beq st.h.next n0 <;> simp only [cond_true, cond_false] <;> first | rfl | skip
  refine normKF_b fun s => ?_
  cases sameSt s st0 <;> first | rfl | exact hk _ _
theorem loopSim_atF (hT : TbOk P tb) {f : FuncId} {id n0 : Nat} {fl : List Nat} {N : Norm} {st0 s1 : St} {e : Ex} (hf : LFact P tb f id n0 st0 e s1) {ep : FnP} (he : tb f = some ep) (hN : loopN0 tb f id = some N) {c : Code} (hc : loopC id ep.code = some c) :
    LoopSim P (LP tb) f c (atLF P N fl n0 st0 e s1) := by
  intro A r K Z kind cs₀ b k ρ st a w cs hL hb hfn hro hSt hg
  refine loopSim_at hT hf he hN hc A r K Z kind cs₀ b k ρ st a w cs hL hb hfn hro hSt ?_
  unfold atLF at hg
  unfold atL
  cases hn : Nat.beq st.h.next n0 with
  | false => rw [hn] at hg; cases hg
  | true =>
    rw [hn] at hg
    simp only [cond_true] at hg ⊢
    exact normKF_some hg
noncomputable def knowLF (P : Program) (f : FuncId) (id : Nat) (N : Norm) (fl : List Nat) (n0 : Nat) (st0 : St) (e : Ex) (s1 : St) (S : Orc) : Orc := addL f id (atLF P N fl n0 st0 e s1) S
theorem knowLF_ok (hT : TbOk P tb) {f : FuncId} {id n0 : Nat} {fl : List Nat} {N : Norm} {st0 s1 : St} {e : Ex} (hf : LFact P tb f id n0 st0 e s1) (hS : OrcOk P tb S) {ep : FnP} (he : tb f = some ep) (hN : loopN0 tb f id = some N) (hc : Nat.ble (countL id ep.code) 1 = true) :
    OrcOk P tb (knowLF P f id N fl n0 st0 e s1 S) := addL_gen hS he hc (fun _ hb => loopSim_atF hT hf he hN hb) natL_atF
/-! ### Functions that tell lists -/
def flatV1 (P : Program) (h : Heap) (l : Option TypeId) (v : AV) : AV :=
  let slice (b o len sz : Nat) : AV := match h.m b with
    | some (.cells _ vs) => .fz (fixLen (len * sz) (dropA vs o)) len false sz
    | _ => .dead
  match v with
  | .sl none len cap ex sz => (match l with
    | some e => .fz [] 0 false (szOf P e)
    | none => .sl none len cap ex sz)
  | .sl (some (b, o)) len _ _ sz => slice b o len sz
  | .gr (b, o) len sz => slice b o len sz
  | .fz cs len ex sz => (match l with
    | some _ => .fz cs len false sz
    | none => .fz cs len ex sz)
  | v => v
def okV1 (h : Heap) (v : AV) : Bool :=
  let slice (b o : Nat) : Bool := match h.m b with
    | some (.cells _ vs) => allS (dropA vs o)
    | _ => true
  match v with
  | .sl none _ _ _ _ => true
  | .sl (some (b, o)) _ _ _ _ => slice b o
  | .gr (b, o) _ _ => slice b o
  | .fz _ _ _ _ => true
  | v => simple v
theorem flatV1_eq {h : Heap} {k : Nat} {l : Option TypeId} {v : AV} (ho : okV1 h v = true) : vw P [] h false (k + 2) l v = flatV1 P h l v := by
  have sl : ∀ b o len sz, (match h.m b with | some (.cells _ vs) => allS (dropA vs o) | _ => true) = true →
      (match h.m b with | some (.cells _ vs) => AV.fz (fixLen (len * sz) (mapCyc (vw P [] h true (k + 1)) (eLeaves P l) (eLeaves P l) (dropA vs o))) len false sz | _ => .dead) = (match h.m b with | some (.cells _ vs) => .fz (fixLen (len * sz) (dropA vs o)) len false sz | _ => .dead) := by
    intro b o len sz hh
    split
    · rename_i w vs hb
      rw [hb] at hh
      simp only at hh
      rw [mapCyc_simple _ _ _ hh]
    · rfl
  cases v with
  | sl p len cap ex sz =>
    cases p with
    | none => cases l <;> rfl
    | some p => obtain ⟨b, o⟩ := p; exact sl b o len sz ho
  | gr p len sz => obtain ⟨b, o⟩ := p; exact sl b o len sz ho
  | fz cs len ex sz => cases l <;> rfl
  | int | bool | str => rfl
  | _ => cases ho
def okVs (h : Heap) : List AV → Bool
  | [] => true
  | v :: vs => okV1 h v && okVs h vs
theorem mapCyc_flat {h : Heap} {k : Nat} (all : List (Option TypeId)) : ∀ (cs : List AV) (ls : List (Option TypeId)), okVs h cs = true → mapCyc (vw P [] h false (k + 2)) all ls cs = mapCyc (flatV1 P h) all ls cs
  | [], ls, _ => by cases ls <;> rfl
  | c :: cs, ls, hc => by
    simp only [okVs, Bool.and_eq_true] at hc
    have ih : ∀ ls, mapCyc (vw P [] h false (k + 2)) all ls cs = mapCyc (flatV1 P h) all ls cs := fun ls => mapCyc_flat all cs ls hc.2
    cases ls with
    | cons l ls => simp only [mapCyc, flatV1_eq hc.1, ih]
    | nil =>
      cases all with
      | nil => simp only [mapCyc, flatV1_eq hc.1, ih]
      | cons l ls => simp only [mapCyc, flatV1_eq hc.1, ih]
/-- The same, structs of such among it. -/
def flatV (P : Program) (h : Heap) (l : Option TypeId) (v : AV) : AV := match v with
  | .agg cs => .agg (mapCyc (flatV1 P h) (eLeaves P l) (eLeaves P l) cs)
  | v => flatV1 P h l v
def okV (h : Heap) (v : AV) : Bool := match v with
  | .agg cs => okVs h cs
  | v => okV1 h v
theorem flatV_eq {h : Heap} {l : Option TypeId} {v : AV} (ho : okV h v = true) : vw P [] h false deepV l v = flatV P h l v := by
  cases v with
  | agg cs =>
    show AV.agg (mapCyc (vw P [] h false (5 + 2)) _ _ cs) = AV.agg _
    rw [mapCyc_flat _ _ _ ho]
  | _ => exact flatV1_eq (k := 6) ho
def flatA (P : Program) (h : Heap) : List TypeId → List AV → List AV
  | _, [] => []
  | t :: ts, v :: vs => flatV P h (tyV P t) v :: flatA P h ts vs
  | [], v :: vs => flatV P h none v :: flatA P h [] vs
def okA (h : Heap) : List AV → Bool
  | [] => true
  | v :: vs => okV h v && okA h vs
theorem flatA_eq {h : Heap} : ∀ (ts : List TypeId) (vs : List AV), okA h vs = true → vwArgs P [] h ts vs = flatA P h ts vs
  | ts, [], _ => by cases ts <;> rfl
  | t :: ts, v :: vs, ho => by
    simp only [okA, Bool.and_eq_true] at ho
    simp only [vwArgs, flatA, flatV_eq ho.1, flatA_eq ts vs ho.2]
  | [], v :: vs, ho => by
    simp only [okA, Bool.and_eq_true] at ho
    simp only [vwArgs, flatA, flatV_eq ho.1, flatA_eq [] vs ho.2]
/-- What is told in the end, lists among it. -/
def viewK (P : Program) (ts : List TypeId) : Out → Heap → Md → Option AV := fun out h u => match u with
  | .off => (match out with
    | .ret (.tup vs) => guardK (okA h vs) (some (.tup (flatA P h ts vs)))
    | .ret v => guardK (okV h v) (some (flatV P h (tyV P (nthT ts 0)) v))
    | _ => none)
  | _ => none
theorem viewK_some {ts : List TypeId} {v : AV} {h : Heap} {r : AV} (hv : viewK P ts (.ret v) h .off = some r) : vwRes P [] h ts v = r := by
  unfold viewK at hv
  unfold vwRes
  cases v with
  | tup vs =>
    simp only [guardK] at hv
    cases ho : okA h vs with
    | false => rw [ho] at hv; cases hv
    | true => rw [ho] at hv; cases hv; simp only [flatA_eq _ _ ho]
  | _ =>
    simp only [guardK] at hv
    cases ho : okV h _ with
    | false => rw [ho] at hv; cases hv
    | true => rw [ho] at hv; cases hv; simp only [flatV_eq ho]
/-- A fact of a function: what it tells of these arguments, lists among it; arguments are numbers, bools, strings, and lists that are not written any more. -/
def FFact (P : Program) (tb : FuncId → Option FnP) (f : FuncId) (args : List AV) (v : AV) : Prop :=
  vwArgs P [] none0 (parsOf P f) args = args ∧ ∃ S, OrcOk P tb S ∧ evCall P S tb 100 AV (.fn f) args (mkHeap [] 0) .off (viewK P (resOf P f)) = some v
theorem fnSim_atF (hT : TbOk P tb) {f : FuncId} {a : List AV} {v : AV} (hf : FFact P tb f a v) : FnSim P (LP tb) f (atO a v) := by
  obtain ⟨ha, S, hS, hr⟩ := hf
  have e : evCall P S tb 100 AV (.fn f) a (mkHeap [] 0) .off (viewK P (resOf P f)) = (evCall P S tb 100 (AV × Heap) (.fn f) a (mkHeap [] 0) .off pairK).bind fun x => viewK P (resOf P f) (.ret x.1) x.2 .off :=
    evCall_b hS.nf hS.nl 100 AV (AV × Heap) (.fn f) a (mkHeap [] 0) .off _ pairK _ fun o h m => by
      cases m <;> cases o <;> rfl
  rw [e] at hr
  obtain ⟨⟨v1, h1⟩, hr1, hr2⟩ := Option.bind_eq_some_iff.1 hr
  have hv := viewK_some hr2
  intro A K r args h u args' ρ Z w kind cs₀ cs hL hg hr0 ha0 hcs
  unfold atO at hg
  cases u with
  | off =>
    simp only at hg
    cases hs : same args a with
    | false => rw [hs] at hg; cases hg
    | true =>
      rw [hs] at hg
      have : args = a := by
        unfold same at hs
        simpa using hs
      subst this
      refine fnSim_loc hT hS {} f A K r args h .off args' ρ Z w kind cs₀ cs hL ?_ hr0 ha0 hcs
      show locF P S tb {} f A args h .off K = some r
      unfold locF
      simp only [posObj, fst1, pairsOf, vwBlks2, lenO, ha]
      rw [hr1]
      simp only [List.append_nil, fst1, pairsNew, swapL, vwBlks2, lenO]
      rw [hv]
      exact hg
  | _ => cases hg
noncomputable def knowF (f : FuncId) (a : List AV) (v : AV) (S : Orc) : Orc := addF f (atO a v) S
theorem knowF_ok (hT : TbOk P tb) {f : FuncId} {a : List AV} {v : AV} (hf : FFact P tb f a v) (hS : OrcOk P tb S) : OrcOk P tb (knowF f a v S) := addF_ok (fnSim_atF hT hf) natF_at hS
end Go.Ev
/- Lists of numbers in blocks: what the kernel leaves standing, in plain terms. -/
namespace Go.Ev
theorem lenM {α : Type} (f : α → AV) (l : List α) : lenA (l.map f) = l.length := by rw [lenA_eq, List.length_map]
theorem nthM {α : Type} (f : α → AV) : ∀ (l : List α) (i : Nat) (h : i < l.length), nth (l.map f) i = f l[i]
  | x :: l, 0, _ => rfl
  | x :: l, i + 1, h => nthM f l i (by simpa using h)
theorem allS_ints : ∀ l : List Int, allS (l.map int64) = true
  | [] => rfl
  | x :: l => by simp only [List.map_cons, allS, allS_ints l]; rfl
theorem grow_ints {l : List Int} {m : Nat} {v : Int} (h : l.length = m + 1) : appA (takeA (dropA (l.map int64) 0) ((m + 1) * 1)) [int64 v] = (l ++ [v]).map int64 := by
  rw [appA_eq, takeA_eq, dropA_eq, List.drop_zero, Nat.mul_one, ← h, List.take_of_length_le (by simp)]
  simp
theorem fix_ints (l : List Int) : fixLen (l.length * 1) (dropA (l.map int64) 0) = l.map int64 := by
  rw [dropA_eq, List.drop_zero, Nat.mul_one]
  induction l with
  | nil => rfl
  | cons x l ih => simp only [List.length_cons, List.map_cons, fixLen, ih]
theorem rounds_gt {n : Nat} (h : n ≤ maxLen) : n < rounds := by
  have h1 : maxLen = 9223372036854775807 := rfl
  have h2 : rounds = 100000000000000000000 := rfl
  omega
/-- An element of a list is read. -/
def ldI {A : Type} (xs : List Int) (i : Int) (k : Int → Option A) : Option A :=
  guardK (decide (0 ≤ i) && decide (i < (xs.length : Int))) <| guardK (Nat.blt (i.toNat * 1) (lenA (xs.map int64))) <| guardK (isIntK .i64 (nth (xs.map int64) (i.toNat * 1))) <| k (intOf (nth (xs.map int64) (i.toNat * 1)))
theorem ldI_eq {A : Type} {xs : List Int} {i : Nat} (h : i < xs.length) (k : Int → Option A) : ldI xs (i : Int) k = k xs[i] := by
  have h1 : (i : Int) < (xs.length : Int) := by omega
  have h3 : (i : Int).toNat * 1 = i := by omega
  have h5 : Nat.blt i xs.length = true := Nat.ble_eq_true_of_le h
  unfold ldI
  simp only [h3, lenM, nthM int64 xs i h, decide_eq_true h1, decide_eq_true (Int.natCast_nonneg i), guardK, Bool.and_self, cond_true, h5, int64, intOf, isIntK, decide_true]
theorem wrapN {i : Nat} (h : i < 9223372036854775807) : IntKind.i64.wrap ((i : Int) + 1) = ((i + 1 : Nat) : Int) := by
  rw [IntKind.wrap_i64]
  omega
theorem limit_ok {n : Nat} (h : n ≤ 17592186044416) : (Nat.ble (n * 8) limit && Nat.ble n limit) = true := by
  have h1 : limit = 140737488355328 := rfl
  rw [Bool.and_eq_true]
  exact ⟨Nat.ble_eq_true_of_le (by omega), Nat.ble_eq_true_of_le (by omega)⟩
/-! ### A fact, asked for of what the arguments are just now -/
variable {P : Program} {tb : FuncId → Option FnP}
def FactC (P : Program) (tb : FuncId → Option FnP) (f : FuncId) (a : List AV) (v : AV) : Prop :=
  scalarV v = true ∧ ∃ S, OrcOk P tb S ∧ evCall P S tb 100 AV (.fn f) a (mkHeap [] 0) .off rv = some v
theorem Fact.now {f : FuncId} {a : List AV} {v : AV} (h : Fact P tb f a v) (e : vwArgs P [] none0 (parsOf P f) a = a) : FactC P tb f a v := by
  obtain ⟨h1, S, hS, h2⟩ := h
  have := h2 none0
  rw [e] at this
  exact ⟨h1, S, hS, this⟩
noncomputable def atC (P : Program) (f : FuncId) (a : List AV) (v : AV) : CallF := fun _ args h u K => match u with
  | .off => bif same (vwArgs P [] h (parsOf P f) args) a then K (.ret v) h .off else none
  | _ => none
theorem natF_atC {f : FuncId} {a : List AV} {v : AV} : NatF (atC P f a v) := by
  intro A B args h m K K' u hk
  unfold atC
  cases m <;> first | rfl | skip
  simp only
  cases same (vwArgs P [] h (parsOf P f) args) a <;> first | rfl | exact hk _ _ _
theorem fnSim_atC (hT : TbOk P tb) {f : FuncId} {a : List AV} {v : AV} (hf : FactC P tb f a v) : FnSim P (LP tb) f (atC P f a v) := by
  obtain ⟨hv, S, hS, hr⟩ := hf
  refine fnSim_pt hT fun A args h u K r hh => ?_
  unfold atC at hh
  cases u with
  | off =>
    simp only at hh
    cases hs : same (vwArgs P [] h (parsOf P f) args) a with
    | false => rw [hs] at hh; cases hh
    | true =>
      rw [hs] at hh
      have e : vwArgs P [] h (parsOf P f) args = a := by
        unfold same at hs
        simpa using hs
      exact ⟨rfl, S, a, v, hS, e, hr, hv, hh⟩
  | _ => cases hh
noncomputable def knowC (P : Program) (f : FuncId) (a : List AV) (v : AV) (S : Orc) : Orc := addF f (atC P f a v) S
theorem knowC_ok (hT : TbOk P tb) {S : Orc} {f : FuncId} {a : List AV} {v : AV} (hf : FactC P tb f a v) (hS : OrcOk P tb S) : OrcOk P tb (knowC P f a v S) := addF_ok (fnSim_atC hT hf) natF_atC hS
end Go.Ev
/- Builders of lists of lists: at a loop's head the lists that were put in are not written any more. -/
namespace Go.Ev
variable {P : Program} {tb : FuncId → Option FnP} {S : Orc}
/-- What is in these blocks. -/
def frOf (h : Heap) : List Nat → List (Nat × List AV)
  | [] => []
  | b :: is => match h.m b with
    | some (.cells _ vs) => (b, vs) :: frOf h is
    | _ => frOf h is
def lookF (b : Nat) : List (Nat × List AV) → Option (List AV)
  | [] => none
  | x :: l => bif Nat.beq b x.1 then some x.2 else lookF b l
/-- A list that was put in, not written any more. -/
def cv (fr : List (Nat × List AV)) (v : AV) : AV := match v with
  | .sl (some (b, o)) len _ _ sz => (match lookF b fr with
    | some vs => .fz (fixLen (len * sz) (dropA vs o)) len false sz
    | none => .dead)
  | .gr (b, o) len sz => (match lookF b fr with
    | some vs => .fz (fixLen (len * sz) (dropA vs o)) len false sz
    | none => .dead)
  | v => v
def okC (fr : List (Nat × List AV)) (v : AV) : Bool := match v with
  | .sl (some (b, _)) _ _ _ _ => hasF b fr
  | .gr (b, _) _ _ => hasF b fr
  | v => calm v
where hasF (b : Nat) : List (Nat × List AV) → Bool
  | [] => false
  | x :: l => Nat.beq b x.1 || hasF b l
def allC (fr : List (Nat × List AV)) : List AV → Bool
  | [] => true
  | v :: vs => okC fr v && allC fr vs
def mapC (fr : List (Nat × List AV)) : List AV → List AV
  | [] => []
  | v :: vs => cv fr v :: mapC fr vs
/-- What temporaries hold is new, and of numbers. -/
def frOk (φ : List (Nat × Nat)) : List (Nat × List AV) → Bool
  | [] => true
  | x :: l => isNone' (find1 x.1 φ) && allS x.2 && frOk φ l
theorem frOf_mem {h : Heap} {b : Nat} {vs : List AV} : ∀ {is : List Nat}, (b, vs) ∈ frOf h is → ∃ w, h.m b = some (.cells w vs)
  | [], hm => by cases hm
  | i :: is, hm => by
    simp only [frOf] at hm
    split at hm
    · rename_i w vs' hb
      rcases List.mem_cons.1 hm with e | e
      · cases e; exact ⟨w, hb⟩
      · exact frOf_mem e
    · exact frOf_mem hm
theorem lookF_mem {b : Nat} {vs : List AV} : ∀ {l : List (Nat × List AV)}, lookF b l = some vs → (b, vs) ∈ l
  | [], h => by cases h
  | x :: l, h => by
    simp only [lookF] at h
    cases hb : Nat.beq b x.1 with
    | true =>
      rw [hb] at h; cases h
      have := Nat.eq_of_beq_eq_true hb
      subst this
      exact List.mem_cons_self
    | false => rw [hb] at h; exact List.mem_cons_of_mem _ (lookF_mem h)
theorem hasF_look {b : Nat} : ∀ {l : List (Nat × List AV)}, okC.hasF b l = true → ∃ vs, lookF b l = some vs
  | [], h => by cases h
  | x :: l, h => by
    simp only [okC.hasF, Bool.or_eq_true] at h
    simp only [lookF]
    cases hb : Nat.beq b x.1 with
    | true => exact ⟨_, rfl⟩
    | false =>
      rw [hb] at h
      rcases h with h | h
      · cases h
      · exact hasF_look h
theorem frOk_mem {φ : List (Nat × Nat)} {b : Nat} {vs : List AV} : ∀ {l : List (Nat × List AV)}, frOk φ l = true → (b, vs) ∈ l → find1 b φ = none ∧ allS vs = true
  | [], _, hm => by cases hm
  | x :: l, h, hm => by
    simp only [frOk, Bool.and_eq_true] at h
    rcases List.mem_cons.1 hm with e | e
    · subst e
      refine ⟨?_, h.1.2⟩
      have := h.1.1
      cases hf : find1 b φ with
      | none => rfl
      | some c => simp only [hf] at this; cases this
    · exact frOk_mem h.2 e
theorem allS_drop {n : Nat} : ∀ {l : List AV}, allS l = true → allS (dropA l n) = true := by
  intro l h
  rw [dropA_eq]
  induction n generalizing l with
  | zero => exact h
  | succ n ih =>
    cases l with
    | nil => rfl
    | cons x l =>
      simp only [allS, Bool.and_eq_true] at h
      exact ih h.2
theorem cv_eq {φ : List (Nat × Nat)} {h : Heap} {is : List Nat} {k : Nat} {v : AV} (hf : frOk φ (frOf h is) = true) (hv : okC (frOf h is) v = true) : vw P φ h false (k + 2) none v = cv (frOf h is) v := by
  have key : ∀ (b o len sz : Nat), okC.hasF b (frOf h is) = true → find1 b φ = none ∧ ∃ w vs, h.m b = some (.cells w vs) ∧ lookF b (frOf h is) = some vs ∧
      AV.fz (fixLen (len * sz) (mapCyc (vw P φ h true (k + 1)) (eLeaves P none) (eLeaves P none) (dropA vs o))) len false sz = .fz (fixLen (len * sz) (dropA vs o)) len false sz := fun b o len sz hb => by
    obtain ⟨vs, h1⟩ := hasF_look hb
    obtain ⟨a1, a2⟩ := frOk_mem hf (lookF_mem h1)
    obtain ⟨w, h2⟩ := frOf_mem (lookF_mem h1)
    exact ⟨a1, w, vs, h2, h1, by rw [mapCyc_simple _ _ _ (allS_drop a2)]⟩
  cases v with
  | sl p len cap ex sz =>
    cases p with
    | none => cases hv
    | some p =>
      obtain ⟨b, o⟩ := p
      obtain ⟨a1, w, vs, a2, a3, a4⟩ := key b o len sz hv
      simp only [vw, a1, a2, cv, a3]
      exact a4
  | gr p len sz =>
    obtain ⟨b, o⟩ := p
    obtain ⟨a1, w, vs, a2, a3, a4⟩ := key b o len sz hv
    simp only [vw, a1, a2, cv, a3]
    exact a4
  | int | bool | str => rfl
  | fz cs len ex sz => rfl
  | _ => cases hv
theorem mapC_eq {φ : List (Nat × Nat)} {h : Heap} {is : List Nat} {k : Nat} (hf : frOk φ (frOf h is) = true) : ∀ {vs : List AV}, allC (frOf h is) vs = true → mapCyc (vw P φ h false (k + 2)) [] [] vs = mapC (frOf h is) vs
  | [], _ => rfl
  | v :: vs, hv => by
    simp only [allC, Bool.and_eq_true] at hv
    simp only [mapCyc, mapC, cv_eq hf hv.1, mapC_eq hf hv.2]
/-- Which blocks are flat: lists of numbers; lists of lists (tm: new lists that may be put in). -/
structure Flat where
  fl : List Nat := []
  ro : List Nat := []
  tm : List Nat := []
def blkG (P : Program) (F : Flat) (fr : List (Nat × List AV)) (φ : List (Nat × Nat)) (h : Heap) (b c : Nat) : Option Blk := bif F.ro.any (Nat.beq c) then (match h.m b with
    | some (.cells w vs) => some (.cells w (mapC fr vs))
    | x => x.bind (vwB P φ h none)) else blkF P F.fl φ h b c
def vwBlksG (P : Program) (F : Flat) (fr : List (Nat × List AV)) (φ : List (Nat × Nat)) (h : Heap) : List (Nat × Nat) → List (Nat × Blk)
  | [] => []
  | (b, c) :: l => match blkG P F fr φ h b c with
    | some x => (c, x) :: vwBlksG P F fr φ h l
    | none => vwBlksG P F fr φ h l
def flatOkG (F : Flat) (fr : List (Nat × List AV)) (h : Heap) : List (Nat × Nat) → Bool
  | [] => true
  | (b, c) :: l => bif F.ro.any (Nat.beq c) then (match h.m b with
    | some (.cells _ vs) => allC fr vs && flatOkG F fr h l
    | _ => flatOkG F fr h l) else bif F.fl.any (Nat.beq c) then (match h.m b with
    | some (.cells _ vs) => allS vs && flatOkG F fr h l
    | _ => flatOkG F fr h l) else flatOkG F fr h l
theorem blkF_eq {fl : List Nat} {φ : List (Nat × Nat)} {h : Heap} {b c : Nat} (hb : ∀ w vs, fl.any (Nat.beq c) = true → h.m b = some (.cells w vs) → allS vs = true) : blkF P fl φ h b c = (h.m b).bind (vwB P φ h none) := by
  unfold blkF
  cases ha : fl.any (Nat.beq c) with
  | false => rfl
  | true =>
    simp only [cond_true]
    cases hm : h.m b with
    | none => rfl
    | some x =>
      cases x with
      | cells w vs =>
        simp only [Option.bind_some]
        show _ = some (Blk.cells w (mapCyc (vw P φ h false (7 + 1)) _ _ vs))
        rw [mapCyc_simple _ _ _ (hb w vs ha hm)]
      | _ => rfl
theorem vwBlksG_eq {F : Flat} {is : List Nat} {φ : List (Nat × Nat)} {h : Heap} (hf : frOk φ (frOf h is) = true) : ∀ l : List (Nat × Nat), flatOkG F (frOf h is) h l = true → vwBlksG P F (frOf h is) φ h l = vwBlks P φ h (fun _ => none) l
  | [], _ => rfl
  | (b, c) :: l, ho => by
    simp only [flatOkG] at ho
    have fin : ∀ q : Option Blk, blkG P F (frOf h is) φ h b c = q → (h.m b).bind (vwB P φ h none) = q → flatOkG F (frOf h is) h l = true → vwBlksG P F (frOf h is) φ h ((b, c) :: l) = vwBlks P φ h (fun _ => none) ((b, c) :: l) := fun q h1 h2 h3 => by
      simp only [vwBlksG, vwBlks, h1, h2, vwBlksG_eq hf l h3]
      cases q <;> rfl
    cases hr : F.ro.any (Nat.beq c) with
    | true =>
      rw [hr] at ho
      simp only [cond_true] at ho
      refine fin _ rfl ?_ ?_
      · unfold blkG
        rw [hr]
        simp only [cond_true]
        cases hm : h.m b with
        | none => rfl
        | some x =>
          rw [hm] at ho
          cases x with
          | cells w vs =>
            simp only [Bool.and_eq_true] at ho
            simp only [Option.bind_some]
            show some (Blk.cells w (mapCyc (vw P φ h false (6 + 2)) [] [] vs)) = _
            rw [mapC_eq hf ho.1]
          | _ => rfl
      · cases hm : h.m b with
        | none => rw [hm] at ho; exact ho
        | some x =>
          rw [hm] at ho
          cases x with
          | cells w vs => simp only [Bool.and_eq_true] at ho; exact ho.2
          | _ => exact ho
    | false =>
      rw [hr] at ho
      simp only [cond_false] at ho
      have e : blkG P F (frOf h is) φ h b c = blkF P F.fl φ h b c := by unfold blkG; rw [hr]; rfl
      refine fin _ rfl ?_ ?_
      · rw [e, blkF_eq]
        intro w vs ha hm
        rw [ha, hm] at ho
        simp only [cond_true, Bool.and_eq_true] at ho
        exact ho.1
      · cases ha : F.fl.any (Nat.beq c) with
        | false => rw [ha] at ho; exact ho
        | true =>
          rw [ha] at ho
          simp only [cond_true] at ho
          cases hm : h.m b with
          | none => rw [hm] at ho; exact ho
          | some x =>
            rw [hm] at ho
            cases x with
            | cells w vs => simp only [Bool.and_eq_true] at ho; exact ho.2
            | _ => exact ho
def normStG (P : Program) (N : Norm) (F : Flat) (n0 : Nat) (st : St) : St :=
  let ps := posT st.t N.pos ++ posD st.t st.h N.der
  let φ := pairsOf n0 ps 0 (idsN N st n0)
  { t := keepT (vw P φ st.h false deepV none) N.keep 0 st.t, h := mkHeap (vwBlksG P F (frOf st.h F.tm) φ st.h φ) (n0 + lenO ps), d := st.d.map (vwD P φ st.h), r := st.r }
def normKG (P : Program) (N : Norm) (F : Flat) (n0 : Nat) {A : Type} (st : St) (K : St → Option A) : Option A := match st.r with
  | .off => guardK (markLow n0 st.d) (guardK (frOk (pairsOf n0 (posT st.t N.pos ++ posD st.t st.h N.der) 0 (idsN N st n0)) (frOf st.h F.tm) && flatOkG F (frOf st.h F.tm) st.h (pairsOf n0 (posT st.t N.pos ++ posD st.t st.h N.der) 0 (idsN N st n0))) (K (normStG P N F n0 st)))
  | _ => none
theorem normKG_some {A : Type} {r : A} {N : Norm} {F : Flat} {n0 : Nat} {st : St} {K : St → Option A} (h : normKG P N F n0 st K = some r) : normK P N n0 st K = some r := by
  unfold normKG at h
  unfold normK
  split at h
  · rename_i hr
    rw [hr]
    simp only
    cases hm : markLow n0 st.d with
    | false => rw [hm] at h; cases h
    | true =>
      rw [hm] at h
      simp only [guardK, cond_true] at h ⊢
      cases hf : (frOk (pairsOf n0 (posT st.t N.pos ++ posD st.t st.h N.der) 0 (idsN N st n0)) (frOf st.h F.tm) && flatOkG F (frOf st.h F.tm) st.h (pairsOf n0 (posT st.t N.pos ++ posD st.t st.h N.der) 0 (idsN N st n0))) with
      | false => rw [hf] at h; cases h
      | true =>
        rw [hf] at h
        simp only [cond_true] at h
        simp only [Bool.and_eq_true] at hf
        have e : normStG P N F n0 st = normSt P N n0 st := by
          unfold normStG normSt
          simp only [vwBlksG_eq hf.1 _ hf.2]
        rw [← e]; exact h
  · cases h
theorem normKG_b {A B : Type} {u : B → Option A} {N : Norm} {F : Flat} {n0 : Nat} {st : St} {K : St → Option A} {K' : St → Option B} (hk : ∀ s, K s = (K' s).bind u) : normKG P N F n0 st K = (normKG P N F n0 st K').bind u := by
  unfold normKG guardK
  split
  · cases markLow n0 st.d <;> simp only [cond_true, cond_false] <;> first | rfl | skip
    generalize (frOk _ _ && flatOkG _ _ _ _) = q
    cases q <;> first | rfl | exact hk _
  · rfl
def loopKG (P : Program) (N : Norm) (F : Flat) (n0 : Nat) {A : Type} (body : St → (Ex → St → Option A) → Option A) (st : St) (K : Ex → St → Option A) : Option A :=
  body st fun e s => match e with
    | .pan v => K (.pan v) s
    | e => normKG P (N.on e) F n0 s fun s => K e s
def loopBG (P : Program) (S : Orc) (tb : FuncId → Option FnP) (f : FuncId) (id : Nat) (F : Flat) (n0 : Nat) {A : Type} (st : St) (K : Ex → St → Option A) : Option A := match tb f with
  | some e => (match loopC id e.code, e.plan.norm id with
    | some c, some N => loopKG P N F n0 (fun st K => evCode P (e.plan.stops (S.s f)) (evCall P S tb 100) (butL id (S.l f)) f none c st K) st K
    | _, _ => none)
  | none => none
theorem loopBG_some (hS : OrcOk P tb S) {f : FuncId} {id : Nat} {F : Flat} {n0 : Nat} {A : Type} {r : A} {st : St} {K K' : Ex → St → Option A} (hk : ∀ e s, K e s = some r → K' e s = some r) (h : loopBG P S tb f id F n0 st K = some r) :
    loopB P S tb f id n0 st K' = some r := by
  unfold loopBG at h
  unfold loopB
  split at h
  · rename_i e he
    rw [he]
    simp only
    split at h
    · rename_i c N hc hN
      simp only [hc, hN]
      have nat : ∀ (Q : Ex → St → Option A), evCode P (e.plan.stops (S.s f)) (evCall P S tb 100) (butL id (S.l f)) f none c st Q = (evCode P (e.plan.stops (S.s f)) (evCall P S tb 100) (butL id (S.l f)) f none c st pairE).bind fun x => Q x.1 x.2 := fun Q =>
        evCode_b (evCall_b hS.nf hS.nl 100) (fun j g hg => by
          have hg : (bif Nat.beq j id then none else S.l f j) = some g := hg
          cases hj : Nat.beq j id with
          | false => rw [hj] at hg; exact hS.nl f j g hg
          | true => rw [hj] at hg; cases hg) _ st Q pairE (fun _ _ => rfl)
      unfold loopKG at h
      unfold loopK
      dsimp only at h ⊢
      rw [nat] at h ⊢
      obtain ⟨⟨x, s⟩, h1, h2⟩ := Option.bind_eq_some_iff.1 h
      rw [h1]
      simp only [Option.bind_some] at h2 ⊢
      cases x with
      | pan v => exact hk _ _ h2
      | _ =>
        simp only at h2 ⊢
        have h3 := normKG_some h2
        unfold normK at h3 ⊢
        split at h3
        · unfold guardK at h3 ⊢
          cases hm : markLow n0 s.d with
          | false => rw [hm] at h3; cases h3
          | true => rw [hm] at h3; simp only [cond_true] at h3 ⊢; exact hk _ _ h3
        · cases h3
    · cases h
  · cases h
theorem loopNG_some (hS : OrcOk P tb S) {f : FuncId} {id : Nat} {F : Flat} {n0 : Nat} {A : Type} {r : A} {K : Ex → St → Option A} : ∀ (n : Nat) (st : St), loopN (loopBG P S tb f id F n0) n st K = some r → loopN (loopB P S tb f id n0) n st K = some r
  | 0, st, h => by cases h
  | n + 1, st, h => by
    rw [loopN_succ] at h ⊢
    refine loopBG_some hS (fun e s he => ?_) h
    cases e with
    | normal => exact loopNG_some hS n s he
    | _ => exact he
theorem LFact.flatG (hS : OrcOk P tb S) {f : FuncId} {id : Nat} {F : Flat} {n0 : Nat} {st0 : St} {e : Ex} {s1 : St} (h : loopN (loopBG P S tb f id F n0) rounds st0 pairE = some (e, s1)) : LFact P tb f id n0 st0 e s1 :=
  ⟨S, hS, loopNG_some hS rounds st0 h⟩
noncomputable def atLG (P : Program) (N : Norm) (F : Flat) (n0 : Nat) (st0 : St) (e : Ex) (s1 : St) : LoopF := fun _ st K =>
  bif Nat.beq st.h.next n0 then normKG P N F n0 st fun s => bif sameSt s st0 then K e s1 else none else none
theorem natL_atG {N : Norm} {F : Flat} {n0 : Nat} {st0 s1 : St} {e : Ex} : NatL (atLG P N F n0 st0 e s1) := by
  intro A B st K K' u hk
  unfold atLG
  cases Nat.beq st.h.next n0 <;> simp only [cond_true, cond_false] <;> first | rfl | skip
  refine normKG_b fun s => ?_
  cases sameSt s st0 <;> first | rfl | exact hk _ _
theorem loopSim_atG (hT : TbOk P tb) {f : FuncId} {id n0 : Nat} {F : Flat} {N : Norm} {st0 s1 : St} {e : Ex} (hf : LFact P tb f id n0 st0 e s1) {ep : FnP} (he : tb f = some ep) (hN : loopN0 tb f id = some N) {c : Code} (hc : loopC id ep.code = some c) :
    LoopSim P (LP tb) f c (atLG P N F n0 st0 e s1) := by
  intro A r K Z kind cs₀ b k ρ st a w cs hL hb hfn hro hSt hg
  refine loopSim_at hT hf he hN hc A r K Z kind cs₀ b k ρ st a w cs hL hb hfn hro hSt ?_
  unfold atLG at hg
  unfold atL
  cases hn : Nat.beq st.h.next n0 with
  | false => rw [hn] at hg; cases hg
  | true =>
    rw [hn] at hg
    simp only [cond_true] at hg ⊢
    exact normKG_some hg
noncomputable def knowLG (P : Program) (f : FuncId) (id : Nat) (N : Norm) (F : Flat) (n0 : Nat) (st0 : St) (e : Ex) (s1 : St) (S : Orc) : Orc := addL f id (atLG P N F n0 st0 e s1) S
theorem knowLG_ok (hT : TbOk P tb) {f : FuncId} {id n0 : Nat} {F : Flat} {N : Norm} {st0 s1 : St} {e : Ex} (hf : LFact P tb f id n0 st0 e s1) (hS : OrcOk P tb S) {ep : FnP} (he : tb f = some ep) (hN : loopN0 tb f id = some N) (hc : Nat.ble (countL id ep.code) 1 = true) :
    OrcOk P tb (knowLG P f id N F n0 st0 e s1 S) := addL_gen hS he hc (fun _ hb => loopSim_atG hT hf he hN hb) natL_atG
end Go.Ev
/- A function that only reads, told of by the numbers among what it tells; its arguments are seen as they are just now. -/
namespace Go.Ev
variable {P : Program} {tb : FuncId → Option FnP} {S : Orc}
def deadS (v : AV) : AV := bif scalar v then v else .dead
def deadV (v : AV) : AV := match v with
  | .tup vs => .tup (vs.map deadS)
  | v => deadS v
theorem deadS_R {ρ ρ' : Loc} {v : AV} {v' : Value} (h : R ρ v v') : R ρ' (deadS v) v' := by
  unfold deadS
  cases hs : scalar v with
  | false => exact .dead _
  | true =>
    simp only [cond_true]
    have : scalarV v = true := by cases v <;> first | exact hs | cases hs
    exact scalarV_R this h
theorem deadV_R {ρ ρ' : Loc} {v : AV} {v' : Value} (h : R ρ v v') : R ρ' (deadV v) v' := by
  cases v with
  | tup vs =>
    obtain ⟨cs', rfl, hc⟩ := h.of_tup
    show R ρ' (.tup (vs.map deadS)) _
    cases h with
    | tup h1 h2 =>
      refine .tup (by simpa using h1) fun i a a' ha ha' => ?_
      rw [List.getElem?_map] at ha
      obtain ⟨b, hb, rfl⟩ := Option.map_eq_some_iff.1 ha
      exact deadS_R (h2 i b a' hb ha')
  | _ => exact deadS_R h
/-- What is told, but for lists and places. -/
def dvK : Out → Heap → Md → Option AV := fun out _ u => match u with
  | .off => (match out with
    | .ret v => some (deadV v)
    | _ => none)
  | _ => none
def locD (P : Program) (S : Orc) (tb : FuncId → Option FnP) (f : FuncId) : CallF := fun _ args h u K => match u with
  | .off => (match evCall P S tb 100 (AV × Heap) (.fn f) (vwArgs P [] h (parsOf P f) args) (mkHeap [] 0) .off pairK with
    | some r => K (.ret (deadV r.1)) h .off
    | none => none)
  | _ => none
theorem fnSim_locD (hT : TbOk P tb) (hSm : OrcOk P tb S) (f : FuncId) : FnSim P (LP tb) f (locD P S tb f) := by
  intro A K r args h u args' ρ Z w kind cs₀ cs hL hg hr ha hcs
  cases u <;> first | (cases hg; done) | skip
  unfold locD at hg
  simp only at hg
  split at hg
  rotate_left
  · cases hg
  rename_i rr hrun
  obtain ⟨v, h₁⟩ := rr
  simp only at hg
  have hLf : LFree Z.L := by rw [hL]; exact LP_free tb
  have hφ : RenOk [] 0 0 := ⟨by simp, by simp, (fun b c hm => by cases hm), (fun b c hm => by cases hm), Nat.le_refl _⟩
  have hr1 := view (P := P) (ty := fun _ => none) hr hφ hLf
  have hr2 := hr1.frame
  have hargs := vwArgs_RL (P := P) (sees_locOf (h := h) (ρ := ρ) hφ) (parsOf P f) ha
  have hkn : kind = .normal ∧ cs = cs₀ := by
    rcases hcs with ⟨a, _, b⟩ | ⟨_, _, _, _, _, _, hu⟩
    · exact ⟨a, b⟩
    · exact hu.elim
  obtain ⟨rfl, rfl⟩ := hkn
  obtain ⟨e1, out, h', u', ρ1, w', cs', fr, k1, k2, k3, k4, k5, k6, k7⟩ := (callSim_of hT hSm 100).fn _ pairK (v, h₁) f _ _ .off args' (locOf P [] 0 h ρ) (Z.frame (locOf P [] 0 h ρ) (mkHeap [] 0).m w) w .normal cs cs hL hrun hr2 hargs (.inl ⟨rfl, rfl, rfl⟩)
  have hout : out = .ret v ∧ h' = h₁ ∧ u' = .off := by
    unfold pairK at k1
    split at k1
    · simp only [Option.some.injEq, Prod.mk.injEq] at k1
      exact ⟨by rw [k1.1], k1.2, rfl⟩
    · cases k1
  obtain ⟨rfl, rfl, rfl⟩ := hout
  have hcs' : cs' = cs := k4.normal.2
  subst hcs'
  obtain ⟨v', hv, hgo⟩ := k7
  have hl : Low (Z.read w) w w' := ⟨k3.low.os, k3.low.tape, k3.low.output, k3.low.size, fun q hq => k3.low.block q (.inr (.inl ⟨hq, fun b x p hb => by cases hb⟩))⟩
  refine ⟨e1, .ret (deadV v), h, .off, ρ, w', cs', fr, hg, k2, ⟨Grows.refl _, fun _ _ => rfl, Nat.le_refl _, hr.more (n := h.next) (GrowsS.refl _) hl hr.fresh, hl.unread hr⟩, .inl ⟨rfl, rfl, rfl⟩, k5, k6, v', deadV_R hv, hgo⟩
/-- A fact of a function that only reads: the numbers among what it tells. -/
def DFact (P : Program) (tb : FuncId → Option FnP) (f : FuncId) (a : List AV) (v : AV) : Prop :=
  ∃ S, OrcOk P tb S ∧ evCall P S tb 100 AV (.fn f) a (mkHeap [] 0) .off dvK = some v
noncomputable def atD (P : Program) (f : FuncId) (a : List AV) (v : AV) : CallF := fun _ args h u K => match u with
  | .off => guardK (okA h args) (bif same (flatA P h (parsOf P f) args) a then K (.ret v) h .off else none)
  | _ => none
theorem natF_atD {f : FuncId} {a : List AV} {v : AV} : NatF (atD P f a v) := by
  intro A B args h m K K' u hk
  unfold atD guardK
  cases m <;> first | rfl | skip
  simp only
  cases okA h args <;> first | rfl | skip
  simp only [cond_true]
  cases same (flatA P h (parsOf P f) args) a <;> first | rfl | exact hk _ _ _
theorem fnSim_atD (hT : TbOk P tb) {f : FuncId} {a : List AV} {v : AV} (hf : DFact P tb f a v) : FnSim P (LP tb) f (atD P f a v) := by
  obtain ⟨S, hS, hr⟩ := hf
  have e : evCall P S tb 100 AV (.fn f) a (mkHeap [] 0) .off dvK = (evCall P S tb 100 (AV × Heap) (.fn f) a (mkHeap [] 0) .off pairK).bind fun x => some (deadV x.1) :=
    evCall_b hS.nf hS.nl 100 AV (AV × Heap) (.fn f) a (mkHeap [] 0) .off _ pairK _ fun o h m => by
      cases m <;> cases o <;> rfl
  rw [e] at hr
  obtain ⟨⟨v1, h1⟩, hr1, hr2⟩ := Option.bind_eq_some_iff.1 hr
  cases hr2
  intro A K r args h u args' ρ Z w kind cs₀ cs hL hg hr0 ha0 hcs
  unfold atD at hg
  cases u with
  | off =>
    simp only at hg
    obtain ⟨ho, hg⟩ := guardK_some hg
    cases hs : same (flatA P h (parsOf P f) args) a with
    | false => rw [hs] at hg; cases hg
    | true =>
      rw [hs] at hg
      have ea : flatA P h (parsOf P f) args = a := by
        unfold same at hs
        simpa using hs
      refine fnSim_locD hT hS f A K r args h .off args' ρ Z w kind cs₀ cs hL ?_ hr0 ha0 hcs
      show locD P S tb f A args h .off K = some r
      unfold locD
      simp only [flatA_eq _ _ ho, ea, hr1]
      exact hg
  | _ => cases hg
noncomputable def knowD (P : Program) (f : FuncId) (a : List AV) (v : AV) (S : Orc) : Orc := addF f (atD P f a v) S
theorem knowD_ok (hT : TbOk P tb) {f : FuncId} {a : List AV} {v : AV} (hf : DFact P tb f a v) (hS : OrcOk P tb S) : OrcOk P tb (knowD P f a v S) := addF_ok (fnSim_atD hT hf) natF_atD hS
end Go.Ev
/- slices.Clone: a list that is not written any more is told again, whether it is nil or not. -/
namespace Go.Ev
variable {P : Program} {tb : FuncId → Option FnP} {S : Orc}
theorem zero_R {ρ ρ' : Loc} {p : Option (Nat × Nat)} {cap sz sz' : Nat} {ex : Bool} {v' : Value} (h : R ρ (.sl p 0 cap ex sz) v') : R ρ' (.fz [] 0 false sz') v' := by
  cases h with
  | sln => exact .fz (fun h0 => absurd h0 (Nat.lt_irrefl _)) (fun _ => rfl) (by simp) (Nat.le_refl 0) (by simp) (fun _ hx => by cases hx)
  | sl hp h1 h2 h3 h4 => exact .fz (fun h0 => absurd h0 (Nat.lt_irrefl _)) (fun e => by cases e) (by simp) (Nat.zero_le _) (by simp) (fun x hx h0 => by cases hx; rw [(h3 h0).1])
/-- Of a list of no elements such a list is told. -/
def emptyO (sz : Nat) : CallF := fun _ args h u K => match args, u with
  | [.fz _ len _ s], .off => bif Nat.beq len 0 && Nat.beq s sz then K (.ret (.fz [] 0 false sz)) h .off else none
  | _, _ => none
theorem natF_empty {sz : Nat} : NatF (emptyO sz) := by
  intro A B args h m K K' u hk
  unfold emptyO
  split
  · rename_i len ex s
    cases (Nat.beq len 0 && Nat.beq s sz) <;> first | rfl | exact hk _ _ _
  · rfl
theorem fnSim_empty (hT : TbOk P tb) (hSm : OrcOk P tb S) {f : FuncId} {sz : Nat}
    (h1 : ∃ p1 c1 e1 s1 g1, evCall P S tb 100 (AV × Heap) (.fn f) [.sl none 0 0 true sz] (mkHeap [] 0) .off pairK = some (.sl p1 0 c1 e1 s1, g1))
    (h2 : ∃ p1 c1 e1 s1 g1, evCall P S tb 100 (AV × Heap) (.fn f) [.sl (some (0, 0)) 0 0 false sz] (mkHeap [] 1) .off pairK = some (.sl p1 0 c1 e1 s1, g1)) : FnSim P (LP tb) f (emptyO sz) := by
  intro A K r args h u args' ρ Z w kind cs₀ cs hL hg hr ha hcs
  unfold emptyO at hg
  split at hg
  rotate_left
  · cases hg
  rename_i ccs len ex s
  cases hc : (Nat.beq len 0 && Nat.beq s sz) with
  | false => rw [hc] at hg; cases hg
  | true =>
  rw [hc] at hg
  simp only [cond_true] at hg
  simp only [Bool.and_eq_true] at hc
  have e1 := Nat.eq_of_beq_eq_true hc.1
  have e2 := Nat.eq_of_beq_eq_true hc.2
  subst e1
  subst e2
  have hLf : LFree Z.L := by rw [hL]; exact LP_free tb
  have hφ : RenOk [] 0 0 := ⟨by simp, by simp, (fun b c hm => by cases hm), (fun b c hm => by cases hm), Nat.le_refl _⟩
  have hr1 := view (P := P) (ty := fun _ => none) hr hφ hLf
  have hkn : kind = .normal ∧ cs = cs₀ := by
    rcases hcs with ⟨a, _, b⟩ | ⟨_, _, _, _, _, _, hu⟩
    · exact ⟨a, b⟩
    · exact hu.elim
  obtain ⟨rfl, rfl⟩ := hkn
  -- whichever run it is
  have fin : ∀ (ρv : Loc) (n : Nat) (arg : AV), Rep ρv (mkHeap [] n) Z w → RL ρv [arg] args'.toList → (∃ p1 c1 e1 s1 g1, evCall P S tb 100 (AV × Heap) (.fn f) [arg] (mkHeap [] n) .off pairK = some (.sl p1 0 c1 e1 s1, g1)) →
      (∀ w, (callFunc f args').run P w = .ok (.enter f args') w) ∧ ∃ out h' u' ρ' w' cs' fr, K out h' u' = some r ∧ Steps P (lone (Frame.enter P f args' .normal) cs w) (lone fr cs' w') ∧ Went ρ ρ' Z h.next h' w w' ∧ CSR ρ' .normal cs u' cs' ∧ fr.kind = .normal ∧ fr.fn = f ∧ OutG P ρ' fr w' out := fun ρv n arg hrv hargs ⟨p1, c1, x1, s1, g1, hrun⟩ => by
    have hr2 := hrv.frame
    obtain ⟨e1, out, h', u', ρ1, w', cs', fr, k1, k2, k3, k4, k5, k6, k7⟩ := (callSim_of hT hSm 100).fn _ pairK (.sl p1 0 c1 x1 s1, g1) f _ _ .off args' ρv (Z.frame ρv (mkHeap [] n).m w) w .normal cs cs hL hrun hr2 hargs (.inl ⟨rfl, rfl, rfl⟩)
    have hout : out = .ret (.sl p1 0 c1 x1 s1) ∧ u' = .off := by
      unfold pairK at k1
      split at k1
      · simp only [Option.some.injEq, Prod.mk.injEq] at k1
        exact ⟨by rw [k1.1], rfl⟩
      · cases k1
    obtain ⟨rfl, rfl⟩ := hout
    have hcs' : cs' = cs := k4.normal.2
    subst hcs'
    obtain ⟨v', hv, hgo⟩ := k7
    have hl : Low (Z.read w) w w' := ⟨k3.low.os, k3.low.tape, k3.low.output, k3.low.size, fun q hq => k3.low.block q (.inr (.inl ⟨hq, fun b x p hb => by cases hb⟩))⟩
    exact ⟨e1, .ret _, h, .off, ρ, w', cs', fr, hg, k2, ⟨Grows.refl _, fun _ _ => rfl, Nat.le_refl _, hr.more (n := h.next) (GrowsS.refl _) hl hr.fresh, hl.unread hr⟩, .inl ⟨rfl, rfl, rfl⟩, k5, k6, v', zero_R hv, hgo⟩
  obtain ⟨v0, hv0, hav⟩ : ∃ v0, args'.toList = [v0] ∧ R ρ (.fz ccs 0 ex s) v0 := by
    have hl := ha.len
    obtain ⟨v0, h0⟩ : ∃ v0, args'.toList = [v0] := by
      cases hq : args'.toList with
      | nil => rw [hq] at hl; simp at hl
      | cons v0 l =>
        cases l with
        | nil => exact ⟨v0, rfl⟩
        | cons _ _ => rw [hq] at hl; simp at hl
    rw [h0] at ha
    exact ⟨v0, h0, ha.head⟩
  obtain ⟨a, cap', rfl, _, hnil, _, _, _⟩ := hav.fz_inv
  have hspot := hav.fz_spot
  rw [hv0] at fin
  cases a with
  | none =>
    have := hnil rfl
    subst this
    exact fin _ 0 _ hr1 (RL.cons (.sln s) (RL.nil _)) h1
  | some x =>
    let ρv : Loc := ⟨fun b => if b = 0 then some ⟨x.block, x.off, cap' * s⟩ else none, (locOf P [] 0 h ρ).F⟩
    have hrv : Rep ρv (mkHeap [] 1) Z w := by
      refine ⟨fun b y hb => (by cases hb), fun b b' y y' p p' hb => (by cases hb), hr1.old, fun b hb => ?_, fun b o cs hf => ?_⟩
      · have hb : 1 ≤ b := hb
        show (if b = 0 then some _ else none) = none
        rw [if_neg (by omega)]
      · obtain ⟨⟨c, e, fz, g1, g2, g3⟩, f2, f3, f4⟩ := hr1.frz b o cs hf
        refine ⟨⟨c, e, fz, g1, g2, fun i v hi => ?_⟩, fun c y p hc => (by cases hc), f3, f4⟩
        obtain ⟨v', a1, b1⟩ := g3 i v hi
        exact ⟨v', a1, b1.pure (show ∀ b o cs, (locOf P [] 0 h ρ).F b o cs → ρv.F b o cs from fun _ _ _ h => h) (f4 v (List.mem_of_getElem? hi))⟩
    refine fin ρv 1 _ hrv (RL.cons (.sl (p := ⟨x.block, x.off, cap' * s⟩) (if_pos rfl) (Nat.zero_le _) (by simp) (fun h0 => ⟨?_, by simp⟩) (Nat.le_refl _)) (RL.nil _)) h2
    have := hspot x rfl h0
    obtain ⟨xb, xo, xs⟩ := x
    simp only at this
    subst this
    rfl
/-- One oracle or another. -/
def orF (c : List AV → Bool) (g g' : CallF) : CallF := fun A args h u K => bif c args then g A args h u K else g' A args h u K
theorem natF_or {c : List AV → Bool} {g g' : CallF} (hg : NatF g) (hg' : NatF g') : NatF (orF c g g') := by
  intro A B args h m K K' u hk
  unfold orF
  cases c args
  · exact hg' A B args h m K K' u hk
  · exact hg A B args h m K K' u hk
theorem fnSim_or {f : FuncId} {c : List AV → Bool} {g g' : CallF} (hg : FnSim P (LP tb) f g) (hg' : FnSim P (LP tb) f g') : FnSim P (LP tb) f (orF c g g') := by
  intro A K r args h u args' ρ Z w kind cs₀ cs hL hh hr ha hcs
  unfold orF at hh
  cases hc : c args with
  | false => rw [hc] at hh; exact hg' A K r args h u args' ρ Z w kind cs₀ cs hL hh hr ha hcs
  | true => rw [hc] at hh; exact hg A K r args h u args' ρ Z w kind cs₀ cs hL hh hr ha hcs
theorem fnSim_whenF (hT : TbOk P tb) {f : FuncId} {G : List AV → Bool} {V : List AV → AV} (hf : ∀ a, G a = true → FFact P tb f a (V a)) : FnSim P (LP tb) f (whenO G V) := by
  intro A K r args h u args' ρ Z w kind cs₀ cs hL hh hr ha hcs
  unfold whenO at hh
  cases u with
  | off =>
    simp only at hh
    cases hs : G args with
    | false => rw [hs] at hh; cases hh
    | true =>
      rw [hs] at hh
      refine fnSim_atF hT (hf args hs) A K r args h .off args' ρ Z w kind cs₀ cs hL ?_ hr ha hcs
      unfold atO
      simp only [same_self, cond_true]
      exact hh
  | _ => cases hh
def isEmptyA : List AV → Bool
  | [.fz _ len _ _] => Nat.beq len 0
  | _ => false
def sameF1 : List AV → AV
  | [.fz cs len _ s] => .fz cs len false s
  | _ => .dead
/-- A list told again. -/
def cloneO (sz : Nat) (G : List AV → Bool) : CallF := orF isEmptyA (emptyO sz) (whenO G sameF1)
end Go.Ev
