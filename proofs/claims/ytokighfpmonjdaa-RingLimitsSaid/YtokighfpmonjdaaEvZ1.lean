/- Builders: at a loop's head blocks of numbers, bools and strings alone stay as they are; a function that tells lists of such is told of by what it tells. -/
import Derived.Test.YtokighfpmonjdaaEvZ
namespace Go.Ev
variable {P : Program} {tb : FuncId → Option FnP} {S : Orc}
/-- Numbers, bools, strings, and lists that are not written any more. -/
def calm : AV → Bool
  | .int _ _ | .bool _ | .str _ => true
  | .fz _ _ ex _ => !ex
  | _ => false
def allS : List AV → Bool
  | [] => true
  | v :: vs => calm v && allS vs
theorem vw_simple {φ : List (Nat × Nat)} {h : Heap} {pur : Bool} {k : Nat} {l : Option TypeId} {v : AV} (hv : calm v = true) : vw P φ h pur (k + 1) l v = v := by
  cases v <;> first | rfl | cases hv | skip
  rename_i cs len ex sz
  cases ex with
  | true => cases hv
  | false => cases l <;> rfl
theorem mapCyc_simple {φ : List (Nat × Nat)} {h : Heap} {pur : Bool} {k : Nat} (all : List (Option TypeId)) : ∀ (cs : List AV) (ls : List (Option TypeId)), allS cs = true → mapCyc (vw P φ h pur (k + 1)) all ls cs = cs
  | [], ls, _ => by cases ls <;> rfl
  | c :: cs, ls, hc => by
    simp only [allS, Bool.and_eq_true] at hc
    have ih : ∀ ls, mapCyc (vw P φ h pur (k + 1)) all ls cs = cs := fun ls => mapCyc_simple all cs ls hc.2
    cases ls with
    | cons l ls => simp only [mapCyc, vw_simple hc.1, ih]
    | nil =>
      cases all with
      | nil => simp only [mapCyc, vw_simple hc.1, ih]
      | cons l ls => simp only [mapCyc, vw_simple hc.1, ih]
def blkF (P : Program) (fl : List Nat) (φ : List (Nat × Nat)) (h : Heap) (b c : Nat) : Option Blk := bif fl.any (Nat.beq c) then (match h.m b with
    | some (.cells w vs) => some (.cells w vs)
    | x => x.bind (vwB P φ h none)) else (h.m b).bind (vwB P φ h none)
def vwBlksF (P : Program) (fl : List Nat) (φ : List (Nat × Nat)) (h : Heap) : List (Nat × Nat) → List (Nat × Blk)
  | [] => []
  | (b, c) :: l => match blkF P fl φ h b c with
    | some x => (c, x) :: vwBlksF P fl φ h l
    | none => vwBlksF P fl φ h l
def flatOk (fl : List Nat) (h : Heap) : List (Nat × Nat) → Bool
  | [] => true
  | (b, c) :: l => bif fl.any (Nat.beq c) then (match h.m b with
    | some (.cells _ vs) => allS vs && flatOk fl h l
    | _ => flatOk fl h l) else flatOk fl h l
theorem vwBlksF_eq {fl : List Nat} {φ : List (Nat × Nat)} {h : Heap} : ∀ l : List (Nat × Nat), flatOk fl h l = true → vwBlksF P fl φ h l = vwBlks P φ h (fun _ => none) l
  | [], _ => rfl
  | (b, c) :: l, hf => by
    simp only [flatOk] at hf
    simp only [vwBlksF, vwBlks, blkF]
    cases ha : fl.any (Nat.beq c) with
    | false =>
      rw [ha] at hf
      simp only [cond_false] at hf ⊢
      rw [vwBlksF_eq l hf]
      cases (h.m b).bind (vwB P φ h none) <;> rfl
    | true =>
      rw [ha] at hf
      simp only [cond_true] at hf ⊢
      cases hb : h.m b with
      | none =>
        rw [hb] at hf
        simp only at hf
        simp only [Option.bind_none]
        exact vwBlksF_eq l hf
      | some x =>
        rw [hb] at hf
        cases x with
        | cells w vs =>
          simp only [Bool.and_eq_true] at hf
          have e : vwB P φ h none (.cells w vs) = some (.cells w vs) := by
            show some (Blk.cells w (mapCyc (vw P φ h false (7 + 1)) _ _ vs)) = _
            rw [mapCyc_simple _ _ _ hf.1]
          simp only [Option.bind_some, e, vwBlksF_eq l hf.2]
        | _ =>
          simp only at hf
          simp only [Option.bind_some, vwBlksF_eq l hf]
          generalize vwB P φ h none _ = q
          cases q <;> rfl
def normStF (P : Program) (N : Norm) (fl : List Nat) (n0 : Nat) (st : St) : St :=
  let ps := posT st.t N.keep ++ posD st.t st.h N.der
  let φ := pairsOf n0 ps 0 (idents st.h n0)
  { t := keepT (vw P φ st.h false deepV none) N.keep 0 st.t, h := mkHeap (vwBlksF P fl φ st.h φ) (n0 + lenO ps), d := st.d.map (vwD P φ st.h), r := st.r }
def normKF (P : Program) (N : Norm) (fl : List Nat) (n0 : Nat) {A : Type} (st : St) (K : St → Option A) : Option A := match st.r with
  | .off => guardK (markLow n0 st.d) (guardK (flatOk fl st.h (pairsOf n0 (posT st.t N.keep ++ posD st.t st.h N.der) 0 (idents st.h n0))) (K (normStF P N fl n0 st)))
  | _ => none
theorem normKF_some {A : Type} {r : A} {N : Norm} {fl : List Nat} {n0 : Nat} {st : St} {K : St → Option A} (h : normKF P N fl n0 st K = some r) : normK P N n0 st K = some r := by
  unfold normKF at h
  unfold normK
  split at h
  · rename_i hr
    rw [hr]
    simp only
    cases hm : markLow n0 st.d with
    | false => rw [hm] at h; cases h
    | true =>
      rw [hm] at h
      simp only [guardK, cond_true] at h ⊢
      cases hf : flatOk fl st.h (pairsOf n0 (posT st.t N.keep ++ posD st.t st.h N.der) 0 (idents st.h n0)) with
      | false => rw [hf] at h; cases h
      | true =>
        rw [hf] at h
        simp only [cond_true] at h
        have e : normStF P N fl n0 st = normSt P N n0 st := by
          unfold normStF normSt
          simp only [vwBlksF_eq _ hf]
        rw [← e]; exact h
  · cases h
theorem normKF_b {A B : Type} {u : B → Option A} {N : Norm} {fl : List Nat} {n0 : Nat} {st : St} {K : St → Option A} {K' : St → Option B} (hk : ∀ s, K s = (K' s).bind u) : normKF P N fl n0 st K = (normKF P N fl n0 st K').bind u := by
  unfold normKF guardK
  split
  · cases markLow n0 st.d <;> simp only [cond_true, cond_false] <;> first | rfl | skip
    generalize flatOk fl st.h _ = q
    cases q <;> first | rfl | exact hk _
  · rfl
def loopKF (P : Program) (N : Norm) (fl : List Nat) (n0 : Nat) {A : Type} (body : St → (Ex → St → Option A) → Option A) (st : St) (K : Ex → St → Option A) : Option A :=
  body st fun e s => match e with
    | .pan v => K (.pan v) s
    | e => normKF P N fl n0 s fun s => K e s
def loopBF (P : Program) (S : Orc) (tb : FuncId → Option FnP) (f : FuncId) (id : Nat) (fl : List Nat) (n0 : Nat) {A : Type} (st : St) (K : Ex → St → Option A) : Option A := match tb f with
  | some e => (match loopC id e.code, e.plan.norm id with
    | some c, some N => loopKF P N fl n0 (fun st K => evCode P (e.plan.stops (S.s f)) (evCall P S tb 100) (butL id (S.l f)) f none c st K) st K
    | _, _ => none)
  | none => none
theorem loopBF_some (hS : OrcOk P tb S) {f : FuncId} {id : Nat} {fl : List Nat} {n0 : Nat} {A : Type} {r : A} {st : St} {K K' : Ex → St → Option A} (hk : ∀ e s, K e s = some r → K' e s = some r) (h : loopBF P S tb f id fl n0 st K = some r) :
    loopB P S tb f id n0 st K' = some r := by
  unfold loopBF at h
  unfold loopB
  split at h
  · rename_i e he
    rw [he]
    simp only
    split at h
    · rename_i c N hc hN
      simp only [hc, hN]
      have nat : ∀ (Q : Ex → St → Option A), evCode P (e.plan.stops (S.s f)) (evCall P S tb 100) (butL id (S.l f)) f none c st Q = (evCode P (e.plan.stops (S.s f)) (evCall P S tb 100) (butL id (S.l f)) f none c st pairE).bind fun x => Q x.1 x.2 := fun Q =>
        evCode_b (evCall_b hS.nf hS.nl 100) (fun j g hg => by
          have hg : (bif Nat.beq j id then none else S.l f j) = some g := hg
          cases hj : Nat.beq j id with
          | false => rw [hj] at hg; exact hS.nl f j g hg
          | true => rw [hj] at hg; cases hg) _ st Q pairE (fun _ _ => rfl)
      unfold loopKF at h
      unfold loopK
      dsimp only at h ⊢
      rw [nat] at h ⊢
      obtain ⟨⟨x, s⟩, h1, h2⟩ := Option.bind_eq_some_iff.1 h
      rw [h1]
      simp only [Option.bind_some] at h2 ⊢
      cases x with
      | pan v => exact hk _ _ h2
      | _ =>
        simp only at h2 ⊢
        have h3 := normKF_some h2
        unfold normK at h3 ⊢
        split at h3
        · unfold guardK at h3 ⊢
          cases hm : markLow n0 s.d with
          | false => rw [hm] at h3; cases h3
          | true => rw [hm] at h3; simp only [cond_true] at h3 ⊢; exact hk _ _ h3
        · cases h3
    · cases h
  · cases h
theorem loopNF_some (hS : OrcOk P tb S) {f : FuncId} {id : Nat} {fl : List Nat} {n0 : Nat} {A : Type} {r : A} {K : Ex → St → Option A} : ∀ (n : Nat) (st : St), loopN (loopBF P S tb f id fl n0) n st K = some r → loopN (loopB P S tb f id n0) n st K = some r
  | 0, st, h => by cases h
  | n + 1, st, h => by
    rw [loopN_succ] at h ⊢
    refine loopBF_some hS (fun e s he => ?_) h
    cases e with
    | normal => exact loopNF_some hS n s he
    | _ => exact he
/-- A fact of a loop; the blocks fl of the state (by their numbers at its head) have numbers, bools and strings alone. -/
theorem LFact.flat (hS : OrcOk P tb S) {f : FuncId} {id : Nat} {fl : List Nat} {n0 : Nat} {st0 : St} {e : Ex} {s1 : St} (h : loopN (loopBF P S tb f id fl n0) rounds st0 pairE = some (e, s1)) : LFact P tb f id n0 st0 e s1 :=
  ⟨S, hS, loopNF_some hS rounds st0 h⟩
noncomputable def atLF (P : Program) (N : Norm) (fl : List Nat) (n0 : Nat) (st0 : St) (e : Ex) (s1 : St) : LoopF := fun _ st K =>
  bif Nat.beq st.h.next n0 then normKF P N fl n0 st fun s => bif sameSt s st0 then K e s1 else none else none
theorem natL_atF {N : Norm} {fl : List Nat} {n0 : Nat} {st0 s1 : St} {e : Ex} : NatL (atLF P N fl n0 st0 e s1) := by
  intro A B st K K' u hk
  unfold atLF
  cases Nat.beq st.h.next n0 <;> simp only [cond_true, cond_false] <;> first | rfl | skip
  refine normKF_b fun s => ?_
  cases sameSt s st0 <;> first | rfl | exact hk _ _
theorem loopSim_atF (hT : TbOk P tb) {f : FuncId} {id n0 : Nat} {fl : List Nat} {N : Norm} {st0 s1 : St} {e : Ex} (hf : LFact P tb f id n0 st0 e s1) {ep : FnP} (he : tb f = some ep) (hN : loopN0 tb f id = some N) {c : Code} (hc : loopC id ep.code = some c) :
    LoopSim P (LP tb) f c (atLF P N fl n0 st0 e s1) := by
  intro A r K Z kind cs₀ b k ρ st a w cs hL hb hfn hro hSt hg
  refine loopSim_at hT hf he hN hc A r K Z kind cs₀ b k ρ st a w cs hL hb hfn hro hSt ?_
  unfold atLF at hg
  unfold atL
  cases hn : Nat.beq st.h.next n0 with
  | false => rw [hn] at hg; cases hg
  | true =>
    rw [hn] at hg
    simp only [cond_true] at hg ⊢
    exact normKF_some hg
noncomputable def knowLF (P : Program) (f : FuncId) (id : Nat) (N : Norm) (fl : List Nat) (n0 : Nat) (st0 : St) (e : Ex) (s1 : St) (S : Orc) : Orc := addL f id (atLF P N fl n0 st0 e s1) S
theorem knowLF_ok (hT : TbOk P tb) {f : FuncId} {id n0 : Nat} {fl : List Nat} {N : Norm} {st0 s1 : St} {e : Ex} (hf : LFact P tb f id n0 st0 e s1) (hS : OrcOk P tb S) {ep : FnP} (he : tb f = some ep) (hN : loopN0 tb f id = some N) (hc : Nat.ble (countL id ep.code) 1 = true) :
    OrcOk P tb (knowLF P f id N fl n0 st0 e s1 S) := addL_gen hS he hc (fun _ hb => loopSim_atF hT hf he hN hb) natL_atF
/-! ### Functions that tell lists -/
def flatV (P : Program) (h : Heap) (l : Option TypeId) (v : AV) : AV :=
  let slice (b o len sz : Nat) : AV := match h.m b with
    | some (.cells _ vs) => .fz (fixLen (len * sz) (dropA vs o)) len false sz
    | _ => .dead
  match v with
  | .sl none len cap ex sz => (match l with
    | some e => .fz [] 0 false (szOf P e)
    | none => .sl none len cap ex sz)
  | .sl (some (b, o)) len _ _ sz => slice b o len sz
  | .gr (b, o) len sz => slice b o len sz
  | .fz cs len ex sz => (match l with
    | some _ => .fz cs len false sz
    | none => .fz cs len ex sz)
  | v => v
def okV (h : Heap) (v : AV) : Bool :=
  let slice (b o : Nat) : Bool := match h.m b with
    | some (.cells _ vs) => allS (dropA vs o)
    | _ => true
  match v with
  | .sl none _ _ _ _ => true
  | .sl (some (b, o)) _ _ _ _ => slice b o
  | .gr (b, o) _ _ => slice b o
  | .fz _ _ _ _ => true
  | v => simple v
theorem flatV_eq {h : Heap} {l : Option TypeId} {v : AV} (ho : okV h v = true) : vw P [] h false deepV l v = flatV P h l v := by
  have sl : ∀ b o len sz, (match h.m b with | some (.cells _ vs) => allS (dropA vs o) | _ => true) = true →
      (match h.m b with | some (.cells _ vs) => AV.fz (fixLen (len * sz) (mapCyc (vw P [] h true (6 + 1)) (eLeaves P l) (eLeaves P l) (dropA vs o))) len false sz | _ => .dead) = (match h.m b with | some (.cells _ vs) => .fz (fixLen (len * sz) (dropA vs o)) len false sz | _ => .dead) := by
    intro b o len sz hh
    split
    · rename_i w vs hb
      rw [hb] at hh
      simp only at hh
      rw [mapCyc_simple _ _ _ hh]
    · rfl
  cases v with
  | sl p len cap ex sz =>
    cases p with
    | none => cases l <;> rfl
    | some p => obtain ⟨b, o⟩ := p; exact sl b o len sz ho
  | gr p len sz => obtain ⟨b, o⟩ := p; exact sl b o len sz ho
  | fz cs len ex sz => cases l <;> rfl
  | int | bool | str => rfl
  | _ => cases ho
def flatA (P : Program) (h : Heap) : List TypeId → List AV → List AV
  | _, [] => []
  | t :: ts, v :: vs => flatV P h (tyV P t) v :: flatA P h ts vs
  | [], v :: vs => flatV P h none v :: flatA P h [] vs
def okA (h : Heap) : List AV → Bool
  | [] => true
  | v :: vs => okV h v && okA h vs
theorem flatA_eq {h : Heap} : ∀ (ts : List TypeId) (vs : List AV), okA h vs = true → vwArgs P [] h ts vs = flatA P h ts vs
  | ts, [], _ => by cases ts <;> rfl
  | t :: ts, v :: vs, ho => by
    simp only [okA, Bool.and_eq_true] at ho
    simp only [vwArgs, flatA, flatV_eq ho.1, flatA_eq ts vs ho.2]
  | [], v :: vs, ho => by
    simp only [okA, Bool.and_eq_true] at ho
    simp only [vwArgs, flatA, flatV_eq ho.1, flatA_eq [] vs ho.2]
/-- What is told in the end, lists among it. -/
def viewK (P : Program) (ts : List TypeId) : Out → Heap → Md → Option AV := fun out h u => match u with
  | .off => (match out with
    | .ret (.tup vs) => guardK (okA h vs) (some (.tup (flatA P h ts vs)))
    | .ret v => guardK (okV h v) (some (flatV P h (tyV P (nthT ts 0)) v))
    | _ => none)
  | _ => none
theorem viewK_some {ts : List TypeId} {v : AV} {h : Heap} {r : AV} (hv : viewK P ts (.ret v) h .off = some r) : vwRes P [] h ts v = r := by
  unfold viewK at hv
  unfold vwRes
  cases v with
  | tup vs =>
    simp only [guardK] at hv
    cases ho : okA h vs with
    | false => rw [ho] at hv; cases hv
    | true => rw [ho] at hv; cases hv; simp only [flatA_eq _ _ ho]
  | _ =>
    simp only [guardK] at hv
    cases ho : okV h _ with
    | false => rw [ho] at hv; cases hv
    | true => rw [ho] at hv; cases hv; simp only [flatV_eq ho]
/-- A fact of a function: what it tells of these arguments, lists among it; arguments are numbers, bools, strings, and lists that are not written any more. -/
def FFact (P : Program) (tb : FuncId → Option FnP) (f : FuncId) (args : List AV) (v : AV) : Prop :=
  vwArgs P [] none0 (parsOf P f) args = args ∧ ∃ S, OrcOk P tb S ∧ evCall P S tb 100 AV (.fn f) args (mkHeap [] 0) .off (viewK P (resOf P f)) = some v
theorem fnSim_atF (hT : TbOk P tb) {f : FuncId} {a : List AV} {v : AV} (hf : FFact P tb f a v) : FnSim P (LP tb) f (atO a v) := by
  obtain ⟨ha, S, hS, hr⟩ := hf
  have e : evCall P S tb 100 AV (.fn f) a (mkHeap [] 0) .off (viewK P (resOf P f)) = (evCall P S tb 100 (AV × Heap) (.fn f) a (mkHeap [] 0) .off pairK).bind fun x => viewK P (resOf P f) (.ret x.1) x.2 .off :=
    evCall_b hS.nf hS.nl 100 AV (AV × Heap) (.fn f) a (mkHeap [] 0) .off _ pairK _ fun o h m => by
      cases m <;> cases o <;> rfl
  rw [e] at hr
  obtain ⟨⟨v1, h1⟩, hr1, hr2⟩ := Option.bind_eq_some_iff.1 hr
  have hv := viewK_some hr2
  intro A K r args h u args' ρ Z w kind cs₀ cs hL hg hr0 ha0 hcs
  unfold atO at hg
  cases u with
  | off =>
    simp only at hg
    cases hs : same args a with
    | false => rw [hs] at hg; cases hg
    | true =>
      rw [hs] at hg
      have : args = a := by
        unfold same at hs
        simpa using hs
      subst this
      refine fnSim_loc hT hS {} f A K r args h .off args' ρ Z w kind cs₀ cs hL ?_ hr0 ha0 hcs
      show locF P S tb {} f A args h .off K = some r
      unfold locF
      simp only [posObj, fst1, pairsOf, vwBlks2, lenO, ha]
      rw [hr1]
      simp only [List.append_nil, fst1, pairsNew, swapL, vwBlks2, lenO]
      rw [hv]
      exact hg
  | _ => cases hg
noncomputable def knowF (f : FuncId) (a : List AV) (v : AV) (S : Orc) : Orc := addF f (atO a v) S
theorem knowF_ok (hT : TbOk P tb) {f : FuncId} {a : List AV} {v : AV} (hf : FFact P tb f a v) (hS : OrcOk P tb S) : OrcOk P tb (knowF f a v S) := addF_ok (fnSim_atF hT hf) natF_at hS
end Go.Ev
