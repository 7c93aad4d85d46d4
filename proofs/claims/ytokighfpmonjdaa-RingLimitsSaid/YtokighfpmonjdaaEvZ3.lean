/- Builders of lists of lists: at a loop's head the lists that were put in are not written any more. -/
import Derived.Test.YtokighfpmonjdaaEvZ2
namespace Go.Ev
variable {P : Program} {tb : FuncId → Option FnP} {S : Orc}
/-- What is in these blocks. -/
def frOf (h : Heap) : List Nat → List (Nat × List AV)
  | [] => []
  | b :: is => match h.m b with
    | some (.cells _ vs) => (b, vs) :: frOf h is
    | _ => frOf h is
def lookF (b : Nat) : List (Nat × List AV) → Option (List AV)
  | [] => none
  | x :: l => bif Nat.beq b x.1 then some x.2 else lookF b l
/-- A list that was put in, not written any more. -/
def cv (fr : List (Nat × List AV)) (v : AV) : AV := match v with
  | .sl (some (b, o)) len _ _ sz => (match lookF b fr with
    | some vs => .fz (fixLen (len * sz) (dropA vs o)) len false sz
    | none => .dead)
  | .gr (b, o) len sz => (match lookF b fr with
    | some vs => .fz (fixLen (len * sz) (dropA vs o)) len false sz
    | none => .dead)
  | v => v
def okC (fr : List (Nat × List AV)) (v : AV) : Bool := match v with
  | .sl (some (b, _)) _ _ _ _ => hasF b fr
  | .gr (b, _) _ _ => hasF b fr
  | v => calm v
where hasF (b : Nat) : List (Nat × List AV) → Bool
  | [] => false
  | x :: l => Nat.beq b x.1 || hasF b l
def allC (fr : List (Nat × List AV)) : List AV → Bool
  | [] => true
  | v :: vs => okC fr v && allC fr vs
def mapC (fr : List (Nat × List AV)) : List AV → List AV
  | [] => []
  | v :: vs => cv fr v :: mapC fr vs
/-- What temporaries hold is new, and of numbers. -/
def frOk (φ : List (Nat × Nat)) : List (Nat × List AV) → Bool
  | [] => true
  | x :: l => isNone' (find1 x.1 φ) && allS x.2 && frOk φ l
theorem frOf_mem {h : Heap} {b : Nat} {vs : List AV} : ∀ {is : List Nat}, (b, vs) ∈ frOf h is → ∃ w, h.m b = some (.cells w vs)
  | [], hm => by cases hm
  | i :: is, hm => by
    simp only [frOf] at hm
    split at hm
    · rename_i w vs' hb
      rcases List.mem_cons.1 hm with e | e
      · cases e; exact ⟨w, hb⟩
      · exact frOf_mem e
    · exact frOf_mem hm
theorem lookF_mem {b : Nat} {vs : List AV} : ∀ {l : List (Nat × List AV)}, lookF b l = some vs → (b, vs) ∈ l
  | [], h => by cases h
  | x :: l, h => by
    simp only [lookF] at h
    cases hb : Nat.beq b x.1 with
    | true =>
      rw [hb] at h; cases h
      have := Nat.eq_of_beq_eq_true hb
      subst this
      exact List.mem_cons_self
    | false => rw [hb] at h; exact List.mem_cons_of_mem _ (lookF_mem h)
theorem hasF_look {b : Nat} : ∀ {l : List (Nat × List AV)}, okC.hasF b l = true → ∃ vs, lookF b l = some vs
  | [], h => by cases h
  | x :: l, h => by
    simp only [okC.hasF, Bool.or_eq_true] at h
    simp only [lookF]
    cases hb : Nat.beq b x.1 with
    | true => exact ⟨_, rfl⟩
    | false =>
      rw [hb] at h
      rcases h with h | h
      · cases h
      · exact hasF_look h
theorem frOk_mem {φ : List (Nat × Nat)} {b : Nat} {vs : List AV} : ∀ {l : List (Nat × List AV)}, frOk φ l = true → (b, vs) ∈ l → find1 b φ = none ∧ allS vs = true
  | [], _, hm => by cases hm
  | x :: l, h, hm => by
    simp only [frOk, Bool.and_eq_true] at h
    rcases List.mem_cons.1 hm with e | e
    · subst e
      refine ⟨?_, h.1.2⟩
      have := h.1.1
      cases hf : find1 b φ with
      | none => rfl
      | some c => simp only [hf] at this; cases this
    · exact frOk_mem h.2 e
theorem allS_drop {n : Nat} : ∀ {l : List AV}, allS l = true → allS (dropA l n) = true := by
  intro l h
  rw [dropA_eq]
  induction n generalizing l with
  | zero => exact h
  | succ n ih =>
    cases l with
    | nil => rfl
    | cons x l =>
      simp only [allS, Bool.and_eq_true] at h
      exact ih h.2
theorem cv_eq {φ : List (Nat × Nat)} {h : Heap} {is : List Nat} {k : Nat} {v : AV} (hf : frOk φ (frOf h is) = true) (hv : okC (frOf h is) v = true) : vw P φ h false (k + 2) none v = cv (frOf h is) v := by
  have key : ∀ (b o len sz : Nat), okC.hasF b (frOf h is) = true → find1 b φ = none ∧ ∃ w vs, h.m b = some (.cells w vs) ∧ lookF b (frOf h is) = some vs ∧
      AV.fz (fixLen (len * sz) (mapCyc (vw P φ h true (k + 1)) (eLeaves P none) (eLeaves P none) (dropA vs o))) len false sz = .fz (fixLen (len * sz) (dropA vs o)) len false sz := fun b o len sz hb => by
    obtain ⟨vs, h1⟩ := hasF_look hb
    obtain ⟨a1, a2⟩ := frOk_mem hf (lookF_mem h1)
    obtain ⟨w, h2⟩ := frOf_mem (lookF_mem h1)
    exact ⟨a1, w, vs, h2, h1, by rw [mapCyc_simple _ _ _ (allS_drop a2)]⟩
  cases v with
  | sl p len cap ex sz =>
    cases p with
    | none => cases hv
    | some p =>
      obtain ⟨b, o⟩ := p
      obtain ⟨a1, w, vs, a2, a3, a4⟩ := key b o len sz hv
      simp only [vw, a1, a2, cv, a3]
      exact a4
  | gr p len sz =>
    obtain ⟨b, o⟩ := p
    obtain ⟨a1, w, vs, a2, a3, a4⟩ := key b o len sz hv
    simp only [vw, a1, a2, cv, a3]
    exact a4
  | int | bool | str => rfl
  | fz cs len ex sz => rfl
  | _ => cases hv
theorem mapC_eq {φ : List (Nat × Nat)} {h : Heap} {is : List Nat} {k : Nat} (hf : frOk φ (frOf h is) = true) : ∀ {vs : List AV}, allC (frOf h is) vs = true → mapCyc (vw P φ h false (k + 2)) [] [] vs = mapC (frOf h is) vs
  | [], _ => rfl
  | v :: vs, hv => by
    simp only [allC, Bool.and_eq_true] at hv
    simp only [mapCyc, mapC, cv_eq hf hv.1, mapC_eq hf hv.2]
/-- Which blocks are flat: lists of numbers; lists of lists (tm: new lists that may be put in). -/
structure Flat where
  fl : List Nat := []
  ro : List Nat := []
  tm : List Nat := []
def blkG (P : Program) (F : Flat) (fr : List (Nat × List AV)) (φ : List (Nat × Nat)) (h : Heap) (b c : Nat) : Option Blk := bif F.ro.any (Nat.beq c) then (match h.m b with
    | some (.cells w vs) => some (.cells w (mapC fr vs))
    | x => x.bind (vwB P φ h none)) else blkF P F.fl φ h b c
def vwBlksG (P : Program) (F : Flat) (fr : List (Nat × List AV)) (φ : List (Nat × Nat)) (h : Heap) : List (Nat × Nat) → List (Nat × Blk)
  | [] => []
  | (b, c) :: l => match blkG P F fr φ h b c with
    | some x => (c, x) :: vwBlksG P F fr φ h l
    | none => vwBlksG P F fr φ h l
def flatOkG (F : Flat) (fr : List (Nat × List AV)) (h : Heap) : List (Nat × Nat) → Bool
  | [] => true
  | (b, c) :: l => bif F.ro.any (Nat.beq c) then (match h.m b with
    | some (.cells _ vs) => allC fr vs && flatOkG F fr h l
    | _ => flatOkG F fr h l) else bif F.fl.any (Nat.beq c) then (match h.m b with
    | some (.cells _ vs) => allS vs && flatOkG F fr h l
    | _ => flatOkG F fr h l) else flatOkG F fr h l
theorem blkF_eq {fl : List Nat} {φ : List (Nat × Nat)} {h : Heap} {b c : Nat} (hb : ∀ w vs, fl.any (Nat.beq c) = true → h.m b = some (.cells w vs) → allS vs = true) : blkF P fl φ h b c = (h.m b).bind (vwB P φ h none) := by
  unfold blkF
  cases ha : fl.any (Nat.beq c) with
  | false => rfl
  | true =>
    simp only [cond_true]
    cases hm : h.m b with
    | none => rfl
    | some x =>
      cases x with
      | cells w vs =>
        simp only [Option.bind_some]
        show _ = some (Blk.cells w (mapCyc (vw P φ h false (7 + 1)) _ _ vs))
        rw [mapCyc_simple _ _ _ (hb w vs ha hm)]
      | _ => rfl
theorem vwBlksG_eq {F : Flat} {is : List Nat} {φ : List (Nat × Nat)} {h : Heap} (hf : frOk φ (frOf h is) = true) : ∀ l : List (Nat × Nat), flatOkG F (frOf h is) h l = true → vwBlksG P F (frOf h is) φ h l = vwBlks P φ h (fun _ => none) l
  | [], _ => rfl
  | (b, c) :: l, ho => by
    simp only [flatOkG] at ho
    have fin : ∀ q : Option Blk, blkG P F (frOf h is) φ h b c = q → (h.m b).bind (vwB P φ h none) = q → flatOkG F (frOf h is) h l = true → vwBlksG P F (frOf h is) φ h ((b, c) :: l) = vwBlks P φ h (fun _ => none) ((b, c) :: l) := fun q h1 h2 h3 => by
      simp only [vwBlksG, vwBlks, h1, h2, vwBlksG_eq hf l h3]
      cases q <;> rfl
    cases hr : F.ro.any (Nat.beq c) with
    | true =>
      rw [hr] at ho
      simp only [cond_true] at ho
      refine fin _ rfl ?_ ?_
      · unfold blkG
        rw [hr]
        simp only [cond_true]
        cases hm : h.m b with
        | none => rfl
        | some x =>
          rw [hm] at ho
          cases x with
          | cells w vs =>
            simp only [Bool.and_eq_true] at ho
            simp only [Option.bind_some]
            show some (Blk.cells w (mapCyc (vw P φ h false (6 + 2)) [] [] vs)) = _
            rw [mapC_eq hf ho.1]
          | _ => rfl
      · cases hm : h.m b with
        | none => rw [hm] at ho; exact ho
        | some x =>
          rw [hm] at ho
          cases x with
          | cells w vs => simp only [Bool.and_eq_true] at ho; exact ho.2
          | _ => exact ho
    | false =>
      rw [hr] at ho
      simp only [cond_false] at ho
      have e : blkG P F (frOf h is) φ h b c = blkF P F.fl φ h b c := by unfold blkG; rw [hr]; rfl
      refine fin _ rfl ?_ ?_
      · rw [e, blkF_eq]
        intro w vs ha hm
        rw [ha, hm] at ho
        simp only [cond_true, Bool.and_eq_true] at ho
        exact ho.1
      · cases ha : F.fl.any (Nat.beq c) with
        | false => rw [ha] at ho; exact ho
        | true =>
          rw [ha] at ho
          simp only [cond_true] at ho
          cases hm : h.m b with
          | none => rw [hm] at ho; exact ho
          | some x =>
            rw [hm] at ho
            cases x with
            | cells w vs => simp only [Bool.and_eq_true] at ho; exact ho.2
            | _ => exact ho
def normStG (P : Program) (N : Norm) (F : Flat) (n0 : Nat) (st : St) : St :=
  let ps := posT st.t N.keep ++ posD st.t st.h N.der
  let φ := pairsOf n0 ps 0 (idents st.h n0)
  { t := keepT (vw P φ st.h false deepV none) N.keep 0 st.t, h := mkHeap (vwBlksG P F (frOf st.h F.tm) φ st.h φ) (n0 + lenO ps), d := st.d.map (vwD P φ st.h), r := st.r }
def normKG (P : Program) (N : Norm) (F : Flat) (n0 : Nat) {A : Type} (st : St) (K : St → Option A) : Option A := match st.r with
  | .off => guardK (markLow n0 st.d) (guardK (frOk (pairsOf n0 (posT st.t N.keep ++ posD st.t st.h N.der) 0 (idents st.h n0)) (frOf st.h F.tm) && flatOkG F (frOf st.h F.tm) st.h (pairsOf n0 (posT st.t N.keep ++ posD st.t st.h N.der) 0 (idents st.h n0))) (K (normStG P N F n0 st)))
  | _ => none
theorem normKG_some {A : Type} {r : A} {N : Norm} {F : Flat} {n0 : Nat} {st : St} {K : St → Option A} (h : normKG P N F n0 st K = some r) : normK P N n0 st K = some r := by
  unfold normKG at h
  unfold normK
  split at h
  · rename_i hr
    rw [hr]
    simp only
    cases hm : markLow n0 st.d with
    | false => rw [hm] at h; cases h
    | true =>
      rw [hm] at h
      simp only [guardK, cond_true] at h ⊢
      cases hf : (frOk (pairsOf n0 (posT st.t N.keep ++ posD st.t st.h N.der) 0 (idents st.h n0)) (frOf st.h F.tm) && flatOkG F (frOf st.h F.tm) st.h (pairsOf n0 (posT st.t N.keep ++ posD st.t st.h N.der) 0 (idents st.h n0))) with
      | false => rw [hf] at h; cases h
      | true =>
        rw [hf] at h
        simp only [cond_true] at h
        simp only [Bool.and_eq_true] at hf
        have e : normStG P N F n0 st = normSt P N n0 st := by
          unfold normStG normSt
          simp only [vwBlksG_eq hf.1 _ hf.2]
        rw [← e]; exact h
  · cases h
theorem normKG_b {A B : Type} {u : B → Option A} {N : Norm} {F : Flat} {n0 : Nat} {st : St} {K : St → Option A} {K' : St → Option B} (hk : ∀ s, K s = (K' s).bind u) : normKG P N F n0 st K = (normKG P N F n0 st K').bind u := by
  unfold normKG guardK
  split
  · cases markLow n0 st.d <;> simp only [cond_true, cond_false] <;> first | rfl | skip
    generalize (frOk _ _ && flatOkG _ _ _ _) = q
    cases q <;> first | rfl | exact hk _
  · rfl
def loopKG (P : Program) (N : Norm) (F : Flat) (n0 : Nat) {A : Type} (body : St → (Ex → St → Option A) → Option A) (st : St) (K : Ex → St → Option A) : Option A :=
  body st fun e s => match e with
    | .pan v => K (.pan v) s
    | e => normKG P N F n0 s fun s => K e s
def loopBG (P : Program) (S : Orc) (tb : FuncId → Option FnP) (f : FuncId) (id : Nat) (F : Flat) (n0 : Nat) {A : Type} (st : St) (K : Ex → St → Option A) : Option A := match tb f with
  | some e => (match loopC id e.code, e.plan.norm id with
    | some c, some N => loopKG P N F n0 (fun st K => evCode P (e.plan.stops (S.s f)) (evCall P S tb 100) (butL id (S.l f)) f none c st K) st K
    | _, _ => none)
  | none => none
theorem loopBG_some (hS : OrcOk P tb S) {f : FuncId} {id : Nat} {F : Flat} {n0 : Nat} {A : Type} {r : A} {st : St} {K K' : Ex → St → Option A} (hk : ∀ e s, K e s = some r → K' e s = some r) (h : loopBG P S tb f id F n0 st K = some r) :
    loopB P S tb f id n0 st K' = some r := by
  unfold loopBG at h
  unfold loopB
  split at h
  · rename_i e he
    rw [he]
    simp only
    split at h
    · rename_i c N hc hN
      simp only [hc, hN]
      have nat : ∀ (Q : Ex → St → Option A), evCode P (e.plan.stops (S.s f)) (evCall P S tb 100) (butL id (S.l f)) f none c st Q = (evCode P (e.plan.stops (S.s f)) (evCall P S tb 100) (butL id (S.l f)) f none c st pairE).bind fun x => Q x.1 x.2 := fun Q =>
        evCode_b (evCall_b hS.nf hS.nl 100) (fun j g hg => by
          have hg : (bif Nat.beq j id then none else S.l f j) = some g := hg
          cases hj : Nat.beq j id with
          | false => rw [hj] at hg; exact hS.nl f j g hg
          | true => rw [hj] at hg; cases hg) _ st Q pairE (fun _ _ => rfl)
      unfold loopKG at h
      unfold loopK
      dsimp only at h ⊢
      rw [nat] at h ⊢
      obtain ⟨⟨x, s⟩, h1, h2⟩ := Option.bind_eq_some_iff.1 h
      rw [h1]
      simp only [Option.bind_some] at h2 ⊢
      cases x with
      | pan v => exact hk _ _ h2
      | _ =>
        simp only at h2 ⊢
        have h3 := normKG_some h2
        unfold normK at h3 ⊢
        split at h3
        · unfold guardK at h3 ⊢
          cases hm : markLow n0 s.d with
          | false => rw [hm] at h3; cases h3
          | true => rw [hm] at h3; simp only [cond_true] at h3 ⊢; exact hk _ _ h3
        · cases h3
    · cases h
  · cases h
theorem loopNG_some (hS : OrcOk P tb S) {f : FuncId} {id : Nat} {F : Flat} {n0 : Nat} {A : Type} {r : A} {K : Ex → St → Option A} : ∀ (n : Nat) (st : St), loopN (loopBG P S tb f id F n0) n st K = some r → loopN (loopB P S tb f id n0) n st K = some r
  | 0, st, h => by cases h
  | n + 1, st, h => by
    rw [loopN_succ] at h ⊢
    refine loopBG_some hS (fun e s he => ?_) h
    cases e with
    | normal => exact loopNG_some hS n s he
    | _ => exact he
theorem LFact.flatG (hS : OrcOk P tb S) {f : FuncId} {id : Nat} {F : Flat} {n0 : Nat} {st0 : St} {e : Ex} {s1 : St} (h : loopN (loopBG P S tb f id F n0) rounds st0 pairE = some (e, s1)) : LFact P tb f id n0 st0 e s1 :=
  ⟨S, hS, loopNG_some hS rounds st0 h⟩
noncomputable def atLG (P : Program) (N : Norm) (F : Flat) (n0 : Nat) (st0 : St) (e : Ex) (s1 : St) : LoopF := fun _ st K =>
  bif Nat.beq st.h.next n0 then normKG P N F n0 st fun s => bif sameSt s st0 then K e s1 else none else none
theorem natL_atG {N : Norm} {F : Flat} {n0 : Nat} {st0 s1 : St} {e : Ex} : NatL (atLG P N F n0 st0 e s1) := by
  intro A B st K K' u hk
  unfold atLG
  cases Nat.beq st.h.next n0 <;> simp only [cond_true, cond_false] <;> first | rfl | skip
  refine normKG_b fun s => ?_
  cases sameSt s st0 <;> first | rfl | exact hk _ _
theorem loopSim_atG (hT : TbOk P tb) {f : FuncId} {id n0 : Nat} {F : Flat} {N : Norm} {st0 s1 : St} {e : Ex} (hf : LFact P tb f id n0 st0 e s1) {ep : FnP} (he : tb f = some ep) (hN : loopN0 tb f id = some N) {c : Code} (hc : loopC id ep.code = some c) :
    LoopSim P (LP tb) f c (atLG P N F n0 st0 e s1) := by
  intro A r K Z kind cs₀ b k ρ st a w cs hL hb hfn hro hSt hg
  refine loopSim_at hT hf he hN hc A r K Z kind cs₀ b k ρ st a w cs hL hb hfn hro hSt ?_
  unfold atLG at hg
  unfold atL
  cases hn : Nat.beq st.h.next n0 with
  | false => rw [hn] at hg; cases hg
  | true =>
    rw [hn] at hg
    simp only [cond_true] at hg ⊢
    exact normKG_some hg
noncomputable def knowLG (P : Program) (f : FuncId) (id : Nat) (N : Norm) (F : Flat) (n0 : Nat) (st0 : St) (e : Ex) (s1 : St) (S : Orc) : Orc := addL f id (atLG P N F n0 st0 e s1) S
theorem knowLG_ok (hT : TbOk P tb) {f : FuncId} {id n0 : Nat} {F : Flat} {N : Norm} {st0 s1 : St} {e : Ex} (hf : LFact P tb f id n0 st0 e s1) (hS : OrcOk P tb S) {ep : FnP} (he : tb f = some ep) (hN : loopN0 tb f id = some N) (hc : Nat.ble (countL id ep.code) 1 = true) :
    OrcOk P tb (knowLG P f id N F n0 st0 e s1 S) := addL_gen hS he hc (fun _ hb => loopSim_atG hT hf he hN hb) natL_atG
end Go.Ev
