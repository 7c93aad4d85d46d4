/- Regions in the text's order, on the machine. -/
import Derived.Test.YthlmbnhelkbchaaEvT
import Derived.Laws.Externs
namespace Go.Ev
variable {P : Program} {call : CallP} {L : ALoop → Prop}

/-- A deferred call, and a mark. -/
inductive DR (ρ : Loc) : ADef → Deferred → Prop
  | call {f : FuncId} {args : List AV} {cap dargs : Array Value} (ha : RL ρ args (dargs ++ cap).toList) : DR ρ (.call f args) { target := .fn (.func f) cap, args := dargs }
  | mark {b : Nat} {p : Pl} (h : ρ b = some p) : DR ρ (.mark b) { target := .collected p.blk, args := #[] }
theorem DR.grows {ρ ρ' : Loc} (hg : Grows ρ ρ') {d : ADef} {d' : Deferred} (h : DR ρ d d') : DR ρ' d d' := by
  cases h with
  | call ha => exact .call (ha.grows hg)
  | mark h => exact .mark (hg _ _ h)
inductive DL (ρ : Loc) : List ADef → List Deferred → Prop
  | nil : DL ρ [] []
  | cons {d : ADef} {d' : Deferred} {l : List ADef} {l' : List Deferred} (h : DR ρ d d') (hl : DL ρ l l') : DL ρ (d :: l) (d' :: l')
theorem DL.grows {ρ ρ' : Loc} (hg : Grows ρ ρ') {l : List ADef} {l' : List Deferred} (h : DL ρ l l') : DL ρ' l l' := by
  induction h with
  | nil => exact .nil
  | cons h _ ih => exact .cons (h.grows hg) ih
/-- An activation is as the evaluator says. -/
structure StR (ρ : Loc) (Z : Zone) (kind : CallKind) (cs₀ : List Frame) (st : St) (a : Act) (w : World) (cs : List Frame) : Prop where
  tm : RL ρ st.t a.tmps.toList
  df : DL ρ st.d a.defers
  rep : Rep ρ st.h Z w
  cs : CSR ρ kind cs₀ st.r cs
def RdR (ρ : Loc) : Option Nat → Option Nat → Prop
  | none, none => True
  | some l, some q => ∃ p, ρ l = some p ∧ p.blk = q
  | _, _ => False
theorem RdR.grows {ρ ρ' : Loc} (hg : Grows ρ ρ') {a b : Option Nat} (h : RdR ρ a b) : RdR ρ' a b := by
  cases a <;> cases b <;> first | exact h | (obtain ⟨p, x, y⟩ := h; exact ⟨p, hg _ _ x, y⟩)
theorem Went.refl {ρ : Loc} {Z : Zone} {h : Heap} {w : World} (hr : Rep ρ h Z w) : Went ρ ρ Z h.next h w w := ⟨Grows.refl _, fun _ _ => rfl, Nat.le_refl _, hr, Low.refl _ _⟩
theorem Went.trans {ρ ρ' ρ'' : Loc} {Z : Zone} {n : Nat} {h' h'' : Heap} {w w' w'' : World} (a : Went ρ ρ' Z n h' w w') (b : Went ρ' ρ'' Z h'.next h'' w' w'') : Went ρ ρ'' Z n h'' w w'' :=
  ⟨a.grows.trans b.grows, fun c hc => (b.off c (Nat.lt_of_lt_of_le hc a.next)).trans (a.off c hc), Nat.le_trans a.next b.next, b.rep, a.low.trans b.low⟩

theorem putT_RL {ρ : Loc} {t : List AV} {a : Act} {v : AV} {v' : Value} (ht : RL ρ t a.tmps.toList) (hv : R ρ v v') (dst : Option Tmp) : RL ρ (putT t dst v) (a.put dst v').tmps.toList := by
  cases dst with
  | none => exact ht
  | some d => rw [putT, setL_eq]; simpa [Act.put] using ht.set hv d
theorem put_defers' (a : Act) (dst : Option Tmp) (v : Value) : (a.put dst v).defers = a.defers := by cases dst <;> rfl
theorem setL_id {t : List AV} {d : Nat} : setL t d (nth t d) = t := by
  rw [setL_eq, nth_eq]
  rcases Nat.lt_or_ge d t.length with h | h
  · simp [List.getD, List.getElem?_eq_getElem h]
  · simp [List.getD, h, List.set_eq_of_length_le]
theorem guarded_some {ops : Array Oper} {o : Oper} {A : Type} {t : List AV} {Y N : List AV → Option A} {r : A} (hh : guarded ops o t Y N = some r) :
    (doneB ops o t = some true ∧ Y t = some r) ∨ (doneB ops o t = some false ∧ N t = some r) := by
  unfold guarded at hh
  unfold doneB
  cases hg : o.guard with
  | none => rw [hg] at hh; exact .inl ⟨rfl, hh⟩
  | some gw =>
    obtain ⟨j, want⟩ := gw
    rw [hg] at hh
    simp only at hh ⊢
    cases hj : ops[j]? with
    | none => rw [hj] at hh; cases hh
    | some g =>
      rw [hj] at hh
      simp only at hh ⊢
      cases hd : g.dst with
      | none => rw [hd] at hh; cases hh
      | some d =>
        rw [hd] at hh
        simp only at hh ⊢
        have hid := setL_id (t := t) (d := d)
        cases hn : nth t d with
        | bool b =>
          rw [hn] at hh hid
          simp only at hh ⊢
          cases b <;> cases want <;> simp only [cond_true, cond_false, hid] at hh ⊢
          · exact .inl ⟨by simp, hh⟩
          · exact .inr ⟨by simp, hh⟩
          · exact .inr ⟨by simp, hh⟩
          · exact .inl ⟨by simp, hh⟩
        | tup vs => rw [hn] at hh; exact .inr ⟨rfl, hh⟩
        | _ => rw [hn] at hh; cases hh

/-- How one operation goes on, or ends in a panic. -/
def StepR (P : Program) (ρ : Loc) (Z : Zone) (kind : CallKind) (cs₀ : List Frame) (b : Frame) (m : Machine) (n : Nat) (w : World) {A : Type} (r : A) (todo : List Item) (dst : Option Tmp) (K : AV → St → Option A) (Kp : AV → St → Option A) : Prop :=
  (∃ v st' ρ' a' w' cs' v', K v st' = some r ∧ StR ρ' Z kind cs₀ st' a' w' cs' ∧ R ρ' v v' ∧ Went ρ ρ' Z n st'.h w w' ∧ Steps P m (lone (b.atR (a'.put dst v') todo) cs' w')) ∨
  (∃ v st' ρ' a' w' cs' v' todo', Kp v st' = some r ∧ StR ρ' Z kind cs₀ st' a' w' cs' ∧ R ρ' v v' ∧ Went ρ ρ' Z n st'.h w w' ∧ Steps P m (lone { b.atR a' todo' with mode := .panicking [{ v := v', recovered := false }] } cs' w'))

section
variable {b : Frame} {a : Act} {k : List Item} {cs cs₀ : List Frame} {w : World} {ops : Array Oper} {i : Nat} {rest : List Nat} {o : Oper} {ρ : Loc} {Z : Zone} {kind : CallKind} {st : St} {rd : Option Nat}

theorem execOp_recover {e : Operand → Value} {args : Array Operand} {tys : Array TypeId} (ho : o.op = .call ⟨.builtin .recover, args, tys⟩) : (execOp e o).run P w = .ok .recover w := by
  unfold execOp; rw [ho]; simp [resolve, invoke, builtin]
theorem step_recover {v : Value} {cs' : List Frame} {args : Array Operand} {tys : Array TypeId} (ho : ops[i]? = some o) (hw : Region.wanted o (yielded ops a.tmps) = true) (hb : b.roundOf = none) (hop : o.op = .call ⟨.builtin .recover, args, tys⟩)
    (ht : tryRecover (b.atR a (.inRegion ops (i :: rest) :: k)) cs = some (v, cs')) :
    step P (lone (b.atR a (.inRegion ops (i :: rest) :: k)) cs w) = .next (lone (b.atR (a.put o.dst v) (.inRegion ops rest :: k)) cs' w) := by
  have hfin : (b.atR a (.inRegion ops (i :: rest) :: k)).finish v = b.atR (a.put o.dst v) (.inRegion ops rest :: k) := by rw [Frame.finish_atR, ho]; rfl
  refine step_lone_go ?_
  rw [stepGR_op ho hw, ← hfin, semAt_of_call hop]
  have hrd : (b.atR a (.inRegion ops (i :: rest) :: k)).roundOf = none := hb
  simp [stepG.apply, Sem.runT_eq, execOp_recover hop, GStep.bare_after, hrd, ht]
theorem step_recover_none {args : Array Operand} {tys : Array TypeId} (ho : ops[i]? = some o) (hw : Region.wanted o (yielded ops a.tmps) = true) (hb : b.roundOf = none) (hop : o.op = .call ⟨.builtin .recover, args, tys⟩)
    (ht : tryRecover (b.atR a (.inRegion ops (i :: rest) :: k)) cs = none) :
    step P (lone (b.atR a (.inRegion ops (i :: rest) :: k)) cs w) = .next (lone (b.atR (a.put o.dst .nilIface) (.inRegion ops rest :: k)) cs w) := by
  have hfin : (b.atR a (.inRegion ops (i :: rest) :: k)).finish .nilIface = b.atR (a.put o.dst .nilIface) (.inRegion ops rest :: k) := by rw [Frame.finish_atR, ho]; rfl
  refine step_lone_go ?_
  rw [stepGR_op ho hw, ← hfin, semAt_of_call hop]
  have hrd : (b.atR a (.inRegion ops (i :: rest) :: k)).roundOf = none := hb
  simp [stepG.apply, Sem.runT_eq, execOp_recover hop, GStep.bare_after, hrd, ht]
theorem step_raise {v : Value} (ho : ops[i]? = some o) (hw : Region.wanted o (yielded ops a.tmps) = true) (hr : (o.semAt b.roundOf a.eval).run P w = .halt (.panic v) w) :
    step P (lone (b.atR a (.inRegion ops (i :: rest) :: k)) cs w) = .next (lone { b.atR a (.inRegion ops (i :: rest) :: k) with mode := .panicking [{ v, recovered := false }] } cs w) := by
  refine step_lone_go ?_
  rw [stepGR_op ho hw, ← Frame.raise_atR]
  simp [stepG.apply, Sem.runT_eq, hr, GStep.bare_after]
theorem step_deferred {d : Deferred} (ho : ops[i]? = some o) (hw : Region.wanted o (yielded ops a.tmps) = true) (hr : (o.semAt b.roundOf a.eval).run P w = .ok (.defer d) w) :
    step P (lone (b.atR a (.inRegion ops (i :: rest) :: k)) cs w) = .next (lone (b.atR ({ a with defers := d :: a.defers }.put o.dst undef) (.inRegion ops rest :: k)) cs w) := by
  have hfin := Frame.finish_atR b { a with defers := d :: a.defers } ops i rest k undef
  rw [ho] at hfin
  refine step_lone_go ?_
  rw [stepGR_op ho hw]
  simp only [Option.bind_some] at hfin
  rw [← hfin]
  simp [stepG.apply, Sem.runT_eq, hr, GStep.bare_after, Frame.atR]
theorem CSR.normal {ρ : Loc} {r : Md} (h : CSR ρ .normal cs₀ r cs) : r = .off ∧ cs = cs₀ := by
  rcases h with ⟨_, x⟩ | ⟨x, _⟩
  · exact x
  · cases x

theorem find_add {fn : Func} (hn : fn.name = "math/bits.Add64") (ho : fn.origin = "") : Extern.findNext fn = none ∧ Extern.find fn = some add64Entry := by
  unfold Extern.findNext Extern.find
  rw [hn, ho]
  have h1 : Extern.allNextRows.lookup "math/bits.Add64" = none := by kernel_rfl
  have h2 : Extern.allNextRows.lookup "" = none := by kernel_rfl
  have h3 : Extern.allGenericRows.lookup "math/bits.Add64" = none := by kernel_rfl
  have h4 : Extern.allTypedRows.lookup "math/bits.Add64" = none := by kernel_rfl
  have h5 : Extern.allRows.lookup "math/bits.Add64" = some add64Entry := by kernel_rfl
  simp [h1, h2, h3, h4, h5]
theorem add_sim {f : Operand} {args : List AV} {args' : Array Value} {ρ : Loc} {w : World} {A : Type} {K : AV → Option A} {r : A} (hf : isAdd P f = true) (ha : RL ρ args args'.toList) (hh : addK args K = some r) (ev' : Operand → Value) (hev : ∀ g, f = .func g → ev' f = .func (.func g) #[] #[]) :
    ∃ v v', K v = some r ∧ R ρ v v' ∧ (do let d ← Deferred.ofValue (ev' f) args'; invoke d.target d.args).run P w = .ok (.value v') w := by
  unfold isAdd at hf
  cases f with
  | func g =>
    simp only at hf
    cases hg : P.funcs[g]? with
    | none => rw [hg] at hf; cases hf
    | some fn =>
      rw [hg] at hf
      simp only [Bool.and_eq_true, beq_iff_eq] at hf
      obtain ⟨⟨h1, h2⟩, h3⟩ := hf
      obtain ⟨e1, e2⟩ := find_add h2 h3
      unfold addK at hh
      split at hh
      · rename_i x y c
        obtain ⟨hgd, hk⟩ := guardK_some hh
        simp only [Bool.and_eq_true, decide_eq_true_eq] at hgd
        obtain ⟨⟨⟨g1, g2⟩, g3⟩, g4⟩ := hgd
        obtain ⟨l, hl⟩ : ∃ l, args'.toList = l := ⟨_, rfl⟩
        have ha' := ha
        rw [hl] at ha'
        have hargs : args' = #[.int .u64 x, .int .u64 y, .int .u64 c] := by
          apply Array.ext'
          rw [hl]
          have hlen := ha'.1
          match l, hlen with
          | [a1, a2, a3], _ =>
            have r1 := ha'.2 0 _ _ rfl rfl
            have r2 := ha'.2 1 _ _ rfl rfl
            have r3 := ha'.2 2 _ _ rfl rfl
            cases r1; cases r2; cases r3
            rfl
        subst hargs
        refine ⟨_, .tuple #[_, _], hk, RL.two (.int _ _) (.int _ _), ?_⟩
        rw [hev g rfl]
        simp only [Deferred.ofValue, invoke, Sem.run_bind, Sem.run_pure, Result.andThen_ok]
        have := run_callFunc_extern (P := P) hg (by rw [h2]; decide) h1 e1 e2 #[.int .u64 x, .int .u64 y, .int .u64 c] w
        simp only [Array.empty_append, Array.append_empty]
        rw [this, run_add64 x y c g1 g2 g3 g4]
        rfl
      · cases hh
  | _ => cases hf
theorem stepOp_sim (Hc : CallSim P L call) (hL : Z.L = L) {A : Type} {r : A} {K Kp : AV → St → Option A} (hb : b.kind = kind) (hrd : RdR ρ rd b.roundOf) (hS : StR ρ Z kind cs₀ st a w cs)
    (ho : ops[i]? = some o) (hw : Region.wanted o (yielded ops a.tmps) = true) (hh : stepOp P (call A) rd o st K Kp = some r) :
    StepR P ρ Z kind cs₀ b (lone (b.atR a (.inRegion ops (i :: rest) :: k)) cs w) st.h.next w r (.inRegion ops rest :: k) o.dst K Kp := by
  have he : ∀ x, R ρ (ev st.t x) (a.eval x) := fun x => R.ev hS.tm x
  unfold stepOp at hh
  split at hh
  · rename_i f args tys hop
    have hargs : RL ρ (args.toList.map (ev st.t)) (args.map a.eval).toList := by
      have := RL.map (ρ := ρ) (ev st.t) a.eval args.toList (fun x _ => he x)
      simpa using this
    cases hx : isAdd P f with
    | true =>
      rw [hx] at hh
      simp only [cond_true] at hh
      obtain ⟨v, v', k1, k2, k3⟩ := add_sim (w := w) hx hargs hh a.eval (fun g hg => by rw [hg]; rfl)
      exact .inl ⟨v, st, ρ, a, w, cs, v', k1, hS, k2, Went.refl hS.rep, .one (step_value ho hw (by rw [semAt_of_call hop, execOp_call hop]; exact k3) (.inl rfl))⟩
    | false =>
    rw [hx] at hh
    simp only [cond_false] at hh
    obtain ⟨nx, frN, c1, c2, out, h', u', ρ', w', c', c3, c4, c5, c6⟩ := callee_sim Hc hL hh hS.rep (he f) hargs (b.atR a (.inRegion ops (i :: rest) :: k)) cs
    have hst : step P (lone (b.atR a (.inRegion ops (i :: rest) :: k)) cs w) = .next (lone frN (b.atR a (.inRegion ops (i :: rest) :: k) :: cs) w) :=
      step_call ho hw (by rw [semAt_of_call hop, execOp_call hop]; exact c1) c2
    have hS' : StR ρ' Z kind cs₀ { st with h := h' } a w' cs := ⟨hS.tm.grows c5.grows, hS.df.grows c5.grows, c5.rep, hS.cs.grows c5.grows⟩
    cases out with
    | ret v =>
      obtain ⟨v', hv, rfl⟩ := c6
      have hfin : (b.atR a (.inRegion ops (i :: rest) :: k)).finish v' = b.atR (a.put o.dst v') (.inRegion ops rest :: k) := by rw [Frame.finish_atR, ho]; rfl
      rw [hfin] at c4
      exact .inl ⟨v, _, ρ', a, w', cs, v', c3, hS', hv, c5, .head hst c4⟩
    | pan v =>
      obtain ⟨v', hv, rfl⟩ := c6
      rw [Frame.raise_atR] at c4
      exact .inr ⟨v, _, ρ', a, w', cs, v', _, c3, hS', hv, c5, .head hst c4⟩
  · rename_i args tys hop
    cases rd with
    | some l => cases st.r <;> cases hh
    | none =>
      have hrn : b.roundOf = none := by
        cases hx : b.roundOf with
        | none => rfl
        | some q => rw [hx] at hrd; exact hrd.elim
      have hnot : tryRecover (b.atR a (.inRegion ops (i :: rest) :: k)) cs = none → K .nili st = some r →
          StepR P ρ Z kind cs₀ b (lone (b.atR a (.inRegion ops (i :: rest) :: k)) cs w) st.h.next w r (.inRegion ops rest :: k) o.dst K Kp := fun ht hk =>
        .inl ⟨.nili, st, ρ, a, w, cs, .nilIface, hk, hS, .nili, Went.refl hS.rep, .one (step_recover_none ho hw hrn hop ht)⟩
      have hkd : (b.atR a (.inRegion ops (i :: rest) :: k)).kind = kind := hb
      rcases hS.cs with ⟨rfl, h2, h3⟩ | ⟨rfl, c, rest', u, h2, h3, h4⟩
      · rw [h2] at hh
        refine hnot ?_ hh
        unfold tryRecover
        rw [hkd]
      · rw [tryRecover_deferred hkd] at hnot
        rw [h3] at hnot ⊢
        cases hr : st.r with
        | off => rw [hr] at h4; exact h4.elim
        | ret =>
          rw [hr] at h4 hh
          have hu : u = .returning := h4
          exact hnot (by simp [recoverD, hu]) hh
        | rcd v =>
          rw [hr] at h4 hh
          obtain ⟨v', hv, hu⟩ := h4
          exact hnot (by simp [recoverD, hu]) hh
        | pan v =>
          rw [hr] at h4 hh
          obtain ⟨v', hv, hu⟩ := h4
          refine .inl ⟨v, _, ρ, a, w, _, v', hh, ⟨hS.tm, hS.df, hS.rep, .inr ⟨rfl, c, rest', .panicking [{ v := v', recovered := true }], h2, rfl, v', hv, rfl⟩⟩, hv, Went.refl hS.rep, .one (step_recover ho hw hrn hop ?_)⟩
          rw [tryRecover_deferred hkd]
          simp [recoverD, hu]
  · rename_i x hop
    split at hh
    · rename_i t v hev
      have hx := he x
      rw [hev] at hx
      obtain ⟨v', hv, hax⟩ : ∃ v', R ρ v v' ∧ a.eval x = .iface t v' := by
        generalize a.eval x = y at hx
        cases hx with
        | iface _ hv => exact ⟨_, hv, rfl⟩
      refine .inr ⟨_, st, ρ, a, w, cs, .iface t v', _, hh, hS, .iface t hv, Went.refl hS.rep, .one (step_raise ho hw ?_)⟩
      rw [Oper.semAt_eq _ _ _ (fun c hc => by rw [hop] at hc; cases hc)]
      unfold execOp
      rw [hop]
      simp [hax, Instr.panic, goPanic]
    · cases hh
  · rename_i f args tys hop
    split at hh
    · rename_i g first cap hev
      have hrn : b.roundOf = none := by
        cases hx : b.roundOf with
        | none => rfl
        | some q => rw [hx] at hrd; exact hrd.elim
      have hf := he f
      rw [hev] at hf
      obtain ⟨first', cap', hax, hfi, hca⟩ : ∃ first' cap', a.eval f = .func (.func g) first' cap' ∧ RL ρ first first'.toList ∧ RL ρ cap cap'.toList := by
        generalize a.eval f = y at hf
        cases hf with
        | fn _ h1 h2 h3 h4 => exact ⟨_, _, rfl, ⟨by simpa using h1, fun i v v' a b => h2 i v v' a (by simpa using b)⟩, ⟨by simpa using h3, fun i v v' a b => h4 i v v' a (by simpa using b)⟩⟩
      have hargs : RL ρ (args.toList.map (ev st.t)) (args.map a.eval).toList := by
        have := RL.map (ρ := ρ) (ev st.t) a.eval args.toList (fun x _ => he x)
        simpa using this
      have hall : RL ρ (appA first (appA (args.toList.map (ev st.t)) cap)) ((first' ++ args.map a.eval) ++ cap').toList := by
        rw [appA_eq, appA_eq]
        have := hfi.append (hargs.append hca)
        simpa [List.append_assoc] using this
      refine .inl ⟨_, _, ρ, { a with defers := _ :: a.defers }, w, cs, undef, hh, ⟨hS.tm, .cons (.call hall) hS.df, hS.rep, hS.cs⟩, R.undef ρ, Went.refl hS.rep, .one (step_deferred ho hw ?_)⟩
      rw [hrn, Oper.semAt_none]
      unfold execOp
      rw [hop]
      simp [resolve, Deferred.ofValue, hax]
    · cases hh
  · have hsem := semAt_of_prim (ro := b.roundOf) (ρ := a.eval) hh
    cases hn : news o.op with
    | true =>
      have hr' : Rep ρ ⟨st.h.m, st.h.next + 1⟩ Z w := hS.rep.next (Nat.le_succ _)
      obtain ⟨v, h', v', w', ρ', nx, k1, k2, k3, k4, ⟨k5, _⟩, k6, k7, k8, k9⟩ := prim_sound hr' he (fun _ => ⟨hS.rep.fresh _ (Nat.le_refl _), Nat.lt_succ_self _⟩) hh
      rw [hn] at k1
      have hrep : Rep ρ' h'.bump Z w' := by
        have : h'.bump = ⟨h'.m, st.h.next + 1⟩ := by simp [Heap.bump, k2]
        rw [this]; exact k7
      refine .inl ⟨v, _, ρ', a, w', cs, v', k1, ⟨hS.tm.grows k5, hS.df.grows k5, hrep, hS.cs.grows k5⟩, k8, ⟨k5, fun c hc => k6 c (Nat.ne_of_lt hc), ?_, hrep, k9⟩, .one (step_value ho hw ?_ k4)⟩
      · show st.h.next ≤ h'.next + 1; omega
      · rw [hsem]; exact k3
    | false =>
      rw [prim_id (id' := st.h.next) o hn] at hh
      obtain ⟨v, h', v', w', ρ', nx, k1, k2, k3, k4, ⟨k5, _⟩, k6, k7, k8, k9⟩ := prim_sound (n := st.h.next) hS.rep he (fun h => by rw [hn] at h; cases h) hh
      rw [hn] at k1
      have hrep : Rep ρ' h' Z w' := by rw [← k2] at k7; exact k7
      refine .inl ⟨v, _, ρ', a, w', cs, v', k1, ⟨hS.tm.grows k5, hS.df.grows k5, hrep, hS.cs.grows k5⟩, k8, ⟨k5, fun c hc => k6 c (Nat.ne_of_lt hc), ?_, hrep, k9⟩, .one (step_value ho hw ?_ k4)⟩
      · exact Nat.le_of_eq k2.symm
      · rw [hsem]; exact k3
end
end Go.Ev
