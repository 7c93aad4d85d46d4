/- Regions in the text's order, on the machine. -/
import Derived.Test.YtokighfpmonjdaaEvT
import Derived.Laws.Externs
import Derived.RangeFuncRecord
import Derived.RangeFuncIn
namespace Go.Ev
variable {P : Program} {call : CallP} {L : ALoop → Prop}

/-- A deferred call, and a mark. -/
inductive DR (ρ : Loc) : ADef → Deferred → Prop
  | call {f : FuncId} {args : List AV} {cap dargs : Array Value} (ha : RL ρ args (dargs ++ cap).toList) : DR ρ (.call f args) { target := .fn (.func f) cap, args := dargs }
  | mark {b : Nat} {p : Pl} (h : ρ b = some p) : DR ρ (.mark b) { target := .collected p.blk, args := #[] }
theorem DR.grows {ρ ρ' : Loc} (hg : Grows ρ ρ') {d : ADef} {d' : Deferred} (h : DR ρ d d') : DR ρ' d d' := by
  cases h with
  | call ha => exact .call (ha.grows hg)
  | mark h => exact .mark (hg _ _ h)
inductive DL (ρ : Loc) : List ADef → List Deferred → Prop
  | nil : DL ρ [] []
  | cons {d : ADef} {d' : Deferred} {l : List ADef} {l' : List Deferred} (h : DR ρ d d') (hl : DL ρ l l') : DL ρ (d :: l) (d' :: l')
theorem DL.grows {ρ ρ' : Loc} (hg : Grows ρ ρ') {l : List ADef} {l' : List Deferred} (h : DL ρ l l') : DL ρ' l l' := by
  induction h with
  | nil => exact .nil
  | cons h _ ih => exact .cons (h.grows hg) ih
/-- An activation is as the evaluator says. -/
structure StR (ρ : Loc) (Z : Zone) (kind : CallKind) (cs₀ : List Frame) (st : St) (a : Act) (w : World) (cs : List Frame) : Prop where
  tm : RL ρ st.t a.tmps.toList
  df : DL ρ st.d a.defers
  rep : Rep ρ st.h Z w
  cs : CSR ρ kind cs₀ st.r cs
def RdR (ρ : Loc) : Option Nat → Option Nat → Prop
  | none, none => True
  | some l, some q => ∃ p, ρ l = some p ∧ p.blk = q
  | _, _ => False
theorem RdR.grows {ρ ρ' : Loc} (hg : Grows ρ ρ') {a b : Option Nat} (h : RdR ρ a b) : RdR ρ' a b := by
  cases a <;> cases b <;> first | exact h | (obtain ⟨p, x, y⟩ := h; exact ⟨p, hg _ _ x, y⟩)
theorem Went.refl {ρ : Loc} {Z : Zone} {h : Heap} {w : World} (hr : Rep ρ h Z w) : Went ρ ρ Z h.next h w w := ⟨Grows.refl _, fun _ _ => rfl, Nat.le_refl _, hr, Low.refl _ _⟩
theorem Went.trans {ρ ρ' ρ'' : Loc} {Z : Zone} {n : Nat} {h' h'' : Heap} {w w' w'' : World} (a : Went ρ ρ' Z n h' w w') (b : Went ρ' ρ'' Z h'.next h'' w' w'') : Went ρ ρ'' Z n h'' w w'' :=
  ⟨a.grows.trans b.grows, fun c hc => (b.off c (Nat.lt_of_lt_of_le hc a.next)).trans (a.off c hc), Nat.le_trans a.next b.next, b.rep, a.low.trans b.low⟩

theorem putT_RL {ρ : Loc} {t : List AV} {a : Act} {v : AV} {v' : Value} (ht : RL ρ t a.tmps.toList) (hv : R ρ v v') (dst : Option Tmp) : RL ρ (putT t dst v) (a.put dst v').tmps.toList := by
  cases dst with
  | none => exact ht
  | some d => rw [putT, setL_eq]; simpa [Act.put] using ht.set hv d
theorem put_defers' (a : Act) (dst : Option Tmp) (v : Value) : (a.put dst v).defers = a.defers := by cases dst <;> rfl
theorem setL_id {t : List AV} {d : Nat} : setL t d (nth t d) = t := by
  rw [setL_eq, nth_eq]
  rcases Nat.lt_or_ge d t.length with h | h
  · simp [List.getD, List.getElem?_eq_getElem h]
  · simp [List.getD, h, List.set_eq_of_length_le]
theorem guarded_some {ops : Array Oper} {o : Oper} {A : Type} {t : List AV} {Y N : List AV → Option A} {r : A} (hh : guarded ops o t Y N = some r) :
    (doneB ops o t = some true ∧ Y t = some r) ∨ (doneB ops o t = some false ∧ N t = some r) := by
  unfold guarded at hh
  unfold doneB
  cases hg : o.guard with
  | none => rw [hg] at hh; exact .inl ⟨rfl, hh⟩
  | some gw =>
    obtain ⟨j, want⟩ := gw
    rw [hg] at hh
    simp only at hh ⊢
    cases hj : ops[j]? with
    | none => rw [hj] at hh; cases hh
    | some g =>
      rw [hj] at hh
      simp only at hh ⊢
      cases hd : g.dst with
      | none => rw [hd] at hh; cases hh
      | some d =>
        rw [hd] at hh
        simp only at hh ⊢
        have hid := setL_id (t := t) (d := d)
        cases hn : nth t d with
        | bool b =>
          rw [hn] at hh hid
          simp only at hh ⊢
          cases b <;> cases want <;> simp only [cond_true, cond_false, hid] at hh ⊢
          · exact .inl ⟨by simp, hh⟩
          · exact .inr ⟨by simp, hh⟩
          · exact .inr ⟨by simp, hh⟩
          · exact .inl ⟨by simp, hh⟩
        | tup vs => rw [hn] at hh; exact .inr ⟨rfl, hh⟩
        | _ => rw [hn] at hh; cases hh

/-- How one operation goes on, or ends in a panic. -/
def StepR (P : Program) (ρ : Loc) (Z : Zone) (kind : CallKind) (cs₀ : List Frame) (b : Frame) (m : Machine) (n : Nat) (w : World) {A : Type} (r : A) (todo : List Item) (dst : Option Tmp) (K : AV → St → Option A) (Kp : AV → St → Option A) : Prop :=
  (∃ v st' ρ' a' w' cs' v', K v st' = some r ∧ StR ρ' Z kind cs₀ st' a' w' cs' ∧ R ρ' v v' ∧ Went ρ ρ' Z n st'.h w w' ∧ Steps P m (lone (b.atR (a'.put dst v') todo) cs' w')) ∨
  (∃ v st' ρ' a' w' cs' v' todo', Kp v st' = some r ∧ StR ρ' Z kind cs₀ st' a' w' cs' ∧ R ρ' v v' ∧ Went ρ ρ' Z n st'.h w w' ∧ Steps P m (lone { b.atR a' todo' with mode := .panicking [{ v := v', recovered := false }] } cs' w'))

section
variable {b : Frame} {a : Act} {k : List Item} {cs cs₀ : List Frame} {w : World} {ops : Array Oper} {i : Nat} {rest : List Nat} {o : Oper} {ρ : Loc} {Z : Zone} {kind : CallKind} {st : St} {rd : Option Nat}

theorem execOp_recover {e : Operand → Value} {args : Array Operand} {tys : Array TypeId} (ho : o.op = .call ⟨.builtin .recover, args, tys⟩) : (execOp e o).run P w = .ok .recover w := by
  unfold execOp; rw [ho]; simp [resolve, invoke, builtin]
theorem step_recover {v : Value} {cs' : List Frame} {args : Array Operand} {tys : Array TypeId} (ho : ops[i]? = some o) (hw : Region.wanted o (yielded ops a.tmps) = true) (hb : b.roundOf = none) (hop : o.op = .call ⟨.builtin .recover, args, tys⟩)
    (ht : tryRecover (b.atR a (.inRegion ops (i :: rest) :: k)) cs = some (v, cs')) :
    step P (lone (b.atR a (.inRegion ops (i :: rest) :: k)) cs w) = .next (lone (b.atR (a.put o.dst v) (.inRegion ops rest :: k)) cs' w) := by
  have hfin : (b.atR a (.inRegion ops (i :: rest) :: k)).finish v = b.atR (a.put o.dst v) (.inRegion ops rest :: k) := by rw [Frame.finish_atR, ho]; rfl
  refine step_lone_go ?_
  rw [stepGR_op ho hw, ← hfin, semAt_of_call hop]
  have hrd : (b.atR a (.inRegion ops (i :: rest) :: k)).roundOf = none := hb
  simp [stepG.apply, Sem.runT_eq, execOp_recover hop, GStep.bare_after, hrd, ht]
theorem step_recover_none {args : Array Operand} {tys : Array TypeId} (ho : ops[i]? = some o) (hw : Region.wanted o (yielded ops a.tmps) = true) (hb : b.roundOf = none) (hop : o.op = .call ⟨.builtin .recover, args, tys⟩)
    (ht : tryRecover (b.atR a (.inRegion ops (i :: rest) :: k)) cs = none) :
    step P (lone (b.atR a (.inRegion ops (i :: rest) :: k)) cs w) = .next (lone (b.atR (a.put o.dst .nilIface) (.inRegion ops rest :: k)) cs w) := by
  have hfin : (b.atR a (.inRegion ops (i :: rest) :: k)).finish .nilIface = b.atR (a.put o.dst .nilIface) (.inRegion ops rest :: k) := by rw [Frame.finish_atR, ho]; rfl
  refine step_lone_go ?_
  rw [stepGR_op ho hw, ← hfin, semAt_of_call hop]
  have hrd : (b.atR a (.inRegion ops (i :: rest) :: k)).roundOf = none := hb
  simp [stepG.apply, Sem.runT_eq, execOp_recover hop, GStep.bare_after, hrd, ht]
theorem step_raise {v : Value} (ho : ops[i]? = some o) (hw : Region.wanted o (yielded ops a.tmps) = true) (hr : (o.semAt b.roundOf a.eval).run P w = .halt (.panic v) w) :
    step P (lone (b.atR a (.inRegion ops (i :: rest) :: k)) cs w) = .next (lone { b.atR a (.inRegion ops (i :: rest) :: k) with mode := .panicking [{ v, recovered := false }] } cs w) := by
  refine step_lone_go ?_
  rw [stepGR_op ho hw, ← Frame.raise_atR]
  simp [stepG.apply, Sem.runT_eq, hr, GStep.bare_after]
theorem step_deferred {d : Deferred} (ho : ops[i]? = some o) (hw : Region.wanted o (yielded ops a.tmps) = true) (hr : (o.semAt b.roundOf a.eval).run P w = .ok (.defer d) w) :
    step P (lone (b.atR a (.inRegion ops (i :: rest) :: k)) cs w) = .next (lone (b.atR ({ a with defers := d :: a.defers }.put o.dst undef) (.inRegion ops rest :: k)) cs w) := by
  have hfin := Frame.finish_atR b { a with defers := d :: a.defers } ops i rest k undef
  rw [ho] at hfin
  refine step_lone_go ?_
  rw [stepGR_op ho hw]
  simp only [Option.bind_some] at hfin
  rw [← hfin]
  simp [stepG.apply, Sem.runT_eq, hr, GStep.bare_after, Frame.atR]
theorem CSR.normal {ρ : Loc} {r : Md} (h : CSR ρ .normal cs₀ r cs) : r = .off ∧ cs = cs₀ := by
  rcases h with ⟨_, x⟩ | ⟨x, _⟩
  · exact x
  · cases x

theorem find_add {fn : Func} (hn : fn.name = "math/bits.Add64") (ho : fn.origin = "") : Extern.findNext fn = none ∧ Extern.find fn = some add64Entry := by
  unfold Extern.findNext Extern.find
  rw [hn, ho]
  have h1 : Extern.allNextRows.lookup "math/bits.Add64" = none := by kernel_rfl
  have h2 : Extern.allNextRows.lookup "" = none := by kernel_rfl
  have h3 : Extern.allGenericRows.lookup "math/bits.Add64" = none := by kernel_rfl
  have h4 : Extern.allTypedRows.lookup "math/bits.Add64" = none := by kernel_rfl
  have h5 : Extern.allRows.lookup "math/bits.Add64" = some add64Entry := by kernel_rfl
  simp [h1, h2, h3, h4, h5]
theorem add_sim {f : Operand} {args : List AV} {args' : Array Value} {ρ : Loc} {w : World} {A : Type} {K : AV → Option A} {r : A} (hf : isAdd P f = true) (ha : RL ρ args args'.toList) (hh : addK args K = some r) (ev' : Operand → Value) (hev : ∀ g, f = .func g → ev' f = .func (.func g) #[] #[]) :
    ∃ v v', K v = some r ∧ R ρ v v' ∧ (do let d ← Deferred.ofValue (ev' f) args'; invoke d.target d.args).run P w = .ok (.value v') w := by
  unfold isAdd at hf
  cases f with
  | func g =>
    simp only at hf
    cases hg : P.funcs[g]? with
    | none => rw [hg] at hf; cases hf
    | some fn =>
      rw [hg] at hf
      simp only [Bool.and_eq_true, beq_iff_eq] at hf
      obtain ⟨⟨h1, h2⟩, h3⟩ := hf
      obtain ⟨e1, e2⟩ := find_add h2 h3
      unfold addK at hh
      split at hh
      · rename_i x y c
        obtain ⟨hgd, hk⟩ := guardK_some hh
        simp only [Bool.and_eq_true, decide_eq_true_eq] at hgd
        obtain ⟨⟨⟨g1, g2⟩, g3⟩, g4⟩ := hgd
        obtain ⟨l, hl⟩ : ∃ l, args'.toList = l := ⟨_, rfl⟩
        have ha' := ha
        rw [hl] at ha'
        have hargs : args' = #[.int .u64 x, .int .u64 y, .int .u64 c] := by
          apply Array.ext'
          rw [hl]
          have hlen := ha'.1
          match l, hlen with
          | [a1, a2, a3], _ =>
            have r1 := ha'.2 0 _ _ rfl rfl
            have r2 := ha'.2 1 _ _ rfl rfl
            have r3 := ha'.2 2 _ _ rfl rfl
            cases r1; cases r2; cases r3
            rfl
        subst hargs
        refine ⟨_, .tuple #[_, _], hk, RL.two (.int _ _) (.int _ _), ?_⟩
        rw [hev g rfl]
        simp only [Deferred.ofValue, invoke, Sem.run_bind, Sem.run_pure, Result.andThen_ok]
        have := run_callFunc_extern (P := P) hg (by rw [h2]; decide) h1 e1 e2 #[.int .u64 x, .int .u64 y, .int .u64 c] w
        simp only [Array.empty_append, Array.append_empty]
        rw [this, run_add64 x y c g1 g2 g3 g4]
        rfl
      · cases hh
  | _ => cases hf
theorem stepOp_sim (Hc : CallSim P L call) (hL : Z.L = L) {A : Type} {r : A} {K Kp : AV → St → Option A} (hb : b.kind = kind) (hrd : RdR ρ rd b.roundOf) (hS : StR ρ Z kind cs₀ st a w cs)
    (ho : ops[i]? = some o) (hw : Region.wanted o (yielded ops a.tmps) = true) (hh : stepOp P (call A) rd o st K Kp = some r) :
    StepR P ρ Z kind cs₀ b (lone (b.atR a (.inRegion ops (i :: rest) :: k)) cs w) st.h.next w r (.inRegion ops rest :: k) o.dst K Kp := by
  have he : ∀ x, R ρ (ev st.t x) (a.eval x) := fun x => R.ev hS.tm x
  unfold stepOp at hh
  split at hh
  · rename_i f args tys hop
    have hargs : RL ρ (args.toList.map (ev st.t)) (args.map a.eval).toList := by
      have := RL.map (ρ := ρ) (ev st.t) a.eval args.toList (fun x _ => he x)
      simpa using this
    cases hx : isAdd P f with
    | true =>
      rw [hx] at hh
      simp only [cond_true] at hh
      obtain ⟨v, v', k1, k2, k3⟩ := add_sim (w := w) hx hargs hh a.eval (fun g hg => by rw [hg]; rfl)
      exact .inl ⟨v, st, ρ, a, w, cs, v', k1, hS, k2, Went.refl hS.rep, .one (step_value ho hw (by rw [semAt_of_call hop, execOp_call hop]; exact k3) (.inl rfl))⟩
    | false =>
    rw [hx] at hh
    simp only [cond_false] at hh
    obtain ⟨nx, frN, c1, c2, out, h', u', ρ', w', c', c3, c4, c5, c6⟩ := callee_sim Hc hL hh hS.rep (he f) hargs (b.atR a (.inRegion ops (i :: rest) :: k)) cs
    have hst : step P (lone (b.atR a (.inRegion ops (i :: rest) :: k)) cs w) = .next (lone frN (b.atR a (.inRegion ops (i :: rest) :: k) :: cs) w) :=
      step_call ho hw (by rw [semAt_of_call hop, execOp_call hop]; exact c1) c2
    have hS' : StR ρ' Z kind cs₀ { st with h := h' } a w' cs := ⟨hS.tm.grows c5.grows, hS.df.grows c5.grows, c5.rep, hS.cs.grows c5.grows⟩
    cases out with
    | ret v =>
      obtain ⟨v', hv, rfl⟩ := c6
      have hfin : (b.atR a (.inRegion ops (i :: rest) :: k)).finish v' = b.atR (a.put o.dst v') (.inRegion ops rest :: k) := by rw [Frame.finish_atR, ho]; rfl
      rw [hfin] at c4
      exact .inl ⟨v, _, ρ', a, w', cs, v', c3, hS', hv, c5, .head hst c4⟩
    | pan v =>
      obtain ⟨v', hv, rfl⟩ := c6
      rw [Frame.raise_atR] at c4
      exact .inr ⟨v, _, ρ', a, w', cs, v', _, c3, hS', hv, c5, .head hst c4⟩
  · rename_i args tys hop
    cases rd with
    | some l => cases st.r <;> cases hh
    | none =>
      have hrn : b.roundOf = none := by
        cases hx : b.roundOf with
        | none => rfl
        | some q => rw [hx] at hrd; exact hrd.elim
      have hnot : tryRecover (b.atR a (.inRegion ops (i :: rest) :: k)) cs = none → K .nili st = some r →
          StepR P ρ Z kind cs₀ b (lone (b.atR a (.inRegion ops (i :: rest) :: k)) cs w) st.h.next w r (.inRegion ops rest :: k) o.dst K Kp := fun ht hk =>
        .inl ⟨.nili, st, ρ, a, w, cs, .nilIface, hk, hS, .nili, Went.refl hS.rep, .one (step_recover_none ho hw hrn hop ht)⟩
      have hkd : (b.atR a (.inRegion ops (i :: rest) :: k)).kind = kind := hb
      rcases hS.cs with ⟨rfl, h2, h3⟩ | ⟨rfl, c, rest', u, h2, h3, h4⟩
      · rw [h2] at hh
        refine hnot ?_ hh
        unfold tryRecover
        rw [hkd]
      · rw [tryRecover_deferred hkd] at hnot
        rw [h3] at hnot ⊢
        cases hr : st.r with
        | off => rw [hr] at h4; exact h4.elim
        | ret =>
          rw [hr] at h4 hh
          have hu : u = .returning := h4
          exact hnot (by simp [recoverD, hu]) hh
        | rcd v =>
          rw [hr] at h4 hh
          obtain ⟨v', hv, hu⟩ := h4
          exact hnot (by simp [recoverD, hu]) hh
        | pan v =>
          rw [hr] at h4 hh
          obtain ⟨v', hv, hu⟩ := h4
          refine .inl ⟨v, _, ρ, a, w, _, v', hh, ⟨hS.tm, hS.df, hS.rep, .inr ⟨rfl, c, rest', .panicking [{ v := v', recovered := true }], h2, rfl, v', hv, rfl⟩⟩, hv, Went.refl hS.rep, .one (step_recover ho hw hrn hop ?_)⟩
          rw [tryRecover_deferred hkd]
          simp [recoverD, hu]
  · rename_i x hop
    split at hh
    · rename_i t v hev
      have hx := he x
      rw [hev] at hx
      obtain ⟨v', hv, hax⟩ : ∃ v', R ρ v v' ∧ a.eval x = .iface t v' := by
        generalize a.eval x = y at hx
        cases hx with
        | iface _ hv => exact ⟨_, hv, rfl⟩
      refine .inr ⟨_, st, ρ, a, w, cs, .iface t v', _, hh, hS, .iface t hv, Went.refl hS.rep, .one (step_raise ho hw ?_)⟩
      rw [Oper.semAt_eq _ _ _ (fun c hc => by rw [hop] at hc; cases hc)]
      unfold execOp
      rw [hop]
      simp [hax, Instr.panic, goPanic]
    · cases hh
  · rename_i f args tys hop
    split at hh
    · rename_i g first cap hev
      have hrn : b.roundOf = none := by
        cases hx : b.roundOf with
        | none => rfl
        | some q => rw [hx] at hrd; exact hrd.elim
      have hf := he f
      rw [hev] at hf
      obtain ⟨first', cap', hax, hfi, hca⟩ : ∃ first' cap', a.eval f = .func (.func g) first' cap' ∧ RL ρ first first'.toList ∧ RL ρ cap cap'.toList := by
        generalize a.eval f = y at hf
        cases hf with
        | fn _ h1 h2 h3 h4 => exact ⟨_, _, rfl, ⟨by simpa using h1, fun i v v' a b => h2 i v v' a (by simpa using b)⟩, ⟨by simpa using h3, fun i v v' a b => h4 i v v' a (by simpa using b)⟩⟩
      have hargs : RL ρ (args.toList.map (ev st.t)) (args.map a.eval).toList := by
        have := RL.map (ρ := ρ) (ev st.t) a.eval args.toList (fun x _ => he x)
        simpa using this
      have hall : RL ρ (appA first (appA (args.toList.map (ev st.t)) cap)) ((first' ++ args.map a.eval) ++ cap').toList := by
        rw [appA_eq, appA_eq]
        have := hfi.append (hargs.append hca)
        simpa [List.append_assoc] using this
      refine .inl ⟨_, _, ρ, { a with defers := _ :: a.defers }, w, cs, undef, hh, ⟨hS.tm, .cons (.call hall) hS.df, hS.rep, hS.cs⟩, R.undef ρ, Went.refl hS.rep, .one (step_deferred ho hw ?_)⟩
      rw [hrn, Oper.semAt_none]
      unfold execOp
      rw [hop]
      simp [resolve, Deferred.ofValue, hax]
    · cases hh
  · have hsem := semAt_of_prim (ro := b.roundOf) (ρ := a.eval) hh
    cases hn : news o.op with
    | true =>
      have hr' : Rep ρ ⟨st.h.m, st.h.next + 1⟩ Z w := hS.rep.next (Nat.le_succ _)
      obtain ⟨v, h', v', w', ρ', nx, k1, k2, k3, k4, ⟨k5, _⟩, k6, k7, k8, k9⟩ := prim_sound hr' he (fun _ => ⟨hS.rep.fresh _ (Nat.le_refl _), Nat.lt_succ_self _⟩) hh
      rw [hn] at k1
      have hrep : Rep ρ' h'.bump Z w' := by
        have : h'.bump = ⟨h'.m, st.h.next + 1⟩ := by simp [Heap.bump, k2]
        rw [this]; exact k7
      refine .inl ⟨v, _, ρ', a, w', cs, v', k1, ⟨hS.tm.grows k5, hS.df.grows k5, hrep, hS.cs.grows k5⟩, k8, ⟨k5, fun c hc => k6 c (Nat.ne_of_lt hc), ?_, hrep, k9⟩, .one (step_value ho hw ?_ k4)⟩
      · show st.h.next ≤ h'.next + 1; omega
      · rw [hsem]; exact k3
    | false =>
      rw [prim_id (id' := st.h.next) o hn] at hh
      obtain ⟨v, h', v', w', ρ', nx, k1, k2, k3, k4, ⟨k5, _⟩, k6, k7, k8, k9⟩ := prim_sound (n := st.h.next) hS.rep he (fun h => by rw [hn] at h; cases h) hh
      rw [hn] at k1
      have hrep : Rep ρ' h' Z w' := by rw [← k2] at k7; exact k7
      refine .inl ⟨v, _, ρ', a, w', cs, v', k1, ⟨hS.tm.grows k5, hS.df.grows k5, hrep, hS.cs.grows k5⟩, k8, ⟨k5, fun c hc => k6 c (Nat.ne_of_lt hc), ?_, hrep, k9⟩, .one (step_value ho hw ?_ k4)⟩
      · exact Nat.le_of_eq k2.symm
      · rw [hsem]; exact k3
end
end Go.Ev
/- A heap seen by other numbers, with less in it: what the world says of the one it says of the other. -/
namespace Go.Ev
variable {P : Program} {φ : List (Nat × Nat)} {h : Heap} {ρ ρ' : Loc} {N : Zone} {w : World}

theorem beq_eq {a b : Nat} : Nat.beq a b = true ↔ a = b := ⟨Nat.eq_of_beq_eq_true, fun h => by subst h; simp⟩
theorem find1_mem {b c : Nat} : ∀ {φ : List (Nat × Nat)}, find1 b φ = some c → (b, c) ∈ φ
  | [], h => by cases h
  | x :: l, h => by
    simp only [find1] at h
    cases hb : Nat.beq b x.1 with
    | true =>
      rw [hb] at h
      simp only [cond_true, Option.some.injEq] at h
      have := beq_eq.1 hb
      subst this; subst h
      exact List.mem_cons_self
    | false => rw [hb] at h; exact List.mem_cons_of_mem _ (find1_mem h)
theorem find1_none {b : Nat} : ∀ {φ : List (Nat × Nat)}, find1 b φ = none → ∀ c, (b, c) ∉ φ
  | [], _, c => by simp
  | x :: l, h, c => by
    simp only [find1] at h
    cases hb : Nat.beq b x.1 with
    | true => rw [hb] at h; cases h
    | false =>
      rw [hb] at h
      intro hm
      rcases List.mem_cons.1 hm with e | e
      · subst e; simp at hb
      · exact find1_none h c e
theorem find1_of_mem {b c : Nat} : ∀ {φ : List (Nat × Nat)}, (φ.map (·.1)).Nodup → (b, c) ∈ φ → find1 b φ = some c
  | [], _, h => by cases h
  | x :: l, hn, h => by
    simp only [List.map_cons, List.nodup_cons] at hn
    simp only [find1]
    rcases List.mem_cons.1 h with e | e
    · subst e; simp
    · have hne : b ≠ x.1 := fun e2 => hn.1 (List.mem_map.2 ⟨_, e, e2⟩)
      rw [show Nat.beq b x.1 = false from beq_false hne]
      exact find1_of_mem hn.2 e
/-- The number that goes by a number. -/
def inv1 (c : Nat) : List (Nat × Nat) → Option Nat
  | [] => none
  | x :: l => if c = x.2 then some x.1 else inv1 c l
theorem inv1_of_mem {b c : Nat} : ∀ {φ : List (Nat × Nat)}, (φ.map (·.2)).Nodup → (b, c) ∈ φ → inv1 c φ = some b
  | [], _, h => by cases h
  | x :: l, hn, h => by
    simp only [List.map_cons, List.nodup_cons] at hn
    simp only [inv1]
    rcases List.mem_cons.1 h with e | e
    · subst e; simp
    · have hne : c ≠ x.2 := fun e2 => hn.1 (List.mem_map.2 ⟨_, e, e2⟩)
      rw [if_neg hne]
      exact inv1_of_mem hn.2 e
theorem inv1_mem {b c : Nat} : ∀ {φ : List (Nat × Nat)}, inv1 c φ = some b → (b, c) ∈ φ
  | [], h => by cases h
  | x :: l, h => by
    simp only [inv1] at h
    by_cases e : c = x.2
    · rw [if_pos e] at h; cases h; subst e; exact List.mem_cons_self
    · rw [if_neg e] at h; exact List.mem_cons_of_mem _ (inv1_mem h)

theorem fixLen_length : ∀ (n : Nat) (cs : List AV), (fixLen n cs).length = n
  | 0, _ => rfl
  | n + 1, [] => by simp [fixLen, fixLen_length n []]
  | n + 1, c :: cs => by simp [fixLen, fixLen_length n cs]
theorem fixLen_get : ∀ (n : Nat) (cs : List AV) (i : Nat) (v : AV), (fixLen n cs)[i]? = some v → cs[i]? = some v ∨ v = .dead
  | 0, _, i, v, h => by simp [fixLen] at h
  | n + 1, [], i, v, h => by
    cases i with
    | zero => simp [fixLen] at h; exact .inr h.symm
    | succ i =>
      simp only [fixLen, List.getElem?_cons_succ] at h
      rcases fixLen_get n [] i v h with h | h
      · simp at h
      · exact .inr h
  | n + 1, c :: cs, i, v, h => by
    cases i with
    | zero => simp [fixLen] at h; exact .inl (by simp [h])
    | succ i =>
      simp only [fixLen, List.getElem?_cons_succ] at h ⊢
      exact fixLen_get n cs i v h
theorem mapCyc_length {f : Option TypeId → AV → AV} {all : List (Option TypeId)} : ∀ (ls : List (Option TypeId)) (cs : List AV), (mapCyc f all ls cs).length = cs.length
  | [], [] => by simp [mapCyc]
  | _ :: _, [] => by simp [mapCyc]
  | l :: ls, c :: cs => by simp [mapCyc, mapCyc_length ls cs]
  | [], c :: cs => by
    simp only [mapCyc]
    split
    · simp [mapCyc_length [] cs]
    · rename_i ls; simp [mapCyc_length ls cs]
theorem mapCyc_get {f : Option TypeId → AV → AV} {all : List (Option TypeId)} : ∀ (ls : List (Option TypeId)) (cs : List AV) (i : Nat) (v : AV), (mapCyc f all ls cs)[i]? = some v → ∃ c l, cs[i]? = some c ∧ v = f l c
  | [], [], i, v, h => by simp [mapCyc] at h
  | _ :: _, [], i, v, h => by simp [mapCyc] at h
  | l :: ls, c :: cs, i, v, h => by
    cases i with
    | zero => simp [mapCyc] at h; exact ⟨c, l, by simp, h.symm⟩
    | succ i => simp only [mapCyc, List.getElem?_cons_succ] at h ⊢; exact mapCyc_get ls cs i v h
  | [], c :: cs, i, v, h => by
    simp only [mapCyc] at h
    split at h
    · cases i with
      | zero => simp at h; exact ⟨c, none, by simp, h.symm⟩
      | succ i => simp only [List.getElem?_cons_succ] at h ⊢; exact mapCyc_get [] cs i v h
    · rename_i l ls
      cases i with
      | zero => simp at h; exact ⟨c, l, by simp, h.symm⟩
      | succ i => simp only [List.getElem?_cons_succ] at h ⊢; exact mapCyc_get ls cs i v h
theorem RL.cyc {f : Option TypeId → AV → AV} (hf : ∀ l v v', R ρ v v' → R ρ' (f l v) v') {all ls : List (Option TypeId)} {cs : List AV} {cs' : List Value} (hc : RL ρ cs cs') : RL ρ' (mapCyc f all ls cs) cs' :=
  ⟨by rw [mapCyc_length, hc.len], fun i v v' a b => by
    obtain ⟨c, l, h1, rfl⟩ := mapCyc_get _ _ _ _ a
    exact hf l c v' (hc.get i c v' h1 b)⟩
theorem RL.mapA {f : AV → AV} (hf : ∀ v v', R ρ v v' → R ρ' (f v) v') {cs : List AV} {cs' : List Value} (hc : RL ρ cs cs') : RL ρ' (cs.map f) cs' :=
  ⟨by simp [hc.len], fun i v v' a b => by
    simp only [List.getElem?_map, Option.map_eq_some_iff] at a
    obtain ⟨c, h1, rfl⟩ := a
    exact hf c v' (hc.get i c v' h1 b)⟩

/-- What is told of a world by other numbers. -/
structure Sees (P : Program) (φ : List (Nat × Nat)) (h : Heap) (ρ ρ' : Loc) : Prop where
  at' : ∀ b c, find1 b φ = some c → ρ' c = ρ b
  F : ∀ b o cs, ρ.F b o cs → ρ'.F b o cs
  nw : ∀ id p wr vs o n k ls, h.m id = some (.cells wr vs) → find1 id φ = none → ρ id = some p → o + n ≤ p.ext → ρ'.F p.blk (p.off + o) (fixLen n (mapCyc (vw P φ h true k) ls ls (vs.drop o)))
theorem vw_slice (hs : Sees P φ h ρ ρ') {k : Nat} {ls : List (Option TypeId)} {b o len cap sz : Nat} {ex : Bool} {v' : Value} (hv : R ρ (.sl (some (b, o)) len cap ex sz) v') (hn : find1 b φ = none) :
    R ρ' (match h.m b with
      | some (.cells _ vs) => .fz (fixLen (len * sz) (mapCyc (vw P φ h true k) ls ls (dropA vs o))) len false sz
      | _ => .dead) v' := by
  obtain ⟨p, a, cap', q1, rfl, q2, q3, q4, q5⟩ := hv.sl_inv
  split
  · rename_i wr vs hm
    rw [dropA_eq]
    refine .fz (fun h0 => ?_) (by simp) (fixLen_length _ _) (Nat.le_trans q5 q2) (by simp) (fun x hx h0 => by cases hx; rw [(q4 h0).1])
    obtain ⟨ha, hb⟩ := q4 (by omega)
    have hle : o + len * sz ≤ p.ext := by
      have : len * sz ≤ cap' * sz := Nat.mul_le_mul_right _ (Nat.le_trans q5 q2)
      omega
    refine ⟨p.blk, p.off + o, 0, _, hs.nw b p wr vs o (len * sz) k ls hm hn q1 hle, by rw [ha]; rfl, ?_, ?_⟩
    · rw [List.drop_zero, List.take_of_length_le (by rw [fixLen_length]; exact Nat.le_refl _)]
    · rw [fixLen_length]; omega
  · exact .dead _
theorem vw_R (hs : Sees P φ h ρ ρ') : ∀ (k : Nat) (pur : Bool) (l : Option TypeId) (v : AV) (v' : Value), R ρ v v' → R ρ' (vw P φ h pur k l v) v'
  | 0, pur, l, v, v', hv => .dead _
  | k + 1, pur, l, v, v', hv => by
    have ih := vw_R hs k pur
    cases hv with
    | dead v => exact .dead _
    | int k n => exact .int _ _
    | bool b => exact .bool _
    | str s => exact .str _
    | ptrn => exact .ptrn
    | ptr hp =>
      simp only [vw]
      split
      · rename_i c hc
        cases pur with
        | true => exact .dead _
        | false => exact .ptr ((hs.at' _ _ hc).trans hp)
      · exact .dead _
    | sln sz =>
      simp only [vw]
      split
      · exact .fz (fun h0 => absurd h0 (Nat.lt_irrefl _)) (fun _ => rfl) (by simp) (Nat.le_refl 0) (by simp) (fun _ hx => by cases hx)
      · exact .sln _
    | sl hp h1 h2 h3 h4 =>
      have hv : R ρ (.sl (some (_, _)) _ _ _ _) _ := .sl hp h1 h2 h3 h4
      simp only [vw]
      split
      · rename_i c hc
        cases pur with
        | true => exact .dead _
        | false => exact .sl ((hs.at' _ _ hc).trans hp) h1 h2 h3 h4
      · rename_i hc
        exact vw_slice hs hv hc
    | gr hp h1 h3 =>
      have hv : R ρ (.gr (_, _) _ _) _ := .gr hp h1 h3
      simp only [vw]
      split
      · rename_i c hc
        cases pur with
        | true => exact .dead _
        | false => exact .gr ((hs.at' _ _ hc).trans hp) h1 h3
      · rename_i hc
        exact vw_slice hs hv.gr_sl hc
    | fz hh h0 hl h1 h2 h5 =>
      simp only [vw]
      split
      · exact .fz (fun h' => let ⟨b, q, o, cs0, x, y⟩ := hh h'; ⟨b, q, o, cs0, hs.F _ _ _ x, y⟩) h0 hl h1 (by simp) h5
      · exact .fz (fun h' => let ⟨b, q, o, cs0, x, y⟩ := hh h'; ⟨b, q, o, cs0, hs.F _ _ _ x, y⟩) h0 hl h1 h2 h5
    | fp hh hc hl => exact .fp (hs.F _ _ _ hh) hc hl
    | mapn => exact .mapn
    | map hp =>
      simp only [vw]
      split
      · rename_i c hc
        cases pur with
        | true => exact .dead _
        | false => exact .map ((hs.at' _ _ hc).trans hp)
      · exact .dead _
    | fn f h1 h2 h3 h4 =>
      simp only [vw]
      refine .fn f (by simpa using h1) (fun i v v' a b => ?_) (by simpa using h3) (fun i v v' a b => ?_)
      · simp only [List.getElem?_map, Option.map_eq_some_iff] at a
        obtain ⟨c, a1, rfl⟩ := a
        exact ih _ _ _ (h2 i c v' a1 b)
      · simp only [List.getElem?_map, Option.map_eq_some_iff] at a
        obtain ⟨c, a1, rfl⟩ := a
        exact ih _ _ _ (h4 i c v' a1 b)
    | yield hp =>
      simp only [vw]
      split
      · rename_i c hc
        cases pur with
        | true => exact .dead _
        | false => exact .yield ((hs.at' _ _ hc).trans hp)
      · exact .dead _
    | nilf => exact .nilf
    | iface t hx => exact .iface t (ih _ _ _ hx)
    | nili => exact .nili
    | agg h1 h2 =>
      simp only [vw]
      refine .agg (by rw [mapCyc_length]; exact h1) (fun i v v' a b => ?_)
      obtain ⟨c, l', a1, rfl⟩ := mapCyc_get _ _ _ _ a
      exact ih _ _ _ (h2 i c v' a1 b)
    | tup h1 h2 =>
      simp only [vw]
      refine .tup (by simpa using h1) (fun i v v' a b => ?_)
      simp only [List.getElem?_map, Option.map_eq_some_iff] at a
      obtain ⟨c, a1, rfl⟩ := a
      exact ih _ _ _ (h2 i c v' a1 b)
theorem vw_pure : ∀ (k : Nat) (l : Option TypeId) (v : AV), Pure (vw P φ h true k l v)
  | 0, l, v => .dead
  | k + 1, l, v => by
    have ih := vw_pure k
    cases v with
    | dead => exact .dead
    | int k n => exact .int _ _
    | bool b => exact .bool _
    | str s => exact .str _
    | ptr p =>
      cases p with
      | none => exact .ptrn
      | some p => simp only [vw]; split <;> exact .dead
    | sl p len cap ex sz =>
      cases p with
      | none =>
        simp only [vw]
        split
        · exact .fz _ _ _ _
        · exact .sln _ _ _ _
      | some p =>
        simp only [vw]
        split
        · exact .dead
        · split
          · exact .fz _ _ _ _
          · exact .dead
    | gr p len sz =>
      simp only [vw]
      split
      · exact .dead
      · split
        · exact .fz _ _ _ _
        · exact .dead
    | map r =>
      cases r with
      | none => exact .mapn
      | some b => simp only [vw]; split <;> exact .dead
    | fn f a c =>
      simp only [vw]
      refine .fn f (fun i v hv => ?_) (fun i v hv => ?_) <;>
      · simp only [List.getElem?_map, Option.map_eq_some_iff] at hv
        obtain ⟨c, _, rfl⟩ := hv
        exact ih _ _
    | yield l => simp only [vw]; split <;> exact .dead
    | nilf => exact .nilf
    | iface t v => exact .iface t (ih _ _)
    | nili => exact .nili
    | agg cs =>
      simp only [vw]
      refine .agg (fun i v hv => ?_)
      obtain ⟨c, l', a1, rfl⟩ := mapCyc_get _ _ _ _ hv
      exact ih _ _
    | tup cs =>
      simp only [vw]
      refine .tup (fun i v hv => ?_)
      simp only [List.getElem?_map, Option.map_eq_some_iff] at hv
      obtain ⟨c, _, rfl⟩ := hv
      exact ih _ _
    | fz cs len ex sz => simp only [vw]; split <;> exact .fz _ _ _ _
    | fp cs o => exact .fp _ _

/-- Numbers to numbers, one to one; below n0 as they are. -/
structure RenOk (φ : List (Nat × Nat)) (n0 nx : Nat) : Prop where
  k : (φ.map (·.1)).Nodup
  v : (φ.map (·.2)).Nodup
  low : ∀ b c, (b, c) ∈ φ → c < n0 → b = c
  lt : ∀ b c, (b, c) ∈ φ → c < nx
  le : n0 ≤ nx
def locOf (P : Program) (φ : List (Nat × Nat)) (n0 : Nat) (h : Heap) (ρ : Loc) : Loc where
  m c := if c < n0 then ρ c else (inv1 c φ).bind ρ
  F b o cs := ρ.F b o cs ∨ ∃ id p wr vs o' n k ls, h.m id = some (.cells wr vs) ∧ find1 id φ = none ∧ ρ id = some p ∧ o' + n ≤ p.ext ∧ b = p.blk ∧ o = p.off + o' ∧ cs = fixLen n (mapCyc (vw P φ h true k) ls ls (vs.drop o'))
theorem sees_locOf {n0 nx : Nat} (hφ : RenOk φ n0 nx) : Sees P φ h ρ (locOf P φ n0 h ρ) := by
  refine ⟨fun b c hc => ?_, fun b o cs hf => .inl hf, fun id p wr vs o n k ls h1 h2 h3 h4 => .inr ⟨id, p, wr, vs, o, n, k, ls, h1, h2, h3, h4, rfl, rfl, rfl⟩⟩
  have hm := find1_mem hc
  show (if c < n0 then ρ c else (inv1 c φ).bind ρ) = ρ b
  by_cases e : c < n0
  · rw [if_pos e, hφ.low _ _ hm e]
  · rw [if_neg e, inv1_of_mem hφ.v hm]; rfl
theorem look_mem {c : Nat} {x : Blk} : ∀ {l : List (Nat × Blk)}, look c l = some x → (c, x) ∈ l
  | [], h => by cases h
  | y :: l, h => by
    simp only [look] at h
    cases hb : Nat.beq c y.1 with
    | true =>
      rw [hb] at h
      simp only [cond_true, Option.some.injEq] at h
      have := beq_eq.1 hb
      subst this; subst h
      exact List.mem_cons_self
    | false => rw [hb] at h; exact List.mem_cons_of_mem _ (look_mem h)
theorem vwBlks_mem {ty : Nat → Option TypeId} {ψ : List (Nat × Nat)} {c : Nat} {x : Blk} : ∀ {l : List (Nat × Nat)}, (c, x) ∈ vwBlks P ψ h ty l → ∃ b y, (b, c) ∈ l ∧ h.m b = some y ∧ vwB P ψ h (ty b) y = some x
  | [], hm => by simp [vwBlks] at hm
  | (b, c') :: l, hm => by
    simp only [vwBlks] at hm
    split at hm
    · rename_i y hy
      rcases List.mem_cons.1 hm with e | e
      · cases e
        obtain ⟨z, h1, h2⟩ := Option.bind_eq_some_iff.1 hy
        exact ⟨b, z, List.mem_cons_self, h1, h2⟩
      · obtain ⟨b', z, a1, a2⟩ := vwBlks_mem e
        exact ⟨b', z, List.mem_cons_of_mem _ a1, a2⟩
    · obtain ⟨b', z, a1, a2⟩ := vwBlks_mem hm
      exact ⟨b', z, List.mem_cons_of_mem _ a1, a2⟩
theorem vwB_writes {l : Option TypeId} {x y : Blk} (hb : vwB P φ h l x = some y) : y.writes = x.writes := by
  cases x with
  | cells w vs => simp only [vwB, Option.some.injEq] at hb; subst hb; rfl
  | map es c => simp only [vwB, Option.some.injEq] at hb; subst hb; rfl
  | loop x =>
    simp only [vwB] at hb
    split at hb
    · simp only [Option.some.injEq] at hb; subst hb; rfl
    · cases hb
  | dfr b => simp only [vwB, Option.some.injEq] at hb; subst hb; rfl
/-- What is asked of loops' records does not hang on the numbers. -/
def LFree (L : ALoop → Prop) : Prop := ∀ (x : ALoop) t d, L x → L { x with tmps := t, defers := d }
theorem RB.vw (hs : Sees P φ h ρ ρ') (hL : LFree N.L) {p : Pl} {x y : Blk} {l : Option TypeId} (hx : RB ρ N w p x) (hb : vwB P φ h l x = some y) : RB ρ' N w p y := by
  have hR := vw_R hs deepV false
  cases x with
  | cells wr vs =>
    simp only [vwB, Option.some.injEq] at hb
    subst hb
    obtain ⟨c, e, fz, g1, g2, g3, g4, g5⟩ := hx
    refine ⟨c, e, fz, g1, g2, by rw [mapCyc_length]; exact g3, fun i v hi => ?_, g5⟩
    obtain ⟨u, l', a1, rfl⟩ := mapCyc_get _ _ _ _ hi
    obtain ⟨v', b1, b2⟩ := g4 i u a1
    exact ⟨v', b1, hR _ _ _ b2⟩
  | map es ck =>
    simp only [vwB, Option.some.injEq] at hb
    subst hb
    obtain ⟨h0, en, h1, h2, h3⟩ := hx
    refine ⟨h0, en, h1, by simpa using h2, fun i e e' a b => ?_⟩
    simp only [List.getElem?_map, Option.map_eq_some_iff] at a
    obtain ⟨u, a1, rfl⟩ := a
    obtain ⟨x1, x2, x3⟩ := h3 i u e' a1 b
    exact ⟨hR none _ _ x1, hR none _ _ x2, x3⟩
  | loop x =>
    simp only [vwB] at hb
    split at hb
    · rename_i d hd
      simp only [Option.some.injEq] at hb
      subst hb
      obtain ⟨h0, hl, l', h1, h2, h3, h4, h5, h6, h7, h8, p2, h9, h10⟩ := hx
      exact ⟨h0, hL _ _ _ hl, l', h1, h2, h3, h4, h5.mapA (fun v v' => hR none v v'), h6, h7, h8, p2, (hs.at' _ _ hd).trans h9, h10⟩
    · cases hb
  | dfr b =>
    simp only [vwB, Option.some.injEq] at hb
    subst hb
    exact hx
theorem view {n0 nx : Nat} {ty : Nat → Option TypeId} (hr : Rep ρ h N w) (hφ : RenOk φ n0 nx) (hL : LFree N.L) : Rep (locOf P φ n0 h ρ) (mkHeap (vwBlks P φ h ty φ) nx) N w := by
  have hs : Sees P φ h ρ (locOf P φ n0 h ρ) := sees_locOf hφ
  have key : ∀ c y, (mkHeap (vwBlks P φ h ty φ) nx).m c = some y → ∃ b x p, find1 b φ = some c ∧ h.m b = some x ∧ ρ b = some p ∧ RB ρ N w p x ∧ vwB P φ h (ty b) x = some y := fun c y hy => by
    obtain ⟨b, x, a1, a2, a3⟩ := vwBlks_mem (look_mem hy)
    obtain ⟨p, b1, b2⟩ := hr.blk b x a2
    exact ⟨b, x, p, find1_of_mem hφ.k a1, a2, b1, b2, a3⟩
  have kinj : ∀ b b' c, find1 b φ = some c → find1 b' φ = some c → b = b' := fun b b' c x y => by
    have h1 := inv1_of_mem hφ.v (find1_mem x)
    have h2 := inv1_of_mem hφ.v (find1_mem y)
    rw [h1] at h2; cases h2; rfl
  refine ⟨fun c y hy => ?_, fun c c' y y' q q' hy hy' hne hw hq hq' => ?_, hr.old, fun c hc => ?_, fun b o cs hf => ?_⟩
  · obtain ⟨b, x, p, a1, a2, a3, a4, a5⟩ := key c y hy
    exact ⟨p, (hs.at' _ _ a1).trans a3, a4.vw hs hL a5⟩
  · obtain ⟨b, x, p, a1, a2, a3, a4, a5⟩ := key c y hy
    obtain ⟨b', x', p', a1', a2', a3', a4', a5'⟩ := key c' y' hy'
    have e1 := (hs.at' _ _ a1).trans a3
    have e2 := (hs.at' _ _ a1').trans a3'
    rw [e1] at hq; cases hq
    rw [e2] at hq'; cases hq'
    refine hr.inj b b' x x' _ _ a2 a2' (fun e => ?_) (by rw [← vwB_writes a5]; exact hw) a3 a3'
    subst e
    rw [a1] at a1'; cases a1'; exact hne rfl
  · have hc' : nx ≤ c := hc
    show (if c < n0 then ρ c else (inv1 c φ).bind ρ) = none
    have := hφ.le
    rw [if_neg (by omega)]
    cases hi : inv1 c φ with
    | none => rfl
    | some b => have := hφ.lt _ _ (inv1_mem hi); omega
  · rcases hf with hf | ⟨id, p, wr, vs, o', n, k, ls, h1, h2, h3, h4, rfl, rfl, rfl⟩
    · obtain ⟨⟨c, e, fz, g1, g2, g3⟩, f2, f3, f4⟩ := hr.frz b o cs hf
      refine ⟨⟨c, e, fz, g1, g2, fun i v hi => ?_⟩, fun d y q hd hy hq => ?_, f3, f4⟩
      · obtain ⟨v', a, b⟩ := g3 i v hi
        exact ⟨v', a, b.pure hs.F (f4 v (List.mem_of_getElem? hi))⟩
      · obtain ⟨b', x, p, a1, a2, a3, a4, a5⟩ := key d y hd
        have e1 := (hs.at' _ _ a1).trans a3
        rw [e1] at hq; cases hq
        exact f2 b' x _ a2 (by rw [← vwB_writes a5]; exact hy) a3
    · obtain ⟨p', b1, b2⟩ := hr.blk id _ h1
      rw [h3] at b1; cases b1
      refine ⟨?_, fun d y q hd hy hq => ?_, fun hk => ?_, fun v hv => ?_⟩
      · obtain ⟨c, e, fz, g1, g2, g3, g4, g5⟩ := b2
        refine ⟨c, e, fz, g1, by rw [fixLen_length]; omega, fun i v hi => ?_⟩
        have hin : i < n := by
          have := (List.getElem?_eq_some_iff.1 hi).1
          rwa [fixLen_length] at this
        have hlt : p.off + o' + i < c.size := by omega
        rcases fixLen_get _ _ _ _ hi with hi | rfl
        · obtain ⟨u, l', a1, rfl⟩ := mapCyc_get _ _ _ _ hi
          rw [List.getElem?_drop] at a1
          obtain ⟨v', c1, c2⟩ := g4 _ _ a1
          exact ⟨v', by rw [show p.off + o' + i = p.off + (o' + i) by omega]; exact c1, vw_R hs _ _ _ _ _ c2⟩
        · exact ⟨c[p.off + o' + i], Array.getElem?_eq_getElem hlt, .dead _⟩
      · obtain ⟨b', x, p1, a1, a2, a3, a4, a5⟩ := key d y hd
        have e1 := (hs.at' _ _ a1).trans a3
        rw [e1] at hq; cases hq
        refine hr.inj b' id x _ _ _ a2 h1 (fun e => ?_) (by rw [← vwB_writes a5]; exact hy) a3 h3
        subst e
        rw [h2] at a1; cases a1
      · cases wr with
        | true => exact absurd hk (b2.low rfl)
        | false => obtain ⟨c, e, fz, g1, g2, g3, g4, g5, g6⟩ := b2; exact .inl (g6 rfl)
      · obtain ⟨i, hi⟩ := List.getElem?_of_mem hv
        rcases fixLen_get _ _ _ _ hi with hi | rfl
        · obtain ⟨u, l', a1, rfl⟩ := mapCyc_get _ _ _ _ hi
          exact vw_pure _ _ _
        · exact .dead

/-! ### What stays at a loop's head -/
theorem idents_mem {b c : Nat} : ∀ {n : Nat}, (b, c) ∈ idents h n → b = c ∧ b < n
  | 0, hm => by simp [idents] at hm
  | n + 1, hm => by
    simp only [idents] at hm
    split at hm
    · rcases List.mem_cons.1 hm with e | e
      · cases e; exact ⟨rfl, Nat.lt_succ_self _⟩
      · have := idents_mem e; exact ⟨this.1, by omega⟩
    · have := idents_mem hm; exact ⟨this.1, by omega⟩
theorem idents_nodup : ∀ n : Nat, ((idents h n).map (·.1)).Nodup ∧ ((idents h n).map (·.2)).Nodup
  | 0 => ⟨by simp [idents], by simp [idents]⟩
  | n + 1 => by
    have ih := idents_nodup n
    simp only [idents]
    split
    · refine ⟨?_, ?_⟩
      · simp only [List.map_cons, List.nodup_cons]
        refine ⟨fun hm => ?_, ih.1⟩
        obtain ⟨x, a, b⟩ := List.mem_map.1 hm
        have h1 : x.1 = n := b
        have := idents_mem (b := x.1) (c := x.2) a
        omega
      · simp only [List.map_cons, List.nodup_cons]
        refine ⟨fun hm => ?_, ih.2⟩
        obtain ⟨x, a, b⟩ := List.mem_map.1 hm
        have h1 : x.2 = n := b
        have := idents_mem (b := x.1) (c := x.2) a
        omega
    · exact ih
theorem pairsOf_ok {n0 : Nat} : ∀ (ps : List (Option Nat)) (i : Nat) (acc : List (Nat × Nat)), (acc.map (·.1)).Nodup → (acc.map (·.2)).Nodup → (∀ b c, (b, c) ∈ acc → (c < n0 → b = c) ∧ c < n0 + i) →
    RenOk (pairsOf n0 ps i acc) n0 (n0 + (i + lenO ps))
  | [], i, acc, h1, h2, h3 => ⟨h1, h2, fun b c hm hc => (h3 b c hm).1 hc, fun b c hm => (h3 b c hm).2, by omega⟩
  | none :: l, i, acc, h1, h2, h3 => by
    have := pairsOf_ok (n0 := n0) l (i + 1) acc h1 h2 (fun b c hm => ⟨(h3 b c hm).1, by have := (h3 b c hm).2; omega⟩)
    simp only [pairsOf, lenO]
    rw [show i + (lenO l + 1) = i + 1 + lenO l by omega]; exact this
  | some b :: l, i, acc, h1, h2, h3 => by
    have skip := pairsOf_ok (n0 := n0) l (i + 1) acc h1 h2 (fun b c hm => ⟨(h3 b c hm).1, by have := (h3 b c hm).2; omega⟩)
    simp only [pairsOf, lenO]
    rw [show i + (lenO l + 1) = i + 1 + lenO l by omega]
    cases hb : (Nat.ble n0 b && isNone' (find1 b acc)) with
    | false => exact skip
    | true =>
      simp only [Bool.and_eq_true] at hb
      have hf : find1 b acc = none := by
        cases hf : find1 b acc with
        | none => rfl
        | some c => rw [hf] at hb; simp [isNone'] at hb
      refine pairsOf_ok (n0 := n0) l (i + 1) ((b, n0 + i) :: acc) ?_ ?_ (fun b' c hm => ?_)
      · simp only [List.map_cons, List.nodup_cons]
        refine ⟨fun hm => ?_, h1⟩
        obtain ⟨x, a, e⟩ := List.mem_map.1 hm
        have e : x.1 = b := e
        exact find1_none hf x.2 (e ▸ a)
      · simp only [List.map_cons, List.nodup_cons]
        refine ⟨fun hm => ?_, h2⟩
        obtain ⟨x, a, e⟩ := List.mem_map.1 hm
        have e : x.2 = n0 + i := e
        have := (h3 x.1 x.2 a).2
        omega
      · rcases List.mem_cons.1 hm with e | e
        · cases e; exact ⟨fun h => by omega, by omega⟩
        · exact ⟨(h3 b' c e).1, by have := (h3 b' c e).2; omega⟩
theorem keepT_get {f : AV → AV} {keep : List Tmp} : ∀ (t : List AV) (i j : Nat) (v : AV), (keepT f keep i t)[j]? = some v → ∃ u, t[j]? = some u ∧ (v = f u ∨ v = .dead)
  | [], i, j, v, hv => by simp [keepT] at hv
  | u :: t, i, j, v, hv => by
    simp only [keepT] at hv
    cases j with
    | zero =>
      simp only [List.getElem?_cons_zero, Option.some.injEq] at hv
      refine ⟨u, by simp, ?_⟩
      cases hb : keep.any (Nat.beq i) with
      | true => rw [hb] at hv; exact .inl hv.symm
      | false => rw [hb] at hv; exact .inr hv.symm
    | succ j => simp only [List.getElem?_cons_succ] at hv ⊢; exact keepT_get t (i + 1) j v hv
theorem keepT_length {f : AV → AV} {keep : List Tmp} : ∀ (t : List AV) (i : Nat), (keepT f keep i t).length = t.length
  | [], _ => rfl
  | u :: t, i => by simp [keepT, keepT_length t (i + 1)]
def renOf (N : Norm) (n0 : Nat) (st : St) : List (Nat × Nat) := pairsOf n0 (posT st.t N.pos ++ posD st.t st.h N.der) 0 (idsN N st n0)
theorem dropI_sub {x : List (Option Nat)} : ∀ l : List (Nat × Nat), (dropI x l).Sublist l
  | [] => List.Sublist.refl _
  | y :: l => by
    simp only [dropI]
    cases x.any (isO y.1) with
    | true => exact (dropI_sub l).cons _
    | false => exact (dropI_sub l).cons_cons _
theorem renOf_ok (N : Norm) (n0 : Nat) (st : St) : RenOk (renOf N n0 st) n0 (n0 + lenO (posT st.t N.pos ++ posD st.t st.h N.der)) := by
  have := pairsOf_ok (n0 := n0) (posT st.t N.pos ++ posD st.t st.h N.der) 0 (idsN N st n0) (((dropI_sub _).map _).nodup (idents_nodup n0).1) (((dropI_sub _).map _).nodup (idents_nodup n0).2) (fun b c hm => by
    have hm := (dropI_sub (idents st.h n0)).subset hm
    exact ⟨fun _ => (idents_mem hm).1, by have := idents_mem hm; omega⟩)
  rwa [Nat.zero_add] at this
theorem vwD_sound {ρ ρ' : Loc} {n0 : Nat} (hs : Sees P φ h ρ ρ') (hlow : ∀ b, b < n0 → ρ' b = ρ b) : ∀ {l : List ADef} {l' : List Deferred}, DL ρ l l' → markLow n0 l = true → DL ρ' (l.map (vwD P φ h)) l' := by
  intro l l' hd
  induction hd with
  | nil => exact fun _ => .nil
  | cons hx hl ih =>
    intro hm
    cases hx with
    | call ha =>
      simp only [markLow] at hm
      exact .cons (.call (ha.mapA fun v v' => vw_R hs _ _ none v v')) (ih hm)
    | mark hp =>
      simp only [markLow, Bool.and_eq_true] at hm
      have hlt := Nat.le_of_ble_eq_true hm.1
      exact .cons (.mark ((hlow _ hlt).trans hp)) (ih hm.2)
theorem norm_sound {N' : Norm} {n0 : Nat} {st : St} {t' : List Value} {d' : List Deferred} (hr : Rep ρ st.h N w) (ht : RL ρ st.t t') (hd : DL ρ st.d d') (hL : LFree N.L) (hm : markLow n0 st.d = true) :
    ∃ ρ', Rep ρ' (normSt P N' n0 st).h N w ∧ RL ρ' (normSt P N' n0 st).t t' ∧ DL ρ' (normSt P N' n0 st).d d' ∧ (∀ b, b < n0 → ρ' b = ρ b) ∧ (∀ b o cs, ρ.F b o cs → ρ'.F b o cs) ∧ n0 ≤ (normSt P N' n0 st).h.next := by
  have hφ := renOf_ok N' n0 st
  have hs : Sees P (renOf N' n0 st) st.h ρ (locOf P (renOf N' n0 st) n0 st.h ρ) := sees_locOf hφ
  have hlow : ∀ b, b < n0 → (locOf P (renOf N' n0 st) n0 st.h ρ) b = ρ b := fun b hb => by
    show (if b < n0 then ρ b else _) = _
    rw [if_pos hb]
  refine ⟨locOf P (renOf N' n0 st) n0 st.h ρ, view hr hφ hL, ⟨?_, fun i v v' a b => ?_⟩, vwD_sound hs hlow hd hm, hlow, hs.F, hφ.le⟩
  · show (keepT _ _ _ _).length = _
    rw [keepT_length, ht.len]
  · obtain ⟨u, h1, h2⟩ := keepT_get _ _ _ _ a
    rcases h2 with rfl | rfl
    · exact vw_R hs _ _ _ _ _ (ht.get i u v' h1 b)
    · exact .dead _
end Go.Ev
/- Code, on the machine. -/
namespace Go.Ev

def codeOk (pl : Plan) : Code → Bool
  | .region id ops draw => bif draw then (match pl.sched id with
    | some s => regionOk ops s
    | none => true) else true
  | .seq a b => codeOk pl a && codeOk pl b
  | .cond _ a b => codeOk pl a && codeOk pl b
  | .block _ b => codeOk pl b
  | .loop b => codeOk pl b
  | .rangeFunc _ _ a b => codeOk pl a && codeOk pl b
  | _ => true
structure TbOk (P : Program) (tb : FuncId → Option FnP) : Prop where
  fn : ∀ f e, tb f = some e → P.funcs[f]? = some e.fn ∧ e.fn.body = some e.code ∧ (e.fn.name == "runtime.NumGoroutine") = false ∧ codeOk e.plan e.code = true
  mixed : P.follows .mixedOrders = true
theorem LP_free (tb : FuncId → Option FnP) : LFree (fun x => ∃ e, tb x.fn = some e ∧ codeOk e.plan x.assign = true ∧ codeOk e.plan x.body = true) := fun _ _ _ h => h
def LP (tb : FuncId → Option FnP) : ALoop → Prop := fun x => ∃ e, tb x.fn = some e ∧ codeOk e.plan x.assign = true ∧ codeOk e.plan x.body = true

/-- How the machine arrives at the end of some code. -/
def Arr (P : Program) (ρ : Loc) (m : Machine) (b : Frame) (k : List Item) (a : Act) (cs : List Frame) (w : World) : Ex → Prop
  | .normal => Steps P m (lone (b.atR a k) cs w)
  | .exit id => ∃ k₁, exitTo id k₁ = exitTo id k ∧ Steps P m (lone (b.atR a (.code (.exit id) :: k₁)) cs w)
  | .ret => ∃ k₁, Steps P m (lone (b.atR a (.code .ret :: k₁)) cs w)
  | .pan v => ∃ todo v', R ρ v v' ∧ Steps P m (lone { b.atR a todo with mode := .panicking [{ v := v', recovered := false }] } cs w)
theorem Arr.of_steps {P : Program} {ρ : Loc} {m m' : Machine} {b : Frame} {k : List Item} {a : Act} {cs : List Frame} {w : World} {ex : Ex} (h : Steps P m m') (h' : Arr P ρ m' b k a cs w ex) : Arr P ρ m b k a cs w ex := by
  cases ex with
  | normal => exact h.trans h'
  | exit id => obtain ⟨k₁, x, y⟩ := h'; exact ⟨k₁, x, h.trans y⟩
  | ret => obtain ⟨k₁, y⟩ := h'; exact ⟨k₁, h.trans y⟩
  | pan v => obtain ⟨t, v', x, y⟩ := h'; exact ⟨t, v', x, h.trans y⟩
def CodeR (P : Program) (ρ : Loc) (Z : Zone) (kind : CallKind) (cs₀ : List Frame) (b : Frame) (k : List Item) (m : Machine) (n : Nat) (w : World) {A : Type} (r : A) (K : Ex → St → Option A) : Prop :=
  ∃ ex st' ρ' a' w' cs', K ex st' = some r ∧ StR ρ' Z kind cs₀ st' a' w' cs' ∧ Went ρ ρ' Z n st'.h w w' ∧ Arr P ρ' m b k a' cs' w' ex
theorem CodeR.of_steps {P : Program} {ρ : Loc} {Z : Zone} {kind : CallKind} {cs₀ : List Frame} {b : Frame} {k : List Item} {m m' : Machine} {n : Nat} {w : World} {A : Type} {r : A} {K : Ex → St → Option A}
    (h : Steps P m m') (h' : CodeR P ρ Z kind cs₀ b k m' n w r K) : CodeR P ρ Z kind cs₀ b k m n w r K := by
  obtain ⟨ex, st', ρ', a', w', cs', h1, h2, h3, h4⟩ := h'
  exact ⟨ex, st', ρ', a', w', cs', h1, h2, h3, h4.of_steps h⟩

/-- What is asked of what is told of a loop. -/
def LoopSim (P : Program) (L : ALoop → Prop) (fid : FuncId) (c : Code) (g : LoopF) : Prop := ∀ (A : Type) (r : A) (K : Ex → St → Option A) (Z : Zone) (kind : CallKind) (cs₀ : List Frame) (b : Frame) (k : List Item) (ρ : Loc) (st : St) (a : Act) (w : World) (cs : List Frame),
  Z.L = L → b.kind = kind → b.fn = fid → b.roundOf = none → StR ρ Z kind cs₀ st a w cs → g A st K = some r → CodeR P ρ Z kind cs₀ b k (lone (b.atR a (.code (.loop c) :: k)) cs w) st.h.next w r K
def lpOk (P : Program) (L : ALoop → Prop) (fid : FuncId) (lo : Nat → Option LoopF) : Code → Prop
  | .seq a b => lpOk P L fid lo a ∧ lpOk P L fid lo b
  | .cond _ a b => lpOk P L fid lo a ∧ lpOk P L fid lo b
  | .block _ b => lpOk P L fid lo b
  | .loop b => (∀ id g, headId b = some id → lo id = some g → LoopSim P L fid b g) ∧ lpOk P L fid lo b
  | _ => True
theorem lpOk_none {P : Program} {L : ALoop → Prop} {fid : FuncId} : ∀ c : Code, lpOk P L fid (fun _ => none) c := by
  intro c
  induction c <;> simp_all [lpOk]
variable {P : Program} {call : CallP} {L : ALoop → Prop} {tb : FuncId → Option FnP} {Z : Zone} {kind : CallKind} {cs₀ : List Frame}
section
variable {b : Frame} {k : List Item} {ops : Array Oper} {rd : Option Nat}

theorem seq_sim (Hc : CallSim P L call) (hL : Z.L = L) (hb : b.kind = kind) {A : Type} {r : A} {K : St → Option A} {Kp : AV → St → Option A} :
    ∀ (l : List Oper) (is : List Nat), is.map (ops[·]?) = l.map some → ∀ (ρ : Loc) (st : St) (a : Act) (w : World) (cs : List Frame), RdR ρ rd b.roundOf → StR ρ Z kind cs₀ st a w cs →
      seqOps P (call A) rd ops l st K Kp = some r → CodeR P ρ Z kind cs₀ b k (lone (b.atR a (.inRegion ops is :: k)) cs w) st.h.next w r (fun ex st => match ex with | .normal => K st | .pan v => Kp v st | _ => none)
  | [], is, his, ρ, st, a, w, cs, hrd, hS, hh => by
    have : is = [] := by simpa using his
    subst this
    exact ⟨.normal, st, ρ, a, w, cs, hh, hS, Went.refl hS.rep, .one stepR_region_end⟩
  | o :: l, [], his, ρ, st, a, w, cs, hrd, hS, hh => by simp at his
  | o :: l, i :: is, his, ρ, st, a, w, cs, hrd, hS, hh => by
    simp only [List.map_cons, List.cons.injEq] at his
    obtain ⟨ho, his⟩ := his
    simp only [seqOps] at hh
    have hlook : ∀ x ∈ o.looksAt ops, R ρ (nth st.t x) (a.tmps.toList.getD x undef) := fun x _ => by rw [nth_eq]; exact hS.tm.getD x undef
    rcases guarded_some hh with ⟨hd, hk⟩ | ⟨hd, hk⟩
    · have hw := wanted_eq (a := a) hd hlook
      rcases stepOp_sim (rest := is) (k := k) Hc hL hb hrd hS ho hw hk with ⟨v, st', ρ', a', w', cs', v', h1, h2, h3, h4, h5⟩ | ⟨v, st', ρ', a', w', cs', v', todo', h1, h2, h3, h4, h5⟩
      · have hS' : StR ρ' Z kind cs₀ { st' with t := putT st'.t o.dst v } (a'.put o.dst v') w' cs' := ⟨putT_RL h2.tm h3 _, by rw [put_defers']; exact h2.df, h2.rep, h2.cs⟩
        obtain ⟨ex, st2, ρ2, a2, w2, cs2, e1, e2, e3, e4⟩ := seq_sim Hc hL hb l is his ρ' _ _ w' cs' (hrd.grows h4.grows) hS' h1
        exact ⟨ex, st2, ρ2, a2, w2, cs2, e1, e2, h4.trans e3, e4.of_steps h5⟩
      · exact ⟨.pan v, st', ρ', a', w', cs', h1, h2, h4, todo', v', h3, h5⟩
    · have hw := wanted_eq (a := a) hd hlook
      have hS' : StR ρ Z kind cs₀ { st with t := putT st.t o.dst (.tup []) } (a.put o.dst undef) w cs := ⟨putT_RL hS.tm (R.undef ρ) _, by rw [put_defers']; exact hS.df, hS.rep, hS.cs⟩
      exact (seq_sim Hc hL hb l is his ρ _ _ w cs hrd hS' hk).of_steps (.one (step_not hw ho))
theorem range_ops (ops : Array Oper) : (List.range ops.size).map (ops[·]?) = ops.toList.map some := by
  apply List.ext_getElem?
  intro i
  simp only [List.getElem?_map]
  rcases Nat.lt_or_ge i ops.size with h | h
  · simp [h]
  · simp [h]
theorem killT_RL {ρ : Loc} {a : List Value} : ∀ (l : List Tmp) {t : List AV}, RL ρ t a → RL ρ (killT t l) a
  | [], _, h => h
  | i :: l, t, h => by
    refine killT_RL l ?_
    rw [setL_eq]
    have := h.set (.dead (a.getD i undef)) i
    have e : a.set i (a.getD i undef) = a := by
      rcases Nat.lt_or_ge i a.length with hi | hi
      · simp [List.getD, List.getElem?_eq_getElem hi]
      · simp [List.set_eq_of_length_le hi]
    rw [e] at this; exact this
end

theorem loop_sim {b : Frame} {c : Code} {k : List Item} {rd : Option Nat} {A : Type} {r : A} {body : St → (Ex → St → Option A) → Option A}
    (hbody : ∀ (K : Ex → St → Option A) (k : List Item) (ρ : Loc) (st : St) (a : Act) (w : World) (cs : List Frame), RdR ρ rd b.roundOf → StR ρ Z kind cs₀ st a w cs → body st K = some r → CodeR P ρ Z kind cs₀ b k (lone (b.atR a (.code c :: k)) cs w) st.h.next w r K)
    (K : Ex → St → Option A) : ∀ (n : Nat) (ρ : Loc) (st : St) (a : Act) (w : World) (cs : List Frame), RdR ρ rd b.roundOf → StR ρ Z kind cs₀ st a w cs → loopN body n st K = some r →
      CodeR P ρ Z kind cs₀ b k (lone (b.atR a (.code c :: .inLoop c :: k)) cs w) st.h.next w r K
  | 0, ρ, st, a, w, cs, hrd, hS, hh => by cases hh
  | n + 1, ρ, st, a, w, cs, hrd, hS, hh => by
    simp only [loopN] at hh
    obtain ⟨ex, st', ρ', a', w', cs', h1, h2, h3, h4⟩ := hbody _ (.inLoop c :: k) ρ st a w cs hrd hS hh
    cases ex with
    | normal =>
      obtain ⟨ex2, st2, ρ2, a2, w2, cs2, e1, e2, e3, e4⟩ := loop_sim (k := k) hbody K n ρ' st' a' w' cs' (hrd.grows h3.grows) h2 h1
      exact ⟨ex2, st2, ρ2, a2, w2, cs2, e1, e2, h3.trans e3, e4.of_steps (Steps.trans h4 (.one stepR_inLoop))⟩
    | exit id =>
      obtain ⟨k₁, x, y⟩ := h4
      exact ⟨.exit id, st', ρ', a', w', cs', h1, h2, h3, k₁, x.trans (by simp [exitTo]), y⟩
    | ret => exact ⟨.ret, st', ρ', a', w', cs', h1, h2, h3, h4⟩
    | pan v => exact ⟨.pan v, st', ρ', a', w', cs', h1, h2, h3, h4⟩

/-- The same, where at the loop's head what stays is told anew. -/
theorem CSR.off {ρ ρ' : Loc} {kind : CallKind} {cs₀ cs : List Frame} {r : Md} (hr : r = .off) (h : CSR ρ kind cs₀ r cs) : CSR ρ' kind cs₀ r cs := by
  rcases h with h | ⟨h1, c, rest, u, h2, h3, h4⟩
  · exact .inl h
  · subst hr; exact h4.elim
theorem normK_some {A : Type} {r : A} {N : Norm} {n0 : Nat} {st : St} {K : St → Option A} (h : normK P N n0 st K = some r) : st.r = .off ∧ markLow n0 st.d = true ∧ K (normSt P N n0 st) = some r := by
  unfold normK at h
  split at h
  · rename_i e
    obtain ⟨a, b⟩ := guardK_some h
    exact ⟨e, a, b⟩
  · cases h
theorem normR {ρ : Loc} {N : Norm} {n0 : Nat} {st : St} {a : Act} {w : World} {cs : List Frame} (hL : LFree Z.L) (hS : StR ρ Z kind cs₀ st a w cs) (hr : st.r = .off) (hm : markLow n0 st.d = true) :
    ∃ ρ', StR ρ' Z kind cs₀ (normSt P N n0 st) a w cs ∧ (∀ b, b < n0 → ρ' b = ρ b) ∧ (∀ b o cs, ρ.F b o cs → ρ'.F b o cs) ∧ n0 ≤ (normSt P N n0 st).h.next := by
  obtain ⟨ρ', h1, h2, h3, h4, h5, h6⟩ := norm_sound (P := P) (N' := N) (n0 := n0) hS.rep hS.tm hS.df hL hm
  exact ⟨ρ', ⟨h2, h3, h1, hS.cs.off hr⟩, h4, h5, h6⟩
theorem loop_simN {b : Frame} {c : Code} {k : List Item} {rd : Option Nat} {A : Type} {r : A} {body : St → (Ex → St → Option A) → Option A} {N : Norm} {n0 : Nat} {ρ₀ : Loc} (hL : LFree Z.L) (hρ₀ : ∀ b, n0 ≤ b → ρ₀ b = none)
    (hbody : ∀ (K : Ex → St → Option A) (k : List Item) (ρ : Loc) (st : St) (a : Act) (w : World) (cs : List Frame), RdR ρ rd b.roundOf → StR ρ Z kind cs₀ st a w cs → body st K = some r → CodeR P ρ Z kind cs₀ b k (lone (b.atR a (.code c :: k)) cs w) st.h.next w r K)
    (hrd : RdR ρ₀ rd b.roundOf) (K : Ex → St → Option A) : ∀ (n : Nat) (ρ : Loc) (st : St) (a : Act) (w : World) (cs : List Frame), (∀ b, b < n0 → ρ b = ρ₀ b) → (∀ b o cs, ρ₀.F b o cs → ρ.F b o cs) → n0 ≤ st.h.next → StR ρ Z kind cs₀ st a w cs → loopN (loopK P N n0 body) n st K = some r →
      CodeR P ρ₀ Z kind cs₀ b k (lone (b.atR a (.code c :: .inLoop c :: k)) cs w) n0 w r K
  | 0, ρ, st, a, w, cs, hρ, hF, hn, hS, hh => by cases hh
  | n + 1, ρ, st, a, w, cs, hρ, hF, hn, hS, hh => by
    simp only [loopN, loopK] at hh
    have hg : Grows ρ₀ ρ := ⟨fun q p hq => by
      have : q < n0 := by
        rcases Nat.lt_or_ge q n0 with h | h
        · exact h
        · rw [hρ₀ q h] at hq; cases hq
      rw [hρ q this]; exact hq, hF⟩
    have back : ∀ {ρ' : Loc} {h' : Heap} {w' : World}, Went ρ ρ' Z st.h.next h' w w' → Went ρ₀ ρ' Z n0 h' w w' := fun hw =>
      ⟨hg.trans hw.grows, fun q hq => (hw.off q (Nat.lt_of_lt_of_le hq hn)).trans (hρ q hq), Nat.le_trans hn hw.next, hw.rep, hw.low⟩
    obtain ⟨ex, st', ρ', a', w', cs', h1, h2, h3, h4⟩ := hbody _ (.inLoop c :: k) ρ st a w cs (hrd.grows hg) hS hh
    have anew : ∀ {N2 : Norm} {K' : St → Option A}, normK P N2 n0 st' K' = some r → ∃ ρ2, StR ρ2 Z kind cs₀ (normSt P N2 n0 st') a' w' cs' ∧ (∀ q, q < n0 → ρ2 q = ρ₀ q) ∧ (∀ b o cs, ρ₀.F b o cs → ρ2.F b o cs) ∧ n0 ≤ (normSt P N2 n0 st').h.next ∧ K' (normSt P N2 n0 st') = some r := fun {N2} {K'} hk => by
      obtain ⟨e1, e2, h1⟩ := normK_some hk
      obtain ⟨ρ2, f1, f2, f3, f4⟩ := normR (P := P) (N := N2) (n0 := n0) hL h2 e1 e2
      exact ⟨ρ2, f1, fun q hq => (f2 q hq).trans ((back h3).off q hq), fun b o cs h => f3 _ _ _ ((back h3).grows.fz _ _ _ h), f4, h1⟩
    have grew : ∀ {ρ2 : Loc}, (∀ q, q < n0 → ρ2 q = ρ₀ q) → (∀ b o cs, ρ₀.F b o cs → ρ2.F b o cs) → Grows ρ₀ ρ2 := fun hr2 hF2 => ⟨fun q p hq => by
      have : q < n0 := by
        rcases Nat.lt_or_ge q n0 with h | h
        · exact h
        · rw [hρ₀ q h] at hq; cases hq
      rw [hr2 q this]; exact hq, hF2⟩
    cases ex with
    | normal =>
      obtain ⟨ρ2, f1, hr2, hF2, f4, h1⟩ := anew h1
      obtain ⟨ex2, st2, ρ3, a2, w2, cs2, g1, g2, g3, g4⟩ := loop_simN (k := k) hL hρ₀ hbody hrd K n ρ2 _ a' w' cs' hr2 hF2 f4 f1 h1
      exact ⟨ex2, st2, ρ3, a2, w2, cs2, g1, g2, ⟨g3.grows, g3.off, g3.next, g3.rep, h3.low.trans g3.low⟩, g4.of_steps (Steps.trans h4 (.one stepR_inLoop))⟩
    | exit id =>
      obtain ⟨k₁, x, y⟩ := h4
      obtain ⟨ρ2, f1, hr2, hF2, f4, h1⟩ := anew h1
      exact ⟨.exit id, _, ρ2, a', w', cs', h1, f1, ⟨grew hr2 hF2, hr2, f4, f1.rep, h3.low⟩, k₁, x.trans (by simp [exitTo]), y⟩
    | ret =>
      obtain ⟨ρ2, f1, hr2, hF2, f4, h1⟩ := anew h1
      exact ⟨.ret, _, ρ2, a', w', cs', h1, f1, ⟨grew hr2 hF2, hr2, f4, f1.rep, h3.low⟩, h4⟩
    | pan v => exact ⟨.pan v, st', ρ', a', w', cs', h1, h2, back h3, h4⟩

/-! ### Loops' records -/
section
variable {ρ : Loc} {h : Heap} {w : World}
theorem loop_there {l : Nat} {x : ALoop} (hr : Rep ρ h Z w) (hl : h.m l = some (.loop x)) : ∃ p x', ρ l = some p ∧ ¬ Z.keep p.blk ∧ Z.L x ∧ w.heap[p.blk]? = some (.loop x') ∧ x'.state = x.state ∧ x'.pending = x.pending ∧ x'.fn = x.fn ∧ RL ρ x.tmps x'.tmps.toList ∧
    x'.params.toList = x.params ∧ x'.assign = x.assign ∧ x'.body = x.body ∧ ∃ p₂, ρ x.defers = some p₂ ∧ x'.defers = p₂.blk := by
  obtain ⟨p, h1, h2, h3, x', h4⟩ := hr.blk l _ hl
  exact ⟨p, x', h1, h2, h3, h4⟩
/-- The record goes on to another state. -/
theorem loop_write {l : Nat} {x : ALoop} {p : Pl} {x' : Loop} (hr : Rep ρ h Z w) (hl : h.m l = some (.loop x)) (hp : ρ l = some p) (hx : w.heap[p.blk]? = some (.loop x')) (s : LoopState) (pd : Option Code)
    (hL : Z.L { x with state := s, pending := pd }) :
    Rep ρ (h.put l (.loop { x with state := s, pending := pd })) Z (w.putObj p.blk (.loop { x' with state := s, pending := pd })) ∧ Low Z w (w.putObj p.blk (.loop { x' with state := s, pending := pd })) := by
  obtain ⟨q, y, h1, h2, h3, h4, h5, h6, h7, h8, h9, h10, h11, h12⟩ := loop_there hr hl
  rw [hp] at h1; cases h1
  rw [hx] at h4; cases h4
  have hlt : p.blk < w.heap.size := (Array.getElem?_eq_some_iff.1 hx).1
  have := write_obj (h := h) (n := h.next) (N := Z) (x' := .loop { x with state := s, pending := pd }) (o' := .loop { x' with state := s, pending := pd }) hr hl rfl hp hlt h2 (fun w' hw' => ⟨h2, hL, _, hw', rfl, rfl, h7, h8, h9, h10, h11, h12⟩)
  exact this
end
end Go.Ev
/- Code, on the machine: a range over a function; all of it. -/
namespace Go.Ev
variable {P : Program} {call : CallP} {tb : FuncId → Option FnP} {Z : Zone} {kind : CallKind} {cs₀ : List Frame}

theorem enterLoop_inner {l₀ : Nat} {w : World} {r₀ : Loop} (h : w.heap[l₀]? = some (.loop r₀)) (fn : FuncId) (tmps : Array Value) (ps : Array Tmp) (assign body : Code) :
    (Instr.enterLoop fn tmps ps assign body (some l₀)).run P w =
      .ok (w.heap.size, []) (w.alloc (.loop { state := .ready, pending := none, fn, tmps, params := ps, assign, body, defers := r₀.defers })) := by
  unfold Instr.enterLoop
  simp only [Sem.run_bind, run_getLoop h, run_newObj_alloc, Result.andThen, Sem.run_pure]

/-- What is done when the function that was ranged over has come back. -/
def rangeK {A : Type} (K : Ex → St → Option A) (l : Nat) (st : St) (d : List ADef) : Out → Heap → Md → Option A := fun out h' _ => match out with
  | .ret _ => (match h'.m l with
    | some (.loop x) => (match x.state with
      | .busy => none
      | _ => (match x.pending with
        | none => K .normal { st with h := h'.put l (.loop { x with state := .exhausted }), d := d }
        | some .ret => K .ret { st with h := h'.put l (.loop { x with state := .exhausted }), d := d }
        | some (.exit j) => K (.exit j) { st with h := h'.put l (.loop { x with state := .exhausted }), d := d }
        | _ => none))
    | _ => none)
  | .pan v => K (.pan v) { st with h := h', d := d }

theorem range_go (Hc : CallSim P (LP tb) call) (hL : Z.L = LP tb) {A : Type} {r₀ : A} {K : Ex → St → Option A} {b : Frame} {k : List Item} {cs : List Frame} {st : St} {a : Act} {f : Operand} {ps : Array Tmp} {assign body : Code} {e : FnP} {fid : FuncId}
    (he : tb fid = some e) (hc1 : codeOk e.plan assign = true) (hc2 : codeOk e.plan body = true) (hb : b.fn = fid) {g : FuncId} {first cap : List AV} {first' cap' : Array Value} (hax : a.eval f = .func (.func g) first' cap')
    {h : Heap} {d : List ADef} {r l n : Nat} {w w₁ : World} {ρ₁ : Loc} {pr : Pl} {mark : List Deferred} (hfi : RL ρ₁ first first'.toList) (hca : RL ρ₁ cap cap'.toList) (hr : Rep ρ₁ h Z w₁) (hl : ρ₁ l = none) (hlt : l < h.next) (hnl : n ≤ l) (hpr : ρ₁ r = some pr)
    (ht : RL ρ₁ st.t a.tmps.toList) (hdf : DL ρ₁ d (mark ++ a.defers)) (hcs : CSR ρ₁ kind cs₀ st.r cs)
    (hent : (Instr.enterLoop b.fn a.tmps ps assign body b.roundOf).run P w = .ok (w₁.heap.size, mark) (w₁.alloc (.loop { state := .ready, pending := none, fn := b.fn, tmps := a.tmps, params := ps, assign, body, defers := pr.blk })))
    (hh : call A (.fn g) (appA first (.yield l :: cap)) (h.put l (.loop ⟨.ready, none, fid, st.t, ps.toList, assign, body, r⟩)) .off (rangeK K l st d) = some r₀) :
    ∃ ex st' ρ' a' w' cs', K ex st' = some r₀ ∧ StR ρ' Z kind cs₀ st' a' w' cs' ∧ Went ρ₁ ρ' Z n st'.h w₁ w' ∧ Arr P ρ' (lone (b.atR a (.code (.rangeFunc f ps assign body) :: k)) cs w) b k a' cs' w' ex := by
  subst hb
  let p : Pl := ⟨w₁.heap.size, 0, 0⟩
  let ρ₂ := setLoc ρ₁ l p
  let w₂ := w₁.alloc (.loop { state := .ready, pending := none, fn := b.fn, tmps := a.tmps, params := ps, assign, body, defers := pr.blk })
  have hg : Grows ρ₁ ρ₂ := setLoc_grows hl
  have hkeep : ¬ Z.keep w₁.heap.size := fun hk => absurd (hr.old _ hk) (Nat.lt_irrefl _)
  have hrep : Rep ρ₂ (h.put l (.loop ⟨.ready, none, b.fn, st.t, ps.toList, assign, body, r⟩)) Z w₂ :=
    Rep.new hr hl hlt _ _ p rfl rfl ⟨hkeep, by rw [hL]; exact ⟨e, he, hc1, hc2⟩, _, push_get _ _, rfl, rfl, rfl, ht.grows hg, rfl, rfl, rfl, pr, hg _ _ hpr, rfl⟩
  have hpl : ρ₂ l = some p := by simp [ρ₂, setLoc]
  have hargs : RL ρ₂ (appA first (.yield l :: cap)) ((first' ++ #[Value.func (.yield w₁.heap.size) #[] #[]]) ++ cap').toList := by
    rw [appA_eq]
    have := (hfi.grows hg).append (RL.cons (R.yield (p := p) hpl) (hca.grows hg))
    simpa [List.append_assoc, p] using this
  let c : Frame := b.atR { a with defers := mark ++ a.defers } (.inRangeFunc w₁.heap.size :: k)
  obtain ⟨e1, out, h', u', ρ', w', cs', fr, k1, k2, k3, k4, k5, k6, k7⟩ := Hc.fn A _ r₀ g _ _ .off _ ρ₂ Z w₂ .normal (c :: cs) (c :: cs) hL hh hrep hargs (.inl ⟨rfl, rfl, rfl⟩)
  have hcs' : cs' = c :: cs := k4.normal.2
  subst hcs'
  have hres : (resolve a.eval (rangeCall f w₁.heap.size) 0).run P w₂ = .ok { target := .fn (.func g) cap', args := first' ++ #[Value.func (.yield w₁.heap.size) #[] #[]] } w₂ := by
    have h0 : resolve a.eval (rangeCall f w₁.heap.size) 0 = Deferred.ofValue (a.eval f) #[Value.func (.yield w₁.heap.size) #[] #[]] := by
      simp only [resolve, List.map_toArray, List.map_cons, List.map_nil]; rfl
    rw [h0, hax]; rfl
  have henter := stepR_rangeFunc (P := P) (b := b) (a := a) (k := k) (cs := cs) (w := w) (mark := mark) hent hres (e1 w₂)
  have w12 : Went ρ₁ ρ₂ Z n (h.put l (.loop ⟨.ready, none, b.fn, st.t, ps.toList, assign, body, r⟩)) w₁ w₂ :=
    ⟨hg, fun q hq => by simp only [ρ₂, setLoc]; rw [if_neg (by omega)], by show n ≤ h.next; omega, hrep, Low.push hr.old _⟩
  have wall := w12.trans k3
  have hpl' : ρ' l = some p := k3.grows _ _ hpl
  have hg2 := wall.grows
  cases out with
  | pan v =>
    obtain ⟨v', hv, hgo⟩ := k7
    have s := Steps.head henter (k2.trans (.one (step_leave_panicked (going_leaving k5 hgo))))
    exact ⟨.pan v, _, ρ', { a with defers := mark ++ a.defers }, w', cs, k1, ⟨ht.grows hg2, hdf.grows hg2, wall.rep, hcs.grows hg2⟩, wall, _, v', hv, s⟩
  | ret v =>
    obtain ⟨v', hv, hgo⟩ := k7
    have s0 := Steps.head henter (k2.trans (.one (step_leave_returned (going_leaving k5 hgo))))
    rw [finish_atR_inRangeFunc] at s0
    simp only [rangeK] at k1
    cases hm : h'.m l with
    | none => rw [hm] at k1; cases k1
    | some y =>
      rw [hm] at k1
      cases y with
      | loop x =>
        simp only at k1
        obtain ⟨q, x', g1, g2, g3, g4, g5, g6, _⟩ := loop_there wall.rep hm
        rw [hpl'] at g1; cases g1
        have hnb : x.state ≠ .busy := fun hb => by rw [hb] at k1; cases k1
        have hend := run_endLoop (P := P) g4 (by rw [g5]; exact hnb)
        obtain ⟨hw1, hw2⟩ := loop_write (x := x) wall.rep hm hpl' g4 .exhausted x'.pending (by
          have := g3
          rw [hL] at this ⊢
          exact this)
        have s1 : Steps P (lone (b.atR a (.code (.rangeFunc f ps assign body) :: k)) cs w) (lone (b.atR { a with defers := mark ++ a.defers } ((x'.pending.map Item.code).toList ++ k)) cs (w'.putObj w₁.heap.size (.loop { x' with state := .exhausted }))) :=
          s0.trans (.one (stepR_endRangeFunc hend))
        have e1 : ({ x with state := LoopState.exhausted, pending := x'.pending } : ALoop) = { x with state := .exhausted } := by rw [g6]
        rw [e1] at hw1
        have wfin : Went ρ₁ ρ' Z n (h'.put l (.loop { x with state := .exhausted })) w₁ (w'.putObj w₁.heap.size (.loop { x' with state := .exhausted })) := ⟨wall.grows, wall.off, wall.next, hw1, wall.low.trans hw2⟩
        have hS : StR ρ' Z kind cs₀ { st with h := h'.put l (.loop { x with state := .exhausted }), d := d } { a with defers := mark ++ a.defers } (w'.putObj w₁.heap.size (.loop { x' with state := .exhausted })) cs :=
          ⟨ht.grows hg2, hdf.grows hg2, wfin.rep, hcs.grows hg2⟩
        generalize w'.putObj w₁.heap.size (.loop { x' with state := .exhausted }) = w₃ at s1 hS wfin
        rw [g6] at s1
        have hk : (match x.pending with
          | none => K .normal { st with h := h'.put l (.loop { x with state := .exhausted }), d := d }
          | some .ret => K .ret { st with h := h'.put l (.loop { x with state := .exhausted }), d := d }
          | some (.exit j) => K (.exit j) { st with h := h'.put l (.loop { x with state := .exhausted }), d := d }
          | _ => none) = some r₀ := by
          cases hst : x.state with
          | busy => exact absurd hst hnb
          | _ => rw [hst] at k1; exact k1
        cases hpd : x.pending with
        | none =>
          rw [hpd] at hk s1 hS wfin
          exact ⟨.normal, _, ρ', _, _, cs, hk, hS, wfin, s1⟩
        | some j =>
          rw [hpd] at hk s1 hS wfin
          cases j with
          | ret => exact ⟨.ret, _, ρ', _, _, cs, hk, hS, wfin, k, s1⟩
          | exit id => exact ⟨.exit id, _, ρ', _, _, cs, hk, hS, wfin, k, rfl, s1⟩
          | _ => cases hk
      | _ => cases k1

theorem range_tail (ops : Array Oper) (m : Nat) : (List.range' m (ops.size - m)).map (ops[·]?) = (ops.toList.drop m).map some := by
  apply List.ext_getElem?
  intro i
  simp only [List.getElem?_map, List.getElem?_drop]
  rcases Nat.lt_or_ge i (ops.size - m) with h | h
  · rw [List.getElem?_range' h]
    have h3 : m + i < ops.size := by omega
    simp [h3]
  · have h1 : (List.range' m (ops.size - m))[i]? = none := List.getElem?_eq_none (by simp; omega)
    have h2 : ops.toList[m + i]? = none := List.getElem?_eq_none (by simp; omega)
    rw [h1, h2]; rfl
theorem stops_sched (pl : Plan) (so : Nat → Bool) : (pl.stops so).sched = pl.sched := rfl
theorem stops_kill (pl : Plan) (so : Nat → Bool) : (pl.stops so).kill = pl.kill := rfl
theorem stops_stop (pl : Plan) (so : Nat → Bool) : (pl.stops so).stop = so := rfl
theorem stops_norm (pl : Plan) (so : Nat → Bool) : (pl.stops so).norm = pl.norm := rfl
theorem code_sim (Hc : CallSim P (LP tb) call) (hT : TbOk P tb) (hL : Z.L = LP tb) {e : FnP} {fid : FuncId} (he : tb fid = some e) {b : Frame} (hbf : b.fn = fid) (hb : b.kind = kind) {rd : Option Nat} {lo : Nat → Option LoopF} {so : Nat → Bool} {A : Type} {r : A} :
    ∀ (c : Code), codeOk e.plan c = true → (rd = none → lpOk P (LP tb) fid lo c) → ∀ (K : Ex → St → Option A) (k : List Item) (ρ : Loc) (st : St) (a : Act) (w : World) (cs : List Frame), RdR ρ rd b.roundOf → StR ρ Z kind cs₀ st a w cs →
      evCode P (e.plan.stops so) call lo fid rd c st K = some r → CodeR P ρ Z kind cs₀ b k (lone (b.atR a (.code c :: k)) cs w) st.h.next w r K := by
  intro c
  induction c with
  | skip => exact fun _ _ K k ρ st a w cs hrd hS hh => ⟨.normal, st, ρ, a, w, cs, hh, hS, Went.refl hS.rep, .one stepR_skip⟩
  | label l => exact fun _ _ K k ρ st a w cs hrd hS hh => ⟨.normal, st, ρ, a, w, cs, hh, hS, Went.refl hS.rep, .one stepR_label⟩
  | exit id => exact fun _ _ K k ρ st a w cs hrd hS hh => ⟨.exit id, st, ρ, a, w, cs, hh, hS, Went.refl hS.rep, k, rfl, Steps.refl _ _⟩
  | ret => exact fun _ _ K k ρ st a w cs hrd hS hh => ⟨.ret, st, ρ, a, w, cs, hh, hS, Went.refl hS.rep, k, Steps.refl _ _⟩
  | region id ops draw =>
    intro hok hlo K k ρ st a w cs hrd hS hh
    simp only [evCode, stops_sched, stops_kill, stops_stop] at hh
    cases hso : so id with
    | true => rw [hso] at hh; cases hh
    | false =>
    rw [hso] at hh
    simp only [cond_false] at hh
    cases draw with
    | true =>
      simp only [cond_true] at hh
      simp only [codeOk, cond_true] at hok
      cases hs : e.plan.sched id with
      | none => rw [hs] at hh; cases hh
      | some s =>
        rw [hs] at hh hok
        simp only at hh hok
        obtain ⟨t, h, hrun, hh⟩ := drawOpsK_some Hc.nat _ _ _ _ hh
        · obtain ⟨a', w', ρ', s1, s2, s3, s4⟩ := draw_sim (opsF := ops) Hc hT.mixed hL hok hrun hS.rep (killT_RL _ hS.tm) b id k cs
          have hS' : StR ρ' Z kind cs₀ { st with t := t, h := h } a' w' cs := ⟨s3, by rw [s2]; exact hS.df.grows s4.grows, s4.rep, hS.cs.grows s4.grows⟩
          obtain ⟨ex, st', ρ2, a2, w2, cs2, h1, h2, h3, h4⟩ := seq_sim (k := k) Hc hL hb (ops.toList.drop s.length) (List.range' s.length (ops.size - s.length)) (range_tail ops _) ρ' _ a' w' cs (hrd.grows s4.grows) hS' hh
          have h5 := s4.trans h3
          have h6 := h4.of_steps s1
          cases ex with
          | normal => exact ⟨.normal, st', ρ2, a2, w2, cs2, h1, h2, h5, h6⟩
          | pan v => exact ⟨.pan v, st', ρ2, a2, w2, cs2, h1, h2, h5, h6⟩
          | _ => cases h1
    | false =>
      simp only [cond_false] at hh
      have hS' : StR ρ Z kind cs₀ { st with t := killT st.t (e.plan.kill id) } a w cs := ⟨killT_RL _ hS.tm, hS.df, hS.rep, hS.cs⟩
      obtain ⟨ex, st', ρ', a', w', cs', h1, h2, h3, h4⟩ := (seq_sim (k := k) Hc hL hb ops.toList (List.range ops.size) (range_ops ops) ρ _ a w cs hrd hS' hh).of_steps (.one (stepR_region (id := id)))
      cases ex with
      | normal => exact ⟨.normal, st', ρ', a', w', cs', h1, h2, h3, h4⟩
      | pan v => exact ⟨.pan v, st', ρ', a', w', cs', h1, h2, h3, h4⟩
      | _ => cases h1
  | seq x y ihx ihy =>
    intro hok hlo K k ρ st a w cs hrd hS hh
    simp only [codeOk, Bool.and_eq_true] at hok
    simp only [evCode] at hh
    obtain ⟨ex, st', ρ', a', w', cs', h1, h2, h3, h4⟩ := (ihx hok.1 (fun h => (hlo h).1) _ (.code y :: k) ρ st a w cs hrd hS hh).of_steps (.one stepR_seq)
    cases ex with
    | normal =>
      obtain ⟨ex2, st2, ρ2, a2, w2, cs2, e1, e2, e3, e4⟩ := ihy hok.2 (fun h => (hlo h).2) K k ρ' st' a' w' cs' (hrd.grows h3.grows) h2 h1
      exact ⟨ex2, st2, ρ2, a2, w2, cs2, e1, e2, h3.trans e3, e4.of_steps h4⟩
    | exit id =>
      obtain ⟨k₁, u, v⟩ := h4
      exact ⟨.exit id, st', ρ', a', w', cs', h1, h2, h3, k₁, u.trans (by simp [exitTo]), v⟩
    | ret => exact ⟨.ret, st', ρ', a', w', cs', h1, h2, h3, h4⟩
    | pan v => exact ⟨.pan v, st', ρ', a', w', cs', h1, h2, h3, h4⟩
  | cond c x y ihx ihy =>
    intro hok hlo K k ρ st a w cs hrd hS hh
    simp only [codeOk, Bool.and_eq_true] at hok
    simp only [evCode] at hh
    obtain ⟨t, ht, hk⟩ := asBool_some hh
    have hc := R.ev hS.tm c
    rw [ht] at hc
    have hc' : a.eval c = .bool t := by generalize a.eval c = z at hc; cases hc; rfl
    cases t with
    | true => exact (ihx hok.1 (fun h => (hlo h).1) K k ρ st a w cs hrd hS hk).of_steps (.one (stepR_cond hc'))
    | false => exact (ihy hok.2 (fun h => (hlo h).2) K k ρ st a w cs hrd hS hk).of_steps (.one (stepR_cond hc'))
  | block id x ih =>
    intro hok hlo K k ρ st a w cs hrd hS hh
    simp only [evCode] at hh
    obtain ⟨ex, st', ρ', a', w', cs', h1, h2, h3, h4⟩ := (ih hok hlo _ (.inBlock id :: k) ρ st a w cs hrd hS hh).of_steps (.one stepR_block)
    cases ex with
    | normal => exact ⟨.normal, st', ρ', a', w', cs', h1, h2, h3, Steps.trans h4 (.one stepR_inBlock)⟩
    | exit j =>
      obtain ⟨k₁, u, v⟩ := h4
      simp only at h1
      cases hj : Nat.beq j id with
      | true =>
        rw [hj] at h1
        have := Nat.eq_of_beq_eq_true hj
        subst this
        exact ⟨.normal, st', ρ', a', w', cs', h1, h2, h3, v.trans (.one (stepR_exit (by rw [u]; simp [exitTo])))⟩
      | false =>
        rw [hj] at h1
        have hne : (id == j) = false := by
          cases hx : id == j with
          | false => rfl
          | true => have := eq_of_beq hx; subst this; simp at hj
        exact ⟨.exit j, st', ρ', a', w', cs', h1, h2, h3, k₁, u.trans (by simp [exitTo, hne]), v⟩
    | ret => exact ⟨.ret, st', ρ', a', w', cs', h1, h2, h3, h4⟩
    | pan v => exact ⟨.pan v, st', ρ', a', w', cs', h1, h2, h3, h4⟩
  | loop x ih =>
    intro hok hlo K k ρ st a w cs hrd hS hh
    simp only [evCode] at hh
    have main : (match (headId x).bind (e.plan.stops so).norm with
        | none => loopN (fun st K => evCode P (e.plan.stops so) call lo fid rd x st K) rounds st K
        | some N => normK P N st.h.next st fun s => loopN (loopK P N st.h.next (fun st K => evCode P (e.plan.stops so) call lo fid rd x st K)) rounds s K) = some r ∨
        ∃ g, rd = none ∧ (headId x).bind lo = some g ∧ g A st K = some r := by
      cases rd with
      | some l => exact .inl hh
      | none =>
        cases hg : (headId x).bind lo with
        | none => rw [hg] at hh; exact .inl hh
        | some g => rw [hg] at hh; exact .inr ⟨g, rfl, rfl, hh⟩
    clear hh
    have ih := fun hok => ih hok (fun h => (hlo h).2)
    rcases main with hh | ⟨g, hrd0, hg, hh⟩
    rotate_left
    · obtain ⟨id, h1, h2⟩ := Option.bind_eq_some_iff.1 hg
      have hro : b.roundOf = none := by
        rw [hrd0] at hrd
        cases hx : b.roundOf with
        | none => rfl
        | some q => rw [hx] at hrd; exact hrd.elim
      exact (hlo hrd0).1 id g h1 h2 A r K Z kind cs₀ b k ρ st a w cs hL hb hbf hro hS hh
    cases hN : (headId x).bind (e.plan.stops so).norm with
    | none =>
      rw [hN] at hh
      exact (loop_sim (b := b) (c := x) (k := k) (rd := rd) (fun K k ρ st a w cs hrd hS hh => ih hok K k ρ st a w cs hrd hS hh) K rounds ρ st a w cs hrd hS hh).of_steps (.one stepR_loop)
    | some N =>
      rw [hN] at hh
      simp only at hh
      obtain ⟨e1, e2, h1⟩ := normK_some hh
      have hLf : LFree Z.L := by rw [hL]; exact LP_free tb
      obtain ⟨ρ2, f1, f2, f3, f4⟩ := normR (P := P) (N := N) (n0 := st.h.next) hLf hS e1 e2
      exact (loop_simN (b := b) (c := x) (k := k) (rd := rd) hLf (fun q hq => hS.rep.fresh q hq) (fun K k ρ st a w cs hrd hS hh => ih hok K k ρ st a w cs hrd hS hh) hrd K rounds ρ2 _ a w cs f2 f3 f4 f1 h1).of_steps (.one stepR_loop)
  | rangeFunc f ps assign body _ _ =>
    intro hok hlo K k ρ st a w cs hrd hS hh
    simp only [codeOk, Bool.and_eq_true] at hok
    simp only [evCode] at hh
    have key : ∀ {l : Nat} {hp : Heap} {d : List ADef}, (match ev st.t f with
        | .fn g first cap => call A (.fn g) (appA first (.yield l :: cap)) hp .off (rangeK K l st d)
        | _ => none) = some r → ∃ g first cap first' cap', a.eval f = .func (.func g) first' cap' ∧ RL ρ first first'.toList ∧ RL ρ cap cap'.toList ∧ call A (.fn g) (appA first (.yield l :: cap)) hp .off (rangeK K l st d) = some r := fun {l hp d} hm => by
      have hf := R.ev hS.tm f
      cases hev : ev st.t f with
      | fn g first cap =>
        rw [hev] at hm hf
        generalize a.eval f = y at hf
        cases hf with
        | fn _ h1 h2 h3 h4 => exact ⟨g, first, cap, _, _, rfl, ⟨by simpa using h1, fun i v v' a b => h2 i v v' a (by simpa using b)⟩, ⟨by simpa using h3, fun i v v' a b => h4 i v v' a (by simpa using b)⟩, hm⟩
      | _ => rw [hev] at hm; cases hm
    cases rd with
    | none =>
      have hrn : b.roundOf = none := by
        cases hx : b.roundOf with
        | none => rfl
        | some q => rw [hx] at hrd; exact hrd.elim
      obtain ⟨g, first, cap, first', cap', hax, hfi, hca, hcl⟩ := key (l := st.h.next + 1) (hp := _) (d := _) hh
      have hfr0 := hS.rep.fresh st.h.next (Nat.le_refl _)
      let p0 : Pl := ⟨w.heap.size, 0, 0⟩
      have hg : Grows ρ (setLoc ρ st.h.next p0) := setLoc_grows hfr0
      have hrep : Rep (setLoc ρ st.h.next p0) ((st.h.put st.h.next (.dfr true)).bump.bump) Z (w.alloc (.deferred (some []))) := by
        have h1 : Rep ρ ⟨st.h.m, st.h.next + 1 + 1⟩ Z w := hS.rep.next (by omega)
        exact Rep.new h1 hfr0 (by show st.h.next < st.h.next + 1 + 1; omega) (.deferred (some [])) (.dfr true) p0 rfl rfl ⟨fun hk => absurd (hS.rep.old _ hk) (Nat.lt_irrefl _), push_get _ _⟩
      obtain ⟨ex, st', ρ', a', w', cs', r1, r2, r3, r4⟩ := range_go (k := k) (b := b) (cs := cs) (f := f) (n := st.h.next) (w := w) (pr := p0) (mark := [{ target := .collected w.heap.size, args := #[] }]) Hc hL he hok.1 hok.2 hbf hax (hfi.grows hg) (hca.grows hg) hrep
        (by simp only [setLoc]; rw [if_neg (by omega)]; exact hS.rep.fresh _ (by omega)) (by show st.h.next + 1 < st.h.next + 1 + 1; omega) (by omega) (by simp [setLoc]) (hS.tm.grows hg) (.cons (.mark (p := p0) (by simp [setLoc])) (hS.df.grows hg)) (hS.cs.grows hg)
        (by rw [hrn, run_enterLoop_outer]; simp [p0, World.size_alloc]) hcl
      exact ⟨ex, st', ρ', a', w', cs', r1, r2, ⟨hg.trans r3.grows, fun q hq => (r3.off q hq).trans (by simp only [setLoc]; rw [if_neg (by omega)]), r3.next, r3.rep, (Low.push hS.rep.old _).trans r3.low⟩, r4⟩
    | some l₀ =>
      simp only at hh
      cases hm : st.h.m l₀ with
      | none => rw [hm] at hh; cases hh
      | some y =>
        rw [hm] at hh
        cases y with
        | loop x =>
          simp only at hh
          obtain ⟨g, first, cap, first', cap', hax, hfi, hca, hcl⟩ := key (l := st.h.next) (hp := _) (d := _) hh
          obtain ⟨q, x', g1, g2, g3, g4, g5, g6, g7, g8, g9, g10, g11, p2, g12, g13⟩ := loop_there hS.rep hm
          have hro : b.roundOf = some q.blk := by
            cases hx : b.roundOf with
            | none => rw [hx] at hrd; exact hrd.elim
            | some z => rw [hx] at hrd; obtain ⟨p, u, v⟩ := hrd; rw [g1] at u; cases u; rw [v]
          have hrep : Rep ρ st.h.bump Z w := hS.rep.next (Nat.le_succ _)
          obtain ⟨ex, st', ρ', a', w', cs', r1, r2, r3, r4⟩ := range_go (k := k) (b := b) (cs := cs) (f := f) (n := st.h.next) (w := w) (w₁ := w) (pr := p2) (mark := []) Hc hL he hok.1 hok.2 hbf hax hfi hca hrep
            (hS.rep.fresh _ (Nat.le_refl _)) (Nat.lt_succ_self _) (Nat.le_refl _) g12 hS.tm hS.df hS.cs
            (by rw [hro, enterLoop_inner g4, g13]) hcl
          exact ⟨ex, st', ρ', a', w', cs', r1, r2, r3, r4⟩
        | _ => cases hh
  | _ =>
    intro _ _ K k ρ st a w cs hrd hS hh
    simp [evCode] at hh
end Go.Ev
/- Activations that are left; calls: what the evaluator answers, the machine does. -/
namespace Go.Ev
variable {P : Program} {call : CallP} {tb : FuncId → Option FnP} {Z : Zone} {kind : CallKind} {cs₀ : List Frame}

/-! ### What an activation hands back -/
def resOne (tm : Array Value) : ResultVar → Sem Value
  | .tmp t => pure (tm.getD t undef)
  | .cell a t => do loadVar t (← asAddr (tm.getD a undef))
theorem results_eq (fn : Func) (tm : Array Value) : results fn tm = (do
    let vs ← fn.results.mapM (resOne tm)
    pure (if h : vs.size = 1 then vs[0] else .tuple vs)) := by
  rfl
theorem resList_sim {ρ : Loc} {h : Heap} {w : World} (hr : Rep ρ h Z w) {t : List AV} {tm : Array Value} (ht : RL ρ t tm.toList) {A : Type} {r : A} :
    ∀ (l : List ResultVar) (K : List AV → Option A), resList P t h l K = some r → ∃ vs vs', K vs = some r ∧ RL ρ vs vs' ∧
      (l.mapM (resOne tm)).run P w = .ok vs' w
  | [], K, hh => ⟨[], [], hh, RL.nil ρ, rfl⟩
  | .tmp i :: l, K, hh => by
    simp only [resList] at hh
    obtain ⟨vs, vs', h1, h2, h3⟩ := resList_sim hr ht l _ hh
    have hv : R ρ (nth t i) (tm.getD i undef) := by
      have := ht.getD i undef
      rw [nth_eq]; simpa [List.getD] using this
    refine ⟨_, tm.getD i undef :: vs', h1, RL.cons hv h2, ?_⟩
    simp only [List.mapM_cons, resOne, Sem.run_bind, Sem.run_pure, Result.andThen_ok, h3]
  | .cell i ty :: l, K, hh => by
    simp only [resList] at hh
    obtain ⟨p, hp, hk⟩ := asAdr_some hh
    have hv : R ρ (nth t i) (tm.getD i undef) := by
      have := ht.getD i undef
      rw [nth_eq]; simpa [List.getD] using this
    rw [hp] at hv
    obtain ⟨q, hq, hval⟩ : ∃ q, ρ p.1 = some q ∧ tm.getD i undef = .pointer (some ⟨q.blk, q.off + p.2, none⟩) := by
      generalize tm.getD i undef = z at hv
      cases hv with
      | ptr h => exact ⟨_, h, rfl⟩
    obtain ⟨v, v', h1, h2, h3⟩ := sim_load hr hq hk
    obtain ⟨vs, vs', h4, h5, h6⟩ := resList_sim hr ht l _ h1
    refine ⟨_, v' :: vs', h4, RL.cons h2 h5, ?_⟩
    simp only [List.mapM_cons, resOne, Sem.run_bind, Sem.run_pure, Result.andThen_ok, hval, asAddr, h3, h6]
theorem res_sim {ρ : Loc} {h : Heap} {w : World} (hr : Rep ρ h Z w) {t : List AV} {tm : Array Value} (ht : RL ρ t tm.toList) {A : Type} {r : A} {fn : Func} {K : AV → Option A} (hh : resK P fn t h K = some r) :
    ∃ v v', K v = some r ∧ R ρ v v' ∧ (results fn tm).run P w = .ok v' w := by
  unfold resK at hh
  obtain ⟨vs, vs', h1, h2, h3⟩ := resList_sim hr ht fn.results.toList _ hh
  have hrun : (fn.results.mapM (resOne tm)).run P w = .ok vs'.toArray w := by
    rw [Array.mapM_eq_mapM_toList, Sem.run_map, h3]; rfl
  have hres : (results fn tm).run P w = .ok (if h : vs'.toArray.size = 1 then vs'.toArray[0] else .tuple vs'.toArray) w := by
    rw [results_eq, Sem.run_bind, hrun]; rfl
  have hlen := h2.len
  split at h1
  · rename_i v
    obtain ⟨v', rfl⟩ : ∃ v', vs' = [v'] := by
      cases vs' with
      | nil => simp at hlen
      | cons a l => cases l with
        | nil => exact ⟨a, rfl⟩
        | cons b l => simp at hlen
    exact ⟨v, v', h1, h2.head, by rw [hres]; rfl⟩
  · rename_i hne
    refine ⟨_, .tuple vs'.toArray, h1, h2.tup, ?_⟩
    rw [hres, dif_neg]
    simp only [List.size_toArray]
    intro h1
    rw [← hlen] at h1
    cases vs with
    | nil => simp at h1
    | cons a l => cases l with
      | nil => exact hne a rfl
      | cons b l => simp at h1

theorem step_mark {fr : Frame} {cs : List Frame} {w : World} {blk : Nat} {ds : List Deferred} (hm : fr.mode ≠ .run) (hd : fr.defers = { target := .collected blk, args := #[] } :: ds) (hb : w.heap[blk]? = some (.deferred (some []))) :
    step P (lone fr cs w) = .next (lone { fr with defers := ds } cs (w.putObj blk (.deferred none))) := by
  refine step_lone_go ?_
  have ht := run_takeDeferred (P := P) hb
  cases hmode : fr.mode with
  | run => exact absurd hmode hm
  | returning => simp [stepG, unwind, hmode, hd, Sem.runT_eq, ht, GStep.bare_after]
  | panicking ch => simp [stepG, unwind, hmode, hd, Sem.runT_eq, ht, GStep.bare_after]

theorem leave_sim (Hc : CallSim P (LP tb) call) (hL : Z.L = LP tb) {A : Type} {r₀ : A} {K : Out → Heap → Md → Option A} {fn : Func} {t : List AV} {r : Md} :
    ∀ (ds : List ADef) (u : Md) (h : Heap) (ρ : Loc) (w : World) (fr : Frame) (cs : List Frame), MdR ρ u fr.mode → DL ρ ds fr.defers → RL ρ t fr.tmps.toList → P.funcs[fr.fn]? = some fn → Rep ρ h Z w → CSR ρ kind cs₀ r cs →
      leave P (call A) fn t r ds u h K = some r₀ →
      ∃ out h' ρ' w' fr', K out h' r = some r₀ ∧ Steps P (lone fr cs w) (lone fr' cs w') ∧ Went ρ ρ' Z h.next h' w w' ∧ CSR ρ' kind cs₀ r cs ∧ fr'.kind = fr.kind ∧ fr'.fn = fr.fn ∧ OutG P ρ' fr' w' out
  | [], u, h, ρ, w, fr, cs, hu, hd, ht, hf, hr, hcs, hh => by
    have hd0 : fr.defers = [] := by generalize fr.defers = x at hd; cases hd; rfl
    cases u with
    | ret =>
      simp only [leave] at hh
      obtain ⟨v, v', h1, h2, h3⟩ := res_sim hr ht hh
      exact ⟨.ret v, h, ρ, w, fr, h1, Steps.refl _ _, Went.refl hr, hcs, rfl, rfl, v', h2, hu, hd0, fn, hf, h3⟩
    | pan v =>
      simp only [leave] at hh
      obtain ⟨v', hv, hm⟩ := hu
      exact ⟨.pan v, h, ρ, w, fr, hh, Steps.refl _ _, Went.refl hr, hcs, rfl, rfl, v', hv, hm, hd0, fn, hf⟩
    | _ => simp [leave] at hh
  | d :: ds, u, h, ρ, w, fr, cs, hu, hd, ht, hf, hr, hcs, hh => by
    have hrun : fr.mode ≠ .run := by
      intro hm
      rw [hm] at hu
      cases u with
      | off => exact hu
      | ret => cases hu
      | pan v => obtain ⟨_, _, x⟩ := hu; cases x
      | rcd v => obtain ⟨_, _, x⟩ := hu; cases x
    obtain ⟨d', l', hfd, hd1, hd2⟩ : ∃ d' l', fr.defers = d' :: l' ∧ DR ρ d d' ∧ DL ρ ds l' := by
      generalize fr.defers = x at hd
      cases hd with
      | cons h hl => exact ⟨_, _, rfl, h, hl⟩
    cases hd1 with
    | mark hp =>
      rename_i b p
      simp only [leave] at hh
      cases hm : h.m b with
      | none => rw [hm] at hh; cases hh
      | some y =>
        rw [hm] at hh
        cases y with
        | dfr live =>
          cases live with
          | false => cases hh
          | true =>
            simp only at hh
            obtain ⟨q, a1, a2, a3⟩ := hr.blk b _ hm
            rw [hp] at a1; cases a1
            have hlt : p.blk < w.heap.size := (Array.getElem?_eq_some_iff.1 a3).1
            obtain ⟨w1, w2⟩ := write_obj (h := h) (n := h.next) (N := Z) (x' := .dfr false) (o' := .deferred none) hr hm rfl hp hlt a2 (fun w' hw' => ⟨a2, hw'⟩)
            obtain ⟨out, h', ρ', w', fr', k1, k2, k3, k4, k5, k6, k7⟩ := leave_sim Hc hL ds u _ ρ _ { fr with defers := l' } cs hu hd2 ht hf w1 hcs hh
            have s := Steps.head (step_mark (P := P) (cs := cs) hrun hfd a3) k2
            exact ⟨out, h', ρ', w', fr', k1, s, ⟨k3.grows, k3.off, k3.next, k3.rep, w2.trans k3.low⟩, k4, k5, k6, k7⟩
        | _ => cases hh
    | call ha =>
      rename_i f args cap dargs
      simp only [leave] at hh
      let c : Frame := { fr with defers := l' }
      obtain ⟨e1, out, h', u', ρ', w', cs', frN, k1, k2, k3, k4, k5, k6, k7⟩ := Hc.fn A _ r₀ f args h u _ ρ Z w .deferred (c :: cs) (c :: cs) hL hh hr ha (.inr ⟨rfl, c, cs, fr.mode, rfl, rfl, hu⟩)
      cases out with
      | pan v => cases k1
      | ret v =>
        simp only at k1
        rcases k4 with ⟨x, _⟩ | ⟨_, c2, rest, um, hc2, hcs2, hum⟩
        · cases x
        · cases hc2
          subst hcs2
          obtain ⟨v', hv, hgo⟩ := k7
          have hmd : MdR ρ' (settleM u') (settle um) := by
            cases u' with
            | off => exact hum.elim
            | ret => rw [show um = .returning from hum]; rfl
            | pan v => obtain ⟨z, y1, y2⟩ := hum; rw [y2]; exact ⟨z, y1, rfl⟩
            | rcd v => obtain ⟨z, y1, y2⟩ := hum; rw [y2]; rfl
          have s := Steps.head (step_defer (P := P) (cs := cs) hrun hfd rfl (by simp only [invoke]; exact e1 w)) (k2.trans (.one (step_going_returned k5 hgo)))
          obtain ⟨out2, h2, ρ2, w2, fr2, r1, r2, r3, r4, r5, r6, r7⟩ := leave_sim Hc hL ds (settleM u') h' ρ' w' { c with mode := settle um } cs hmd (hd2.grows k3.grows) (ht.grows k3.grows) hf k3.rep (hcs.grows k3.grows) k1
          exact ⟨out2, h2, ρ2, w2, fr2, r1, s.trans r2, k3.trans r3, r4, r5, r6, r7⟩

theorem bindT_RL {ρ : Loc} : ∀ (ps : List Tmp) {args : List AV} {args' : List Value} {t : List AV} {t' : Array Value}, RL ρ args args' → RL ρ t t'.toList →
    RL ρ (bindT t ps args) ((ps.zip args').foldl (fun tm (x : Tmp × Value) => tm.setIfInBounds x.1 x.2) t').toList
  | [], args, args', t, t', _, ht => by cases args <;> exact ht
  | p :: ps, [], [], t, t', _, ht => by simpa [bindT] using ht
  | p :: ps, [], b :: bs, t, t', ha, _ => by have := ha.len; simp at this
  | p :: ps, a :: as, [], t, t', ha, _ => by have := ha.len; simp at this
  | p :: ps, a :: as, b :: bs, t, t', ha, ht => by
    simp only [bindT, List.zip_cons_cons, List.foldl_cons]
    refine bindT_RL ps ha.tail ?_
    rw [setL_eq]
    simpa using ht.set ha.head p

/-- What is asked of oracles. -/
structure OrcOk (P : Program) (tb : FuncId → Option FnP) (S : Orc) : Prop where
  f : ∀ f g, S.f f = some g → FnSim P (LP tb) f g
  l : ∀ f e, tb f = some e → lpOk P (LP tb) f (S.l f) e.code
  nf : ∀ f g, S.f f = some g → NatF g
  nl : ∀ f id g, S.l f id = some g → NatL g
theorem callSim_of {S : Orc} (hT : TbOk P tb) (hSm : OrcOk P tb S) : ∀ n, CallSim P (LP tb) (evCall P S tb n) := by
  intro n
  induction n with
  | zero => exact ⟨evCall_b hSm.nf hSm.nl 0, fun A K r f args h u args' ρ Z w kind cs₀ cs hL hh => (by cases hh), fun A K r l args h u args' ρ Z w p c cs hL hh => (by cases hh)⟩
  | succ n ih =>
    refine ⟨evCall_b hSm.nf hSm.nl (n + 1), fun A K r f args h u args' ρ Z w kind cs₀ cs hL hh hr ha hcs => ?_, fun A K r l args h u args' ρ Z w p c cs hL hh hr ha hp => ?_⟩
    · simp only [evCall] at hh
      cases hsf : S.f f with
      | some g => rw [hsf] at hh; exact hSm.f f g hsf A K r args h u args' ρ Z w kind cs₀ cs hL hh hr ha hcs
      | none =>
      rw [hsf] at hh
      simp only at hh
      cases he : tb f with
      | none => rw [he] at hh; cases hh
      | some e =>
        rw [he] at hh
        simp only at hh
        obtain ⟨hf, hb, hname, hok⟩ := hT.fn f e he
        have hkn : kind = .normal ∨ kind = .deferred := by rcases hcs with ⟨x, _⟩ | ⟨x, _⟩ <;> simp [x]
        refine ⟨fun w => ?_, ?_⟩
        · have h1 : e.fn.name ≠ "runtime.NumGoroutine" := by simpa using hname
          simp [callFunc, hf, h1, hb]
        · let b : Frame := { (default : Frame) with fn := f, kind := kind }
          let a₀ : Act := { tmps := args' ++ Array.replicate (e.fn.ntmps - args'.size) undef, defers := [] }
          have henter : Frame.enter P f args' kind = b.atR a₀ [.code e.code] := by simp [Frame.enter, Frame.atR, hf, hb, b, a₀]; rfl
          have htm : RL ρ (appA args (repA .dead (e.fn.ntmps - lenA args))) a₀.tmps.toList := by
            rw [appA_eq, repA_eq, lenA_eq, ha.len]
            have := ha.append (RL.replicate (.dead undef) (e.fn.ntmps - args'.toList.length))
            simpa [a₀] using this
          obtain ⟨ex, st', ρ', a', w', cs', h1, h2, h3, h4⟩ := code_sim (Z := Z) (kind := kind) (cs₀ := cs₀) ih hT hL he (b := b) rfl rfl (rd := none) (lo := S.l f) e.code hok (fun _ => hSm.l f e he) _ [] ρ _ a₀ w cs (by exact trivial) ⟨htm, .nil, hr, hcs⟩ hh
          rw [← henter] at h4
          have fin : ∀ (u₀ : Md) (todo : List Item) (md : FrameMode), MdR ρ' u₀ md → Steps P (lone (Frame.enter P f args' kind) cs w) (lone { b.atR a' todo with mode := md } cs' w') →
              leave P (evCall P S tb n A) e.fn st'.t st'.r st'.d u₀ st'.h K = some r →
              ∃ out h' u' ρ' w' cs' fr, K out h' u' = some r ∧ Steps P (lone (Frame.enter P f args' kind) cs w) (lone fr cs' w') ∧ Went ρ ρ' Z h.next h' w w' ∧ CSR ρ' kind cs₀ u' cs' ∧ fr.kind = kind ∧ fr.fn = f ∧ OutG P ρ' fr w' out := by
            intro u₀ todo md hmd hs hl
            obtain ⟨out, h', ρ2, w2, fr', k1, k2, k3, k4, k5, k6, k7⟩ := leave_sim (Z := Z) (kind := kind) (cs₀ := cs₀) ih hL st'.d u₀ st'.h ρ' w' { b.atR a' todo with mode := md } cs' hmd h2.df h2.tm hf h2.rep h2.cs hl
            exact ⟨out, h', st'.r, ρ2, w2, cs', fr', k1, hs.trans k2, h3.trans k3, k4, k5, k6, k7⟩
          cases ex with
          | normal => exact fin .ret [] .returning rfl (Steps.trans h4 (.one (stepR_end rfl))) h1
          | ret =>
            obtain ⟨k₁, y⟩ := h4
            exact fin .ret _ .returning rfl (y.trans (.one (stepR_ret rfl))) h1
          | pan v =>
            obtain ⟨todo, v', hv, y⟩ := h4
            exact fin (.pan v) todo _ ⟨v', hv, rfl⟩ y h1
          | exit id => cases h1
    · simp only [evCall] at hh
      cases hm : h.m l with
      | none => rw [hm] at hh; cases hh
      | some y =>
        rw [hm] at hh
        cases y with
        | loop x =>
          cases u with
          | off =>
            simp only at hh
            cases he : tb x.fn with
            | none => rw [he] at hh; cases hh
            | some e =>
              rw [he] at hh
              simp only at hh
              obtain ⟨hlen, hk⟩ := guardK_some hh
              have hlen := Nat.eq_of_beq_eq_true hlen
              have hlT : ∀ l : List Tmp, lenT l = l.length := fun l => by induction l <;> simp_all [lenT]
              rw [lenA_eq, hlT, ha.len] at hlen
              obtain ⟨q, x', g1, g2, g3, g4, g5, g6, g7, g8, g9, g10, g11, p2, g12, g13⟩ := loop_there hr hm
              rw [hp] at g1; cases g1
              have hLx : LP tb x := by rw [hL] at g3; exact g3
              obtain ⟨e', he', hc1, hc2⟩ := hLx
              rw [he] at he'; cases he'
              have hsz : args'.size = x'.params.size := by
                have : x'.params.toList.length = x.params.length := by rw [g9]
                simp only [Array.length_toList] at this hlen; omega
              have hy := run_yield (P := P) g4 hsz
              rw [g7, g10, g11] at hy
              refine ⟨_, _, _, _, hy, ?_⟩
              let b : Frame := { (default : Frame) with fn := x.fn, kind := .normal, roundOf := some p.blk }
              let a₀ : Act := { tmps := (x'.params.zip args').foldl (fun tmps (t, a) => tmps.setIfInBounds t a) x'.tmps, defers := [] }
              have hround : Frame.round p.blk x.fn a₀.tmps x.assign x.body .normal = b.atR a₀ [.code x.assign, .beginRound, .code x.body] := by simp [Frame.round, Frame.atR, b, a₀]
              have htm : RL ρ (bindT x.tmps x.params args) a₀.tmps.toList := by
                have := bindT_RL (t' := x'.tmps) x.params ha g8
                rw [← g9] at this ⊢
                simp only [a₀]
                rw [← Array.foldl_toList, Array.toList_zip]
                exact this
              obtain ⟨ex, st', ρ', a', w', cs', h1, h2, h3, h4⟩ := code_sim (Z := Z) (kind := .normal) (cs₀ := c :: cs) ih hT hL he (b := b) rfl rfl (rd := some l) (lo := fun _ => none) x.assign hc1 (fun h => by cases h) _ [.beginRound, .code x.body] ρ _ a₀ w (c :: cs) ⟨p, hp, rfl⟩ ⟨htm, .nil, hr, .inl ⟨rfl, rfl, rfl⟩⟩ hk
              have hcs' : cs' = c :: cs := h2.cs.normal.2
              subst hcs'
              cases ex with
              | normal =>
                simp only at h1
                cases hm2 : st'.h.m l with
                | none => rw [hm2] at h1; cases h1
                | some y =>
                  rw [hm2] at h1
                  cases y with
                  | loop y =>
                    simp only at h1
                    cases hys : y.state with
                    | ready =>
                      rw [hys] at h1
                      simp only at h1
                      have hp' := h3.grows _ _ hp
                      obtain ⟨q, y', j1, j2, j3, j4, j5, j6, j7⟩ := loop_there h2.rep hm2
                      rw [hp'] at j1; cases j1
                      have hbeg := run_beginRound (P := P) j4 (by rw [j5, hys])
                      obtain ⟨hw1, hw2⟩ := loop_write (x := y) h2.rep hm2 hp' j4 .busy y'.pending (by rw [hL] at j3 ⊢; exact j3)
                      have e1 : ({ y with state := LoopState.busy, pending := y'.pending } : ALoop) = { y with state := .busy } := by rw [j6]
                      rw [e1] at hw1
                      have s1 : Steps P (lone (Frame.round p.blk x.fn a₀.tmps x.assign x.body .normal) (c :: cs) w) (lone (b.atR a' [.code x.body]) (c :: cs) (w'.putObj p.blk (.loop { y' with state := .busy }))) := by
                        rw [hround]; exact Steps.trans h4 (.one (stepR_beginRound rfl hbeg))
                      have w1 : Went ρ ρ' Z h.next (st'.h.put l (.loop { y with state := .busy })) w (w'.putObj p.blk (.loop { y' with state := .busy })) := ⟨h3.grows, h3.off, h3.next, hw1, h3.low.trans hw2⟩
                      obtain ⟨ex2, st2, ρ2, a2, w2, cs2, r1, r2, r3, r4⟩ := code_sim (Z := Z) (kind := .normal) (cs₀ := c :: cs) ih hT hL he (b := b) rfl rfl (rd := some l) (lo := fun _ => none) x.body hc2 (fun h => by cases h) _ [] ρ' { st' with h := st'.h.put l (.loop { y with state := .busy }) } a' _ (c :: cs) ⟨p, hp', rfl⟩ ⟨h2.tm, h2.df, hw1, h2.cs⟩ h1
                      have hcs2 : cs2 = c :: cs := r2.cs.normal.2
                      subst hcs2
                      have hp2 := r3.grows _ _ hp'
                      simp only at r1
                      cases hm3 : st2.h.m l with
                      | none => rw [hm3] at r1; cases r1
                      | some z =>
                        rw [hm3] at r1
                        cases z with
                        | loop z =>
                          obtain ⟨q, z', i1, i2, i3, i4, i5, i6, i7⟩ := loop_there r2.rep hm3
                          rw [hp2] at i1; cases i1
                          have wall := w1.trans r3
                          have close : ∀ (jump : Option Code) (s : LoopState), (s = if jump.isNone then .ready else .done) →
                              Rep ρ2 (st2.h.put l (.loop { z with state := s, pending := jump })) Z (w2.putObj p.blk (.loop { z' with state := if jump.isNone then .ready else .done, pending := jump })) ∧
                              Low Z w2 (w2.putObj p.blk (.loop { z' with state := if jump.isNone then .ready else .done, pending := jump })) := fun jump s hs => by
                            rw [← hs]
                            exact loop_write (x := z) r2.rep hm3 hp2 i4 s jump (by rw [hL] at i3 ⊢; exact i3)
                          cases ex2 with
                          | normal =>
                            simp only at r1
                            obtain ⟨c1, c2⟩ := close none .ready rfl
                            exact ⟨_, _, _, ρ2, _, _, r1, s1.trans (Steps.trans r4 (.one (stepR_round_end rfl rfl (run_endRound none i4)))), ⟨wall.grows, wall.off, wall.next, c1, wall.low.trans c2⟩, _, .bool true, rfl⟩
                          | ret =>
                            simp only at r1
                            obtain ⟨k₁, y⟩ := r4
                            obtain ⟨c1, c2⟩ := close (some .ret) .done rfl
                            exact ⟨_, _, _, ρ2, _, _, r1, s1.trans (y.trans (.one (stepR_round_ret rfl rfl (run_endRound (some .ret) i4)))), ⟨wall.grows, wall.off, wall.next, c1, wall.low.trans c2⟩, _, .bool false, rfl⟩
                          | exit j =>
                            simp only at r1
                            obtain ⟨k₁, y1, y2⟩ := r4
                            obtain ⟨c1, c2⟩ := close (some (.exit j)) .done rfl
                            exact ⟨_, _, _, ρ2, _, _, r1, s1.trans (y2.trans (.one (stepR_round_exit rfl rfl (by rw [y1]; rfl) (run_endRound (some (.exit j)) i4)))), ⟨wall.grows, wall.off, wall.next, c1, wall.low.trans c2⟩, _, .bool false, rfl⟩
                          | pan v => cases r1
                        | _ => cases r1
                    | _ => rw [hys] at h1; cases h1
                  | _ => cases h1
              | _ => cases h1
          | _ => cases hh
        | _ => cases hh

/-- All that there is, to be read alone. -/
def Zone.all (L : ALoop → Prop) (w : World) : Zone := ⟨fun q => q < w.heap.size, fun q => q < w.heap.size, fun _ h => h, fun _ => False, fun _ h => h.elim, L⟩
theorem Rep.none (L : ALoop → Prop) (w : World) : Rep Loc.none ⟨fun _ => Option.none, 0⟩ (Zone.all L w) w :=
  ⟨fun b x hb => (by cases hb), fun b b' x x' p p' hb => (by cases hb), fun q hq => hq, fun _ _ => rfl, fun b o cs hf => hf.elim⟩
/-- A function that has been called with nothing, on nothing. -/
theorem fnSim_closed {S : Orc} (hT : TbOk P tb) (hSm : OrcOk P tb S) {f : FuncId} {v : AV} (hv : simple v = true) (k : Nat)
    (hrun : evCall P S tb k AV (.fn f) [] ⟨fun _ => none, 0⟩ .off (fun out _ _ => match out with | .ret v => some v | .pan _ => none) = some v) :
    FnSim P (LP tb) f (fun _ args h u K => match args, u with
      | [], .off => K (.ret v) h .off
      | _, _ => none) := by
  intro A K r args h u args' ρ Z w kind cs₀ cs hL hg hr ha hcs
  cases args with
  | cons a l => cases hg
  | nil =>
    cases u with
    | off =>
      simp only at hg
      let Z₀ : Zone := Zone.all (LP tb) w
      have hr0 : Rep Loc.none ⟨fun _ => none, 0⟩ Z₀ w := Rep.none _ w
      rcases hcs with ⟨rfl, _, rfl⟩ | ⟨rfl, c, rest, u, _, _, hu⟩
      · obtain ⟨e1, out, h', u', ρ', w', cs', fr, k1, k2, k3, k4, k5, k6, k7⟩ := (callSim_of hT hSm k).fn AV _ v f [] _ .off args' _ Z₀ w .normal cs cs rfl hrun hr0 ⟨ha.len, fun i v v' h1 => by simp at h1⟩ (.inl ⟨rfl, rfl, rfl⟩)
        refine ⟨e1, .ret v, h, .off, ρ, w', cs', fr, hg, k2, ?_, .inl ⟨rfl, rfl, k4.normal.2⟩, k5, k6, ?_⟩
        · have hl : Low (Z.read w) w w' := ⟨k3.low.os, k3.low.tape, k3.low.output, k3.low.size, k3.low.block⟩
          exact ⟨Grows.refl _, fun _ _ => rfl, Nat.le_refl _, hr.more (n := h.next) (GrowsS.refl _) hl hr.fresh, hl.unread hr⟩
        · cases out with
          | pan v => cases k1
          | ret v1 =>
            simp only [Option.some.injEq] at k1
            subst k1
            obtain ⟨v', hv', hgo⟩ := k7
            exact ⟨v', hv'.simple hv, hgo⟩
      · exact hu.elim
    | _ => cases hg
/-- A run that answers is a contract of the model's. -/
theorem calls_of_run {S : Orc} (hT : TbOk P tb) (hSm : OrcOk P tb S) {f : FuncId} {args : List AV} {args' : Array Value} {h : Heap} {ρ : Loc} {Z : Zone} {w : World} (hL : Z.L = LP tb) (k : Nat)
    (hrun : evCall P S tb k Bool (.fn f) args h .off (fun out _ _ => match out with | .ret (.bool b) => some b | _ => none) = some true) (hr : Rep ρ h Z w) (ha : RL ρ args args'.toList) :
    Calls P f args' w fun e w' => e = .returned (.bool true) ∧ Low Z w w' := by
  intro cs
  obtain ⟨e1, out, h', u', ρ', w', cs', fr, k1, k2, k3, k4, k5, k6, k7⟩ := (callSim_of hT hSm k).fn Bool _ true f args h .off args' ρ Z w .normal cs cs hL hrun hr ha (.inl ⟨rfl, rfl, rfl⟩)
  have hcs := k4.normal.2
  subst hcs
  cases out with
  | pan v => cases k1
  | ret v =>
    obtain ⟨v', hv, hgo⟩ := k7
    cases v <;> first | (cases k1; done) | skip
    simp only [Option.some.injEq] at k1
    subst k1
    cases hv
    exact ⟨.returned (.bool true), w', fr, ⟨rfl, k3.low⟩, k2, k6, going_leaving k5 hgo⟩
end Go.Ev
