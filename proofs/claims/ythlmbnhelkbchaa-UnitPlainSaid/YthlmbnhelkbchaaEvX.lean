/- Activations that are left; calls: what the evaluator answers, the machine does. -/
import Derived.Test.YthlmbnhelkbchaaEvW
namespace Go.Ev
variable {P : Program} {call : CallP} {tb : FuncId → Option FnP} {Z : Zone} {kind : CallKind} {cs₀ : List Frame}

/-! ### What an activation hands back -/
def resOne (tm : Array Value) : ResultVar → Sem Value
  | .tmp t => pure (tm.getD t undef)
  | .cell a t => do loadVar t (← asAddr (tm.getD a undef))
theorem results_eq (fn : Func) (tm : Array Value) : results fn tm = (do
    let vs ← fn.results.mapM (resOne tm)
    pure (if h : vs.size = 1 then vs[0] else .tuple vs)) := by
  rfl
theorem resList_sim {ρ : Loc} {h : Heap} {w : World} (hr : Rep ρ h Z w) {t : List AV} {tm : Array Value} (ht : RL ρ t tm.toList) {A : Type} {r : A} :
    ∀ (l : List ResultVar) (K : List AV → Option A), resList P t h l K = some r → ∃ vs vs', K vs = some r ∧ RL ρ vs vs' ∧
      (l.mapM (resOne tm)).run P w = .ok vs' w
  | [], K, hh => ⟨[], [], hh, RL.nil ρ, rfl⟩
  | .tmp i :: l, K, hh => by
    simp only [resList] at hh
    obtain ⟨vs, vs', h1, h2, h3⟩ := resList_sim hr ht l _ hh
    have hv : R ρ (nth t i) (tm.getD i undef) := by
      have := ht.getD i undef
      rw [nth_eq]; simpa [List.getD] using this
    refine ⟨_, tm.getD i undef :: vs', h1, RL.cons hv h2, ?_⟩
    simp only [List.mapM_cons, resOne, Sem.run_bind, Sem.run_pure, Result.andThen_ok, h3]
  | .cell i ty :: l, K, hh => by
    simp only [resList] at hh
    obtain ⟨p, hp, hk⟩ := asAdr_some hh
    have hv : R ρ (nth t i) (tm.getD i undef) := by
      have := ht.getD i undef
      rw [nth_eq]; simpa [List.getD] using this
    rw [hp] at hv
    obtain ⟨q, hq, hval⟩ : ∃ q, ρ p.1 = some q ∧ tm.getD i undef = .pointer (some ⟨q.blk, q.off + p.2, none⟩) := by
      generalize tm.getD i undef = z at hv
      cases hv with
      | ptr h => exact ⟨_, h, rfl⟩
    obtain ⟨v, v', h1, h2, h3⟩ := sim_load hr hq hk
    obtain ⟨vs, vs', h4, h5, h6⟩ := resList_sim hr ht l _ h1
    refine ⟨_, v' :: vs', h4, RL.cons h2 h5, ?_⟩
    simp only [List.mapM_cons, resOne, Sem.run_bind, Sem.run_pure, Result.andThen_ok, hval, asAddr, h3, h6]
theorem res_sim {ρ : Loc} {h : Heap} {w : World} (hr : Rep ρ h Z w) {t : List AV} {tm : Array Value} (ht : RL ρ t tm.toList) {A : Type} {r : A} {fn : Func} {K : AV → Option A} (hh : resK P fn t h K = some r) :
    ∃ v v', K v = some r ∧ R ρ v v' ∧ (results fn tm).run P w = .ok v' w := by
  unfold resK at hh
  obtain ⟨vs, vs', h1, h2, h3⟩ := resList_sim hr ht fn.results.toList _ hh
  have hrun : (fn.results.mapM (resOne tm)).run P w = .ok vs'.toArray w := by
    rw [Array.mapM_eq_mapM_toList, Sem.run_map, h3]; rfl
  have hres : (results fn tm).run P w = .ok (if h : vs'.toArray.size = 1 then vs'.toArray[0] else .tuple vs'.toArray) w := by
    rw [results_eq, Sem.run_bind, hrun]; rfl
  have hlen := h2.len
  split at h1
  · rename_i v
    obtain ⟨v', rfl⟩ : ∃ v', vs' = [v'] := by
      cases vs' with
      | nil => simp at hlen
      | cons a l => cases l with
        | nil => exact ⟨a, rfl⟩
        | cons b l => simp at hlen
    exact ⟨v, v', h1, h2.head, by rw [hres]; rfl⟩
  · rename_i hne
    refine ⟨_, .tuple vs'.toArray, h1, h2.tup, ?_⟩
    rw [hres, dif_neg]
    simp only [List.size_toArray]
    intro h1
    rw [← hlen] at h1
    cases vs with
    | nil => simp at h1
    | cons a l => cases l with
      | nil => exact hne a rfl
      | cons b l => simp at h1

theorem step_mark {fr : Frame} {cs : List Frame} {w : World} {blk : Nat} {ds : List Deferred} (hm : fr.mode ≠ .run) (hd : fr.defers = { target := .collected blk, args := #[] } :: ds) (hb : w.heap[blk]? = some (.deferred (some []))) :
    step P (lone fr cs w) = .next (lone { fr with defers := ds } cs (w.putObj blk (.deferred none))) := by
  refine step_lone_go ?_
  have ht := run_takeDeferred (P := P) hb
  cases hmode : fr.mode with
  | run => exact absurd hmode hm
  | returning => simp [stepG, unwind, hmode, hd, Sem.runT_eq, ht, GStep.bare_after]
  | panicking ch => simp [stepG, unwind, hmode, hd, Sem.runT_eq, ht, GStep.bare_after]

theorem leave_sim (Hc : CallSim P (LP tb) call) (hL : Z.L = LP tb) {A : Type} {r₀ : A} {K : Out → Heap → Md → Option A} {fn : Func} {t : List AV} {r : Md} :
    ∀ (ds : List ADef) (u : Md) (h : Heap) (ρ : Loc) (w : World) (fr : Frame) (cs : List Frame), MdR ρ u fr.mode → DL ρ ds fr.defers → RL ρ t fr.tmps.toList → P.funcs[fr.fn]? = some fn → Rep ρ h Z w → CSR ρ kind cs₀ r cs →
      leave P (call A) fn t r ds u h K = some r₀ →
      ∃ out h' ρ' w' fr', K out h' r = some r₀ ∧ Steps P (lone fr cs w) (lone fr' cs w') ∧ Went ρ ρ' Z h.next h' w w' ∧ CSR ρ' kind cs₀ r cs ∧ fr'.kind = fr.kind ∧ fr'.fn = fr.fn ∧ OutG P ρ' fr' w' out
  | [], u, h, ρ, w, fr, cs, hu, hd, ht, hf, hr, hcs, hh => by
    have hd0 : fr.defers = [] := by generalize fr.defers = x at hd; cases hd; rfl
    cases u with
    | ret =>
      simp only [leave] at hh
      obtain ⟨v, v', h1, h2, h3⟩ := res_sim hr ht hh
      exact ⟨.ret v, h, ρ, w, fr, h1, Steps.refl _ _, Went.refl hr, hcs, rfl, rfl, v', h2, hu, hd0, fn, hf, h3⟩
    | pan v =>
      simp only [leave] at hh
      obtain ⟨v', hv, hm⟩ := hu
      exact ⟨.pan v, h, ρ, w, fr, hh, Steps.refl _ _, Went.refl hr, hcs, rfl, rfl, v', hv, hm, hd0, fn, hf⟩
    | _ => simp [leave] at hh
  | d :: ds, u, h, ρ, w, fr, cs, hu, hd, ht, hf, hr, hcs, hh => by
    have hrun : fr.mode ≠ .run := by
      intro hm
      rw [hm] at hu
      cases u with
      | off => exact hu
      | ret => cases hu
      | pan v => obtain ⟨_, _, x⟩ := hu; cases x
      | rcd v => obtain ⟨_, _, x⟩ := hu; cases x
    obtain ⟨d', l', hfd, hd1, hd2⟩ : ∃ d' l', fr.defers = d' :: l' ∧ DR ρ d d' ∧ DL ρ ds l' := by
      generalize fr.defers = x at hd
      cases hd with
      | cons h hl => exact ⟨_, _, rfl, h, hl⟩
    cases hd1 with
    | mark hp =>
      rename_i b p
      simp only [leave] at hh
      cases hm : h.m b with
      | none => rw [hm] at hh; cases hh
      | some y =>
        rw [hm] at hh
        cases y with
        | dfr live =>
          cases live with
          | false => cases hh
          | true =>
            simp only at hh
            obtain ⟨q, a1, a2, a3⟩ := hr.blk b _ hm
            rw [hp] at a1; cases a1
            have hlt : p.blk < w.heap.size := (Array.getElem?_eq_some_iff.1 a3).1
            obtain ⟨w1, w2⟩ := write_obj (h := h) (n := h.next) (N := Z) (x' := .dfr false) (o' := .deferred none) hr hm rfl hp hlt a2 (fun w' hw' => ⟨a2, hw'⟩)
            obtain ⟨out, h', ρ', w', fr', k1, k2, k3, k4, k5, k6, k7⟩ := leave_sim Hc hL ds u _ ρ _ { fr with defers := l' } cs hu hd2 ht hf w1 hcs hh
            have s := Steps.head (step_mark (P := P) (cs := cs) hrun hfd a3) k2
            exact ⟨out, h', ρ', w', fr', k1, s, ⟨k3.grows, k3.off, k3.next, k3.rep, w2.trans k3.low⟩, k4, k5, k6, k7⟩
        | _ => cases hh
    | call ha =>
      rename_i f args cap dargs
      simp only [leave] at hh
      let c : Frame := { fr with defers := l' }
      obtain ⟨e1, out, h', u', ρ', w', cs', frN, k1, k2, k3, k4, k5, k6, k7⟩ := Hc.fn A _ r₀ f args h u _ ρ Z w .deferred (c :: cs) (c :: cs) hL hh hr ha (.inr ⟨rfl, c, cs, fr.mode, rfl, rfl, hu⟩)
      cases out with
      | pan v => cases k1
      | ret v =>
        simp only at k1
        rcases k4 with ⟨x, _⟩ | ⟨_, c2, rest, um, hc2, hcs2, hum⟩
        · cases x
        · cases hc2
          subst hcs2
          obtain ⟨v', hv, hgo⟩ := k7
          have hmd : MdR ρ' (settleM u') (settle um) := by
            cases u' with
            | off => exact hum.elim
            | ret => rw [show um = .returning from hum]; rfl
            | pan v => obtain ⟨z, y1, y2⟩ := hum; rw [y2]; exact ⟨z, y1, rfl⟩
            | rcd v => obtain ⟨z, y1, y2⟩ := hum; rw [y2]; rfl
          have s := Steps.head (step_defer (P := P) (cs := cs) hrun hfd rfl (by simp only [invoke]; exact e1 w)) (k2.trans (.one (step_going_returned k5 hgo)))
          obtain ⟨out2, h2, ρ2, w2, fr2, r1, r2, r3, r4, r5, r6, r7⟩ := leave_sim Hc hL ds (settleM u') h' ρ' w' { c with mode := settle um } cs hmd (hd2.grows k3.grows) (ht.grows k3.grows) hf k3.rep (hcs.grows k3.grows) k1
          exact ⟨out2, h2, ρ2, w2, fr2, r1, s.trans r2, k3.trans r3, r4, r5, r6, r7⟩

theorem bindT_RL {ρ : Loc} : ∀ (ps : List Tmp) {args : List AV} {args' : List Value} {t : List AV} {t' : Array Value}, RL ρ args args' → RL ρ t t'.toList →
    RL ρ (bindT t ps args) ((ps.zip args').foldl (fun tm (x : Tmp × Value) => tm.setIfInBounds x.1 x.2) t').toList
  | [], args, args', t, t', _, ht => by cases args <;> exact ht
  | p :: ps, [], [], t, t', _, ht => by simpa [bindT] using ht
  | p :: ps, [], b :: bs, t, t', ha, _ => by have := ha.len; simp at this
  | p :: ps, a :: as, [], t, t', ha, _ => by have := ha.len; simp at this
  | p :: ps, a :: as, b :: bs, t, t', ha, ht => by
    simp only [bindT, List.zip_cons_cons, List.foldl_cons]
    refine bindT_RL ps ha.tail ?_
    rw [setL_eq]
    simpa using ht.set ha.head p

/-- What is asked of oracles. -/
structure OrcOk (P : Program) (tb : FuncId → Option FnP) (S : Orc) : Prop where
  f : ∀ f g, S.f f = some g → FnSim P (LP tb) f g
  l : ∀ f e, tb f = some e → lpOk P (LP tb) f (S.l f) e.code
  nf : ∀ f g, S.f f = some g → NatF g
  nl : ∀ f id g, S.l f id = some g → NatL g
theorem callSim_of {S : Orc} (hT : TbOk P tb) (hSm : OrcOk P tb S) : ∀ n, CallSim P (LP tb) (evCall P S tb n) := by
  intro n
  induction n with
  | zero => exact ⟨evCall_b hSm.nf hSm.nl 0, fun A K r f args h u args' ρ Z w kind cs₀ cs hL hh => (by cases hh), fun A K r l args h u args' ρ Z w p c cs hL hh => (by cases hh)⟩
  | succ n ih =>
    refine ⟨evCall_b hSm.nf hSm.nl (n + 1), fun A K r f args h u args' ρ Z w kind cs₀ cs hL hh hr ha hcs => ?_, fun A K r l args h u args' ρ Z w p c cs hL hh hr ha hp => ?_⟩
    · simp only [evCall] at hh
      cases hsf : S.f f with
      | some g => rw [hsf] at hh; exact hSm.f f g hsf A K r args h u args' ρ Z w kind cs₀ cs hL hh hr ha hcs
      | none =>
      rw [hsf] at hh
      simp only at hh
      cases he : tb f with
      | none => rw [he] at hh; cases hh
      | some e =>
        rw [he] at hh
        simp only at hh
        obtain ⟨hf, hb, hname, hok⟩ := hT.fn f e he
        have hkn : kind = .normal ∨ kind = .deferred := by rcases hcs with ⟨x, _⟩ | ⟨x, _⟩ <;> simp [x]
        refine ⟨fun w => ?_, ?_⟩
        · have h1 : e.fn.name ≠ "runtime.NumGoroutine" := by simpa using hname
          simp [callFunc, hf, h1, hb]
        · let b : Frame := { (default : Frame) with fn := f, kind := kind }
          let a₀ : Act := { tmps := args' ++ Array.replicate (e.fn.ntmps - args'.size) undef, defers := [] }
          have henter : Frame.enter P f args' kind = b.atR a₀ [.code e.code] := by simp [Frame.enter, Frame.atR, hf, hb, b, a₀]; rfl
          have htm : RL ρ (appA args (repA .dead (e.fn.ntmps - lenA args))) a₀.tmps.toList := by
            rw [appA_eq, repA_eq, lenA_eq, ha.len]
            have := ha.append (RL.replicate (.dead undef) (e.fn.ntmps - args'.toList.length))
            simpa [a₀] using this
          obtain ⟨ex, st', ρ', a', w', cs', h1, h2, h3, h4⟩ := code_sim (Z := Z) (kind := kind) (cs₀ := cs₀) ih hT hL he (b := b) rfl rfl (rd := none) (lo := S.l f) e.code hok (fun _ => hSm.l f e he) _ [] ρ _ a₀ w cs (by exact trivial) ⟨htm, .nil, hr, hcs⟩ hh
          rw [← henter] at h4
          have fin : ∀ (u₀ : Md) (todo : List Item) (md : FrameMode), MdR ρ' u₀ md → Steps P (lone (Frame.enter P f args' kind) cs w) (lone { b.atR a' todo with mode := md } cs' w') →
              leave P (evCall P S tb n A) e.fn st'.t st'.r st'.d u₀ st'.h K = some r →
              ∃ out h' u' ρ' w' cs' fr, K out h' u' = some r ∧ Steps P (lone (Frame.enter P f args' kind) cs w) (lone fr cs' w') ∧ Went ρ ρ' Z h.next h' w w' ∧ CSR ρ' kind cs₀ u' cs' ∧ fr.kind = kind ∧ fr.fn = f ∧ OutG P ρ' fr w' out := by
            intro u₀ todo md hmd hs hl
            obtain ⟨out, h', ρ2, w2, fr', k1, k2, k3, k4, k5, k6, k7⟩ := leave_sim (Z := Z) (kind := kind) (cs₀ := cs₀) ih hL st'.d u₀ st'.h ρ' w' { b.atR a' todo with mode := md } cs' hmd h2.df h2.tm hf h2.rep h2.cs hl
            exact ⟨out, h', st'.r, ρ2, w2, cs', fr', k1, hs.trans k2, h3.trans k3, k4, k5, k6, k7⟩
          cases ex with
          | normal => exact fin .ret [] .returning rfl (Steps.trans h4 (.one (stepR_end rfl))) h1
          | ret =>
            obtain ⟨k₁, y⟩ := h4
            exact fin .ret _ .returning rfl (y.trans (.one (stepR_ret rfl))) h1
          | pan v =>
            obtain ⟨todo, v', hv, y⟩ := h4
            exact fin (.pan v) todo _ ⟨v', hv, rfl⟩ y h1
          | exit id => cases h1
    · simp only [evCall] at hh
      cases hm : h.m l with
      | none => rw [hm] at hh; cases hh
      | some y =>
        rw [hm] at hh
        cases y with
        | loop x =>
          cases u with
          | off =>
            simp only at hh
            cases he : tb x.fn with
            | none => rw [he] at hh; cases hh
            | some e =>
              rw [he] at hh
              simp only at hh
              obtain ⟨hlen, hk⟩ := guardK_some hh
              have hlen := Nat.eq_of_beq_eq_true hlen
              have hlT : ∀ l : List Tmp, lenT l = l.length := fun l => by induction l <;> simp_all [lenT]
              rw [lenA_eq, hlT, ha.len] at hlen
              obtain ⟨q, x', g1, g2, g3, g4, g5, g6, g7, g8, g9, g10, g11, p2, g12, g13⟩ := loop_there hr hm
              rw [hp] at g1; cases g1
              have hLx : LP tb x := by rw [hL] at g3; exact g3
              obtain ⟨e', he', hc1, hc2⟩ := hLx
              rw [he] at he'; cases he'
              have hsz : args'.size = x'.params.size := by
                have : x'.params.toList.length = x.params.length := by rw [g9]
                simp only [Array.length_toList] at this hlen; omega
              have hy := run_yield (P := P) g4 hsz
              rw [g7, g10, g11] at hy
              refine ⟨_, _, _, _, hy, ?_⟩
              let b : Frame := { (default : Frame) with fn := x.fn, kind := .normal, roundOf := some p.blk }
              let a₀ : Act := { tmps := (x'.params.zip args').foldl (fun tmps (t, a) => tmps.setIfInBounds t a) x'.tmps, defers := [] }
              have hround : Frame.round p.blk x.fn a₀.tmps x.assign x.body .normal = b.atR a₀ [.code x.assign, .beginRound, .code x.body] := by simp [Frame.round, Frame.atR, b, a₀]
              have htm : RL ρ (bindT x.tmps x.params args) a₀.tmps.toList := by
                have := bindT_RL (t' := x'.tmps) x.params ha g8
                rw [← g9] at this ⊢
                simp only [a₀]
                rw [← Array.foldl_toList, Array.toList_zip]
                exact this
              obtain ⟨ex, st', ρ', a', w', cs', h1, h2, h3, h4⟩ := code_sim (Z := Z) (kind := .normal) (cs₀ := c :: cs) ih hT hL he (b := b) rfl rfl (rd := some l) (lo := fun _ => none) x.assign hc1 (fun h => by cases h) _ [.beginRound, .code x.body] ρ _ a₀ w (c :: cs) ⟨p, hp, rfl⟩ ⟨htm, .nil, hr, .inl ⟨rfl, rfl, rfl⟩⟩ hk
              have hcs' : cs' = c :: cs := h2.cs.normal.2
              subst hcs'
              cases ex with
              | normal =>
                simp only at h1
                cases hm2 : st'.h.m l with
                | none => rw [hm2] at h1; cases h1
                | some y =>
                  rw [hm2] at h1
                  cases y with
                  | loop y =>
                    simp only at h1
                    cases hys : y.state with
                    | ready =>
                      rw [hys] at h1
                      simp only at h1
                      have hp' := h3.grows _ _ hp
                      obtain ⟨q, y', j1, j2, j3, j4, j5, j6, j7⟩ := loop_there h2.rep hm2
                      rw [hp'] at j1; cases j1
                      have hbeg := run_beginRound (P := P) j4 (by rw [j5, hys])
                      obtain ⟨hw1, hw2⟩ := loop_write (x := y) h2.rep hm2 hp' j4 .busy y'.pending (by rw [hL] at j3 ⊢; exact j3)
                      have e1 : ({ y with state := LoopState.busy, pending := y'.pending } : ALoop) = { y with state := .busy } := by rw [j6]
                      rw [e1] at hw1
                      have s1 : Steps P (lone (Frame.round p.blk x.fn a₀.tmps x.assign x.body .normal) (c :: cs) w) (lone (b.atR a' [.code x.body]) (c :: cs) (w'.putObj p.blk (.loop { y' with state := .busy }))) := by
                        rw [hround]; exact Steps.trans h4 (.one (stepR_beginRound rfl hbeg))
                      have w1 : Went ρ ρ' Z h.next (st'.h.put l (.loop { y with state := .busy })) w (w'.putObj p.blk (.loop { y' with state := .busy })) := ⟨h3.grows, h3.off, h3.next, hw1, h3.low.trans hw2⟩
                      obtain ⟨ex2, st2, ρ2, a2, w2, cs2, r1, r2, r3, r4⟩ := code_sim (Z := Z) (kind := .normal) (cs₀ := c :: cs) ih hT hL he (b := b) rfl rfl (rd := some l) (lo := fun _ => none) x.body hc2 (fun h => by cases h) _ [] ρ' { st' with h := st'.h.put l (.loop { y with state := .busy }) } a' _ (c :: cs) ⟨p, hp', rfl⟩ ⟨h2.tm, h2.df, hw1, h2.cs⟩ h1
                      have hcs2 : cs2 = c :: cs := r2.cs.normal.2
                      subst hcs2
                      have hp2 := r3.grows _ _ hp'
                      simp only at r1
                      cases hm3 : st2.h.m l with
                      | none => rw [hm3] at r1; cases r1
                      | some z =>
                        rw [hm3] at r1
                        cases z with
                        | loop z =>
                          obtain ⟨q, z', i1, i2, i3, i4, i5, i6, i7⟩ := loop_there r2.rep hm3
                          rw [hp2] at i1; cases i1
                          have wall := w1.trans r3
                          have close : ∀ (jump : Option Code) (s : LoopState), (s = if jump.isNone then .ready else .done) →
                              Rep ρ2 (st2.h.put l (.loop { z with state := s, pending := jump })) Z (w2.putObj p.blk (.loop { z' with state := if jump.isNone then .ready else .done, pending := jump })) ∧
                              Low Z w2 (w2.putObj p.blk (.loop { z' with state := if jump.isNone then .ready else .done, pending := jump })) := fun jump s hs => by
                            rw [← hs]
                            exact loop_write (x := z) r2.rep hm3 hp2 i4 s jump (by rw [hL] at i3 ⊢; exact i3)
                          cases ex2 with
                          | normal =>
                            simp only at r1
                            obtain ⟨c1, c2⟩ := close none .ready rfl
                            exact ⟨_, _, _, ρ2, _, _, r1, s1.trans (Steps.trans r4 (.one (stepR_round_end rfl rfl (run_endRound none i4)))), ⟨wall.grows, wall.off, wall.next, c1, wall.low.trans c2⟩, _, .bool true, rfl⟩
                          | ret =>
                            simp only at r1
                            obtain ⟨k₁, y⟩ := r4
                            obtain ⟨c1, c2⟩ := close (some .ret) .done rfl
                            exact ⟨_, _, _, ρ2, _, _, r1, s1.trans (y.trans (.one (stepR_round_ret rfl rfl (run_endRound (some .ret) i4)))), ⟨wall.grows, wall.off, wall.next, c1, wall.low.trans c2⟩, _, .bool false, rfl⟩
                          | exit j =>
                            simp only at r1
                            obtain ⟨k₁, y1, y2⟩ := r4
                            obtain ⟨c1, c2⟩ := close (some (.exit j)) .done rfl
                            exact ⟨_, _, _, ρ2, _, _, r1, s1.trans (y2.trans (.one (stepR_round_exit rfl rfl (by rw [y1]; rfl) (run_endRound (some (.exit j)) i4)))), ⟨wall.grows, wall.off, wall.next, c1, wall.low.trans c2⟩, _, .bool false, rfl⟩
                          | pan v => cases r1
                        | _ => cases r1
                    | _ => rw [hys] at h1; cases h1
                  | _ => cases h1
              | _ => cases h1
          | _ => cases hh
        | _ => cases hh

/-- All that there is, to be read alone. -/
def Zone.all (L : ALoop → Prop) (w : World) : Zone := ⟨fun q => q < w.heap.size, fun q => q < w.heap.size, fun _ h => h, fun _ => False, fun _ h => h.elim, L⟩
theorem Rep.none (L : ALoop → Prop) (w : World) : Rep Loc.none ⟨fun _ => Option.none, 0⟩ (Zone.all L w) w :=
  ⟨fun b x hb => (by cases hb), fun b b' x x' p p' hb => (by cases hb), fun q hq => hq, fun _ _ => rfl, fun b o cs hf => hf.elim⟩
/-- A function that has been called with nothing, on nothing. -/
theorem fnSim_closed {S : Orc} (hT : TbOk P tb) (hSm : OrcOk P tb S) {f : FuncId} {v : AV} (hv : simple v = true) (k : Nat)
    (hrun : evCall P S tb k AV (.fn f) [] ⟨fun _ => none, 0⟩ .off (fun out _ _ => match out with | .ret v => some v | .pan _ => none) = some v) :
    FnSim P (LP tb) f (fun _ args h u K => match args, u with
      | [], .off => K (.ret v) h .off
      | _, _ => none) := by
  intro A K r args h u args' ρ Z w kind cs₀ cs hL hg hr ha hcs
  cases args with
  | cons a l => cases hg
  | nil =>
    cases u with
    | off =>
      simp only at hg
      let Z₀ : Zone := Zone.all (LP tb) w
      have hr0 : Rep Loc.none ⟨fun _ => none, 0⟩ Z₀ w := Rep.none _ w
      rcases hcs with ⟨rfl, _, rfl⟩ | ⟨rfl, c, rest, u, _, _, hu⟩
      · obtain ⟨e1, out, h', u', ρ', w', cs', fr, k1, k2, k3, k4, k5, k6, k7⟩ := (callSim_of hT hSm k).fn AV _ v f [] _ .off args' _ Z₀ w .normal cs cs rfl hrun hr0 ⟨ha.len, fun i v v' h1 => by simp at h1⟩ (.inl ⟨rfl, rfl, rfl⟩)
        refine ⟨e1, .ret v, h, .off, ρ, w', cs', fr, hg, k2, ?_, .inl ⟨rfl, rfl, k4.normal.2⟩, k5, k6, ?_⟩
        · have hl : Low (Z.read w) w w' := ⟨k3.low.os, k3.low.tape, k3.low.output, k3.low.size, k3.low.block⟩
          exact ⟨Grows.refl _, fun _ _ => rfl, Nat.le_refl _, hr.more (n := h.next) (GrowsS.refl _) hl hr.fresh, hl.unread hr⟩
        · cases out with
          | pan v => cases k1
          | ret v1 =>
            simp only [Option.some.injEq] at k1
            subst k1
            obtain ⟨v', hv', hgo⟩ := k7
            exact ⟨v', hv'.simple hv, hgo⟩
      · exact hu.elim
    | _ => cases hg
/-- A run that answers is a contract of the model's. -/
theorem calls_of_run {S : Orc} (hT : TbOk P tb) (hSm : OrcOk P tb S) {f : FuncId} {args : List AV} {args' : Array Value} {h : Heap} {ρ : Loc} {Z : Zone} {w : World} (hL : Z.L = LP tb) (k : Nat)
    (hrun : evCall P S tb k Bool (.fn f) args h .off (fun out _ _ => match out with | .ret (.bool b) => some b | _ => none) = some true) (hr : Rep ρ h Z w) (ha : RL ρ args args'.toList) :
    Calls P f args' w fun e w' => e = .returned (.bool true) ∧ Low Z w w' := by
  intro cs
  obtain ⟨e1, out, h', u', ρ', w', cs', fr, k1, k2, k3, k4, k5, k6, k7⟩ := (callSim_of hT hSm k).fn Bool _ true f args h .off args' ρ Z w .normal cs cs hL hrun hr ha (.inl ⟨rfl, rfl, rfl⟩)
  have hcs := k4.normal.2
  subst hcs
  cases out with
  | pan v => cases k1
  | ret v =>
    obtain ⟨v', hv, hgo⟩ := k7
    cases v <;> first | (cases k1; done) | skip
    simp only [Option.some.injEq] at k1
    subst k1
    cases hv
    exact ⟨.returned (.bool true), w', fr, ⟨rfl, k3.low⟩, k2, k6, going_leaving k5 hgo⟩
end Go.Ev
