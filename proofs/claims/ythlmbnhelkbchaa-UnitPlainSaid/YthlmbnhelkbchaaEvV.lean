/- Code, on the machine. -/
import Derived.Test.YthlmbnhelkbchaaEvU1
import Derived.RangeFuncRecord
namespace Go.Ev

def codeOk (pl : Plan) : Code → Bool
  | .region id ops draw => bif draw then (match pl.sched id with
    | some s => regionOk ops s
    | none => true) else true
  | .seq a b => codeOk pl a && codeOk pl b
  | .cond _ a b => codeOk pl a && codeOk pl b
  | .block _ b => codeOk pl b
  | .loop b => codeOk pl b
  | .rangeFunc _ _ a b => codeOk pl a && codeOk pl b
  | _ => true
structure TbOk (P : Program) (tb : FuncId → Option FnP) : Prop where
  fn : ∀ f e, tb f = some e → P.funcs[f]? = some e.fn ∧ e.fn.body = some e.code ∧ (e.fn.name == "runtime.NumGoroutine") = false ∧ codeOk e.plan e.code = true
  mixed : P.follows .mixedOrders = true
theorem LP_free (tb : FuncId → Option FnP) : LFree (fun x => ∃ e, tb x.fn = some e ∧ codeOk e.plan x.assign = true ∧ codeOk e.plan x.body = true) := fun _ _ _ h => h
def LP (tb : FuncId → Option FnP) : ALoop → Prop := fun x => ∃ e, tb x.fn = some e ∧ codeOk e.plan x.assign = true ∧ codeOk e.plan x.body = true

/-- How the machine arrives at the end of some code. -/
def Arr (P : Program) (ρ : Loc) (m : Machine) (b : Frame) (k : List Item) (a : Act) (cs : List Frame) (w : World) : Ex → Prop
  | .normal => Steps P m (lone (b.atR a k) cs w)
  | .exit id => ∃ k₁, exitTo id k₁ = exitTo id k ∧ Steps P m (lone (b.atR a (.code (.exit id) :: k₁)) cs w)
  | .ret => ∃ k₁, Steps P m (lone (b.atR a (.code .ret :: k₁)) cs w)
  | .pan v => ∃ todo v', R ρ v v' ∧ Steps P m (lone { b.atR a todo with mode := .panicking [{ v := v', recovered := false }] } cs w)
theorem Arr.of_steps {P : Program} {ρ : Loc} {m m' : Machine} {b : Frame} {k : List Item} {a : Act} {cs : List Frame} {w : World} {ex : Ex} (h : Steps P m m') (h' : Arr P ρ m' b k a cs w ex) : Arr P ρ m b k a cs w ex := by
  cases ex with
  | normal => exact h.trans h'
  | exit id => obtain ⟨k₁, x, y⟩ := h'; exact ⟨k₁, x, h.trans y⟩
  | ret => obtain ⟨k₁, y⟩ := h'; exact ⟨k₁, h.trans y⟩
  | pan v => obtain ⟨t, v', x, y⟩ := h'; exact ⟨t, v', x, h.trans y⟩
def CodeR (P : Program) (ρ : Loc) (Z : Zone) (kind : CallKind) (cs₀ : List Frame) (b : Frame) (k : List Item) (m : Machine) (n : Nat) (w : World) {A : Type} (r : A) (K : Ex → St → Option A) : Prop :=
  ∃ ex st' ρ' a' w' cs', K ex st' = some r ∧ StR ρ' Z kind cs₀ st' a' w' cs' ∧ Went ρ ρ' Z n st'.h w w' ∧ Arr P ρ' m b k a' cs' w' ex
theorem CodeR.of_steps {P : Program} {ρ : Loc} {Z : Zone} {kind : CallKind} {cs₀ : List Frame} {b : Frame} {k : List Item} {m m' : Machine} {n : Nat} {w : World} {A : Type} {r : A} {K : Ex → St → Option A}
    (h : Steps P m m') (h' : CodeR P ρ Z kind cs₀ b k m' n w r K) : CodeR P ρ Z kind cs₀ b k m n w r K := by
  obtain ⟨ex, st', ρ', a', w', cs', h1, h2, h3, h4⟩ := h'
  exact ⟨ex, st', ρ', a', w', cs', h1, h2, h3, h4.of_steps h⟩

/-- What is asked of what is told of a loop. -/
def LoopSim (P : Program) (L : ALoop → Prop) (fid : FuncId) (c : Code) (g : LoopF) : Prop := ∀ (A : Type) (r : A) (K : Ex → St → Option A) (Z : Zone) (kind : CallKind) (cs₀ : List Frame) (b : Frame) (k : List Item) (ρ : Loc) (st : St) (a : Act) (w : World) (cs : List Frame),
  Z.L = L → b.kind = kind → b.fn = fid → b.roundOf = none → StR ρ Z kind cs₀ st a w cs → g A st K = some r → CodeR P ρ Z kind cs₀ b k (lone (b.atR a (.code (.loop c) :: k)) cs w) st.h.next w r K
def lpOk (P : Program) (L : ALoop → Prop) (fid : FuncId) (lo : Nat → Option LoopF) : Code → Prop
  | .seq a b => lpOk P L fid lo a ∧ lpOk P L fid lo b
  | .cond _ a b => lpOk P L fid lo a ∧ lpOk P L fid lo b
  | .block _ b => lpOk P L fid lo b
  | .loop b => (∀ id g, headId b = some id → lo id = some g → LoopSim P L fid b g) ∧ lpOk P L fid lo b
  | _ => True
theorem lpOk_none {P : Program} {L : ALoop → Prop} {fid : FuncId} : ∀ c : Code, lpOk P L fid (fun _ => none) c := by
  intro c
  induction c <;> simp_all [lpOk]
variable {P : Program} {call : CallP} {L : ALoop → Prop} {tb : FuncId → Option FnP} {Z : Zone} {kind : CallKind} {cs₀ : List Frame}
section
variable {b : Frame} {k : List Item} {ops : Array Oper} {rd : Option Nat}

theorem seq_sim (Hc : CallSim P L call) (hL : Z.L = L) (hb : b.kind = kind) {A : Type} {r : A} {K : St → Option A} {Kp : AV → St → Option A} :
    ∀ (l : List Oper) (is : List Nat), is.map (ops[·]?) = l.map some → ∀ (ρ : Loc) (st : St) (a : Act) (w : World) (cs : List Frame), RdR ρ rd b.roundOf → StR ρ Z kind cs₀ st a w cs →
      seqOps P (call A) rd ops l st K Kp = some r → CodeR P ρ Z kind cs₀ b k (lone (b.atR a (.inRegion ops is :: k)) cs w) st.h.next w r (fun ex st => match ex with | .normal => K st | .pan v => Kp v st | _ => none)
  | [], is, his, ρ, st, a, w, cs, hrd, hS, hh => by
    have : is = [] := by simpa using his
    subst this
    exact ⟨.normal, st, ρ, a, w, cs, hh, hS, Went.refl hS.rep, .one stepR_region_end⟩
  | o :: l, [], his, ρ, st, a, w, cs, hrd, hS, hh => by simp at his
  | o :: l, i :: is, his, ρ, st, a, w, cs, hrd, hS, hh => by
    simp only [List.map_cons, List.cons.injEq] at his
    obtain ⟨ho, his⟩ := his
    simp only [seqOps] at hh
    have hlook : ∀ x ∈ o.looksAt ops, R ρ (nth st.t x) (a.tmps.toList.getD x undef) := fun x _ => by rw [nth_eq]; exact hS.tm.getD x undef
    rcases guarded_some hh with ⟨hd, hk⟩ | ⟨hd, hk⟩
    · have hw := wanted_eq (a := a) hd hlook
      rcases stepOp_sim (rest := is) (k := k) Hc hL hb hrd hS ho hw hk with ⟨v, st', ρ', a', w', cs', v', h1, h2, h3, h4, h5⟩ | ⟨v, st', ρ', a', w', cs', v', todo', h1, h2, h3, h4, h5⟩
      · have hS' : StR ρ' Z kind cs₀ { st' with t := putT st'.t o.dst v } (a'.put o.dst v') w' cs' := ⟨putT_RL h2.tm h3 _, by rw [put_defers']; exact h2.df, h2.rep, h2.cs⟩
        obtain ⟨ex, st2, ρ2, a2, w2, cs2, e1, e2, e3, e4⟩ := seq_sim Hc hL hb l is his ρ' _ _ w' cs' (hrd.grows h4.grows) hS' h1
        exact ⟨ex, st2, ρ2, a2, w2, cs2, e1, e2, h4.trans e3, e4.of_steps h5⟩
      · exact ⟨.pan v, st', ρ', a', w', cs', h1, h2, h4, todo', v', h3, h5⟩
    · have hw := wanted_eq (a := a) hd hlook
      have hS' : StR ρ Z kind cs₀ { st with t := putT st.t o.dst (.tup []) } (a.put o.dst undef) w cs := ⟨putT_RL hS.tm (R.undef ρ) _, by rw [put_defers']; exact hS.df, hS.rep, hS.cs⟩
      exact (seq_sim Hc hL hb l is his ρ _ _ w cs hrd hS' hk).of_steps (.one (step_not hw ho))
theorem range_ops (ops : Array Oper) : (List.range ops.size).map (ops[·]?) = ops.toList.map some := by
  apply List.ext_getElem?
  intro i
  simp only [List.getElem?_map]
  rcases Nat.lt_or_ge i ops.size with h | h
  · simp [h]
  · simp [h]
theorem killT_RL {ρ : Loc} {a : List Value} : ∀ (l : List Tmp) {t : List AV}, RL ρ t a → RL ρ (killT t l) a
  | [], _, h => h
  | i :: l, t, h => by
    refine killT_RL l ?_
    rw [setL_eq]
    have := h.set (.dead (a.getD i undef)) i
    have e : a.set i (a.getD i undef) = a := by
      rcases Nat.lt_or_ge i a.length with hi | hi
      · simp [List.getD, List.getElem?_eq_getElem hi]
      · simp [List.set_eq_of_length_le hi]
    rw [e] at this; exact this
end

theorem loop_sim {b : Frame} {c : Code} {k : List Item} {rd : Option Nat} {A : Type} {r : A} {body : St → (Ex → St → Option A) → Option A}
    (hbody : ∀ (K : Ex → St → Option A) (k : List Item) (ρ : Loc) (st : St) (a : Act) (w : World) (cs : List Frame), RdR ρ rd b.roundOf → StR ρ Z kind cs₀ st a w cs → body st K = some r → CodeR P ρ Z kind cs₀ b k (lone (b.atR a (.code c :: k)) cs w) st.h.next w r K)
    (K : Ex → St → Option A) : ∀ (n : Nat) (ρ : Loc) (st : St) (a : Act) (w : World) (cs : List Frame), RdR ρ rd b.roundOf → StR ρ Z kind cs₀ st a w cs → loopN body n st K = some r →
      CodeR P ρ Z kind cs₀ b k (lone (b.atR a (.code c :: .inLoop c :: k)) cs w) st.h.next w r K
  | 0, ρ, st, a, w, cs, hrd, hS, hh => by cases hh
  | n + 1, ρ, st, a, w, cs, hrd, hS, hh => by
    simp only [loopN] at hh
    obtain ⟨ex, st', ρ', a', w', cs', h1, h2, h3, h4⟩ := hbody _ (.inLoop c :: k) ρ st a w cs hrd hS hh
    cases ex with
    | normal =>
      obtain ⟨ex2, st2, ρ2, a2, w2, cs2, e1, e2, e3, e4⟩ := loop_sim (k := k) hbody K n ρ' st' a' w' cs' (hrd.grows h3.grows) h2 h1
      exact ⟨ex2, st2, ρ2, a2, w2, cs2, e1, e2, h3.trans e3, e4.of_steps (Steps.trans h4 (.one stepR_inLoop))⟩
    | exit id =>
      obtain ⟨k₁, x, y⟩ := h4
      exact ⟨.exit id, st', ρ', a', w', cs', h1, h2, h3, k₁, x.trans (by simp [exitTo]), y⟩
    | ret => exact ⟨.ret, st', ρ', a', w', cs', h1, h2, h3, h4⟩
    | pan v => exact ⟨.pan v, st', ρ', a', w', cs', h1, h2, h3, h4⟩

/-- The same, where at the loop's head what stays is told anew. -/
theorem CSR.off {ρ ρ' : Loc} {kind : CallKind} {cs₀ cs : List Frame} {r : Md} (hr : r = .off) (h : CSR ρ kind cs₀ r cs) : CSR ρ' kind cs₀ r cs := by
  rcases h with h | ⟨h1, c, rest, u, h2, h3, h4⟩
  · exact .inl h
  · subst hr; exact h4.elim
theorem normK_some {A : Type} {r : A} {N : Norm} {n0 : Nat} {st : St} {K : St → Option A} (h : normK P N n0 st K = some r) : st.r = .off ∧ markLow n0 st.d = true ∧ K (normSt P N n0 st) = some r := by
  unfold normK at h
  split at h
  · rename_i e
    obtain ⟨a, b⟩ := guardK_some h
    exact ⟨e, a, b⟩
  · cases h
theorem normR {ρ : Loc} {N : Norm} {n0 : Nat} {st : St} {a : Act} {w : World} {cs : List Frame} (hL : LFree Z.L) (hS : StR ρ Z kind cs₀ st a w cs) (hr : st.r = .off) (hm : markLow n0 st.d = true) :
    ∃ ρ', StR ρ' Z kind cs₀ (normSt P N n0 st) a w cs ∧ (∀ b, b < n0 → ρ' b = ρ b) ∧ (∀ b o cs, ρ.F b o cs → ρ'.F b o cs) ∧ n0 ≤ (normSt P N n0 st).h.next := by
  obtain ⟨ρ', h1, h2, h3, h4, h5, h6⟩ := norm_sound (P := P) (N' := N) (n0 := n0) hS.rep hS.tm hS.df hL hm
  exact ⟨ρ', ⟨h2, h3, h1, hS.cs.off hr⟩, h4, h5, h6⟩
theorem loop_simN {b : Frame} {c : Code} {k : List Item} {rd : Option Nat} {A : Type} {r : A} {body : St → (Ex → St → Option A) → Option A} {N : Norm} {n0 : Nat} {ρ₀ : Loc} (hL : LFree Z.L) (hρ₀ : ∀ b, n0 ≤ b → ρ₀ b = none)
    (hbody : ∀ (K : Ex → St → Option A) (k : List Item) (ρ : Loc) (st : St) (a : Act) (w : World) (cs : List Frame), RdR ρ rd b.roundOf → StR ρ Z kind cs₀ st a w cs → body st K = some r → CodeR P ρ Z kind cs₀ b k (lone (b.atR a (.code c :: k)) cs w) st.h.next w r K)
    (hrd : RdR ρ₀ rd b.roundOf) (K : Ex → St → Option A) : ∀ (n : Nat) (ρ : Loc) (st : St) (a : Act) (w : World) (cs : List Frame), (∀ b, b < n0 → ρ b = ρ₀ b) → (∀ b o cs, ρ₀.F b o cs → ρ.F b o cs) → n0 ≤ st.h.next → StR ρ Z kind cs₀ st a w cs → loopN (loopK P N n0 body) n st K = some r →
      CodeR P ρ₀ Z kind cs₀ b k (lone (b.atR a (.code c :: .inLoop c :: k)) cs w) n0 w r K
  | 0, ρ, st, a, w, cs, hρ, hF, hn, hS, hh => by cases hh
  | n + 1, ρ, st, a, w, cs, hρ, hF, hn, hS, hh => by
    simp only [loopN, loopK] at hh
    have hg : Grows ρ₀ ρ := ⟨fun q p hq => by
      have : q < n0 := by
        rcases Nat.lt_or_ge q n0 with h | h
        · exact h
        · rw [hρ₀ q h] at hq; cases hq
      rw [hρ q this]; exact hq, hF⟩
    have back : ∀ {ρ' : Loc} {h' : Heap} {w' : World}, Went ρ ρ' Z st.h.next h' w w' → Went ρ₀ ρ' Z n0 h' w w' := fun hw =>
      ⟨hg.trans hw.grows, fun q hq => (hw.off q (Nat.lt_of_lt_of_le hq hn)).trans (hρ q hq), Nat.le_trans hn hw.next, hw.rep, hw.low⟩
    obtain ⟨ex, st', ρ', a', w', cs', h1, h2, h3, h4⟩ := hbody _ (.inLoop c :: k) ρ st a w cs (hrd.grows hg) hS hh
    have anew : ∀ {K' : St → Option A}, normK P N n0 st' K' = some r → ∃ ρ2, StR ρ2 Z kind cs₀ (normSt P N n0 st') a' w' cs' ∧ (∀ q, q < n0 → ρ2 q = ρ₀ q) ∧ (∀ b o cs, ρ₀.F b o cs → ρ2.F b o cs) ∧ n0 ≤ (normSt P N n0 st').h.next ∧ K' (normSt P N n0 st') = some r := fun hk => by
      obtain ⟨e1, e2, h1⟩ := normK_some hk
      obtain ⟨ρ2, f1, f2, f3, f4⟩ := normR (P := P) (N := N) (n0 := n0) hL h2 e1 e2
      exact ⟨ρ2, f1, fun q hq => (f2 q hq).trans ((back h3).off q hq), fun b o cs h => f3 _ _ _ ((back h3).grows.fz _ _ _ h), f4, h1⟩
    have grew : ∀ {ρ2 : Loc}, (∀ q, q < n0 → ρ2 q = ρ₀ q) → (∀ b o cs, ρ₀.F b o cs → ρ2.F b o cs) → Grows ρ₀ ρ2 := fun hr2 hF2 => ⟨fun q p hq => by
      have : q < n0 := by
        rcases Nat.lt_or_ge q n0 with h | h
        · exact h
        · rw [hρ₀ q h] at hq; cases hq
      rw [hr2 q this]; exact hq, hF2⟩
    cases ex with
    | normal =>
      obtain ⟨ρ2, f1, hr2, hF2, f4, h1⟩ := anew h1
      obtain ⟨ex2, st2, ρ3, a2, w2, cs2, g1, g2, g3, g4⟩ := loop_simN (k := k) hL hρ₀ hbody hrd K n ρ2 _ a' w' cs' hr2 hF2 f4 f1 h1
      exact ⟨ex2, st2, ρ3, a2, w2, cs2, g1, g2, ⟨g3.grows, g3.off, g3.next, g3.rep, h3.low.trans g3.low⟩, g4.of_steps (Steps.trans h4 (.one stepR_inLoop))⟩
    | exit id =>
      obtain ⟨k₁, x, y⟩ := h4
      obtain ⟨ρ2, f1, hr2, hF2, f4, h1⟩ := anew h1
      exact ⟨.exit id, _, ρ2, a', w', cs', h1, f1, ⟨grew hr2 hF2, hr2, f4, f1.rep, h3.low⟩, k₁, x.trans (by simp [exitTo]), y⟩
    | ret =>
      obtain ⟨ρ2, f1, hr2, hF2, f4, h1⟩ := anew h1
      exact ⟨.ret, _, ρ2, a', w', cs', h1, f1, ⟨grew hr2 hF2, hr2, f4, f1.rep, h3.low⟩, h4⟩
    | pan v => exact ⟨.pan v, st', ρ', a', w', cs', h1, h2, back h3, h4⟩

/-! ### Loops' records -/
section
variable {ρ : Loc} {h : Heap} {w : World}
theorem loop_there {l : Nat} {x : ALoop} (hr : Rep ρ h Z w) (hl : h.m l = some (.loop x)) : ∃ p x', ρ l = some p ∧ ¬ Z.keep p.blk ∧ Z.L x ∧ w.heap[p.blk]? = some (.loop x') ∧ x'.state = x.state ∧ x'.pending = x.pending ∧ x'.fn = x.fn ∧ RL ρ x.tmps x'.tmps.toList ∧
    x'.params.toList = x.params ∧ x'.assign = x.assign ∧ x'.body = x.body ∧ ∃ p₂, ρ x.defers = some p₂ ∧ x'.defers = p₂.blk := by
  obtain ⟨p, h1, h2, h3, x', h4⟩ := hr.blk l _ hl
  exact ⟨p, x', h1, h2, h3, h4⟩
/-- The record goes on to another state. -/
theorem loop_write {l : Nat} {x : ALoop} {p : Pl} {x' : Loop} (hr : Rep ρ h Z w) (hl : h.m l = some (.loop x)) (hp : ρ l = some p) (hx : w.heap[p.blk]? = some (.loop x')) (s : LoopState) (pd : Option Code)
    (hL : Z.L { x with state := s, pending := pd }) :
    Rep ρ (h.put l (.loop { x with state := s, pending := pd })) Z (w.putObj p.blk (.loop { x' with state := s, pending := pd })) ∧ Low Z w (w.putObj p.blk (.loop { x' with state := s, pending := pd })) := by
  obtain ⟨q, y, h1, h2, h3, h4, h5, h6, h7, h8, h9, h10, h11, h12⟩ := loop_there hr hl
  rw [hp] at h1; cases h1
  rw [hx] at h4; cases h4
  have hlt : p.blk < w.heap.size := (Array.getElem?_eq_some_iff.1 hx).1
  have := write_obj (h := h) (n := h.next) (N := Z) (x' := .loop { x with state := s, pending := pd }) (o' := .loop { x' with state := s, pending := pd }) hr hl rfl hp hlt h2 (fun w' hw' => ⟨h2, hL, _, hw', rfl, rfl, h7, h8, h9, h10, h11, h12⟩)
  exact this
end
end Go.Ev
