/- The evaluator's operations that look at no memory: the model's operations answer what they tell. -/
import Derived.Test.YtokighfpmonjdaaEvC
import Derived.Laws.BytesString
import Derived.Lib.Strings
import Derived.Lib.SmallJoins
namespace Go.Ev
open Go.RowKit
section
variable {A : Type} {P : Program} {r : A}

/-! ### What an answer says of each step -/
theorem guardK_some {b : Bool} {x : Option A} (h : guardK b x = some r) : b = true ∧ x = some r := by
  cases b <;> simp_all [guardK]
theorem asInt_some {k : IntKind} {v : AV} {K : Int → Option A} (h : asInt k v K = some r) : ∃ n, v = .int k n ∧ K n = some r := by
  unfold asInt at h
  split at h
  · split at h
    · rename_i e; subst e; exact ⟨_, rfl, h⟩
    · cases h
  · cases h
theorem anyInt_some {v : AV} {K : IntKind → Int → Option A} (h : anyInt v K = some r) : ∃ k n, v = .int k n ∧ K k n = some r := by
  unfold anyInt at h; split at h <;> first | exact ⟨_, _, rfl, h⟩ | cases h
theorem asBool_some {v : AV} {K : Bool → Option A} (h : asBool v K = some r) : ∃ b, v = .bool b ∧ K b = some r := by
  unfold asBool at h; split at h <;> first | exact ⟨_, rfl, h⟩ | cases h
theorem asStr_some {v : AV} {K : List UInt8 → Option A} (h : asStr v K = some r) : ∃ b, v = .str b ∧ K b = some r := by
  unfold asStr at h; split at h <;> first | exact ⟨_, rfl, h⟩ | cases h
theorem asPtr_some {v : AV} {K : Option (Nat × Nat) → Option A} (h : asPtr v K = some r) : ∃ p, v = .ptr p ∧ K p = some r := by
  unfold asPtr at h; split at h <;> first | exact ⟨_, rfl, h⟩ | cases h
theorem asAdr_some {v : AV} {K : Nat × Nat → Option A} (h : asAdr v K = some r) : ∃ p, v = .ptr (some p) ∧ K p = some r := by
  unfold asAdr at h; split at h <;> first | exact ⟨_, rfl, h⟩ | cases h
theorem asSl_some {ρ : Loc} {v : AV} {v' : Value} {K : Option (Nat × Nat) → Nat → Nat → Bool → Nat → Option A} (hv : R ρ v v') (h : asSl v K = some r) : ∃ p len cap ex sz, R ρ (.sl p len cap ex sz) v' ∧ K p len cap ex sz = some r := by
  unfold asSl at h; split at h
  · exact ⟨_, _, _, _, _, hv, h⟩
  · exact ⟨_, _, _, _, _, hv.gr_sl, h⟩
  · cases h
theorem asSl2_some {ρ : Loc} {v : AV} {v' : Value} {K : Option (Nat × Nat) → Nat → Nat → Bool → Nat → Option A} {F : List AV → Nat → Bool → Nat → Option A} (hv : R ρ v v') (h : asSl2 v K F = some r) :
    (∃ p len cap ex sz, R ρ (.sl p len cap ex sz) v' ∧ K p len cap ex sz = some r) ∨ ∃ cs len ex sz, R ρ (.fz cs len ex sz) v' ∧ F cs len ex sz = some r := by
  unfold asSl2 at h; split at h
  · exact .inl ⟨_, _, _, _, _, hv, h⟩
  · exact .inl ⟨_, _, _, _, _, hv.gr_sl, h⟩
  · exact .inr ⟨_, _, _, _, hv, h⟩
  · cases h
theorem asAdr2_some {v : AV} {K : Nat × Nat → Option A} {F : List AV → Nat → Option A} (h : asAdr2 v K F = some r) : (∃ p, v = .ptr (some p) ∧ K p = some r) ∨ ∃ cs o, v = .fp cs o ∧ F cs o = some r := by
  unfold asAdr2 at h; split at h
  · exact .inl ⟨_, rfl, h⟩
  · exact .inr ⟨_, _, rfl, h⟩
  · cases h
theorem asMap_some {v : AV} {K : Option Nat → Option A} (h : asMap v K = some r) : ∃ p, v = .map p ∧ K p = some r := by
  unfold asMap at h; split at h <;> first | exact ⟨_, rfl, h⟩ | cases h
theorem asAgg_some {v : AV} {K : List AV → Option A} (h : asAgg v K = some r) : ∃ cs, v = .agg cs ∧ K cs = some r := by
  unfold asAgg at h; split at h <;> first | exact ⟨_, rfl, h⟩ | cases h
theorem asTup_some {v : AV} {K : List AV → Option A} (h : asTup v K = some r) : ∃ cs, v = .tup cs ∧ K cs = some r := by
  unfold asTup at h; split at h <;> first | exact ⟨_, rfl, h⟩ | cases h
theorem tyK_some {t : TypeId} {K : TypeDesc → Option A} (h : tyK P t K = some r) : ∃ d, P.underlying t = some d ∧ K d = some r := by
  unfold tyK at h; split at h <;> first | exact ⟨_, by assumption, h⟩ | cases h
theorem sizeK_some {t : TypeId} {K : Nat → Option A} (h : sizeK P t K = some r) : ∃ i, P.info? t = some i ∧ K i.size = some r := by
  unfold sizeK at h; split at h <;> first | exact ⟨_, by assumption, h⟩ | cases h
theorem bytesK_some {t : TypeId} {K : Nat → Option A} (h : bytesK P t K = some r) : ∃ i, P.info? t = some i ∧ K i.bytes = some r := by
  unfold bytesK at h; split at h <;> first | exact ⟨_, by assumption, h⟩ | cases h
theorem zeroK_some {t : TypeId} {K : List AV → Option A} (h : zeroK P t K = some r) : ∃ i z, P.info? t = some i ∧ i.zero = some z ∧ K (z.cells.toList.map ofLit1) = some r := by
  unfold zeroK at h
  split at h
  · split at h
    · exact ⟨_, _, by assumption, by assumption, h⟩
    · cases h
  · cases h

/-! ### The model's steps over the tables -/
theorem run_und {t : TypeId} {d : TypeDesc} (h : P.underlying t = some d) (w : World) : (underlying t).run P w = .ok d w := by
  simp [underlying, h]
theorem run_info {t : TypeId} {i : TypeInfo} (h : P.info? t = some i) (w : World) : (typeInfo t).run P w = .ok i w := by
  simp [typeInfo, h]
theorem run_size {t : TypeId} {i : TypeInfo} (h : P.info? t = some i) (w : World) : (sizeOf t).run P w = .ok i.size w := by
  simp [sizeOf, run_info h]
theorem run_zero {t : TypeId} {i : TypeInfo} {z : Value} (h : P.info? t = some i) (hz : i.zero = some z) (w : World) : (zeroValue t).run P w = .ok z w := by
  simp [zeroValue, run_info h, hz]
theorem run_agg {t : TypeId} {d : TypeDesc} (h : P.underlying t = some d) (w : World) : (isAgg t).run P w = .ok (isAggD d) w := by
  simp only [isAgg, Sem.run_bind, run_und h, Result.andThen_ok]
  cases d <;> rfl

/-! ### Operations that tell a value, whatever the world -/
def SimV (P : Program) (ρ : Loc) (s : Sem Value) (K : AV → Option A) (r : A) : Prop := ∃ v v', K v = some r ∧ R ρ v v' ∧ ∀ w, s.run P w = .ok v' w

variable {ρ : Loc} {K : AV → Option A}

theorem R.str' (ρ : Loc) (l : List UInt8) : R ρ (.str l) (.string ⟨l.toArray⟩) := by
  have := R.str (ρ := ρ) ⟨l.toArray⟩
  simpa using this
theorem R.int_inv {k : IntKind} {n : Int} {v' : Value} (h : R ρ (.int k n) v') : v' = .int k n := by cases h; rfl
theorem R.bool_inv {b : Bool} {v' : Value} (h : R ρ (.bool b) v') : v' = .bool b := by cases h; rfl
theorem R.str_inv {s : List UInt8} {v' : Value} (h : R ρ (.str s) v') : ∃ b : ByteArray, v' = .string b ∧ s = b.data.toList := by cases h; exact ⟨_, rfl, rfl⟩
theorem R.ptr_inv {b o : Nat} {v' : Value} (h : R ρ (.ptr (some (b, o))) v') : ∃ p, ρ b = some p ∧ v' = .pointer (some ⟨p.blk, p.off + o, none⟩) := by cases h; exact ⟨_, by assumption, rfl⟩
theorem R.nilp_inv {v' : Value} (h : R ρ (.ptr none) v') : v' = .pointer none := by cases h; rfl

theorem sim_binI {op : BinOp} {k : IntKind} {a b : Int} (h : binI op k a b K = some r) (hop : op ≠ .shl) (hop' : op ≠ .shr) (t : TypeId) : SimV P ρ (binOp op t (.int k a) (.int k b)) K r := by
  cases op <;> simp only [binI] at h <;> first
    | exact ⟨_, _, h, .int _ _, fun w => by simp [binOp, Op.intArith, Op.intBits]⟩
    | exact ⟨_, _, h, .bool _, fun w => by simp [binOp, Op.intCmp]⟩
    | exact absurd rfl hop
    | exact absurd rfl hop'
    | (by_cases hb : b = 0
       · simp [hb] at h
       · have hb' : (b == 0) = false := by simpa using hb
         simp only [hb', cond_false] at h
         exact ⟨_, _, h, .int _ _, fun w => by simp [binOp, Op.intDiv, hb]⟩)
theorem sim_shI {op : BinOp} {k k' : IntKind} {a b : Int} (h : shI op k a b K = some r) (t : TypeId) : SimV P ρ (binOp op t (.int k a) (.int k' b)) K r := by
  unfold shI at h
  by_cases hb : b < 0
  · simp [hb] at h
  · simp only [hb, decide_false, cond_false] at h
    cases op <;> simp only at h <;> first
      | exact ⟨_, _, h, .int _ _, fun w => by simp [binOp, Op.shift, hb]⟩
      | cases h
theorem sim_binS {op : BinOp} {a b : ByteArray} (h : binS op a.data.toList b.data.toList K = some r) (t : TypeId) : SimV P ρ (binOp op t (.string a) (.string b)) K r := by
  have hl : a.toList = a.data.toList := ByteArray.toList_eq a
  have hl' : b.toList = b.data.toList := ByteArray.toList_eq b
  cases op <;> simp only [binS, eqS_eq, lessS_eq] at h <;> first
    | cases h; done
    | (obtain ⟨h1, h2⟩ := guardK_some h
       rw [lenS_eq, lenS_eq] at h1
       have h1' := Nat.le_of_ble_eq_true h1
       clear h
       refine ⟨_, .string (a ++ b), h2, ?_, fun w => ?_⟩
       · have := R.str (ρ := ρ) (a ++ b)
         rw [Go.Joins.data_append] at this
         rw [appS_eq]; exact this
       · have e : ¬ (9223372036854775807 < (a.size : Int) + (b.size : Int)) := by
           have ha : a.data.toList.length = a.size := by simp
           have hb : b.data.toList.length = b.size := by simp
           unfold limit at h1'
           omega
         have hm : IntKind.i64.max = 9223372036854775807 := rfl
         simp [binOp, Op.stringOp, hm, e])
    | exact ⟨_, _, h, .bool _, fun w => by simp [binOp, Op.stringOp, hl, hl']⟩
theorem equal_succ (t : TypeId) (x y : Value) : Op.equal t x y = Op.equalIn (9999 + 1) t x y := rfl
theorem eql_of {t : TypeId} {x' y' : Value} {K : Bool → Option A} {b : Bool} (h1 : ∀ (_ : x' = .nilIface), y' ≠ .nilIface) (h2 : ∀ cs, x' ≠ .agg cs)
    (hg : ∀ (a b : Value), (∀ (_ : a = .nilIface), b ≠ .nilIface) → (∀ cs, a ≠ .agg cs) → ∀ op x₀ y₀ w, (eqGuard op t x₀ y₀ a b).run P w = .ok () w)
    (h : K b = some r) (he : ∀ d w, (Op.equalIn (d + 1) t x' y').run P w = .ok b w)
    (ho : binOp .eql t x' y' = (do pure (.bool (← Op.equal t x' y')))) (ho' : binOp .neq t x' y' = (do pure (.bool (!(← Op.equal t x' y'))))) :
    ∃ b, K b = some r ∧ (∀ w, (Op.equal t x' y').run P w = .ok b w) ∧ (∀ op x₀ y₀ w, (eqGuard op t x₀ y₀ x' y').run P w = .ok () w) ∧
      (∀ op, (op = .eql ∨ op = .neq) → ∀ w, (binOp op t x' y').run P w = .ok (.bool (if op = .eql then b else !b)) w) := by
  have e : ∀ w, (Op.equal t x' y').run P w = .ok b w := fun w => he 9999 w
  refine ⟨b, h, e, hg _ _ h1 h2, fun op hop w => ?_⟩
  rcases hop with rfl | rfl
  · rw [ho]; simp [e]
  · rw [ho']; simp [e]
theorem slNil_sim {x : AV} {x' : Value} {b : Bool} (hx : R ρ x x') (h : slNil x = some b) : ∃ base len cap, x' = .slice base len cap ∧ base.isNone = b := by
  cases x <;> simp only [slNil] at h <;> first | (cases h; done) | skip
  · cases hx <;> simp only [Option.some.injEq] at h <;> subst h <;> exact ⟨_, _, _, rfl, rfl⟩
  · obtain ⟨a, cap', rfl, g1, g2, g3, g4, g5⟩ := hx.fz_inv
    rename_i len _ _
    cases hb : Nat.blt 0 len with
    | false => rw [hb] at h; cases h
    | true =>
      rw [hb] at h
      simp only [cond_true, Option.some.injEq] at h
      subst h
      have h0 : 0 < len := Nat.le_of_ble_eq_true hb
      obtain ⟨b', q, o, cs0, _, rfl, _⟩ := g1 h0
      exact ⟨_, _, _, rfl, rfl⟩
  · cases hx; simp only [Option.some.injEq] at h; subst h; exact ⟨_, _, _, rfl, rfl⟩
theorem eqlK_sim {t : TypeId} {x y : AV} {x' y' : Value} {K : Bool → Option A} (hx : R ρ x x') (hy : R ρ y y') (h : eqlK P t x y K = some r) :
    ∃ b, K b = some r ∧ (∀ w, (Op.equal t x' y').run P w = .ok b w) ∧ (∀ op x₀ y₀ w, (eqGuard op t x₀ y₀ x' y').run P w = .ok () w) ∧
      (∀ op, (op = .eql ∨ op = .neq) → ∀ w, (binOp op t x' y').run P w = .ok (.bool (if op = .eql then b else !b)) w) := by
  obtain ⟨d, hd, hk⟩ := tyK_some h
  clear h
  have hg : ∀ (a b : Value), (∀ (_ : a = .nilIface), b ≠ .nilIface) → (∀ cs, a ≠ .agg cs) → ∀ op x₀ y₀ w, (eqGuard op t x₀ y₀ a b).run P w = .ok () w := by
    intro a b h1 h2 op x₀ y₀ w
    unfold eqGuard
    cases op <;> simp <;> (cases a <;> simp_all <;> cases b <;> simp_all)
  split at hk
  case h_4 =>
    unfold slEq at hk
    split at hk
    · rename_i a b ha hb
      obtain ⟨hab, hk⟩ := guardK_some hk
      obtain ⟨b1, l1, c1, rfl, e1⟩ := slNil_sim hx ha
      obtain ⟨b2, l2, c2, rfl, e2⟩ := slNil_sim hy hb
      refine eql_of (by simp) (by simp) hg hk ?_ rfl rfl
      intro d w
      subst e1; subst e2
      cases b1 <;> cases b2 <;> simp [Op.equalIn, run_und hd] at hab ⊢
    · cases hk
  all_goals first
    | (cases hk; done)
    | (cases hx <;> cases hy <;> refine eql_of (by simp) (by simp) hg hk ?_ rfl rfl <;> intro d w <;> simp [Op.equalIn, run_und hd, isNone'])
theorem sim_binK {op : BinOp} {t : TypeId} {x y : AV} {x' y' : Value} (x₀ y₀ : Operand) (hx : R ρ x x') (hy : R ρ y y') (h : binK P op t x y K = some r) :
    SimV P ρ (do eqGuard op t x₀ y₀ x' y'; binOp op t x' y') K r := by
  have hg : ∀ (a b : Value), (∀ (_ : a = .nilIface), b ≠ .nilIface) → (∀ cs, a ≠ .agg cs) → ∀ op x₀ y₀ w, (eqGuard op t x₀ y₀ a b).run P w = .ok () w := by
    intro a b h1 h2 op x₀ y₀ w
    unfold eqGuard
    cases op <;> simp <;> (cases a <;> simp_all <;> cases b <;> simp_all)
  have key : ∀ a b, (∀ (_ : a = .nilIface), b ≠ .nilIface) → (∀ cs, a ≠ .agg cs) → SimV P ρ (binOp op t a b) K r → SimV P ρ (do eqGuard op t x₀ y₀ a b; binOp op t a b) K r := by
    rintro a b h1 h2 ⟨v, v', hk, hr, hw⟩
    exact ⟨v, v', hk, hr, fun w => by simp [hg a b h1 h2, hw]⟩
  unfold binK at h
  split at h
  · rename_i k a
    have ex := hx.int_inv; subst ex
    obtain ⟨k', b, hy2, h⟩ := anyInt_some h
    subst hy2
    have ey := hy.int_inv; subst ey
    refine key _ _ (by simp) (by simp) ?_
    simp only [anyInt] at h
    by_cases h1 : op = .shl
    · subst h1; exact sim_shI h t
    · by_cases h2 : op = .shr
      · subst h2; exact sim_shI h t
      · by_cases hk : k = k'
        · subst hk
          refine sim_binI ?_ h1 h2 t
          cases op <;> simp_all
        · exfalso
          cases op <;> simp_all
  · rename_i a
    obtain ⟨a', ex, ea⟩ := hx.str_inv; subst ex; subst ea
    obtain ⟨b, hy2, h⟩ := asStr_some h
    subst hy2
    obtain ⟨b', ey, eb⟩ := hy.str_inv; subst ey; subst eb
    exact key _ _ (by simp) (by simp) (sim_binS h t)
  · split at h
    · obtain ⟨b, h1, h2, h3, h4⟩ := eqlK_sim hx hy h
      exact ⟨_, _, h1, .bool _, fun w => by simp [h3, h4 .eql (.inl rfl)]⟩
    · obtain ⟨b, h1, h2, h3, h4⟩ := eqlK_sim hx hy h
      exact ⟨_, _, h1, .bool _, fun w => by simp [h3, h4 .neq (.inr rfl)]⟩
    · cases h
theorem sim_unK {op : UnOp} {x : AV} {x' : Value} (hx : R ρ x x') (h : unK op x K = some r) : SimV P ρ (Op.unary op x') K r := by
  cases op <;> simp only [unK] at h
  · obtain ⟨k, n, rfl, h⟩ := anyInt_some h
    have := hx.int_inv; subst this
    exact ⟨_, _, h, .int _ _, fun w => by simp [Op.unary, Op.intArith]⟩
  · obtain ⟨k, n, rfl, h⟩ := anyInt_some h
    have := hx.int_inv; subst this
    exact ⟨_, _, h, .int _ _, fun w => by simp [Op.unary, Op.intBits]⟩
  · obtain ⟨b, rfl, h⟩ := asBool_some h
    have := hx.bool_inv; subst this
    exact ⟨_, _, h, .bool _, fun w => by simp [Op.unary]⟩
  · cases h
end
end Go.Ev
