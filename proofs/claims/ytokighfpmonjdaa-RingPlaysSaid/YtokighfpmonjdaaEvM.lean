/- More of the evaluator's operations that look at no memory. -/
import Derived.Test.YtokighfpmonjdaaEvD
import Derived.Laws.IdiomStrings
import Derived.WideShapes
namespace Go.Ev
open Go.RowKit
section
variable {A : Type} {P : Program} {r : A} {ρ : Loc} {K : AV → Option A}

theorem add_at (b o n : Nat) : (⟨b, o, none⟩ : Addr).add n = ⟨b, o + n, none⟩ := by unfold Addr.add; split <;> simp_all
theorem R.sl_inv {b o len cap sz : Nat} {ex : Bool} {v' : Value} (h : R ρ (.sl (some (b, o)) len cap ex sz) v') :
    ∃ p a cap', ρ b = some p ∧ v' = .slice (some a) len cap' ∧ cap ≤ cap' ∧ (ex = true → cap' = cap) ∧ (0 < cap' → a = ⟨p.blk, p.off + o, none⟩ ∧ o + cap' * sz ≤ p.ext) ∧ len ≤ cap := by
  cases h with
  | sl h h1 h2 h3 h4 => exact ⟨_, _, _, h, rfl, h1, h2, h3, h4⟩
theorem R.nils_inv {len cap sz : Nat} {ex : Bool} {v' : Value} (h : R ρ (.sl none len cap ex sz) v') : v' = .slice none 0 0 ∧ len = 0 ∧ cap = 0 ∧ ex = true := by
  cases h with
  | sln sz => exact ⟨rfl, rfl, rfl, rfl⟩
theorem R.fp_inv {cs : List AV} {o : Nat} {v' : Value} (h : R ρ (.fp cs o) v') :
    ∃ b q o0 cs0, v' = .pointer (some ⟨b, q + o0 + o, none⟩) ∧ ρ.F b q cs0 ∧ cs = (cs0.drop o0).take cs.length ∧ o0 + cs.length ≤ cs0.length := by
  cases h with
  | fp h hc hl => exact ⟨_, _, _, _, rfl, h, hc, hl⟩
theorem fieldOff_some {t : TypeId} {f : Nat} {K : Nat → TypeId → Option A} (h : fieldOff P t f K = some r) :
    ∃ fs fd, P.underlying t = some (.struct fs) ∧ fs[f]? = some fd ∧ K fd.offset fd.type = some r := by
  obtain ⟨d, hd, hk⟩ := tyK_some h
  clear h
  split at hk
  · split at hk
    · exact ⟨_, _, hd, by assumption, hk⟩
    · cases hk
  · cases hk
theorem sim_fieldAddr {t : TypeId} {x : AV} {x' : Value} {f : Nat} (hx : R ρ x x') (h : fieldAddrK P t x f K = some r) : SimV P ρ (Instr.fieldAt t x' f) K r := by
  obtain ⟨fs, fd, h1, h2, hk⟩ := fieldOff_some h
  obtain ⟨i, h3, hk⟩ := sizeK_some hk
  obtain ⟨h4, hk⟩ := guardK_some hk
  have h5 : i.size ≠ 0 := by
    have := Nat.le_of_ble_eq_true h4
    omega
  rcases asAdr2_some hk with ⟨⟨b, o⟩, rfl, hk1⟩ | ⟨cs, q, rfl, hk1⟩
  rotate_left
  · obtain ⟨b, r0, o0, cs0, rfl, f1, f2, f3⟩ := hx.fp_inv
    refine ⟨_, .pointer (some ⟨b, r0 + o0 + (q + fd.offset), none⟩), hk1, .fp f1 f2 f3, fun w => ?_⟩
    simp [Instr.fieldAt, run_und h1, h2, Instr.sureAddr, fieldPlace, run_size h3, h5, add_at, Nat.add_assoc]
  clear hk
  have hk := hk1; clear hk1
  obtain ⟨p, hp, rfl⟩ := hx.ptr_inv
  refine ⟨_, .pointer (some ⟨p.blk, p.off + (o + fd.offset), none⟩), hk, .ptr hp, fun w => ?_⟩
  simp [Instr.fieldAt, run_und h1, h2, Instr.sureAddr, fieldPlace, run_size h3, h5, add_at, Nat.add_assoc]

theorem R.proj {d : TypeDesc} {v : AV} {v' : Value} (h : R ρ v v') (ht : isT d v = true) : R ρ (projT d v) v' := by
  unfold isT at ht
  unfold projT
  split at ht
  · cases v <;> simp [isIntK] at ht
    subst ht; exact h
  · cases v <;> simp [isBoolA] at ht
    exact h
  · cases v <;> simp [isStrA] at ht
    exact h
  · cases v <;> simp [isFzN] at ht
    · rename_i p len cap ex sz
      cases p <;> simp at ht
      obtain ⟨rfl, _⟩ := h.nils_inv
      exact .fz (fun h0 => absurd h0 (Nat.lt_irrefl _)) (fun _ => rfl) (by simp [fzC, fzL]) (Nat.le_refl 0) (fun _ => rfl) (fun _ hx => by cases hx)
    · exact h
  · exact h
theorem asTy_some {d : TypeDesc} {v : AV} (h : asTy d v K = some r) : K v = some r := by
  unfold asTy at h
  split at h
  · obtain ⟨h0, h1⟩ := guardK_some h
    cases v <;> simp [isIntK] at h0
    subst h0; exact h1
  · obtain ⟨h0, h1⟩ := guardK_some h
    cases v <;> simp [isBoolA] at h0
    exact h1
  · obtain ⟨h0, h1⟩ := guardK_some h
    cases v <;> simp [isStrA] at h0
    exact h1
  · obtain ⟨n, rfl, h1⟩ := asPtr_some h; exact h1
  · exact (guardK_some h).2
  · obtain ⟨n, rfl, h1⟩ := asMap_some h; exact h1
  · exact h
theorem sim_part {t : TypeId} {cs : List AV} {cs' : List Value} {off : Nat} (hc : RL ρ cs cs') (h : partK P t cs off K = some r) : SimV P ρ (part t cs'.toArray off) K r := by
  obtain ⟨d, hd, hk⟩ := tyK_some h
  clear h
  cases hg : isAggD d with
  | true =>
    simp only [hg, cond_true] at hk
    obtain ⟨i, h1, hk⟩ := sizeK_some hk
    refine ⟨_, .agg (cs'.toArray.extract off (off + i.size)), hk, ?_, fun w => ?_⟩
    · rw [takeA_eq, dropA_eq]
      have := ((hc.drop off).take i.size).agg
      have e : (List.take i.size (List.drop off cs')).toArray = cs'.toArray.extract off (off + i.size) := by
        apply Array.ext'
        simp [List.extract_eq_take_drop]
      rw [← e]; exact this
    · simp [part, run_agg hd, hg, run_size h1]
  | false =>
    simp only [hg, cond_false] at hk
    obtain ⟨h1, hk⟩ := guardK_some hk
    have hk := asTy_some hk
    rw [lenA_eq] at h1
    have h2 : off < cs.length := Nat.le_of_ble_eq_true h1
    obtain ⟨v', h3, h4⟩ := hc.get_some (List.getElem?_eq_getElem h2)
    refine ⟨_, v', hk, ?_, fun w => ?_⟩
    · rw [nth_eq]; simp only [List.getD, List.getElem?_eq_getElem h2, Option.getD_some]; exact h4
    · simp [part, run_agg hd, hg, h3]
theorem sim_field {t : TypeId} {x : AV} {x' : Value} {f : Nat} (hx : R ρ x x') (h : fieldK P t x f K = some r) : SimV P ρ (Instr.field t x' f) K r := by
  obtain ⟨fs, fd, h1, h2, hk⟩ := fieldOff_some h
  obtain ⟨cs, rfl, hk1⟩ := asAgg_some hk
  obtain ⟨cs', rfl, hc⟩ := hx.of_agg
  obtain ⟨v, v', a, b, c⟩ := sim_part hc hk1
  exact ⟨v, v', a, b, fun w => by simp [Instr.field, run_und h1, h2, Go.asAgg, c]⟩
theorem selK_some {A : Type} {i : Int} {K : Nat → Option A} {r : A} : ∀ {n j : Nat}, selK i K n j = some r → ∃ m : Nat, i = (m : Int) ∧ K m = some r
  | 0, _, h => by cases h
  | n + 1, j, h => by
    simp only [selK] at h
    cases hb : i == (j : Int) with
    | true => rw [hb] at h; exact ⟨j, eq_of_beq hb, h⟩
    | false => rw [hb] at h; exact selK_some h
theorem arrK_some {A : Type} {i : Int} {len : Nat} {K : Nat → Option A} {r : A} (h : arrK i len K = some r) : K i.toNat = some r := by
  unfold arrK at h
  cases hb : Nat.ble len 8 with
  | true =>
    rw [hb] at h
    obtain ⟨m, rfl, hm⟩ := selK_some h
    exact hm
  | false => rw [hb] at h; exact h
theorem sim_indexAddr {t : TypeId} {x ix : AV} {x' ix' : Value} (hx : R ρ x x') (hi : R ρ ix ix') (h : indexAddrK P t x ix K = some r) : SimV P ρ (Instr.indexAt t x' ix') K r := by
  obtain ⟨k, i, rfl, hk1⟩ := anyInt_some h
  have := hi.int_inv; subst this
  obtain ⟨d, hd, hk⟩ := tyK_some hk1
  clear h hk1
  split at hk
  · rename_i len e
    obtain ⟨n, h1, hk⟩ := sizeK_some hk
    rcases asAdr2_some hk with ⟨⟨b, o⟩, rfl, hk1⟩ | ⟨cs, q, rfl, hk1⟩
    rotate_left
    · obtain ⟨b, r0, o0, cs0, rfl, f1, f2, f3⟩ := hx.fp_inv
      obtain ⟨h2, hk2⟩ := guardK_some hk1
      simp only [Bool.and_eq_true, decide_eq_true_eq] at h2
      have hk2 := arrK_some hk2
      refine ⟨_, .pointer (some ⟨b, r0 + o0 + (q + i.toNat * n.size), none⟩), hk2, .fp f1 f2 f3, fun w => ?_⟩
      simp [Instr.indexAt, asIntOf, run_und hd, Instr.sureAddr, h2, run_size h1, add_at, Nat.add_assoc]
    clear hk
    have hk := hk1; clear hk1
    obtain ⟨p, hp, rfl⟩ := hx.ptr_inv
    obtain ⟨h2, hk⟩ := guardK_some hk
    simp only [Bool.and_eq_true, decide_eq_true_eq] at h2
    have hk := arrK_some hk
    refine ⟨_, .pointer (some ⟨p.blk, p.off + (o + i.toNat * n.size), none⟩), hk, .ptr hp, fun w => ?_⟩
    simp [Instr.indexAt, asIntOf, run_und hd, Instr.sureAddr, h2, run_size h1, add_at, Nat.add_assoc]
  · rename_i e
    obtain ⟨n, h1, hk⟩ := sizeK_some hk
    rcases asSl2_some hx hk with ⟨p, len, cap, ex, sz, hx, hk1⟩ | ⟨cs, len, ex, sz, hx, hk1⟩
    rotate_left
    · obtain ⟨h2, hk2⟩ := guardK_some hk1
      simp only [Bool.and_eq_true, decide_eq_true_eq] at h2
      obtain ⟨⟨h3, h4⟩, h5⟩ := h2
      have h3 := Nat.eq_of_beq_eq_true h3
      obtain ⟨a, cap', rfl, g1, g2, g3, g4, g5⟩ := hx.fz_inv
      obtain ⟨b, r0, o0, cs0, f1, rfl, f2, f3⟩ := g1 (by omega)
      refine ⟨_, .pointer (some ⟨b, r0 + o0 + i.toNat * n.size, none⟩), hk2, .fp f1 (by rw [g3]; exact f2) (by rw [g3]; exact f3), fun w => ?_⟩
      simp [Instr.indexAt, asIntOf, run_und hd, h4, h5, run_size h1, add_at, Nat.add_assoc]
    clear hk
    split at hk1
    · cases hk1
    · rename_i q
      obtain ⟨h2, hk⟩ := guardK_some hk1
      simp only [Bool.and_eq_true, decide_eq_true_eq] at h2
      obtain ⟨⟨h3, h4⟩, h5⟩ := h2
      have h3 := Nat.eq_of_beq_eq_true h3
      obtain ⟨b, o⟩ := q
      obtain ⟨p, a, cap', g1, rfl, g2, g3, g4, g5⟩ := hx.sl_inv
      obtain ⟨ha, hb⟩ := g4 (by omega)
      subst ha
      refine ⟨_, .pointer (some ⟨p.blk, p.off + (o + i.toNat * n.size), none⟩), hk, .ptr g1, fun w => ?_⟩
      simp [Instr.indexAt, asIntOf, run_und hd, h4, h5, run_size h1, add_at, Nat.add_assoc]
  · cases hk
theorem sim_index {t : TypeId} {x ix : AV} {x' ix' : Value} (hx : R ρ x x') (hi : R ρ ix ix') (h : indexK P t x ix K = some r) : SimV P ρ (Instr.index t x' ix') K r := by
  obtain ⟨k, i, rfl, hk1⟩ := anyInt_some h
  have := hi.int_inv; subst this
  obtain ⟨d, hd, hk⟩ := tyK_some hk1
  clear h hk1
  split at hk
  · rename_i len e
    obtain ⟨n, h1, hk⟩ := sizeK_some hk
    obtain ⟨cs, rfl, hk1⟩ := asAgg_some hk
    obtain ⟨cs', rfl, hc⟩ := hx.of_agg
    clear hk
    obtain ⟨h2, hk⟩ := guardK_some hk1
    simp only [Bool.and_eq_true, decide_eq_true_eq] at h2
    obtain ⟨v, v', a, b, c⟩ := sim_part hc hk
    exact ⟨v, v', a, b, fun w => by simp [Instr.index, asIntOf, run_und hd, h2, run_size h1, c]⟩
  · obtain ⟨s, rfl, hk1⟩ := asStr_some hk
    clear hk
    obtain ⟨s', rfl, rfl⟩ := hx.str_inv
    obtain ⟨h2, hk⟩ := guardK_some hk1
    simp only [Bool.and_eq_true, decide_eq_true_eq] at h2
    obtain ⟨h3, h4⟩ := h2
    rw [lenS_eq] at h4
    have hl : s'.data.toList.length = s'.size := by simp
    have h5 : i.toNat < s'.data.toList.length := by omega
    refine ⟨_, .int .u8 (s'.data.toList.getD i.toNat 0).toNat, hk, by rw [nthS_eq]; exact .int _ _, fun w => ?_⟩
    have h6 : i.toNat < s'.size := by omega
    have e : s'[i.toNat]? = some (s'[i.toNat]) := by simp [getElem?_pos, h6]
    have e2 : s'.data.toList.getD i.toNat 0 = s'[i.toNat] := by
      simp only [List.getD, List.getElem?_eq_getElem h5, Option.getD_some]
      rfl
    simp only [Instr.index, asIntOf, Sem.run_bind, Sem.run_pure, Result.andThen_ok, run_und hd, h3, if_true, e, e2]
  · cases hk
theorem sim_extract {x : AV} {x' : Value} {i : Nat} (hx : R ρ x x') (h : extractK x i K = some r) : SimV P ρ (Instr.extract x' i) K r := by
  obtain ⟨vs, rfl, hk1⟩ := asTup_some h
  obtain ⟨vs', rfl, hc⟩ := hx.of_tup
  obtain ⟨h1, hk⟩ := guardK_some hk1
  rw [lenA_eq] at h1
  have h2 : i < vs.length := Nat.le_of_ble_eq_true h1
  obtain ⟨v', h3, h4⟩ := hc.get_some (List.getElem?_eq_getElem h2)
  refine ⟨_, v', hk, ?_, fun w => ?_⟩
  · rw [nth_eq]; simp only [List.getD, List.getElem?_eq_getElem h2, Option.getD_some]; exact h4
  · simp [Instr.extract, h3]
end
end Go.Ev
/- Slice expressions, composite literals, assertions: the evaluator's answers are the model's. -/
namespace Go.Ev
open Go.RowKit
section
variable {A : Type} {P : Program} {r : A} {ρ : Loc} {K : AV → Option A}

/-- An optional operand. -/
def RO (ρ : Loc) (x : Option AV) (x' : Option Value) : Prop := (x = none ∧ x' = none) ∨ ∃ v v', x = some v ∧ x' = some v' ∧ R ρ v v'
theorem RO.map {e : Operand → AV} {e' : Operand → Value} (he : ∀ x, R ρ (e x) (e' x)) (o : Option Operand) : RO ρ (o.map e) (o.map e') := by
  cases o with
  | none => exact .inl ⟨rfl, rfl⟩
  | some x => exact .inr ⟨_, _, rfl, rfl, he x⟩
/-- What a bound of a slice expression is. -/
def Bound (x' : Option Value) (d n : Nat) : Prop := (x' = none ∧ n = d) ∨ ∃ i : Int, x' = some (.int .i64 i) ∧ 0 ≤ i ∧ n = i.toNat
theorem boundK_some {x : Option AV} {x' : Option Value} {d : Nat} {K : Nat → Option A} (hx : RO ρ x x') (h : boundK x d K = some r) : ∃ n, K n = some r ∧ Bound x' d n := by
  rcases hx with ⟨rfl, rfl⟩ | ⟨v, v', rfl, rfl, hv⟩
  · exact ⟨d, h, .inl ⟨rfl, rfl⟩⟩
  · simp only [boundK] at h
    obtain ⟨n, rfl, h1⟩ := asInt_some h
    obtain ⟨h2, h3⟩ := guardK_some h1
    have := hv.int_inv; subst this
    exact ⟨_, h3, .inr ⟨n, rfl, by simpa using h2, rfl⟩⟩
theorem run_bound {i : Int} {y : Nat} (h0 : 0 ≤ i) (h1 : i.toNat ≤ y) (c : BoundsCode) (w : World) : (Instr.sliceBound (.int .i64 i) y c).run P w = .ok i.toNat w := by
  have h2 : i ≤ (y : Int) := by omega
  simp [Instr.sliceBound, asIntOf, h0, h2]
theorem run_bounds2 {lo hi : Option Value} {b : Bool} {len cap l h : Nat} (hh : Bound hi len h) (hl : Bound lo 0 l) (h1 : h ≤ cap) (h2 : l ≤ h) (w : World) :
    (Instr.sliceBounds b len cap lo hi none).run P w = .ok (l, h, cap) w := by
  rcases hh with ⟨rfl, rfl⟩ | ⟨i, rfl, hi0, rfl⟩ <;> rcases hl with ⟨rfl, rfl⟩ | ⟨j, rfl, hj0, rfl⟩
  · simp [Instr.sliceBounds]
  · simp [Instr.sliceBounds, run_bound hj0 h2]
  · simp [Instr.sliceBounds, run_bound hi0 h1]
  · simp [Instr.sliceBounds, run_bound hi0 h1, run_bound hj0 h2]
theorem run_bounds3 {lo hi mx : Option Value} {b : Bool} {len cap l h m : Nat} (hm : Bound mx cap m) (hm' : mx ≠ none) (hh : Bound hi len h) (hh' : hi ≠ none) (hl : Bound lo 0 l) (h0 : m ≤ cap) (h1 : h ≤ m) (h2 : l ≤ h) (w : World) :
    (Instr.sliceBounds b len cap lo hi mx).run P w = .ok (l, h, m) w := by
  rcases hm with ⟨rfl, rfl⟩ | ⟨q, rfl, hq0, rfl⟩
  · exact absurd rfl hm'
  rcases hh with ⟨rfl, rfl⟩ | ⟨i, rfl, hi0, rfl⟩
  · exact absurd rfl hh'
  rcases hl with ⟨rfl, rfl⟩ | ⟨j, rfl, hj0, rfl⟩
  · simp [Instr.sliceBounds, run_bound hq0 h0, run_bound hi0 h1]
  · simp [Instr.sliceBounds, run_bound hq0 h0, run_bound hi0 h1, run_bound hj0 h2]

theorem R.resliced {b o len cap sz n : Nat} {ex : Bool} {x' : Value} (hx : R ρ (.sl (some (b, o)) len cap ex sz) x') {l h m : Nat} {m' : Nat} {cap' : Nat} {a : Addr} (hx' : x' = .slice (some a) len cap')
    (hsz : n = sz) (hlh : l ≤ h) (hhm : h ≤ m) (hmc : m ≤ cap) (ex' : Bool) (hm' : (m' = cap' ∧ m = cap ∧ ex' = ex) ∨ (m' = m ∧ ex' = true)) :
    R ρ (.sl (some (b, o + l * sz)) (h - l) (m - l) ex' sz) (.slice (if m' = l then some a else (some a).map (·.add (l * n))) (h - l) (m' - l)) := by
  subst hsz
  obtain ⟨p, a', cap'', g1, g0, g2, g3, g4, g5⟩ := hx.sl_inv
  rw [hx'] at g0
  cases g0
  have hm2 : m ≤ m' ∧ m' ≤ cap' ∧ (ex' = true → m' = m) := by
    rcases hm' with ⟨rfl, rfl, rfl⟩ | ⟨rfl, rfl⟩
    · exact ⟨g2, Nat.le_refl _, g3⟩
    · exact ⟨Nat.le_refl _, by omega, fun _ => rfl⟩
  by_cases e : m' = l
  · rw [if_pos e]
    refine .sl g1 (by omega) (fun he => by have := hm2.2.2 he; omega) (fun h0 => by omega) (by omega)
  · rw [if_neg e]
    obtain ⟨ha, hb⟩ := g4 (by omega)
    subst ha
    simp only [Option.map_some, add_at]
    refine .sl g1 (by omega) (fun he => by have := hm2.2.2 he; omega) (fun h0 => ⟨by rw [Nat.add_assoc], ?_⟩) (by omega)
    have h3 : l * n + (m' - l) * n ≤ cap' * n := by
      rw [← Nat.add_mul]
      exact Nat.mul_le_mul_right _ (by omega)
    omega
theorem take_drop_part (cs0 : List AV) (o l k n : Nat) (hk : l + k ≤ n) : (((cs0.drop o).take n).drop l).take k = (cs0.drop (o + l)).take k := by
  rw [List.drop_take, List.take_take, List.drop_drop, Nat.min_eq_left (by omega)]
theorem R.refrozen {cs : List AV} {len sz : Nat} {ex ex' : Bool} {x' : Value} (hx : R ρ (.fz cs len ex sz) x') {l h m' cap' : Nat} {a : Option Addr} (hx' : x' = .slice a len cap')
    (hlh : l ≤ h) (hhl : h ≤ len) (hhm : h ≤ m') (hm' : ex' = true → m' = h) (hnil : a = none → m' = 0 := by first | assumption | (intro e; omega)) (hmc : 0 < m' → 0 < cap' := by first | assumption | omega) :
    R ρ (.fz ((cs.drop (l * sz)).take ((h - l) * sz)) (h - l) ex' sz) (.slice (if m' = l then a else a.map (·.add (l * sz))) (h - l) (m' - l)) := by
  obtain ⟨a', cap'', g0, g1, g2, g3, g4, g5⟩ := hx.fz_inv
  rw [hx'] at g0
  cases g0
  have hmul : l * sz + (h - l) * sz ≤ len * sz := by rw [← Nat.add_mul]; exact Nat.mul_le_mul_right _ (by omega)
  refine .fz (fun h0 => ?_) (fun e => ?_) ?_ (by omega) (fun he => by have := hm' he; omega) (fun x e hp => ?_)
  · obtain ⟨b, q, o, cs0, f1, f2, f3, f4⟩ := g1 (by omega)
    refine ⟨b, q, o + l * sz, cs0, f1, ?_, ?_, by omega⟩
    · rw [if_neg (by omega), f2]
      simp only [Option.map_some, add_at, Nat.add_assoc]
    · rw [f3, take_drop_part _ _ _ _ _ hmul]
  · have : a = none := by
      by_cases e1 : m' = l
      · rw [if_pos e1] at e; exact e
      · rw [if_neg e1] at e; simpa using e
    have := hnil this
    omega
  · rw [List.length_take, List.length_drop, g3]; omega
  · rw [if_neg (by omega)] at e
    obtain ⟨y, hy, rfl⟩ := Option.map_eq_some_iff.1 e
    have hs : y.spot = none := by
      rw [hx'] at hx
      exact hx.fz_spot y hy (hmc (by omega))
    show (y.add (l * sz)).spot = none
    unfold Addr.add
    split <;> first | exact hs | rfl
theorem R.reslV {b o h l cap sz : Nat} {ex : Bool} {v' : Value} (hx : R ρ (.sl (some (b, o + l * sz)) (h - l) (cap - l) ex sz) v') (hi : Option AV) : R ρ (Ev.reslV hi (some (b, o)) h l cap ex sz) v' := by
  cases hi with
  | some x => cases ex <;> exact hx
  | none =>
    cases ex with
    | true => exact hx
    | false =>
      show R ρ (.gr (b, o + l * sz) (h - l) sz) v'
      cases hx with
      | sl hp h1 h2 h3 h4 => exact .gr hp (Nat.le_trans h4 h1) h3
theorem sim_slice {t : TypeId} {x : AV} {x' : Value} {lo hi mx : Option AV} {lo' hi' mx' : Option Value} (hx : R ρ x x') (hlo : RO ρ lo lo') (hhi : RO ρ hi hi') (hmx : RO ρ mx mx')
    (hmh : mx' ≠ none → hi' ≠ none) (h : sliceK P t x lo hi mx K = some r) : SimV P ρ (Instr.sliceAt t x' lo' hi' mx') K r := by
  obtain ⟨d, hd, hk⟩ := tyK_some h
  clear h
  split at hk
  · obtain ⟨s, rfl, hk1⟩ := asStr_some hk
    clear hk
    obtain ⟨s', rfl, rfl⟩ := hx.str_inv
    split at hk1
    · rcases hmx with ⟨_, rfl⟩ | ⟨v, v', hv, _⟩
      · obtain ⟨h', hk2, bh⟩ := boundK_some hhi hk1
        obtain ⟨l', hk3, bl⟩ := boundK_some hlo hk2
        obtain ⟨g1, hk4⟩ := guardK_some hk3
        obtain ⟨g2, hk5⟩ := guardK_some hk4
        have g1 := Nat.le_of_ble_eq_true g1
        have g2 := Nat.le_of_ble_eq_true g2
        rw [lenS_eq] at g1 bh
        have hl : s'.data.toList.length = s'.size := by simp
        rw [hl] at g1 bh
        refine ⟨_, .string (s'.extract l' h'), hk5, ?_, fun w => ?_⟩
        · have := R.str (ρ := ρ) (s'.extract l' h')
          rw [Lib.extract_data] at this
          rw [takeS_eq, dropS_eq, List.drop_take]; exact this
        · simp [Instr.sliceAt, Instr.slice, run_und hd, run_bounds2 bh bl g1 g2]
      · cases hv
    · cases hk1
  · rename_i e
    obtain ⟨i, hi1, hk0⟩ := sizeK_some hk
    rcases asSl2_some hx hk0 with ⟨p, len, cap, ex, sz, hx, hk1⟩ | ⟨cs, len, ex, sz, hx, hk1⟩
    rotate_left
    · obtain ⟨hsz, hk2⟩ := guardK_some hk1
      have hsz := Nat.eq_of_beq_eq_true hsz
      subst hsz
      split at hk2
      · rcases hmx with ⟨_, rfl⟩ | ⟨v, v', hv, _⟩
        · obtain ⟨h', hk3, bh⟩ := boundK_some hhi hk2
          obtain ⟨l', hk4, bl⟩ := boundK_some hlo hk3
          obtain ⟨g1, hk5⟩ := guardK_some hk4
          obtain ⟨g2, hk6⟩ := guardK_some hk5
          have g1 := Nat.le_of_ble_eq_true g1
          have g2 := Nat.le_of_ble_eq_true g2
          rw [takeA_eq, dropA_eq] at hk6
          obtain ⟨a, cap', rfl, q1, q2, q3, q4, q5⟩ := hx.fz_inv
          refine ⟨_, _, hk6, hx.refrozen (m' := cap') rfl g2 g1 (Nat.le_trans g1 q4) (fun he => by
            simp only [Bool.and_eq_true] at he
            have e1 := q5 he.1
            have e2 := Nat.eq_of_beq_eq_true he.2
            omega), fun w => ?_⟩
          cases a with
          | none =>
            have hc := q2 rfl
            subst hc
            have e1 : h' = 0 := by omega
            have e2 : l' = 0 := by omega
            subst e1; subst e2
            simp [Instr.sliceAt, Instr.slice, run_und hd, run_bounds2 bh bl (Nat.le_trans g1 q4) g2, run_size hi1]
          | some a => simp [Instr.sliceAt, Instr.slice, run_und hd, run_bounds2 bh bl (Nat.le_trans g1 q4) g2, run_size hi1]
        · cases hv
      · rename_i mv
        obtain ⟨m', hk3, bm⟩ := boundK_some hmx hk2
        obtain ⟨h', hk4, bh⟩ := boundK_some hhi hk3
        obtain ⟨l', hk5, bl⟩ := boundK_some hlo hk4
        obtain ⟨g0, hk6⟩ := guardK_some hk5
        obtain ⟨g1, hk7⟩ := guardK_some hk6
        obtain ⟨g2, hk8⟩ := guardK_some hk7
        have g0 := Nat.le_of_ble_eq_true g0
        have g1 := Nat.le_of_ble_eq_true g1
        have g2 := Nat.le_of_ble_eq_true g2
        rw [takeA_eq, dropA_eq] at hk8
        have hmn : mx' ≠ none := by
          rcases hmx with ⟨e, _⟩ | ⟨v, v', _, e, _⟩
          · cases e
          · rw [e]; simp
        have bm' : ∀ c, Bound mx' c m' := fun c => by
          rcases bm with ⟨e, _⟩ | x
          · exact absurd e hmn
          · exact .inr x
        obtain ⟨a, cap', rfl, q1, q2, q3, q4, q5⟩ := hx.fz_inv
        refine ⟨_, _, hk8, hx.refrozen (m' := m') rfl g2 (by omega) g1 (fun he => by
            have e2 := Nat.eq_of_beq_eq_true he
            omega) (fun e => by have := q2 e; omega), fun w => ?_⟩
        cases a with
        | none =>
          have hc := q2 rfl
          subst hc
          have e0 : m' = 0 := by omega
          have e1 : h' = 0 := by omega
          have e2 : l' = 0 := by omega
          subst e0; subst e1; subst e2
          simp [Instr.sliceAt, Instr.slice, run_und hd, run_bounds3 (bm' 0) hmn bh (hmh hmn) bl (Nat.le_trans g0 q4) g1 g2, run_size hi1]
        | some a => simp [Instr.sliceAt, Instr.slice, run_und hd, run_bounds3 (bm' cap') hmn bh (hmh hmn) bl (Nat.le_trans g0 q4) g1 g2, run_size hi1]
    clear hk hk0
    obtain ⟨hsz, hk2⟩ := guardK_some hk1
    clear hk1
    have hcase : (p = none ∧ x' = .slice none 0 0 ∧ len = 0 ∧ cap = 0 ∧ ex = true) ∨ ∃ b o, p = some (b, o) ∧ i.size = sz := by
      cases p with
      | none => exact .inl ⟨rfl, hx.nils_inv⟩
      | some q => exact .inr ⟨q.1, q.2, rfl, by simp [isNone'] at hsz; exact hsz.symm⟩
    split at hk2
    · rcases hmx with ⟨_, rfl⟩ | ⟨v, v', hv, _⟩
      · obtain ⟨h', hk3, bh⟩ := boundK_some hhi hk2
        obtain ⟨l', hk4, bl⟩ := boundK_some hlo hk3
        obtain ⟨g1, hk5⟩ := guardK_some hk4
        obtain ⟨g2, hk6⟩ := guardK_some hk5
        have g1 := Nat.le_of_ble_eq_true g1
        have g2 := Nat.le_of_ble_eq_true g2
        rcases hcase with ⟨rfl, rfl, rfl, rfl, rfl⟩ | ⟨b, o, rfl, hs⟩
        · have e1 : h' = 0 := by omega
          have e2 : l' = 0 := by omega
          subst e1; subst e2
          exact ⟨_, .slice none 0 0, hk6, .sln _, fun w => by simp [Instr.sliceAt, Instr.slice, run_und hd, run_bounds2 bh bl (Nat.le_refl 0) (Nat.le_refl 0), run_size hi1]⟩
        · obtain ⟨q, a, cap', q1, rfl, q2, q3, q4, q5⟩ := hx.sl_inv
          refine ⟨_, _, hk6, (hx.resliced (m' := cap') rfl hs g2 g1 (Nat.le_refl _) ex (.inl ⟨rfl, rfl, rfl⟩)).reslV hi, fun w => ?_⟩
          simp [Instr.sliceAt, Instr.slice, run_und hd, run_bounds2 bh bl (Nat.le_trans g1 q2) g2, run_size hi1]
      · cases hv
    · rename_i mv
      obtain ⟨m', hk3, bm⟩ := boundK_some hmx hk2
      obtain ⟨h', hk4, bh⟩ := boundK_some hhi hk3
      obtain ⟨l', hk5, bl⟩ := boundK_some hlo hk4
      obtain ⟨g0, hk6⟩ := guardK_some hk5
      obtain ⟨g1, hk7⟩ := guardK_some hk6
      obtain ⟨g2, hk8⟩ := guardK_some hk7
      have g0 := Nat.le_of_ble_eq_true g0
      have g1 := Nat.le_of_ble_eq_true g1
      have g2 := Nat.le_of_ble_eq_true g2
      have hmn : mx' ≠ none := by
        rcases hmx with ⟨e, _⟩ | ⟨v, v', _, e, _⟩
        · cases e
        · rw [e]; simp
      have bm' : ∀ c, Bound mx' c m' := fun c => by
        rcases bm with ⟨e, _⟩ | x
        · exact absurd e hmn
        · exact .inr x
      rcases hcase with ⟨rfl, rfl, rfl, rfl, rfl⟩ | ⟨b, o, rfl, hs⟩
      · have e0 : m' = 0 := by omega
        have e1 : h' = 0 := by omega
        have e2 : l' = 0 := by omega
        subst e0; subst e1; subst e2
        exact ⟨_, .slice none 0 0, hk8, .sln _, fun w => by simp [Instr.sliceAt, Instr.slice, run_und hd, run_bounds3 (bm' 0) hmn bh (hmh hmn) bl (Nat.le_refl 0) (Nat.le_refl 0) (Nat.le_refl 0), run_size hi1]⟩
      · obtain ⟨q, a, cap', q1, rfl, q2, q3, q4, q5⟩ := hx.sl_inv
        refine ⟨_, _, hk8, hx.resliced (m' := m') rfl hs g2 g1 g0 true (.inr ⟨rfl, rfl⟩), fun w => ?_⟩
        simp [Instr.sliceAt, Instr.slice, run_und hd, run_bounds3 (bm' cap') hmn bh (hmh hmn) bl (Nat.le_trans g0 q2) g1 g2, run_size hi1]
  · rename_i n e
    obtain ⟨⟨b, o⟩, rfl, hk1⟩ := asAdr_some hk
    clear hk
    obtain ⟨i, hi1, hk2⟩ := sizeK_some hk1
    cases hk2
  · cases hk
theorem sim_nil {x : AV} {x' : Value} (hx : R ρ x x') (h : nilK x K = some r) : K x = some r ∧ ((∃ p, x' = .pointer (some p)) ∨ (∃ f a c, x' = .func (.func f) a c) ∨ ∃ l, x' = .func (.yield l) #[] #[]) := by
  unfold nilK at h
  split at h
  · cases hx; exact ⟨h, .inl ⟨_, rfl⟩⟩
  · cases hx; exact ⟨h, .inl ⟨_, rfl⟩⟩
  · cases hx; exact ⟨h, .inr (.inl ⟨_, _, _, rfl⟩)⟩
  · cases hx; exact ⟨h, .inr (.inr ⟨_, rfl⟩)⟩
  · cases h
theorem zeroV_some {t : TypeId} (h : zeroV P t K = some r) : ∃ i z, P.info? t = some i ∧ i.zero = some z ∧ K (Ev.ofConst z) = some r := by
  unfold zeroV at h
  split at h
  · split at h
    · exact ⟨_, _, by assumption, by assumption, h⟩
    · cases h
  · cases h
theorem RL.two {v : AV} {v' : Value} {u : AV} {u' : Value} (h : R ρ v v') (k : R ρ u u') : R ρ (.tup [v, u]) (.tuple #[v', u']) := ((RL.cons h (RL.cons k (RL.nil ρ))).tup)
theorem sim_assert {t xt : TypeId} {x : AV} {x' : Value} {ok : Bool} (hx : R ρ x x') (h : assertK P x t ok K = some r) : SimV P ρ (Instr.typeAssert x' xt t ok) K r := by
  obtain ⟨d, hd, hk⟩ := tyK_some h
  clear h
  split at hk
  · cases hk
  · rename_i hni
    have hni' : ∀ ms, d ≠ .interface ms := fun ms e => hni ms e
    split at hk
    · rename_i u v
      cases hx with
      | iface t' hv =>
        rename_i v'
        by_cases hut : u = t
        · subst hut
          have : Nat.beq u u = true := by simp
          simp only [this, cond_true] at hk
          cases ok with
          | true =>
            simp only [cond_true] at hk
            refine ⟨_, _, hk, RL.two hv (.bool true), fun w => ?_⟩
            simp only [Instr.typeAssert, Sem.run_bind, run_und hd, Result.andThen_ok]
            cases d <;> first | exact absurd rfl (hni' _) | simp
          | false =>
            simp only [cond_false] at hk
            refine ⟨_, _, hk, hv, fun w => ?_⟩
            simp only [Instr.typeAssert, Sem.run_bind, run_und hd, Result.andThen_ok]
            cases d <;> first | exact absurd rfl (hni' _) | simp
        · have : Nat.beq u t = false := by
            cases hb : Nat.beq u t with
            | false => rfl
            | true => exact absurd (Nat.eq_of_beq_eq_true hb) hut
          simp only [this, cond_false] at hk
          cases ok with
          | true =>
            simp only [cond_true] at hk
            obtain ⟨i, z, h1, h2, hk1⟩ := zeroV_some hk
            refine ⟨_, _, hk1, RL.two (.ofConst ρ z) (.bool false), fun w => ?_⟩
            simp only [Instr.typeAssert, Sem.run_bind, run_und hd, Result.andThen_ok]
            cases d <;> first | exact absurd rfl (hni' _) | simp [hut, run_zero h1 h2]
          | false => simp only [cond_false] at hk; cases hk
    · cases hx
      cases ok with
      | true =>
        simp only [cond_true] at hk
        obtain ⟨i, z, h1, h2, hk1⟩ := zeroV_some hk
        refine ⟨_, _, hk1, RL.two (.ofConst ρ z) (.bool false), fun w => ?_⟩
        simp only [Instr.typeAssert, Sem.run_bind, run_und hd, Result.andThen_ok]
        cases d <;> first | exact absurd rfl (hni' _) | simp [run_zero h1 h2]
      | false => simp only [cond_false] at hk; cases hk
    · cases hk
end
end Go.Ev
/- The evaluator's operations on memory: loads, stores, new blocks. -/
namespace Go.Ev
open Go.RowKit
section
variable {A : Type} {P : Program} {r : A} {ρ : Loc} {N : Zone} {n id : Nat} {h : Heap} {w : World}

/-- An operation on memory: the model's run answers what is told; the number 'id' alone may have got a place. -/
def SimM (P : Program) (ρ : Loc) (N : Zone) (n id : Nat) (h : Heap) (w : World) (s : Sem Value) (K : AV → Heap → Option A) (r : A) : Prop :=
  ∃ v h' v' w' ρ', K v h' = some r ∧ h'.next = h.next ∧ s.run P w = .ok v' w' ∧ GrowsS ρ ρ' ∧ (∀ b, b ≠ id → ρ' b = ρ b) ∧ Rep ρ' ⟨h'.m, n⟩ N w' ∧ R ρ' v v' ∧ Low N w w'
theorem SimV.mem {s : Sem Value} {K : AV → Heap → Option A} (hr : Rep ρ ⟨h.m, n⟩ N w) (hs : SimV P ρ s (fun v => K v h) r) : SimM P ρ N n id h w s K r := by
  obtain ⟨v, v', a, b, c⟩ := hs
  exact ⟨v, h, v', w, ρ, a, rfl, c w, GrowsS.refl _, fun _ _ => rfl, hr, b, Low.refl _ _⟩

theorem cell_of {w : World} {b i : Nat} {c : Array Value} {e : TypeId} {fz : Nat × Nat} (h : w.heap[b]? = some (.cells c e fz)) : w.cell? ⟨b, i, none⟩ = c[i]? := by
  simp [World.cell?, h]
theorem frozen_of {w : World} {b i : Nat} {c : Array Value} {e : TypeId} {fz : Nat × Nat} (h : w.heap[b]? = some (.cells c e fz)) : w.frozen? ⟨b, i, none⟩ = (decide (fz.1 ≤ i) && decide (i < fz.2)) := by
  obtain ⟨lo, hi⟩ := fz
  simp [World.frozen?, h]
/-- Cells that are told are there. -/
theorem cells_there {b o k : Nat} {wr : Bool} {vs : List AV} (hr : Rep ρ h N w) (hb : h.m b = some (.cells wr vs)) (hk : o + k ≤ vs.length) :
    ∃ p cs', ρ b = some p ∧ cs'.length = k ∧ RL ρ ((vs.drop o).take k) cs' ∧ ∀ j v, cs'[j]? = some v → w.cell? ⟨p.blk, p.off + o + j, none⟩ = some v := by
  obtain ⟨p, hp, c, e, fz, h1, h2, h3, h4, h5⟩ := hr.blk b _ hb
  refine ⟨p, (c.toList.drop (p.off + o)).take k, hp, ?_, ⟨?_, fun i v v' a b' => ?_⟩, fun j v hj => ?_⟩
  · have : c.toList.length = c.size := by simp
    simp only [List.length_take, List.length_drop, this]
    omega
  · have : c.toList.length = c.size := by simp
    simp only [List.length_take, List.length_drop, this]
    omega
  · simp only [List.getElem?_take, List.getElem?_drop] at a b'
    split at a
    · rename_i hi
      simp only [hi, if_true] at b'
      obtain ⟨u, hu, hR⟩ := h4 _ _ a
      have e1 : p.off + (o + i) = p.off + o + i := by omega
      rw [e1] at hu
      have b2 : c[p.off + o + i]? = some v' := by simpa using b'
      rw [hu] at b2; cases b2; exact hR
    · cases a
  · rw [cell_of h1]
    simp only [List.getElem?_take, List.getElem?_drop] at hj
    split at hj
    · simpa using hj
    · cases hj
theorem run_cells {o k : Nat} {p : Pl} {cs' : List Value} (hl : cs'.length = k) (hc : ∀ j v, cs'[j]? = some v → w.cell? ⟨p.blk, p.off + o + j, none⟩ = some v) :
    (loadCells ⟨p.blk, p.off + o, none⟩ k).run P w = .ok cs'.toArray w := by
  rw [← hl]
  exact run_loadCells_list w _ cs' fun j v hj => by rw [add_at]; exact hc j v hj
theorem ldN_some {p : Nat × Nat} {k : Nat} {K : List AV → Option A} (hh : ldN h p k K = some r) : ∃ wr vs, h.m p.1 = some (.cells wr vs) ∧ p.2 + k ≤ vs.length ∧ K ((vs.drop p.2).take k) = some r := by
  unfold ldN at hh
  split at hh
  · obtain ⟨h1, h2⟩ := guardK_some hh
    rw [lenA_eq] at h1
    rw [takeA_eq, dropA_eq] at h2
    exact ⟨_, _, by assumption, Nat.le_of_ble_eq_true h1, h2⟩
  · cases hh
theorem ld1_some {p : Nat × Nat} {K : AV → Option A} (hh : ld1 h p K = some r) : ∃ wr vs v, h.m p.1 = some (.cells wr vs) ∧ vs[p.2]? = some v ∧ K v = some r := by
  unfold ld1 at hh
  split at hh
  · rename_i wr vs hm
    obtain ⟨h1, h2⟩ := guardK_some hh
    rw [lenA_eq] at h1
    have h3 : p.2 < vs.length := Nat.le_of_ble_eq_true h1
    refine ⟨wr, vs, vs[p.2], by assumption, List.getElem?_eq_getElem h3, ?_⟩
    rw [nth_eq] at h2
    simpa [List.getD, List.getElem?_eq_getElem h3] using h2
  · cases hh
theorem sim_load {t : TypeId} {b o : Nat} {p : Pl} {K : AV → Option A} (hr : Rep ρ h N w) (hp : ρ b = some p) (hh : loadK P t h (b, o) K = some r) :
    ∃ v v', K v = some r ∧ R ρ v v' ∧ (loadVar t ⟨p.blk, p.off + o, none⟩).run P w = .ok v' w := by
  obtain ⟨d, hd, hk⟩ := tyK_some hh
  clear hh
  cases hg : isAggD d with
  | true =>
    simp only [hg, cond_true] at hk
    obtain ⟨i, h1, hk1⟩ := sizeK_some hk
    obtain ⟨wr, vs, h2, h3, hk2⟩ := ldN_some hk1
    obtain ⟨p', cs', e1, e2, e3, e4⟩ := cells_there hr h2 h3
    rw [hp] at e1; cases e1
    exact ⟨_, _, hk2, e3.agg, by simp [loadVar, run_agg hd, hg, run_size h1, run_cells e2 e4]⟩
  | false =>
    simp only [hg, cond_false] at hk
    obtain ⟨wr, vs, v, h2, h3, hk1⟩ := ld1_some hk
    have hk2 := asTy_some hk1
    obtain ⟨p', hp', c, e, fz, g1, g2, g3, g4, g5⟩ := hr.blk b _ h2
    rw [hp] at hp'; cases hp'
    obtain ⟨v', hv, hR⟩ := g4 _ _ h3
    refine ⟨v, v', hk2, hR, ?_⟩
    simp [loadVar, run_agg hd, hg, cell_of g1, hv]

theorem sim_loadF {t : TypeId} {cs : List AV} {o : Nat} {x' : Value} {K : AV → Option A} (hr : Rep ρ h N w) (hx : R ρ (.fp cs o) x') (hh : loadF P t cs o K = some r) :
    ∃ v v' a, K v = some r ∧ R ρ v v' ∧ x' = .pointer (some a) ∧ (loadVar t a).run P w = .ok v' w := by
  obtain ⟨b, q, o0, cs0, rfl, hf, hcs, hl⟩ := hx.fp_inv
  obtain ⟨d, hd, hk⟩ := tyK_some hh
  clear hh
  have part : ∀ k, o + k ≤ cs.length → ∃ cs', RL ρ ((cs.drop o).take k) cs' ∧ cs'.length = k ∧ ∀ j v, cs'[j]? = some v → w.cell? ⟨b, q + o0 + o + j, none⟩ = some v := fun k hk => by
    obtain ⟨cs', e1, e2, e3⟩ := frz_cells hr hf (o := o0 + o) (k := k) (by omega)
    refine ⟨cs', ?_, e2, fun j v hj => by rw [show q + o0 + o + j = q + (o0 + o) + j by omega]; exact e3 j v hj⟩
    have : (cs.drop o).take k = (cs0.drop (o0 + o)).take k := by
      rw [hcs]; exact take_drop_part _ _ _ _ _ hk
    rw [this]; exact e1
  cases hg : isAggD d with
  | true =>
    simp only [hg, cond_true] at hk
    obtain ⟨i, h1, hk1⟩ := sizeK_some hk
    obtain ⟨g0, hk1⟩ := guardK_some hk1
    have g0 := Nat.eq_of_beq_eq_true g0
    obtain ⟨g1, hk2⟩ := guardK_some hk1
    obtain ⟨g2, hk2⟩ := guardK_some hk2
    have g1 := Nat.le_of_ble_eq_true g1
    rw [lenA_eq] at g1
    obtain ⟨cs', e1, e2, e3⟩ := part i.size g1
    have hproj : ∀ (ds : List TypeDesc) (j : Nat), j + lenD ds ≤ i.size → isTs cs (o + j) ds = true → ∀ (q : Nat) v, (projTs cs (o + j) ds)[q]? = some v → ∃ v', cs'[j + q]? = some v' ∧ R ρ v v' := by
      intro ds
      induction ds with
      | nil => intro j _ _ q v hq; simp [projTs] at hq
      | cons d ds ih =>
        intro j hj ht q v hq
        simp only [isTs, Bool.and_eq_true] at ht
        simp only [lenD] at hj
        cases q with
        | zero =>
          simp only [projTs, List.getElem?_cons_zero, Option.some.injEq] at hq
          subst hq
          have g3 : ((cs.drop o).take i.size)[j]? = some cs[o + j] := by
            rw [List.getElem?_take, if_pos (by omega), List.getElem?_drop]
            simp [show o + j < cs.length by omega]
          obtain ⟨v', hv, hR⟩ := e1.get_some g3
          refine ⟨v', hv, R.proj ?_ ht.1⟩
          rw [nth_eq]; simp only [List.getD, List.getElem?_eq_getElem (show o + j < cs.length by omega), Option.getD_some]; exact hR
        | succ q =>
          simp only [projTs, List.getElem?_cons_succ] at hq
          have := ih (j + 1) (by omega) (by rw [show o + (j + 1) = o + j + 1 by omega]; exact ht.2) q v (by rw [show o + (j + 1) = o + j + 1 by omega]; exact hq)
          rw [show j + (q + 1) = j + 1 + q by omega]; exact this
    have hlenp : ∀ (ds : List TypeDesc) (j : Nat), (projTs cs j ds).length = lenD ds := by
      intro ds
      induction ds with
      | nil => intro j; rfl
      | cons d ds ih => intro j; simp [projTs, lenD, ih]
    refine ⟨_, .agg cs'.toArray, _, hk2, RL.agg ⟨by rw [hlenp, g0, e2], fun q v v' a b => ?_⟩, rfl, ?_⟩
    · obtain ⟨u, h5, h6⟩ := hproj (leafD P 8 t) 0 (by omega) (by simpa using g2) q v (by simpa using a)
      rw [Nat.zero_add] at h5
      rw [h5] at b; cases b; exact h6
    · have := run_cells (P := P) (w := w) (o := o) (p := ⟨b, q + o0, 0⟩) e2 (fun j v hj => e3 j v hj)
      simp [loadVar, run_agg hd, hg, run_size h1, this]
  | false =>
    simp only [hg, cond_false] at hk
    obtain ⟨g1, hk1⟩ := guardK_some hk
    obtain ⟨g3, hk2⟩ := guardK_some hk1
    rw [lenA_eq] at g1
    have g1 : o + 1 ≤ cs.length := Nat.le_of_ble_eq_true g1
    obtain ⟨cs', e1, e2, e3⟩ := part 1 g1
    have g2 : ((cs.drop o).take 1)[0]? = some cs[o] := by
      rw [List.getElem?_take, if_pos (by omega), List.getElem?_drop]
      simp [show o < cs.length by omega]
    obtain ⟨v', hv, hR⟩ := e1.get_some g2
    have e4 := e3 0 v' hv
    refine ⟨_, v', _, hk2, R.proj ?_ g3, rfl, ?_⟩
    · rw [nth_eq]; simp only [List.getD, List.getElem?_eq_getElem (show o < cs.length by omega), Option.getD_some]; exact hR
    · simp only [Nat.add_zero] at e4
      simp [loadVar, run_agg hd, hg, e4]

/-! ### Stores -/
theorem setCells_block (b : Nat) (e : TypeId) (fz : Nat × Nat) : ∀ (vs : List Value) (o : Nat) (c : Array Value) (w : World), w.heap[b]? = some (.cells c e fz) → o + vs.length ≤ c.size →
    ∃ c', (w.setCells b o vs).heap[b]? = some (.cells c' e fz) ∧ c'.size = c.size ∧ ∀ i : Nat, c'[i]? = if o ≤ i ∧ i < o + vs.length then vs[i - o]? else c[i]?
  | [], o, c, w, hb, _ => ⟨c, hb, rfl, fun i => by rw [if_neg (by simp only [List.length_nil]; omega)]⟩
  | v :: vs, o, c, w, hb, hl => by
    have h1 : (w.setCell ⟨b, o, none⟩ v).heap[b]? = some (.cells (c.setIfInBounds o v) e fz) := by
      simp [World.setCell, Array.getElem?_modify, hb]
    obtain ⟨c', g1, g2, g3⟩ := setCells_block b e fz vs (o + 1) (c.setIfInBounds o v) _ h1 (by simp only [List.length_cons, Array.size_setIfInBounds] at hl ⊢; omega)
    refine ⟨c', g1, by simpa using g2, fun i => ?_⟩
    rw [g3]
    simp only [List.length_cons] at hl ⊢
    by_cases e1 : o = i
    · subst e1
      rw [if_neg (by omega), if_pos (by omega)]
      have : o < c.size := by omega
      simp [this]
    · by_cases e2 : o + 1 ≤ i ∧ i < o + 1 + vs.length
      · rw [if_pos e2, if_pos (by omega)]
        rw [show i - o = (i - (o + 1)) + 1 by omega]; simp
      · rw [if_neg e2, if_neg (by omega)]
        simp [e1]
theorem setCells_other (b : Nat) : ∀ (vs : List Value) (o : Nat) (w : World) (k : Nat), k ≠ b → (w.setCells b o vs).heap[k]? = w.heap[k]?
  | [], _, _, _, _ => rfl
  | v :: vs, o, w, k, hk => by rw [World.setCells, setCells_other b vs (o + 1) _ k hk, Below.heap_setCell _ _ _ _ hk]
theorem setCells_same (b : Nat) : ∀ (vs : List Value) (o : Nat) (w : World), (w.setCells b o vs).os = w.os ∧ (w.setCells b o vs).tape = w.tape ∧ (w.setCells b o vs).output = w.output ∧ (w.setCells b o vs).heap.size = w.heap.size
  | [], _, _ => ⟨rfl, rfl, rfl, rfl⟩
  | v :: vs, o, w => by
    obtain ⟨a, b', c, d⟩ := setCells_same b vs (o + 1) (w.setCell ⟨b, o, none⟩ v)
    exact ⟨a, b', c, d.trans (by simp [World.setCell])⟩
/-- Cells are written. -/
theorem store_cells {b o : Nat} {p : Pl} {vs cs : List AV} {cs' : List Value} (hr : Rep ρ h N w) (hb : h.m b = some (.cells true vs)) (hp : ρ b = some p) (hl : o + cs.length ≤ vs.length)
    (hc : RL ρ cs cs') (h1 : ∀ v ∈ cs', v.oneCell' = true) :
    ∃ w', (storeCells ⟨p.blk, p.off + o, none⟩ cs').run P w = .ok () w' ∧ Rep ρ (h.put b (.cells true (splice vs o cs))) N w' ∧ Low N w w' := by
  obtain ⟨p', hp', c, e, fz, g1, g2, g3, g4, g5⟩ := hr.blk b _ hb
  rw [hp] at hp'; cases hp'
  obtain ⟨g6, g7⟩ := g5.1 rfl
  have hlen := hc.len
  refine ⟨w.setCells p.blk (p.off + o) cs', ?_, ?_, ?_⟩
  · have := run_storeCells_cells (P := P) p.blk (p.off + o) cs' 0 w (fun j hj => by rw [cell_of g1]; simp; omega)
      (fun j hj => by
        rw [frozen_of g1]
        have := g7 (p.off + o + 0 + j) (by omega) (by omega)
        cases ha : decide (fz.1 ≤ p.off + o + 0 + j) with
        | false => rfl
        | true =>
          cases hb : decide (p.off + o + 0 + j < fz.2) with
          | false => rfl
          | true => exact absurd ⟨of_decide_eq_true ha, of_decide_eq_true hb⟩ this) h1
    simpa using this
  · obtain ⟨c', k1, k2, k3⟩ := setCells_block p.blk e fz cs' (p.off + o) c w g1 (by omega)
    refine hr.write hb rfl hp (setCells_same _ _ _ _).2.2.2 (fun q hq => setCells_other _ _ _ _ _ hq) ⟨c', e, fz, k1, by omega, by rw [splice_length]; exact g3, fun i v hi => ?_, g5⟩
    rw [splice_get _ _ _ _ hl] at hi
    rw [k3]
    by_cases hin : o ≤ i ∧ i < o + cs.length
    · rw [if_pos hin] at hi
      rw [if_pos (by omega), show p.off + i - (p.off + o) = i - o by omega]
      exact hc.get_some hi
    · rw [if_neg hin] at hi
      rw [if_neg (by omega)]
      exact g4 i v hi
  · obtain ⟨a, b', c', d⟩ := setCells_same p.blk cs' (p.off + o) w
    exact ⟨a, b', c', by omega, fun k hk => setCells_other _ _ _ _ _ (fun e => g6 (e ▸ hk))⟩
theorem stN_some {p : Nat × Nat} {cs : List AV} {K : Heap → Option A} (hh : stN h p cs K = some r) : ∃ vs, h.m p.1 = some (.cells true vs) ∧ p.2 + cs.length ≤ vs.length ∧ K (h.put p.1 (.cells true (splice vs p.2 cs))) = some r := by
  unfold stN at hh
  split at hh
  · obtain ⟨h1, h2⟩ := guardK_some hh
    rw [lenA_eq, lenA_eq] at h1
    exact ⟨_, by assumption, Nat.le_of_ble_eq_true h1, h2⟩
  · cases hh
theorem cellsK_some {v : AV} {v' : Value} {K : List AV → Option A} (hv : R ρ v v') (hh : cellsK v K = some r) : ∃ cs cs', K cs = some r ∧ v'.cells = cs' ∧ RL ρ cs cs'.toList ∧ ∀ x ∈ cs'.toList, x.oneCell' = true := by
  unfold cellsK at hh
  split at hh
  · rename_i cs
    obtain ⟨h1, h2⟩ := guardK_some hh
    obtain ⟨cs', rfl, hc⟩ := hv.of_agg
    refine ⟨cs, cs'.toArray, h2, rfl, by simpa using hc, fun x hx => ?_⟩
    obtain ⟨i, hi⟩ := List.getElem?_of_mem hx
    have hi2 : cs'[i]? = some x := by simpa using hi
    have hlt : i < cs.length := by
      rw [hc.len]
      rcases Nat.lt_or_ge i cs'.length with h' | h'
      · exact h'
      · rw [List.getElem?_eq_none h'] at hi2; cases hi2
    rw [flatL_eq, List.all_eq_true] at h1
    exact (hc.get i _ x (List.getElem?_eq_getElem hlt) hi2).flat_one (h1 _ (List.getElem_mem hlt))
  · obtain ⟨h1, h2⟩ := guardK_some hh
    have h3 := hv.flat_one h1
    have h4 : v'.cells = #[v'] := by cases v' <;> first | rfl | (simp [Value.oneCell'] at h3)
    exact ⟨[v], #[v'], h2, h4, RL.cons hv (RL.nil ρ), fun x hx => by simp at hx; subst hx; exact h3⟩

/-! ### New blocks -/
theorem Low.push {N : Zone} {w : World} (hN : ∀ q, N.keep q → q < w.heap.size) (o : Obj) : Low N w { w with heap := w.heap.push o } :=
  ⟨rfl, rfl, rfl, by simp, fun k hk => by have := hN k hk; show (w.heap.push o)[k]? = _; rw [Array.getElem?_push, if_neg (by omega)]⟩
theorem push_get (w : World) (o : Obj) : ({ w with heap := w.heap.push o } : World).heap[w.heap.size]? = some o := by simp
/-- A new row of cells, of which the first are told. -/
theorem new_cells {vs : List AV} {c : Array Value} {e : TypeId} {fz : Nat × Nat} (hr : Rep ρ ⟨h.m, n⟩ N w) (hid : ρ id = none) (hlt : id < n) (hc : ∀ (i : Nat) v, vs[i]? = some v → ∃ v', c[i]? = some v' ∧ R ρ v v') (hl : vs.length ≤ c.size)
    (hfz : ∀ i, i < c.size → ¬ (fz.1 ≤ i ∧ i < fz.2)) :
    Rep (setLoc ρ id ⟨w.heap.size, 0, c.size⟩) ⟨(h.put id (.cells true vs)).m, n⟩ N { w with heap := w.heap.push (.cells c e fz) } := by
  have hg : Grows ρ (setLoc ρ id ⟨w.heap.size, 0, c.size⟩) := setLoc_grows hid
  refine Rep.new (h := ⟨h.m, n⟩) hr hid hlt (.cells c e fz) (.cells true vs) ⟨w.heap.size, 0, c.size⟩ rfl rfl ⟨c, e, fz, push_get _ _, by simp, hl, fun i v hi => ?_, ⟨fun _ => ⟨fun hk => absurd (hr.old _ hk) (Nat.lt_irrefl _), fun i _ hi => hfz i (by simpa using hi)⟩, fun hx => by cases hx⟩⟩
  obtain ⟨v', a, b⟩ := hc i v hi
  exact ⟨v', by simpa using a, b.grows hg⟩
theorem new_ptr {vs : List AV} {c : Array Value} {e : TypeId} {K : AV → Heap → Option A} {s : Sem Value} (hr : Rep ρ ⟨h.m, n⟩ N w) (hid : ρ id = none) (hlt : id < n) (hc : RL ρ vs c.toList)
    (hk : K (.ptr (some (id, 0))) (h.put id (.cells true vs)) = some r) (hs : s.run P w = .ok (.pointer (some ⟨w.heap.size, 0, none⟩)) { w with heap := w.heap.push (.cells c e) }) :
    SimM P ρ N n id h w s K r := by
  have hl : vs.length = c.size := by simpa using hc.len
  refine ⟨_, _, _, _, setLoc ρ id ⟨w.heap.size, 0, c.size⟩, hk, rfl, hs, setLoc_growsS hid, fun b hb => by simp [setLoc, hb], new_cells hr hid hlt (fun i v hi => ?_) (by omega) (by simp), ?_, Low.push hr.old _⟩
  · obtain ⟨v', a, b⟩ := hc.get_some hi
    exact ⟨v', by simpa using a, b⟩
  · have := R.ptr (ρ := setLoc ρ id ⟨w.heap.size, 0, c.size⟩) (b := id) (o := 0) (p := ⟨w.heap.size, 0, c.size⟩) (by simp [setLoc])
    simpa using this
theorem sim_alloc {t : TypeId} {K : AV → Heap → Option A} (hr : Rep ρ ⟨h.m, n⟩ N w) (hid : ρ id = none) (hlt : id < n)
    (hh : (zeroK P t fun zs => K (.ptr (some (id, 0))) (h.put id (.cells true zs))) = some r) : SimM P ρ N n id h w (Instr.alloc t true (.tuple #[])) K r := by
  obtain ⟨i, z, h1, h2, hk⟩ := zeroK_some hh
  refine new_ptr (c := z.cells) (e := t) hr hid hlt (RL.ofLits ρ z.cells.toList) hk ?_
  simp [Instr.alloc, run_zero h1 h2, newVar, newRow]
theorem sim_box {t : TypeId} {x : AV} {x' : Value} {K : AV → Heap → Option A} (hr : Rep ρ ⟨h.m, n⟩ N w) (hid : ρ id = none) (hlt : id < n) (hx : R ρ x x')
    (hh : (cellsK x fun cs => K (.ptr (some (id, 0))) (h.put id (.cells true cs))) = some r) : SimM P ρ N n id h w (Instr.box t x') K r := by
  obtain ⟨cs, cs', hk, hc, hl, _⟩ := cellsK_some hx hh
  refine new_ptr (c := cs') (e := t) hr hid hlt hl hk ?_
  simp [Instr.box, newVar, newRow, hc]

/-! ### Composite literals -/
theorem fold_cells (off : Nat) : ∀ (vs : List Value) (k : Nat) (cells : Array Value), off + k + vs.length ≤ cells.size →
    ((vs.zipIdx k).foldl (fun (cs : Array Value) (x : Value × Nat) => cs.setIfInBounds (off + x.2) x.1) cells).size = cells.size ∧
    ∀ i : Nat, ((vs.zipIdx k).foldl (fun (cs : Array Value) (x : Value × Nat) => cs.setIfInBounds (off + x.2) x.1) cells)[i]? = if off + k ≤ i ∧ i < off + k + vs.length then vs[i - (off + k)]? else cells[i]?
  | [], k, cells, _ => ⟨rfl, fun i => by rw [if_neg (by simp only [List.length_nil]; omega)]; rfl⟩
  | v :: vs, k, cells, hl => by
    simp only [List.length_cons] at hl
    obtain ⟨h1, h2⟩ := fold_cells off vs (k + 1) (cells.setIfInBounds (off + k) v) (by simp only [Array.size_setIfInBounds]; omega)
    simp only [List.zipIdx_cons, List.foldl_cons]
    refine ⟨by rw [h1]; simp, fun i => ?_⟩
    rw [h2]
    simp only [List.length_cons]
    by_cases e1 : off + k = i
    · subst e1
      rw [if_neg (by omega), if_pos (by omega)]
      have : off + k < cells.size := by omega
      simp [this]
    · by_cases e2 : off + (k + 1) ≤ i ∧ i < off + (k + 1) + vs.length
      · rw [if_pos e2, if_pos (by omega)]
        rw [show i - (off + k) = (i - (off + (k + 1))) + 1 by omega]; simp
      · rw [if_neg e2, if_neg (by omega)]
        simp [e1]
/-- The parts of a literal, each as it is told. -/
def Parts (ρ : Loc) : List (Nat × AV) → List (Nat × Value) → Prop
  | [], [] => True
  | x :: xs, y :: ys => x.1 = y.1 ∧ R ρ x.2 y.2 ∧ Parts ρ xs ys
  | _, _ => False
theorem Parts.map {e : Operand → AV} {e' : Operand → Value} (he : ∀ x, R ρ (e x) (e' x)) : ∀ l : List (Nat × Operand), Parts ρ (l.map fun p => (p.1, e p.2)) (l.map fun p => (p.1, e' p.2))
  | [] => trivial
  | _ :: xs => ⟨rfl, he _, Parts.map he xs⟩
theorem fill_some {place : Nat → Option (Nat × Nat)} : ∀ (parts : List (Nat × AV)) (parts' : List (Nat × Value)) (cs : List AV) (cs' : Array Value) (K : List AV → Option A), Parts ρ parts parts' → RL ρ cs cs'.toList →
    fillA place parts cs K = some r → ∃ ds ds', K ds = some r ∧ Instr.fill place cs' parts' = some ds' ∧ RL ρ ds ds'.toList
  | [], [], cs, cs', K, _, hc, hh => ⟨cs, cs', hh, rfl, hc⟩
  | (i, v) :: rest, (j, v') :: rest', cs, cs', K, hp, hc, hh => by
    obtain ⟨rfl, hv, hp⟩ := hp
    simp only [fillA] at hh
    split at hh
    · cases hh
    · rename_i off size hpl
      obtain ⟨vs, vs', hk, e1, hl, _⟩ := cellsK_some hv hh
      obtain ⟨h1, hk1⟩ := guardK_some hk
      obtain ⟨h2, hk2⟩ := guardK_some hk1
      rw [lenA_eq] at h1 h2
      rw [lenA_eq] at h2
      have h1 := Nat.eq_of_beq_eq_true h1
      have h2 := Nat.le_of_ble_eq_true h2
      have hlv := hl.len
      have hlc := hc.len
      simp only [Array.length_toList] at hlv hlc
      obtain ⟨f1, f2⟩ := fold_cells off vs'.toList 0 cs' (by simp only [Array.length_toList]; omega)
      simp only [Array.length_toList] at f2
      have hc' : RL ρ (splice cs off vs) ((vs'.toList.zipIdx 0).foldl (fun (cs : Array Value) (x : Value × Nat) => cs.setIfInBounds (off + x.2) x.1) cs').toList := by
        refine ⟨by rw [splice_length]; simp only [Array.length_toList]; omega, fun q x x' a b => ?_⟩
        rw [splice_get _ _ _ _ h2] at a
        rw [Array.getElem?_toList, f2] at b
        by_cases hin : off ≤ q ∧ q < off + vs.length
        · rw [if_pos hin] at a
          rw [if_pos (by omega)] at b
          exact hl.get _ _ _ a b
        · rw [if_neg hin] at a
          rw [if_neg (by omega)] at b
          exact hc.get _ _ _ a (by simpa using b)
      obtain ⟨ds, ds', a, b, c⟩ := fill_some rest rest' _ _ K hp hc' hk2
      refine ⟨ds, ds', a, ?_, c⟩
      have hn : ¬ (v'.cells.size ≠ size ∨ off + v'.cells.size > cs'.size) := by rw [e1]; omega
      have hn1 : v'.cells.size = size := by rw [e1]; omega
      have hn2 : ¬ (off + v'.cells.size > cs'.size) := by rw [e1]; omega
      simp only [Instr.fill, hpl, hn1, ne_eq, not_true_eq_false, decide_false, Bool.false_or, decide_eq_true_eq]
      rw [hn1] at hn2
      rw [if_neg hn2, e1]
      have : (vs'.zipIdx.foldl (fun (cs : Array Value) (x : Value × Nat) => cs.setIfInBounds (off + x.2) x.1) cs') = ((vs'.toList.zipIdx 0).foldl (fun (cs : Array Value) (x : Value × Nat) => cs.setIfInBounds (off + x.2) x.1) cs') := by
        rw [← Array.foldl_toList, Array.toList_zipIdx]
      rw [this]
      exact b
theorem places_some : ∀ (fs : List Field) (i : Nat), placesOf P fs i = (fs[i]?).bind fun f => (P.info? f.type).map fun x => (f.offset, x.size)
  | [], i => by simp [placesOf]
  | f :: fs, 0 => by simp [placesOf]; cases P.info? f.type <;> rfl
  | f :: fs, i + 1 => by simp [placesOf, places_some fs i]
end
end Go.Ev
/- Composite literals, slices that are made, conversions: the evaluator's answers are the model's. -/
namespace Go.Ev
open Go.RowKit
section
variable {A : Type} {P : Program} {r : A} {ρ : Loc} {N : Zone} {n id : Nat} {h : Heap} {w : World}

theorem mapM_places : ∀ (fs : List Field) (pl : List (Nat × Nat)), True → (∀ (i : Nat) f, fs[i]? = some f → ∃ x, P.info? f.type = some x ∧ pl[i]? = some (f.offset, x.size)) → pl.length = fs.length →
    ∀ w, (fs.mapM (m := Sem) fun f => do pure (f.offset, ← sizeOf f.type)).run P w = .ok pl w
  | [], pl, _, _, hl, w => by
    cases pl with
    | nil => simp
    | cons _ _ => simp at hl
  | f :: fs, pl, _, hp, hl, w => by
    cases pl with
    | nil => simp at hl
    | cons q pl =>
      obtain ⟨x, h1, h2⟩ := hp 0 f (by simp)
      simp at h2
      have ih := mapM_places fs pl trivial (fun i g hg => by
        obtain ⟨y, a, b⟩ := hp (i + 1) g (by simpa using hg)
        exact ⟨y, a, by simpa using b⟩) (by simpa using hl) w
      simp only [List.mapM_cons, Sem.run_bind, run_size h1, Result.andThen_ok, Sem.run_pure]
      rw [ih]
      simp [h2]
/-- The struct's fields are all known: else nothing would be told. -/
theorem fieldsKnownA_eq (fs : List Field) : fieldsKnownA P fs = fs.all fun f => (P.info? f.type).isSome := by
  induction fs <;> simp_all [fieldsKnownA]
theorem sim_build {t : TypeId} {parts : List (Nat × AV)} {parts' : List (Nat × Value)} {K : AV → Option A} (hp : Parts ρ parts parts') (hh : buildK P t parts K = some r) : SimV P ρ (Instr.build t parts'.toArray) K r := by
  obtain ⟨i, z, h1, h2, hk⟩ := zeroK_some hh
  obtain ⟨d, hd, hk1⟩ := tyK_some hk
  clear hh hk
  split at hk1
  · rename_i fs
    obtain ⟨hf, hk1⟩ := guardK_some hk1
    obtain ⟨ds, ds', a, b, c⟩ := fill_some parts parts' _ z.cells _ hp (RL.ofLits ρ z.cells.toList) hk1
    have hf' : ∀ f ∈ fs.toList, (P.info? f.type).isSome = true := by rw [fieldsKnownA_eq] at hf; exact List.all_eq_true.1 hf
    let pl : List (Nat × Nat) := fs.toList.map fun f => (f.offset, ((P.info? f.type).map (·.size)).getD 0)
    have hrun : ∀ w, (fs.mapM (m := Sem) fun f => do pure (f.offset, ← sizeOf f.type)).run P w = .ok pl.toArray w := by
      intro w
      rw [Array.mapM_eq_mapM_toList]
      have := mapM_places (P := P) fs.toList pl trivial (fun i f hi => by
        obtain ⟨x, hx⟩ := Option.isSome_iff_exists.1 (hf' f (List.mem_of_getElem? hi))
        exact ⟨x, hx, by simp [pl, hi, hx]⟩) (by simp [pl]) w
      simp only [Sem.run_map, this, Result.andThen_ok]
    have hpl : (fun i => pl.toArray[i]?) = placesOf P fs.toList := by
      funext i
      rw [places_some]
      cases hi : fs.toList[i]? with
      | none => simp [pl, hi]
      | some f =>
        obtain ⟨x, hx⟩ := Option.isSome_iff_exists.1 (hf' f (List.mem_of_getElem? hi))
        simp [pl, hi, hx]
    refine ⟨_, .agg ds', a, ?_, fun w => ?_⟩
    · have := c.agg; simpa using this
    · simp only [Instr.build, Sem.run_bind, run_zero h1 h2, Result.andThen_ok, run_und hd, hrun]
      rw [hpl, b]
      rfl
  · rename_i e
    obtain ⟨j, h3, hk2⟩ := sizeK_some hk1
    obtain ⟨ds, ds', a, b, c⟩ := fill_some parts parts' _ z.cells _ hp (RL.ofLits ρ z.cells.toList) hk2
    refine ⟨_, .agg ds', a, ?_, fun w => ?_⟩
    · have := c.agg; simpa using this
    · simp only [Instr.build, Sem.run_bind, run_zero h1 h2, Result.andThen_ok, run_und hd, run_size h3]
      rw [b]
      rfl
  · cases hk1

/-- Zero values one behind the other. -/
theorem repL_length (zs : List AV) (k : Nat) : (repL zs k).length = k * zs.length := by
  induction k with
  | zero => simp [repL]
  | succ k ih => simp [repL, appA_eq, ih, Nat.succ_mul, Nat.add_comm]
theorem repL_get (zs : List AV) : ∀ (k i : Nat), i < k * zs.length → (repL zs k)[i]? = zs[i % zs.length]?
  | 0, i, hi => by simp at hi
  | k + 1, i, hi => by
    simp only [repL, appA_eq]
    rw [Nat.succ_mul] at hi
    by_cases h1 : i < zs.length
    · rw [List.getElem?_append_left h1, Nat.mod_eq_of_lt h1]
    · rw [List.getElem?_append_right (by omega), repL_get zs k _ (by omega)]
      rw [Nat.mod_eq_sub_mod (by omega : i ≥ zs.length)]
theorem zeros_told (z : Array Value) (k : Nat) : RL ρ (repL (z.toList.map ofLit1) k) ((Array.range (k * z.size)).map fun i => z[i % z.size]!).toList := by
  refine ⟨by simp [repL_length], fun i v v' a b => ?_⟩
  have hi : i < k * z.size := by
    rcases Nat.lt_or_ge i (k * z.size) with h' | h'
    · exact h'
    · rw [List.getElem?_eq_none (by simpa using h')] at b; cases b
  rw [repL_get _ _ _ (by simpa using hi)] at a
  have hz : 0 < z.size := by
    rcases Nat.eq_zero_or_pos z.size with h0 | h0
    · rw [h0] at hi; simp at hi
    · exact h0
  have hm : i % z.size < z.size := Nat.mod_lt _ hz
  have e1 : ((Array.range (k * z.size)).map fun i => z[i % z.size]!).toList[i]? = some (z[i % z.size]!) := by
    simp [hi]
  rw [e1] at b
  cases b
  simp only [List.length_map, Array.length_toList] at a
  have e2 : z[i % z.size]! = z[i % z.size] := by simp [hm]
  rw [e2]
  simp only [List.getElem?_map, Array.getElem?_toList, Array.getElem?_eq_getElem hm, Option.map_some, Option.some.injEq] at a
  subst a
  exact .ofLit1 ρ _
theorem new_slice {vs : List AV} {c : Array Value} {e : TypeId} {fz : Nat × Nat} {K : AV → Heap → Option A} {s : Sem Value} {len cap cap' sz : Nat} {ex : Bool} {w₀ : World} (hr : Rep ρ ⟨h.m, n⟩ N w) (hid : ρ id = none) (hlt : id < n)
    (hc : ∀ (i : Nat) v, vs[i]? = some v → ∃ v', c[i]? = some v' ∧ R ρ v v') (hvl : vs.length ≤ c.size) (hfz : ∀ i, i < c.size → ¬ (fz.1 ≤ i ∧ i < fz.2))
    (hlen : len ≤ cap) (hcap : cap ≤ cap') (hex : ex = true → cap' = cap) (hl : cap' * sz ≤ c.size)
    (hk : K (.sl (some (id, 0)) len cap ex sz) (h.put id (.cells true vs)) = some r) (hw : Low N w₀ w)
    (hs : s.run P w₀ = .ok (.slice (some ⟨w.heap.size, 0, none⟩) len cap') { w with heap := w.heap.push (.cells c e fz) }) :
    SimM P ρ N n id h w₀ s K r := by
  refine ⟨_, _, _, _, setLoc ρ id ⟨w.heap.size, 0, c.size⟩, hk, rfl, hs, setLoc_growsS hid, fun b hb => by simp [setLoc, hb], new_cells hr hid hlt hc hvl hfz, ?_, hw.trans (Low.push hr.old _)⟩
  exact .sl (p := ⟨w.heap.size, 0, c.size⟩) (by simp [setLoc]) hcap hex (fun _ => ⟨by simp, by simpa using hl⟩) hlen
theorem sim_buildSlice {t : TypeId} {len : Nat} {parts : List (Nat × AV)} {parts' : List (Nat × Value)} {K : AV → Heap → Option A} (hr : Rep ρ ⟨h.m, n⟩ N w) (hid : ρ id = none) (hlt : id < n) (hp : Parts ρ parts parts')
    (hh : buildSliceK P t len parts h id K = some r) : SimM P ρ N n id h w (Instr.buildSlice t len parts'.toArray) K r := by
  obtain ⟨d, hd, hk⟩ := tyK_some hh
  clear hh
  split at hk
  · rename_i e
    obtain ⟨i, h1, hk1⟩ := sizeK_some hk
    obtain ⟨i', z, h1', h2, hk2⟩ := zeroK_some hk1
    rw [h1] at h1'; cases h1'
    obtain ⟨g1, hk3⟩ := guardK_some hk2
    obtain ⟨g2, hk4⟩ := guardK_some hk3
    have g1 := Nat.le_of_ble_eq_true g1
    have g2 := Nat.eq_of_beq_eq_true g2
    rw [lenA_eq] at g2
    simp only [List.length_map, Array.length_toList] at g2
    have hz := zeros_told (ρ := ρ) z.cells len
    rw [g2] at hz
    let zero : Array Value := if len * i.size = 0 then #[] else z.cells
    have hzero : (Array.range (len * i.size)).map (fun q => zero[q % zero.size]!) = (Array.range (len * i.size)).map (fun q => z.cells[q % i.size]!) := by
      by_cases h0 : len * i.size = 0
      · rw [h0]; simp
      · simp only [zero, if_neg h0, g2]
    obtain ⟨ds, ds', a0, b, c⟩ := fill_some parts parts' _ _ _ hp hz hk4
    obtain ⟨g3, a⟩ := guardK_some a0
    have hl := c.len
    have hdl : ds.length = len * i.size := by rw [lenA_eq] at g3; exact Nat.eq_of_beq_eq_true g3
    have hds : ds'.size = len * i.size := by simp only [Array.length_toList] at hl; omega
    refine new_slice (c := ds') (len := len) (cap := len) (cap' := len) (sz := i.size) (ex := true) (e := e) (fz := (0, 0)) hr hid hlt (fun j v hj => ?_) (by simp only [Array.length_toList] at hl; omega) (by simp) (Nat.le_refl _) (Nat.le_refl _) (fun _ => rfl) (by omega) a (Low.refl _ _) ?_
    · obtain ⟨v', p, q⟩ := c.get_some hj
      exact ⟨v', by simpa using p, q⟩
    · have hgt : ¬ (len * i.size > 2 ^ 24) := by omega
      by_cases h0 : len * i.size = 0
      · have hz0 : zero = #[] := by simp [zero, h0]
        rw [← hzero, hz0, h0] at b
        have hgt0 : ¬ (0 > 2 ^ 24) := by decide
        simp only [Instr.buildSlice, Sem.run_bind, run_und hd, Result.andThen_ok, run_size h1, h0, if_true, Sem.run_pure, hgt0, if_false, Sem.run_ite]
        rw [b]
        rfl
      · have hz0 : zero = z.cells := by simp [zero, h0]
        rw [← hzero, hz0] at b
        simp only [Instr.buildSlice, Sem.run_bind, run_und hd, Result.andThen_ok, run_size h1, h0, hgt, if_false, Sem.run_ite, run_zero h1 h2, Sem.run_pure]
        rw [b]
        rfl
  · cases hk
end
end Go.Ev
/- Slices that are made, appended to, copied: the evaluator's answers are the model's. -/
namespace Go.Ev
open Go.RowKit
section
variable {A : Type} {P : Program} {r : A} {ρ : Loc} {N : Zone} {n id : Nat} {h : Heap} {w : World}

theorem wrap_small {x : Int} (h0 : 0 ≤ x) (h1 : x ≤ 140737488355328) : IntKind.i64.wrap x = x := by
  have e : (2 ^ IntKind.i64.bits : Int) = 18446744073709551616 := rfl
  have e2 : (2 ^ (IntKind.i64.bits - 1) : Int) = 9223372036854775808 := rfl
  have e3 : IntKind.i64.signed = true := rfl
  unfold IntKind.wrap
  rw [e, e2, e3]
  have hm : x % 18446744073709551616 = x := by omega
  simp only [hm, Bool.true_and]
  rw [if_neg (by simp; omega)]
theorem sim_makeSlice {t : TypeId} {l c : AV} {l' c' : Value} {K : AV → Heap → Option A} (hr : Rep ρ ⟨h.m, n⟩ N w) (hid : ρ id = none) (hlt : id < n) (hl : R ρ l l') (hc : R ρ c c')
    (hh : makeSliceK P t l c h id K = some r) : SimM P ρ N n id h w (Instr.makeSlice t l' c') K r := by
  obtain ⟨d, hd, hk⟩ := tyK_some hh
  clear hh
  split at hk
  · rename_i e
    obtain ⟨li, rfl, hk1⟩ := asInt_some hk
    obtain ⟨ci, rfl, hk2⟩ := asInt_some hk1
    have := hl.int_inv; subst this
    have := hc.int_inv; subst this
    clear hk hk1
    obtain ⟨i, h1, hk3⟩ := sizeK_some hk2
    obtain ⟨i', h1', hk4⟩ := bytesK_some hk3
    rw [h1] at h1'; cases h1'
    obtain ⟨i', z, h1', h2, hk5⟩ := zeroK_some hk4
    rw [h1] at h1'; cases h1'
    obtain ⟨g1, hk6⟩ := guardK_some hk5
    obtain ⟨g2, hk7⟩ := guardK_some hk6
    clear hk2 hk3 hk4 hk5 hk6
    have g2 := Nat.eq_of_beq_eq_true g2
    rw [lenA_eq] at g2
    simp only [List.length_map, Array.length_toList] at g2
    simp only [Bool.and_eq_true, decide_eq_true_eq] at g1
    obtain ⟨⟨⟨g3, g4⟩, g5⟩, g6⟩ := g1
    unfold limit at g5 g6
    have g5' : ci ≤ 140737488355328 := g5
    have g6' : (i.bytes : Int) * ci ≤ 140737488355328 := g6
    have w1 := wrap_small g3 (by omega)
    have w2 := wrap_small (by omega : 0 ≤ ci) g5'
    have hz := zeros_told (ρ := ρ) z.cells ci.toNat
    rw [g2] at hz
    have hlz := hz.len
    have hsz : ((Array.range (ci.toNat * i.size)).map fun q => z.cells[q % i.size]!).size = ci.toNat * i.size := by simp
    refine new_slice (c := (Array.range (ci.toNat * i.size)).map fun q => z.cells[q % i.size]!) (e := e) (fz := (0, 0)) (len := li.toNat) (cap := ci.toNat) (cap' := ci.toNat) (sz := i.size) (ex := true) hr hid hlt (fun j v hj => ?_) (by simp only [Array.length_toList] at hlz; omega) (by simp) (by omega) (Nat.le_refl _) (fun _ => rfl) (by omega) hk7 (Low.refl _ _) ?_
    · obtain ⟨v', p, q⟩ := hz.get_some hj
      exact ⟨v', by rw [← Array.getElem?_toList]; exact p, q⟩
    · have hno : ¬ (ci < 0) := by omega
      have hno2 : ¬ (li < 0) := by omega
      have hno3 : ¬ (li > ci) := by omega
      have hno4 : ¬ ((i.bytes : Int) * ci > 281474976710656) := by omega
      have hp : (2 : Int) ^ 48 = 281474976710656 := rfl
      by_cases h0 : ci.toNat * i.size = 0
      · simp [Instr.makeSlice, run_und hd, Go.asInt, Go.asIntOf, run_info h1, run_size h1, w1, w2, hno, hno2, hno3, hno4, h0, newRow]
        have hr0 : ∀ f g : Nat → Value, (Array.range 0).map f = (Array.range 0).map g := fun f g => by apply Array.ext <;> simp
        rw [hr0 (fun _ => default) (fun q => z.cells[q % i.size]!)]
      · simp [Instr.makeSlice, run_und hd, Go.asInt, Go.asIntOf, run_info h1, run_size h1, run_zero h1 h2, w1, w2, hno, hno2, hno3, hno4, h0, newRow, g2]
  · cases hk

/-! ### append -/
theorem growBy_le (newLen B : Nat) (hB : ∀ c, c < newLen → c + (c + 768) / 4 ≤ B) : ∀ (k c : Nat), c ≤ B → Builtin.growBy newLen k c ≤ B
  | 0, c, hc => hc
  | k + 1, c, hc => by
    simp only [Builtin.growBy]
    split
    · exact hc
    · exact growBy_le newLen B hB k _ (hB c (by omega))
theorem nextcap_le {need old : Nat} (hlt : old < need) : Builtin.nextslicecap need old ≤ 2 * need := by
  unfold Builtin.nextslicecap
  split
  · omega
  · split
    · omega
    · exact growBy_le need (2 * need) (fun c hc => by omega) 4 old (by omega)
theorem cell_same {w w' : World} (hw : w'.heap = w.heap) (a : Addr) : w'.cell? a = w.cell? a := by unfold World.cell?; rw [hw]
theorem srcK_some {size : Nat} {x : AV} {x' : Value} {K : Nat → List AV → Option A} (hr : Rep ρ ⟨h.m, n⟩ N w) (hx : R ρ x x') (hh : srcK size x h K = some r) :
    ∃ k cs cs', K k cs = some r ∧ (∀ w, (Builtin.lenOf x').run P w = .ok k w) ∧ (∀ w', w'.heap = w.heap → ∀ j, j ≤ k → (Builtin.firstCells size j x').run P w' = .ok (cs'.take (j * size)).toArray w') ∧ RL ρ cs cs' ∧ cs.length = k * size := by
  have slc : ∀ (p : Nat × Nat) (len cap : Nat) (ex : Bool) (sz : Nat), R ρ (.sl (some p) len cap ex sz) x' → (bif Nat.beq len 0 then K 0 [] else guardK (Nat.beq sz size) (ldN h p (len * size) fun cs => K len cs)) = some r →
      ∃ k cs cs', K k cs = some r ∧ (∀ w, (Builtin.lenOf x').run P w = .ok k w) ∧ (∀ w', w'.heap = w.heap → ∀ j, j ≤ k → (Builtin.firstCells size j x').run P w' = .ok (cs'.take (j * size)).toArray w') ∧ RL ρ cs cs' ∧ cs.length = k * size := by
    intro p len cap ex sz hx hh
    obtain ⟨b, o⟩ := p
    obtain ⟨q, a, cap', q1, rfl, q2, q3, q4, q5⟩ := hx.sl_inv
    by_cases h0 : len = 0
    · subst h0
      simp at hh
      refine ⟨0, [], [], hh, fun w => by simp [Builtin.lenOf], fun w' _ j hj => ?_, RL.nil ρ, by simp⟩
      have : j = 0 := by omega
      subst this
      simp [Builtin.firstCells, loadCells, loadCellsFrom]
    · have hb : Nat.beq len 0 = false := by
        cases hb : Nat.beq len 0 with
        | false => rfl
        | true => exact absurd (Nat.eq_of_beq_eq_true hb) h0
      simp only [hb, cond_false] at hh
      obtain ⟨h1, hk⟩ := guardK_some hh
      have h1 := Nat.eq_of_beq_eq_true h1
      subst h1
      obtain ⟨wr, vs, g1, g2, g3⟩ := ldN_some hk
      obtain ⟨p', cs', e1, e2, e3, e4⟩ := cells_there (h := ⟨h.m, n⟩) hr g1 g2
      rw [q1] at e1; cases e1
      obtain ⟨ha, _⟩ := q4 (by omega)
      subst ha
      refine ⟨len, _, cs', g3, fun w => by simp [Builtin.lenOf], fun w' hw j hj => ?_, e3, by simp; omega⟩
      have hle : j * sz ≤ len * sz := Nat.mul_le_mul_right _ hj
      simp only [Builtin.firstCells]
      exact run_cells (by simp; omega) fun i v hi => by
        rw [cell_same hw]
        refine e4 i v ?_
        simp only [List.getElem?_take] at hi
        split at hi
        · exact hi
        · cases hi
  unfold srcK at hh
  split at hh
  · obtain ⟨h1, hk⟩ := guardK_some hh
    obtain ⟨rfl, rfl, _, _⟩ := hx.nils_inv
    exact ⟨0, [], [], hk, fun w => by simp [Builtin.lenOf], fun w' _ j hj => by simp [Builtin.firstCells], RL.nil ρ, by simp⟩
  · exact slc _ _ _ _ _ hx hh
  · exact slc _ _ _ _ _ hx.gr_sl hh
  · rename_i s
    obtain ⟨h1, hk⟩ := guardK_some hh
    have h1 := Nat.eq_of_beq_eq_true h1
    subst h1
    obtain ⟨s', rfl, rfl⟩ := hx.str_inv
    have hcs : ∀ l : List UInt8, cellsOfS l = l.map fun b => AV.int .u8 b.toNat := by
      intro l; induction l <;> simp_all [cellsOfS]
    refine ⟨_, _, s'.data.toList.map fun b => .int .u8 b.toNat, hk, fun w => by simp [Builtin.lenOf, lenS_eq], fun w' _ j hj => ?_, ?_, by simp [hcs, lenS_eq]⟩
    · rw [lenS_eq] at hj
      simp only [Builtin.firstCells, Sem.run_pure]
      congr 1
      apply Array.ext'
      simp only [Array.toList_map]
      rw [Lib.extract_data]
      simp [List.map_take]
    · rw [hcs]
      exact RL.map _ _ _ fun b _ => .int _ _
  · rename_i cs len ex sz
    obtain ⟨a, cap', rfl, g1, g2, g3, g4, g5⟩ := hx.fz_inv
    by_cases h0 : len = 0
    · subst h0
      simp at hh
      refine ⟨0, [], [], hh, fun w => by simp [Builtin.lenOf], fun w' _ j hj => ?_, RL.nil ρ, by simp⟩
      have : j = 0 := by omega
      subst this
      cases a <;> simp [Builtin.firstCells, loadCells, loadCellsFrom]
    · have hb : Nat.beq len 0 = false := by
        cases hb : Nat.beq len 0 with
        | false => rfl
        | true => exact absurd (Nat.eq_of_beq_eq_true hb) h0
      simp only [hb, cond_false] at hh
      obtain ⟨h1, hk⟩ := guardK_some hh
      have h1 := Nat.eq_of_beq_eq_true h1
      subst h1
      obtain ⟨b, q, o, cs0, f1, rfl, f2, f3⟩ := g1 (by omega)
      obtain ⟨cs', e1, e2, e3⟩ := frz_cells hr f1 f3
      rw [← f2] at e1
      refine ⟨len, cs, cs', hk, fun w => by simp [Builtin.lenOf], fun w' hw j hj => ?_, e1, g3⟩
      have hle : j * sz ≤ len * sz := Nat.mul_le_mul_right _ hj
      simp only [Builtin.firstCells]
      exact run_cells (p := ⟨b, q, 0⟩) (by simp; omega) fun i v hi => by
        rw [cell_same hw]
        refine e3 i v ?_
        simp only [List.getElem?_take] at hi
        split at hi
        · exact hi
        · cases hi
  · cases hh
end
end Go.Ev
/- append, copy, clear: the evaluator's answers are the model's. -/
namespace Go.Ev
open Go.RowKit
section
variable {A : Type} {P : Program} {r : A} {ρ : Loc} {N : Zone} {n id : Nat} {h : Heap} {w : World}

theorem flat_cells {cs : List AV} {cs' : List Value} (hc : RL ρ cs cs') (hf : flatL cs = true) : ∀ v ∈ cs', v.oneCell' = true := by
  intro x hx
  obtain ⟨i, hi⟩ := List.getElem?_of_mem hx
  have hlt : i < cs.length := by
    rw [hc.len]
    rcases Nat.lt_or_ge i cs'.length with h' | h'
    · exact h'
    · rw [List.getElem?_eq_none h'] at hi; cases hi
  rw [flatL_eq, List.all_eq_true] at hf
  exact (hc.get i _ x (List.getElem?_eq_getElem hlt) hi).flat_one (hf _ (List.getElem_mem hlt))
/-- What is appended, in the model: the cells of a slice or a string, or so many zeros. -/
def Src (P : Program) (xt : TypeId) (i : TypeInfo) (z x' : Value) (k : Nat) (cs' : List Value) (w : World) : Prop :=
  (((∃ q, P.underlying xt = some (.slice q)) ∨ P.underlying xt = some .string) ∧ (∀ w, (Builtin.lenOf x').run P w = .ok k w) ∧ ∀ w' : World, w'.heap = w.heap → (Builtin.firstCells i.size k x').run P w' = .ok cs'.toArray w') ∨
  (∃ kk kk' l, P.underlying xt = some (.int kk) ∧ x' = .int kk' l ∧ IntKind.i64.wrap l = (k : Int) ∧ (if k * i.size = 0 then #[] else Builtin.zeroCells z.cells k) = cs'.toArray ∧ k * i.bytes ≤ limit)
theorem append_head {st et xt : TypeId} {i : TypeInfo} {z : Value} {x' : Value} {base : Option Addr} {len cap k : Nat} {cs' : List Value} {ty : TypeId} (hs : P.underlying st = some (.slice et))
    (hi : P.info? et = some i) (hz : i.zero = some z) (hx : Src P xt i z x' k cs' w) (hin : len + k ≤ cap) :
    (Builtin.append_ #[st, xt] ty #[.slice base len cap, x']).run P w = ((match base with | some a => storeCells (a.add (len * i.size)) cs' | none => pure () : Sem Unit).run P w).andThen fun _ w' => .ok (.slice base (len + k) cap) w' := by
  rcases hx with ⟨hxt, hlen, hcs⟩ | ⟨kk, kk', l, hd, rfl, hl, hcs, hb⟩
  · have hcs := hcs w rfl
    rcases hxt with ⟨q, hd⟩ | hd <;> cases base <;> simp [Builtin.append_, run_und hs, run_size hi, run_und hd, hlen, hin, hcs]
  · have hno : ¬ (281474976710656 < (k : Int) * (i.bytes : Int)) := by
      have e : ((k * i.bytes : Nat) : Int) = (k : Int) * (i.bytes : Int) := Int.natCast_mul _ _
      rw [← e]
      unfold limit at hb
      omega
    have hnn : ¬ ((k : Int) < 0) := by omega
    by_cases h0 : k * i.size = 0
    · rw [if_pos h0] at hcs
      have hcs' : cs' = [] := by simpa using hcs.symm
      subst hcs'
      cases base <;> simp [Builtin.append_, run_und hs, run_size hi, run_und hd, Go.asInt, Go.asIntOf, hl, hnn, run_info hi, hno, hin, h0, storeCells]
    · rw [if_neg h0] at hcs
      cases base <;> simp [Builtin.append_, run_und hs, run_size hi, run_und hd, Go.asInt, Go.asIntOf, hl, hnn, run_info hi, hno, hin, h0, run_zero hi hz, hcs]
theorem append_grow {st et xt : TypeId} {i : TypeInfo} {z : Value} {x' : Value} {base : Option Addr} {len cap k : Nat} {cs' old : List Value} {ty : TypeId} (hs : P.underlying st = some (.slice et))
    (hi : P.info? et = some i) (hz : i.zero = some z) (hx : Src P xt i z x' k cs' w) (hin : ¬ (len + k ≤ cap))
    (hold : (Builtin.firstCells i.size len (.slice base len cap)).run P w.drew = .ok old.toArray w.drew) (hb1 : (len + k) * i.bytes ≤ limit) (hb2 : len + k ≤ limit) :
    ∃ newCap, len + k ≤ newCap ∧ (Builtin.append_ #[st, xt] ty #[.slice base len cap, x']).run P w = .ok (.slice (some ⟨w.heap.size, 0, none⟩) (len + k) newCap)
      (w.drew.alloc (.cells (old.toArray ++ cs'.toArray ++ Builtin.zeroCells z.cells (newCap - (len + k))) et)) := by
  have hno : ¬ (281474976710656 < Builtin.nextslicecap (len + k) cap * i.bytes) := by
    have := growslice_fits (by omega : cap < len + k) hb1
    omega
  have hno2 : ¬ (9223372036854775807 < ((len : Int) + (k : Int))) := by
    unfold limit at hb2
    omega
  refine ⟨grownCap w (len + k) cap et, by simp [grownCap, Question.cut], ?_⟩
  rcases hx with ⟨hxt, hlen, hcs⟩ | ⟨kk, kk', l, hd, rfl, hl, hcs, hb⟩
  · have hcs := hcs w.drew rfl
    rcases hxt with ⟨q, hd⟩ | hd
    · simp [Builtin.append_, run_und hs, run_size hi, run_und hd, hlen, hin, run_info hi, hno, hno2, Question.forced, run_zero hi hz, newRow, hcs, hold, grownCap]
      congr 2
      apply Array.ext'
      simp [List.append_assoc]
    · simp [Builtin.append_, run_und hs, run_size hi, run_und hd, hlen, hin, run_info hi, hno, hno2, Question.forced, run_zero hi hz, newRow, hcs, hold, grownCap]
      congr 2
      apply Array.ext'
      simp [List.append_assoc]
  · have hno3 : ¬ (281474976710656 < (k : Int) * (i.bytes : Int)) := by
      have e : ((k * i.bytes : Nat) : Int) = (k : Int) * (i.bytes : Int) := Int.natCast_mul _ _
      rw [← e]
      unfold limit at hb
      omega
    have hnn : ¬ ((k : Int) < 0) := by omega
    by_cases h0 : k * i.size = 0
    · rw [if_pos h0] at hcs
      have hcs' : cs' = [] := by simpa using hcs.symm
      subst hcs'
      simp [Builtin.append_, run_und hs, run_size hi, run_und hd, Go.asInt, Go.asIntOf, hl, hnn, hno3, h0, hin, run_info hi, hno, hno2, Question.forced, run_zero hi hz, newRow, hold, grownCap]
      try (congr 2; apply Array.ext'; simp [List.append_assoc])
    · rw [if_neg h0] at hcs
      simp [Builtin.append_, run_und hs, run_size hi, run_und hd, Go.asInt, Go.asIntOf, hl, hnn, hno3, h0, hin, run_info hi, hno, hno2, Question.forced, run_zero hi hz, newRow, hcs, hold, grownCap]
      try (congr 2; apply Array.ext'; simp [List.append_assoc])
theorem beq_false {a b : Nat} (h : a ≠ b) : Nat.beq a b = false := by
  cases hb : Nat.beq a b with
  | false => rfl
  | true => exact absurd (Nat.eq_of_beq_eq_true hb) h
theorem beq_iff' {a b : Nat} : Nat.beq a b = true ↔ a = b := ⟨Nat.eq_of_beq_eq_true, fun h => by subst h; simp⟩
/-- A row is written on behind what is told of it, and goes by another number from then on. -/
theorem take_over {b o : Nat} {p : Pl} {vs old new : List AV} {new' : List Value} (hr : Rep ρ ⟨h.m, n⟩ N w) (hb : h.m b = some (.cells true vs)) (hp : ρ b = some p) (hid : ρ id = none) (hlt : id < n)
    (hold : ∀ i v, old[i]? = some v → vs[o + i]? = some v) (hfit : o + old.length + new.length ≤ p.ext) (hn : RL ρ new new') (h1 : ∀ v ∈ new', v.oneCell' = true) :
    ∃ w', (storeCells ⟨p.blk, p.off + (o + old.length), none⟩ new').run P w = .ok () w' ∧
      Rep (setLoc ρ id ⟨p.blk, p.off + o, p.ext - o⟩) ⟨((h.kill b).put id (.cells true (old ++ new))).m, n⟩ N w' ∧ Low N w w' := by
  obtain ⟨p', hp', c, e, fz, g1, g2, g3, g4, g5⟩ := hr.blk b _ hb
  rw [hp] at hp'; cases hp'
  obtain ⟨g6, g7⟩ := g5.1 rfl
  have hlen := hn.len
  have hg : Grows ρ (setLoc ρ id ⟨p.blk, p.off + o, p.ext - o⟩) := setLoc_grows hid
  have hbid : b ≠ id := fun x => by rw [x, hid] at hp; cases hp
  obtain ⟨c', k1, k2, k3⟩ := setCells_block p.blk e fz new' (p.off + (o + old.length)) c w g1 (by omega)
  refine ⟨w.setCells p.blk (p.off + (o + old.length)) new', ?_, ⟨fun x y hx => ?_, fun x x' y y' q q' hx hx' hne hy hq hq' => ?_, ?_, fun x hx => ?_, fun x xo xs hf => ?_⟩, ?_⟩
  · have := run_storeCells_cells (P := P) p.blk (p.off + (o + old.length)) new' 0 w (fun j hj => by rw [cell_of g1]; simp; omega)
      (fun j hj => by
        rw [frozen_of g1]
        have := g7 (p.off + (o + old.length) + 0 + j) (by omega) (by omega)
        cases ha : decide (fz.1 ≤ p.off + (o + old.length) + 0 + j) with
        | false => rfl
        | true =>
          cases hb : decide (p.off + (o + old.length) + 0 + j < fz.2) with
          | false => rfl
          | true => exact absurd ⟨of_decide_eq_true ha, of_decide_eq_true hb⟩ this) h1
    simpa using this
  · have hx2 : (if x = id then some (Blk.cells true (old ++ new)) else (h.kill b).m x) = some y := by rw [← Heap.put_m]; exact hx
    by_cases ex : x = id
    · rw [if_pos ex] at hx2; cases hx2
      refine ⟨⟨p.blk, p.off + o, p.ext - o⟩, by simp [setLoc, ex], c', e, fz, k1, by simp only; omega, by simp only [List.length_append]; omega, fun i v hi => ?_, ⟨fun _ => ⟨g6, fun i h0 h1 => g7 i (by simp only at h0; omega) (by simp only at h1; omega)⟩, fun hx => by cases hx⟩⟩
      simp only
      rw [k3]
      by_cases hi2 : i < old.length
      · rw [List.getElem?_append_left hi2] at hi
        rw [if_neg (by omega)]
        obtain ⟨v', a, b'⟩ := g4 (o + i) v (hold i v hi)
        exact ⟨v', by rw [show p.off + o + i = p.off + (o + i) by omega]; exact a, b'.grows hg⟩
      · rw [List.getElem?_append_right (by omega)] at hi
        obtain ⟨v', a, b'⟩ := hn.get_some hi
        have : i - old.length < new'.length := by
          rcases Nat.lt_or_ge (i - old.length) new'.length with h' | h'
          · exact h'
          · rw [List.getElem?_eq_none h'] at a; cases a
        rw [if_pos (by omega)]
        exact ⟨v', by rw [show p.off + o + i - (p.off + (o + old.length)) = i - old.length by omega]; exact a, b'.grows hg⟩
    · rw [if_neg ex, Heap.kill_m] at hx2
      by_cases exb : x = b
      · rw [if_pos exb] at hx2; cases hx2
      · rw [if_neg exb] at hx2
        obtain ⟨q, a, b'⟩ := hr.blk x y hx2
        exact ⟨q, hg _ _ a, b'.keep hg (setCells_other _ _ _ _ _ (fun eq => hr.inj b x _ y p q hb hx2 (Ne.symm exb) rfl hp a eq.symm))⟩
  · have hx2 : (if x = id then some (Blk.cells true (old ++ new)) else (h.kill b).m x) = some y := by rw [← Heap.put_m]; exact hx
    have hx2' : (if x' = id then some (Blk.cells true (old ++ new)) else (h.kill b).m x') = some y' := by rw [← Heap.put_m]; exact hx'
    by_cases ex : x = id
    · have ex' : x' ≠ id := fun z => hne (ex.trans z.symm)
      rw [if_neg ex', Heap.kill_m] at hx2'
      by_cases exb : x' = b
      · rw [if_pos exb] at hx2'; cases hx2'
      · rw [if_neg exb] at hx2'
        simp only [setLoc, if_pos ex, Option.some.injEq] at hq
        simp only [setLoc, if_neg ex'] at hq'
        subst hq
        exact hr.inj b x' _ y' p q' hb hx2' (Ne.symm exb) rfl hp hq'
    · rw [if_neg ex, Heap.kill_m] at hx2
      by_cases exb : x = b
      · rw [if_pos exb] at hx2; cases hx2
      · rw [if_neg exb] at hx2
        simp only [setLoc, if_neg ex] at hq
        by_cases ex' : x' = id
        · simp only [setLoc, if_pos ex', Option.some.injEq] at hq'
          subst hq'
          exact hr.inj x b y _ q p hx2 hb exb hy hq hp
        · rw [if_neg ex', Heap.kill_m] at hx2'
          by_cases exb' : x' = b
          · rw [if_pos exb'] at hx2'; cases hx2'
          · rw [if_neg exb'] at hx2'
            simp only [setLoc, if_neg ex'] at hq'
            exact hr.inj x x' y y' q q' hx2 hx2' hne hy hq hq'
  · rw [(setCells_same _ _ _ _).2.2.2]; exact hr.old
  · have hx' : n ≤ x := hx
    simp only [setLoc]
    rw [if_neg (by omega)]
    exact hr.fresh x hx'
  · obtain ⟨f1, f2, f3⟩ := hr.frz x xo xs hf
    have hbx := f2 b _ p hb rfl hp
    refine ⟨f1.keep hg (setCells_other _ _ _ _ _ (fun e => hbx e.symm)), fun c y q hc hy hq => ?_, f3⟩
    have hc2 : (if c = id then some (Blk.cells true (old ++ new)) else (h.kill b).m c) = some y := by rw [← Heap.put_m]; exact hc
    by_cases ex : c = id
    · simp only [setLoc, if_pos ex, Option.some.injEq] at hq
      subst hq
      exact hbx
    · rw [if_neg ex, Heap.kill_m] at hc2
      simp only [setLoc, if_neg ex] at hq
      by_cases exb : c = b
      · rw [if_pos exb] at hc2; cases hc2
      · rw [if_neg exb] at hc2
        exact f2 c y q hc2 hy hq
  · obtain ⟨a, b', c', d⟩ := setCells_same p.blk new' (p.off + (o + old.length)) w
    exact ⟨a, b', c', by omega, fun k hk => setCells_other _ _ _ _ _ (fun e => g6 (e ▸ hk))⟩
theorem oldK_some {size b o len sz : Nat} {K : List AV → Option A} (hh : oldK size (b, o) len sz h K = some r) :
    ∃ old, K old = some r ∧ ((len = 0 ∧ old = []) ∨ (0 < len ∧ sz = size ∧ ∃ wr vs, h.m b = some (.cells wr vs) ∧ o + len * size ≤ vs.length ∧ old = (vs.drop o).take (len * size))) := by
  unfold oldK at hh
  by_cases h0 : len = 0
  · subst h0; simp at hh; exact ⟨[], hh, .inl ⟨rfl, rfl⟩⟩
  · rw [beq_false h0] at hh
    simp only [cond_false] at hh
    obtain ⟨h1, h2⟩ := guardK_some hh
    obtain ⟨wr, vs, a, b', c⟩ := ldN_some h2
    exact ⟨_, c, .inr ⟨by omega, beq_iff'.1 h1, wr, vs, a, b', rfl⟩⟩
theorem grown_row {old' new' : List Value} {z : Value} {len k size newCap : Nat} (hz : z.cells.size = size) (ho : old'.length = len * size) (hn : new'.length = k * size) (hc : len + k ≤ newCap) :
    (old'.toArray ++ new'.toArray ++ Builtin.zeroCells z.cells (newCap - (len + k))).size = newCap * size := by
  have : (Builtin.zeroCells z.cells (newCap - (len + k))).size = (newCap - (len + k)) * size := by simp [Builtin.zeroCells, hz]
  simp only [Array.size_append, List.size_toArray, this, ho, hn]
  rw [← Nat.add_mul, ← Nat.add_mul]
  congr 1
  omega
theorem grown_told {old new : List AV} {old' new' : List Value} {rest : Array Value} (ho : RL ρ old old') (hn : RL ρ new new') (i : Nat) (v : AV) (hi : (old ++ new)[i]? = some v) : ∃ v', (old'.toArray ++ new'.toArray ++ rest)[i]? = some v' ∧ R ρ v v' := by
  obtain ⟨v', a, b⟩ := (ho.append hn).get_some hi
  refine ⟨v', ?_, b⟩
  have hlt : i < (old' ++ new').length := by
    rcases Nat.lt_or_ge i (old' ++ new').length with h' | h'
    · exact h'
    · rw [List.getElem?_eq_none h'] at a; cases a
  rw [Array.getElem?_append_left (by simpa using hlt)]
  simpa using a
theorem Rep.drewN {ρ : Loc} {h : Heap} {N : Zone} {w : World} (hr : Rep ρ h N w) : Rep ρ h N w.drew := hr.drew
theorem Low.drew' {N : Zone} {w : World} : Low N w w.drew := (Low.refl N w).drew
theorem R.sl_gr {b o len cap sz : Nat} {ex : Bool} {v' : Value} (h : R ρ (.sl (some (b, o)) len cap ex sz) v') : R ρ (.gr (b, o) len sz) v' := by
  obtain ⟨p, a, cap', q1, rfl, q2, q3, q4, q5⟩ := h.sl_inv
  exact .gr q1 (Nat.le_trans q5 q2) q4
/-- An append whose elements are told, as a whole. -/
theorem sim_append {st et xt : TypeId} {ty : TypeId} {s x : AV} {s' x' : Value} {K : AV → Heap → Option A} (hr : Rep ρ ⟨h.m, n⟩ N w) (hid : ρ id = none) (hlt : id < n) (hs : R ρ s s') (hx : R ρ x x')
    {zr : Bool} (hst : P.underlying st = some (.slice et)) (hxt : (zr = false ∧ ((∃ q, P.underlying xt = some (.slice q)) ∨ P.underlying xt = some .string)) ∨ (zr = true ∧ ∃ kk, P.underlying xt = some (.int kk))) (hh : appendK P zr et s x h id K = some r) :
    SimM P ρ N n id h w (Builtin.append_ #[st, xt] ty #[s', x']) K r := by
  obtain ⟨i, h1, hk⟩ := sizeK_some hh
  obtain ⟨i', h1', hk2⟩ := bytesK_some hk
  rw [h1] at h1'; cases h1'
  obtain ⟨i', z, h1', h2, hk3⟩ := zeroK_some hk2
  rw [h1] at h1'; cases h1'
  obtain ⟨g1, hk4⟩ := guardK_some hk3
  clear hk3 hk2 hk hh
  simp only [Bool.and_eq_true] at g1
  obtain ⟨g1a, g1b⟩ := g1
  rw [lenA_eq] at g1a
  have g1a := Nat.eq_of_beq_eq_true g1a
  have g1b : 0 < i.size := Nat.le_of_ble_eq_true g1b
  simp only [List.length_map, Array.length_toList] at g1a
  have hsrc : ∀ {G : Nat → List AV → Option A}, (bif zr then zsrcK (z.cells.toList.map ofLit1) x else srcK i.size x h) G = some r →
      ∃ (k : Nat) (new : List AV) (new' : List Value), G k new = some r ∧ (k * i.bytes ≤ limit → Src P xt i z x' k new' w) ∧ RL ρ new new' ∧ new.length = k * i.size := by
    intro G hk5
    rcases hxt with ⟨rfl, hxt⟩ | ⟨rfl, kk, hd⟩
    · simp only [cond_false] at hk5
      obtain ⟨k, new, new', hk6, l1, l2, l3, l4⟩ := srcK_some (P := P) hr hx hk5
      refine ⟨k, new, new', hk6, fun _ => .inl ⟨hxt, l1, fun w' hw => ?_⟩, l3, l4⟩
      have := l2 w' hw k (Nat.le_refl _)
      rwa [List.take_of_length_le (by rw [← l3.len, l4]; exact Nat.le_refl _)] at this
    · simp only [cond_true] at hk5
      unfold zsrcK at hk5
      obtain ⟨kk', l, rfl, hk6⟩ := anyInt_some hk5
      obtain ⟨hg, hk7⟩ := guardK_some hk6
      have hg := of_decide_eq_true hg
      have := hx.int_inv; subst this
      refine ⟨_, _, ((Array.range ((IntKind.i64.wrap l).toNat * z.cells.size)).map fun i => z.cells[i % z.cells.size]!).toList, hk7, fun hb => .inr ⟨kk, kk', l, hd, rfl, by omega, ?_, hb⟩, zeros_told z.cells _, by rw [repL_length]; simp [g1a]⟩
      split
      · rename_i h0
        rw [← g1a] at h0
        simp [h0]
      · apply Array.ext'; simp [Builtin.zeroCells]
  obtain ⟨k, new, new', hk7, hsrc, l3, l4⟩ := hsrc hk4
  clear hk4
  have hnl : new'.length = k * i.size := by rw [← l3.len, l4]
  have bd : ∀ {len : Nat}, (len + k) * i.bytes ≤ limit → k * i.bytes ≤ limit := fun hb => Nat.le_trans (Nat.mul_le_mul_right _ (Nat.le_add_left _ _)) hb
  have nb : ∀ {a b : Nat}, ¬ a ≤ b → Nat.ble a b = false := fun {a b} hn => by
    cases hb : Nat.ble a b with
    | false => rfl
    | true => exact absurd (Nat.le_of_ble_eq_true hb) hn
  -- growth, with what is old
  have grow : ∀ (base : Option Addr) (len cap : Nat) (old : List AV) (old' : List Value), ¬ (len + k ≤ cap) → RL ρ old old' → old.length = len * i.size → (len + k) * i.bytes ≤ limit → len + k ≤ limit →
      (∀ w', w'.heap = w.heap → (Builtin.firstCells i.size len (.slice base len cap)).run P w' = .ok old'.toArray w') → ∀ h₁ : Heap, h₁.next = h.next → Rep ρ ⟨h₁.m, n⟩ N w →
      K (.gr (id, 0) (len + k) i.size) (h₁.put id (.cells true (old ++ new))) = some r →
      SimM P ρ N n id h w (Builtin.append_ #[st, xt] ty #[.slice base len cap, x']) K r := by
    intro base len cap old old' hin ho hol hb1 hb2 hold h₁ hn₁ hr₁ hK
    obtain ⟨newCap, c1, c2⟩ := append_grow (ty := ty) hst h1 h2 (hsrc (bd hb1)) hin (hold w.drew rfl) hb1 hb2
    have hrow := grown_row (newCap := newCap) (z := z) g1a (by rw [← ho.len, hol]) hnl c1
    have hsim := new_slice (h := h₁) (P := P) (K := fun v h' => K (match v with | .sl (some q) len _ _ sz => .gr q len sz | v => v) h') (vs := old ++ new) (c := old'.toArray ++ new'.toArray ++ Builtin.zeroCells z.cells (newCap - (len + k))) (e := et) (fz := (0, 0)) (len := len + k) (cap := len + k) (cap' := newCap) (sz := i.size) (ex := false) (w := w.drew) (w₀ := w)
      hr₁.drew hid hlt (fun j v hj => grown_told ho l3 j v hj) (by rw [hrow, List.length_append, hol, l4, ← Nat.add_mul]; exact Nat.mul_le_mul_right _ c1) (by simp) (Nat.le_refl _) c1 (by simp) (by rw [hrow]; exact Nat.le_refl _) hK (Low.refl _ _).drew c2
    obtain ⟨v, h', v', w', ρ', a1, a2, a3, a4, a5, a6, a7, a8⟩ := hsim
    refine ⟨_, h', v', w', ρ', a1, a2.trans hn₁, a3, a4, a5, a6, ?_, a8⟩
    split
    · exact R.sl_gr a7
    · exact a7
  -- what is written behind a slice's elements, in a row of its own
  have over : ∀ (b o len cap' sz : Nat) (a : Addr) (p : Pl), ρ b = some p → len ≤ cap' → (0 < cap' → a = ⟨p.blk, p.off + o, none⟩ ∧ o + cap' * sz ≤ p.ext) → 0 < k → (len + k) * i.bytes ≤ limit → len + k ≤ limit →
      growK i.size (b, o) len sz new k h id K = some r → SimM P ρ N n id h w (Builtin.append_ #[st, xt] ty #[.slice (some a) len cap', x']) K r := by
    intro b o len cap' sz a p q1 q2 q4 hk0 g2a g2b hh
    unfold growK at hh
    obtain ⟨old, hk8, hold⟩ := oldK_some hh
    rw [appA_eq] at hk8
    split at hk8
    · rename_i vs f1
      obtain ⟨e1, hk9⟩ := guardK_some hk8
      simp only [Bool.and_eq_true] at e1
      obtain ⟨e1, e2⟩ := e1
      have e1 := Nat.eq_of_beq_eq_true e1
      subst e1
      have hold' : ∃ old', RL ρ old old' ∧ old.length = len * i.size ∧ ∀ w', w'.heap = w.heap → (Builtin.firstCells i.size len (.slice (some a) len cap')).run P w' = .ok old'.toArray w' := by
        rcases hold with ⟨rfl, rfl⟩ | ⟨hl0, _, wr, vs, f1, f2, rfl⟩
        · exact ⟨[], RL.nil ρ, by simp, fun w' _ => by simp [Builtin.firstCells, loadCells, loadCellsFrom]⟩
        · obtain ⟨p', cs', e1, e2, e3, e4⟩ := cells_there (h := ⟨h.m, n⟩) hr f1 f2
          rw [q1] at e1; cases e1
          obtain ⟨ha, _⟩ := q4 (by omega)
          subst ha
          refine ⟨cs', e3, by simp; omega, fun w' hw => ?_⟩
          simp only [Builtin.firstCells]
          exact run_cells e2 fun j v hj => by rw [cell_same hw]; exact e4 j v hj
      obtain ⟨old', o1, o2, o3⟩ := hold'
      by_cases hin : len + k ≤ cap'
      · obtain ⟨ha, hb⟩ := q4 (by omega)
        subst ha
        have hmul : len * i.size + k * i.size ≤ cap' * i.size := by rw [← Nat.add_mul]; exact Nat.mul_le_mul_right _ hin
        obtain ⟨w', s1, s2, s3⟩ := take_over (P := P) (b := b) (o := o) (old := old) (new := new) hr f1 q1 hid hlt (fun j v hj => by
            rcases hold with ⟨rfl, rfl⟩ | ⟨hl0, _, wr, vs', f1', f2, rfl⟩
            · simp at hj
            · rw [f1] at f1'; cases f1'
              simp only [List.getElem?_take, List.getElem?_drop] at hj
              split at hj
              · exact hj
              · cases hj) (by rw [o2, l4]; omega) l3 (flat_cells l3 e2)
        have hrun := append_head (P := P) (w := w) (base := some ⟨p.blk, p.off + o, none⟩) (cap := cap') (ty := ty) hst h1 h2 (hsrc (bd g2a)) hin
        refine ⟨_, _, _, w', _, hk9, rfl, ?_, setLoc_growsS hid, fun c hc => by simp [setLoc, hc], s2, .gr (p := ⟨p.blk, p.off + o, p.ext - o⟩) (by simp [setLoc]) hin (fun _ => ⟨rfl, ?_⟩), s3⟩
        · rw [hrun]
          simp only [add_at]
          rw [show p.off + o + len * i.size = p.off + (o + old.length) by omega, s1]
          rfl
        · simp only; omega
      · exact grow (some a) len cap' old old' hin o1 o2 g2a g2b o3 (h.kill b) rfl (Rep.kill (h := ⟨h.m, n⟩) hr b) hk9
    · cases hk8
  have bnd : ∀ {c : Bool} {len : Nat}, (Nat.ble ((len + k) * i.bytes) limit && Nat.ble (len + k) limit) = true → (len + k) * i.bytes ≤ limit ∧ len + k ≤ limit := fun {c len} hb => by
    simp only [Bool.and_eq_true] at hb
    exact ⟨Nat.le_of_ble_eq_true hb.1, Nat.le_of_ble_eq_true hb.2⟩
  have stay : ∀ (base : Option Addr) (len cap : Nat) (u : AV), k = 0 → len ≤ cap → R ρ u (.slice base len cap) → K u h = some r → SimM P ρ N n id h w (Builtin.append_ #[st, xt] ty #[.slice base len cap, x']) K r := by
    intro base len cap u hk0 hle hu hK
    subst hk0
    have hn0 : new' = [] := by
      have : new'.length = 0 := by simpa using hnl
      exact List.eq_nil_of_length_eq_zero this
    subst hn0
    have := append_head (P := P) (w := w) (base := base) (len := len) (cap := cap) (ty := ty) hst h1 h2 (hsrc (by simp)) hle
    refine ⟨_, h, _, w, ρ, hK, rfl, ?_, GrowsS.refl _, fun _ _ => rfl, hr, hu, Low.refl _ _⟩
    rw [this]
    cases base <;> simp [storeCells]
  split at hk7
  · rename_i q len sz
    obtain ⟨b, o⟩ := q
    obtain ⟨hb, hk8⟩ := guardK_some hk7
    obtain ⟨g2a, g2b⟩ := bnd (c := true) hb
    have hs2 := hs
    cases hs with
    | gr q1 q2 q4 =>
    by_cases hk0 : k = 0
    · subst hk0
      simp only [Nat.beq_refl, cond_true] at hk8
      exact stay _ _ _ _ rfl q2 hs2 hk8
    · simp only [beq_false hk0, cond_false] at hk8
      exact over _ _ _ _ _ _ _ q1 q2 q4 (by omega) g2a g2b hk8
  · rename_i cs len ex sz
    obtain ⟨a, cap', rfl, f1, f2, f3, f4, f5⟩ := hs.fz_inv
    by_cases hk0 : k = 0
    · subst hk0
      simp only [Nat.beq_refl, cond_true] at hk7
      exact stay _ _ _ _ rfl f4 hs hk7
    · simp only [beq_false hk0, cond_false] at hk7
      obtain ⟨hb, hk8⟩ := guardK_some hk7
      rw [appA_eq] at hk8
      simp only [Bool.and_eq_true, Bool.or_eq_true] at hb
      obtain ⟨⟨⟨g2a, g2b⟩, hex⟩, hsz⟩ := hb
      have g2a := Nat.le_of_ble_eq_true g2a
      have g2b := Nat.le_of_ble_eq_true g2b
      have hcap := (f5 hex).symm
      subst hcap
      rcases Nat.eq_zero_or_pos len with hl0 | hl0
      · subst hl0
        have hcs : cs = [] := by
          have : cs.length = 0 := by simpa using f3
          exact List.eq_nil_of_length_eq_zero this
        subst hcs
        exact grow a 0 0 [] [] (by omega) (RL.nil ρ) (by simp) g2a g2b (fun w' _ => by cases a <;> simp [Builtin.firstCells, loadCells, loadCellsFrom]) h rfl hr hk8
      · have hsz : sz = i.size := by
          rcases hsz with e | e
          · exact Nat.eq_of_beq_eq_true e
          · have := Nat.eq_of_beq_eq_true e; omega
        subst hsz
        obtain ⟨b, q, o, cs0, e1, rfl, e2, e3⟩ := f1 hl0
        obtain ⟨cs', r1, r2, r3⟩ := frz_cells hr e1 e3
        rw [← e2] at r1
        exact grow _ len len cs cs' (by omega) r1 f3 g2a g2b (fun w' hw => by
          simp only [Builtin.firstCells]
          exact run_cells (p := ⟨b, q, 0⟩) r2 fun j v hj => by rw [cell_same hw]; exact r3 j v hj) h rfl hr hk8
  · rename_i p len cap ex sz
    obtain ⟨hb, hk8⟩ := guardK_some hk7
    obtain ⟨g2a, g2b⟩ := bnd (c := true) hb
    cases p with
    | none =>
      obtain ⟨rfl, rfl, rfl, rfl⟩ := hs.nils_inv
      by_cases hk0 : k = 0
      · subst hk0
        simp only [Nat.beq_refl, cond_true] at hk8
        exact stay _ _ _ _ rfl (Nat.le_refl 0) (.sln 0) hk8
      · simp only [beq_false hk0, cond_false] at hk8
        refine grow none 0 0 [] [] (by omega) (RL.nil ρ) (by simp) (by simpa using g2a) (by simpa using g2b) (fun w' _ => by simp [Builtin.firstCells]) h rfl hr ?_
        simpa using hk8
    | some q =>
      obtain ⟨b, o⟩ := q
      obtain ⟨p, a, cap', q1, rfl, q2, q3, q4, q5⟩ := hs.sl_inv
      simp only at hk8
      by_cases hfit : len + k ≤ cap
      · rw [show Nat.ble (len + k) cap = true from Nat.ble_eq_true_of_le hfit] at hk8
        simp only [cond_true] at hk8
        by_cases hk0 : k = 0
        · subst hk0
          simp only [Nat.beq_refl, cond_true] at hk8
          exact stay _ _ _ _ rfl (Nat.le_trans q5 q2) hs hk8
        · simp only [beq_false hk0, cond_false] at hk8
          have hrun := append_head (P := P) (w := w) (base := some a) (len := len) (k := k) (cap := cap') (ty := ty) hst h1 h2 (hsrc (bd g2a)) (Nat.le_trans hfit q2)
          obtain ⟨e1, hk8⟩ := guardK_some hk8
          simp only [Bool.and_eq_true] at e1
          obtain ⟨e1, e2⟩ := e1
          have e1 := Nat.eq_of_beq_eq_true e1
          subst e1
          obtain ⟨vs, f1, f2, f3⟩ := stN_some hk8
          obtain ⟨ha, hb⟩ := q4 (by omega)
          subst ha
          obtain ⟨w', s1, s2, s3⟩ := store_cells (P := P) (h := ⟨h.m, n⟩) hr f1 q1 f2 l3 (flat_cells l3 e2)
          refine ⟨_, _, _, w', ρ, f3, rfl, ?_, GrowsS.refl _, fun _ _ => rfl, s2, .sl q1 q2 q3 (fun _ => ⟨rfl, hb⟩) hfit, s3⟩
          rw [hrun]
          simp only [add_at]
          simp only at s1
          rw [show p.off + o + len * i.size = p.off + (o + len * i.size) by omega, s1]
          rfl
      · rw [nb hfit] at hk8
        simp only [cond_false] at hk8
        have hk0 : 0 < k := by omega
        cases ex with
        | true =>
          simp only [cond_true] at hk8
          have := q3 rfl
          subst this
          obtain ⟨old, hk9, hold⟩ := oldK_some hk8
          rw [appA_eq] at hk9
          have hold' : ∃ old', RL ρ old old' ∧ old.length = len * i.size ∧ ∀ w', w'.heap = w.heap → (Builtin.firstCells i.size len (.slice (some a) len cap')).run P w' = .ok old'.toArray w' := by
            rcases hold with ⟨rfl, rfl⟩ | ⟨hl0, rfl, wr, vs, f1, f2, rfl⟩
            · exact ⟨[], RL.nil ρ, by simp, fun w' _ => by simp [Builtin.firstCells, loadCells, loadCellsFrom]⟩
            · obtain ⟨p', cs', e1, e2, e3, e4⟩ := cells_there (h := ⟨h.m, n⟩) hr f1 f2
              rw [q1] at e1; cases e1
              obtain ⟨ha, _⟩ := q4 (by omega)
              subst ha
              refine ⟨cs', e3, by simp; omega, fun w' hw => ?_⟩
              simp only [Builtin.firstCells]
              exact run_cells e2 fun j v hj => by rw [cell_same hw]; exact e4 j v hj
          obtain ⟨old', o1, o2, o3⟩ := hold'
          exact grow (some a) len cap' old old' hfit o1 o2 g2a g2b o3 h rfl hr hk9
        | false =>
          simp only [cond_false] at hk8
          exact over b o len cap' sz a p q1 (Nat.le_trans q5 q2) q4 hk0 g2a g2b hk8
  · cases hk7
end
end Go.Ev
/- copy, clear, conversions, maps: the evaluator's answers are the model's. -/
namespace Go.Ev
open Go.RowKit
section
variable {A : Type} {P : Program} {r : A} {ρ : Loc} {N : Zone} {n id : Nat} {h : Heap} {w : World}

theorem sim_copy {dt xt et : TypeId} {ty : TypeId} {d x : AV} {d' x' : Value} {K : AV → Heap → Option A} (hr : Rep ρ ⟨h.m, n⟩ N w) (hd : R ρ d d') (hx : R ρ x x')
    (hdt : P.underlying dt = some (.slice et)) (hh : copyK P et d x h K = some r) : SimM P ρ N n id h w (Builtin.copy_ #[dt, xt] ty #[d', x']) K r := by
  obtain ⟨i, h1, hk⟩ := sizeK_some hh
  obtain ⟨g1, hk2⟩ := guardK_some hk
  obtain ⟨p, len, cap, ex, sz, hd, hk3⟩ := asSl_some hd hk2
  clear hk hk2 hh
  obtain ⟨k, new, new', hk6, l1, l2, l3, l4⟩ := srcK_some (P := P) hr hx hk3
  clear hk3
  have hrun : ∀ base cap', (Builtin.copy_ #[dt, xt] ty #[.slice base len cap', x']).run P w = ((match base with | some a => storeCells a (new'.take (min k len * i.size)) | none => pure () : Sem Unit).run P w).andThen fun _ w' => .ok (.int .i64 (min k len : Nat)) w' := by
    intro base cap'
    have := l2 w rfl (min k len) (Nat.min_le_left _ _)
    have e : k.min len = min k len := rfl
    cases base <;> simp [Builtin.copy_, run_und hdt, l1, run_size h1, e, this, goInt]
  cases p with
  | none =>
    obtain ⟨rfl, rfl, rfl, rfl⟩ := hd.nils_inv
    refine ⟨_, h, _, w, ρ, hk6, rfl, ?_, GrowsS.refl _, fun _ _ => rfl, hr, .int _ _, Low.refl _ _⟩
    have := hrun none 0
    simpa using this
  | some q =>
    obtain ⟨b, o⟩ := q
    obtain ⟨p, a, cap', q1, rfl, q2, q3, q4, q5⟩ := hd.sl_inv
    simp only at hk6
    by_cases h0 : min k len = 0
    · rw [h0] at hk6
      simp only [Nat.beq_refl, cond_true] at hk6
      refine ⟨_, h, _, w, ρ, hk6, rfl, ?_, GrowsS.refl _, fun _ _ => rfl, hr, .int _ _, Low.refl _ _⟩
      have := hrun (some a) cap'
      rw [h0] at this
      simpa [storeCells] using this
    · rw [beq_false h0] at hk6
      simp only [cond_false] at hk6
      obtain ⟨e1, hk8⟩ := guardK_some hk6
      simp only [Bool.and_eq_true] at e1
      obtain ⟨e1, e2⟩ := e1
      have e1 := Nat.eq_of_beq_eq_true e1
      subst e1
      rw [takeA_eq] at hk8
      obtain ⟨vs, f1, f2, f3⟩ := stN_some hk8
      obtain ⟨ha, hb⟩ := q4 (by omega)
      subst ha
      have l3' := l3.take (min k len * i.size)
      obtain ⟨w', s1, s2, s3⟩ := store_cells (P := P) (h := ⟨h.m, n⟩) hr f1 q1 f2 l3' (fun v hv => flat_cells l3 e2 v (List.mem_of_mem_take hv))
      refine ⟨_, _, _, w', ρ, f3, rfl, ?_, GrowsS.refl _, fun _ _ => rfl, s2, .int _ _, s3⟩
      rw [hrun (some _) cap']
      simp only at s1
      simp only [s1]
      rfl
theorem sim_clear {t et : TypeId} {ty : TypeId} {x : AV} {x' : Value} {K : Heap → Option A} (hr : Rep ρ ⟨h.m, n⟩ N w) (hx : R ρ x x')
    (ht : P.underlying t = some (.slice et)) (hh : clearK P et x h K = some r) : ∃ h' w', K h' = some r ∧ h'.next = h.next ∧ (Builtin.clear_ #[t] ty #[x']).run P w = .ok (.tuple #[]) w' ∧ Rep ρ ⟨h'.m, n⟩ N w' ∧ Low N w w' := by
  obtain ⟨i, h1, hk⟩ := sizeK_some hh
  obtain ⟨i', z, h1', h2, hk2⟩ := zeroK_some hk
  rw [h1] at h1'; cases h1'
  obtain ⟨g1, hk3⟩ := guardK_some hk2
  obtain ⟨p, len, cap, ex, sz, hx, hk4⟩ := asSl_some hx hk3
  clear hh hk hk2 hk3
  rw [lenA_eq] at g1
  have g1 := Nat.eq_of_beq_eq_true g1
  simp only [List.length_map, Array.length_toList] at g1
  by_cases h0 : len = 0
  · subst h0
    simp only [Nat.beq_refl, cond_true] at hk4
    refine ⟨h, w, hk4, rfl, ?_, hr, Low.refl _ _⟩
    cases p with
    | none => obtain ⟨rfl, _⟩ := hx.nils_inv; simp [Builtin.clear_, run_und ht]
    | some q =>
      obtain ⟨p, a, cap', q1, rfl, q2, q3, q4, q5⟩ := hx.sl_inv
      simp [Builtin.clear_, run_und ht]
  · rw [beq_false h0] at hk4
    simp only [cond_false] at hk4
    cases p with
    | none => cases hk4
    | some q =>
      obtain ⟨b, o⟩ := q
      obtain ⟨p, a, cap', q1, rfl, q2, q3, q4, q5⟩ := hx.sl_inv
      obtain ⟨e1, hk8⟩ := guardK_some hk4
      simp only [Bool.and_eq_true] at e1
      obtain ⟨e1, e2⟩ := e1
      have e1 := Nat.eq_of_beq_eq_true e1
      subst e1
      obtain ⟨vs, f1, f2, f3⟩ := stN_some hk8
      obtain ⟨ha, hb⟩ := q4 (by omega)
      subst ha
      have l3 := zeros_told (ρ := ρ) z.cells len
      have hf : ∀ v ∈ ((Array.range (len * z.cells.size)).map fun i => z.cells[i % z.cells.size]!).toList, v.oneCell' = true := by
        refine flat_cells l3 ?_
        rw [flatL_eq, List.all_eq_true] at e2 ⊢
        intro v hv
        obtain ⟨j, hj⟩ := List.getElem?_of_mem hv
        have hlt : j < len * (z.cells.toList.map ofLit1).length := by
          rcases Nat.lt_or_ge j (len * (z.cells.toList.map ofLit1).length) with h' | h'
          · exact h'
          · rw [List.getElem?_eq_none (by rw [repL_length]; exact h')] at hj; cases hj
        rw [repL_get _ _ _ hlt] at hj
        exact e2 v (List.mem_of_getElem? hj)
      obtain ⟨w', s1, s2, s3⟩ := store_cells (P := P) (h := ⟨h.m, n⟩) hr f1 q1 f2 l3 hf
      refine ⟨_, w', f3, rfl, ?_, s2, s3⟩
      simp only [Builtin.clear_]
      simp only at s1
      have hcl : (storeCells ⟨p.blk, p.off + o, none⟩ (Builtin.zeroCells z.cells len).toList).run P w = .ok () w' := s1
      cases len with
      | zero => exact absurd rfl h0
      | succ len => simp [run_und ht, run_zero h1 h2, hcl]

/-! ### Conversions -/
theorem bytesOf_some : ∀ (cs : List AV) (cs' : List Value) (b : List UInt8), RL ρ cs cs' → bytesOf cs = some b → ∃ ns : List Int, cs' = ns.map (Value.int .u8) ∧ b = ns.map fun n => UInt8.ofNat n.toNat
  | [], cs', b, hc, hb => by
    have : cs' = [] := by
      have := hc.len
      exact List.eq_nil_of_length_eq_zero (by simpa using this.symm)
    simp [bytesOf] at hb
    exact ⟨[], by simp [this], by simp [hb]⟩
  | v :: cs, cs', b, hc, hb => by
    cases cs' with
    | nil => have := hc.len; simp at this
    | cons v' cs' =>
      unfold bytesOf at hb
      split at hb
      · rename_i heq; cases heq
      · rename_i n cs₂ heq
        cases heq
        split at hb
        · rename_i s hs
          obtain ⟨ns, e1, e2⟩ := bytesOf_some cs cs' s hc.tail hs
          have := hc.head.int_inv
          cases hb
          exact ⟨n :: ns, by simp [this, e1], by simp [e2]⟩
        · cases hb
      · cases hb
theorem foldl_push : ∀ (ns : List Int) (s : ByteArray), (ns.foldl (fun r n => r.push (UInt8.ofNat n.toNat)) s).data.toList = s.data.toList ++ ns.map fun n => UInt8.ofNat n.toNat
  | [], s => by simp
  | n :: ns, s => by
    simp only [List.foldl_cons]
    rw [foldl_push ns]
    simp [ByteArray.push]
theorem sim_conv {st dt : TypeId} {x : AV} {x' : Value} {K : AV → Heap → Option A} (hr : Rep ρ ⟨h.m, n⟩ N w) (hid : ρ id = none) (hlt : id < n) (hx : R ρ x x') (hh : convK P st dt x h id K = some r) :
    SimM P ρ N n id h w (convert st dt x') K r := by
  obtain ⟨ds, hs, hk⟩ := tyK_some hh
  obtain ⟨dd, hd, hk2⟩ := tyK_some hk
  clear hh hk
  split at hk2
  · obtain ⟨k, m, rfl, hk3⟩ := anyInt_some hk2
    have := hx.int_inv; subst this
    refine ⟨_, h, _, w, ρ, hk3, rfl, ?_, GrowsS.refl _, fun _ _ => rfl, hr, .int _ _, Low.refl _ _⟩
    simp [convert, run_und hs, run_und hd, Conv.intToInt]
  · obtain ⟨b, rfl, hk3⟩ := asStr_some hk2
    obtain ⟨s', rfl, rfl⟩ := hx.str_inv
    refine ⟨_, h, _, w, ρ, hk3, rfl, ?_, GrowsS.refl _, fun _ _ => rfl, hr, .str _, Low.refl _ _⟩
    simp [convert, run_und hs, run_und hd]
  · rename_i e
    obtain ⟨de, he, hk3⟩ := tyK_some hk2
    split at hk3
    · obtain ⟨b, rfl, hk4⟩ := asStr_some hk3
      obtain ⟨s', rfl, rfl⟩ := hx.str_inv
      obtain ⟨g1, hk5⟩ := guardK_some hk4
      have hrun := run_bytes_of_string (P := P) w st dt e s' hs hd he
      have hge : s'.size ≤ grownCap w s'.size 0 e := by simp [grownCap, Question.cut]
      have hsz : (bytesRow s' (grownCap w s'.size 0 e)).size = grownCap w s'.size 0 e := by
        have : s'.data.size = s'.size := rfl
        simp [bytesRow, this]; omega
      have hcs : ∀ l : List UInt8, cellsOfS l = l.map fun b => AV.int .u8 b.toNat := by
        intro l; induction l <;> simp_all [cellsOfS]
      rw [lenS_eq] at hk5
      have hl : s'.data.toList.length = s'.size := by simp
      rw [hl] at hk5
      refine new_slice (w := w.drew) (vs := cellsOfS s'.data.toList) (c := bytesRow s' (grownCap w s'.size 0 e)) (cap' := grownCap w s'.size 0 e) hr.drew hid hlt (fun j v hj => ?_) ?_ (fun j hj => ?_) (Nat.le_refl _) hge (by simp) (by rw [hsz]; omega) hk5 (Low.refl _ _).drew hrun
      · rw [hcs] at hj
        simp only [List.getElem?_map, Option.map_eq_some_iff] at hj
        obtain ⟨u, hu, rfl⟩ := hj
        refine ⟨.int .u8 u.toNat, ?_, .int _ _⟩
        have hjl : j < s'.data.toList.length := by
          rcases Nat.lt_or_ge j s'.data.toList.length with h' | h'
          · exact h'
          · rw [List.getElem?_eq_none h'] at hu; cases hu
        have hu2 : s'.data[j]? = some u := by simpa using hu
        rw [bytesRow, Array.getElem?_append_left (by simpa using hjl)]
        simp [hu2]
      · rw [hsz, hcs]; simpa using hge
      · simp only; omega
    · cases hk3
  · rename_i e
    obtain ⟨de, he, hk3⟩ := tyK_some hk2
    split at hk3
    · rcases asSl2_some hx hk3 with ⟨p, len, cap, ex, sz, hx, hk4⟩ | ⟨cs, len, ex, sz, hx, hk4⟩
      rotate_left
      · obtain ⟨gsz, hk5⟩ := guardK_some hk4
        have gsz := Nat.eq_of_beq_eq_true gsz
        subst gsz
        obtain ⟨a, cap', rfl, f1, f2, f3, f4, f5⟩ := hx.fz_inv
        split at hk5
        · rename_i bs hbs
          have hthere : ∃ cs' : List Value, RL ρ cs cs' ∧ cs'.length = len ∧ (0 < len → ∃ a', a = some a' ∧ (loadCells a' len).run P w = .ok cs'.toArray w) := by
            rcases Nat.eq_zero_or_pos len with h0 | h0
            · subst h0
              have : cs = [] := List.eq_nil_of_length_eq_zero (by simpa using f3)
              subst this
              exact ⟨[], RL.nil ρ, rfl, fun h => absurd h (by omega)⟩
            · obtain ⟨b, q, o, cs0, e1, rfl, e2, e3⟩ := f1 h0
              obtain ⟨cs', r1, r2, r3⟩ := frz_cells hr e1 e3
              rw [← e2] at r1
              rw [Nat.mul_one] at r2
              exact ⟨cs', r1, r2, fun _ => ⟨_, rfl, run_cells (p := ⟨b, q, 0⟩) r2 r3⟩⟩
          obtain ⟨cs', r1, r2, r3⟩ := hthere
          obtain ⟨ns, n1, n2⟩ := bytesOf_some _ _ _ r1 hbs
          have hstr : R ρ (.str bs) (.string (ns.foldl (fun r n => r.push (UInt8.ofNat n.toNat)) ByteArray.empty)) := by
            have := R.str (ρ := ρ) (ns.foldl (fun r n => r.push (UInt8.ofNat n.toNat)) ByteArray.empty)
            rw [foldl_push] at this
            rw [n2]
            simpa using this
          refine ⟨_, h, .string (ns.foldl (fun r n => r.push (UInt8.ofNat n.toNat)) ByteArray.empty), w, ρ, hk5, rfl, ?_, GrowsS.refl _, fun _ _ => rfl, hr, hstr, Low.refl _ _⟩
          cases a with
          | none =>
            have hc := f2 rfl
            have hl0 : len = 0 := by omega
            subst hc
            subst hl0
            have hns : ns = [] := by
              have : cs'.length = 0 := r2
              rw [n1] at this
              exact List.eq_nil_of_length_eq_zero (by simpa using this)
            subst hns
            simp [convert, run_und hs, run_und hd, run_und he, Conv.bytesToString]
          | some a =>
            have hload : (loadCells a len).run P w = .ok (ns.map (Value.int .u8)).toArray w := by
              rcases Nat.eq_zero_or_pos len with h0 | h0
              · subst h0
                have hns : ns = [] := by
                  have : cs'.length = 0 := r2
                  rw [n1] at this
                  exact List.eq_nil_of_length_eq_zero (by simpa using this)
                subst hns
                simp [loadCells, loadCellsFrom]
              · obtain ⟨a', ea, hl⟩ := r3 h0
                cases ea
                rw [← n1]; exact hl
            rw [run_convert_bytes_string w st dt e (some a) len cap' hs he hd]
            exact run_bytesToString w a len cap' ns hload
        · cases hk5
      clear hk3 hk2
      cases p with
      | none =>
        obtain ⟨rfl, rfl, _, _⟩ := hx.nils_inv
        refine ⟨_, h, _, w, ρ, hk4, rfl, ?_, GrowsS.refl _, fun _ _ => rfl, hr, .str .empty, Low.refl _ _⟩
        simp [convert, run_und hs, run_und hd, run_und he, Conv.bytesToString]
      | some q =>
        obtain ⟨b, o⟩ := q
        obtain ⟨p, a, cap', q1, rfl, q2, q3, q4, q5⟩ := hx.sl_inv
        simp only at hk4
        obtain ⟨wr, vs, f1, f2, f3⟩ := ldN_some hk4
        split at f3
        · rename_i bs hbs
          obtain ⟨p', cs', e1, e2, e3, e4⟩ := cells_there (h := ⟨h.m, n⟩) hr f1 f2
          rw [q1] at e1; cases e1
          obtain ⟨ns, n1, n2⟩ := bytesOf_some _ _ _ e3 hbs
          have hload : (loadCells a len).run P w = .ok (ns.map (Value.int .u8)).toArray w := by
            by_cases h0 : cap' = 0
            · have : len = 0 := by omega
              subst this
              have hns : ns = [] := by
                have : cs'.length = 0 := e2
                rw [n1] at this
                exact List.eq_nil_of_length_eq_zero (by simpa using this)
              subst hns
              simp [loadCells, loadCellsFrom]
            · obtain ⟨ha, _⟩ := q4 (by omega)
              subst ha
              rw [← n1]
              exact run_cells e2 e4
          refine ⟨_, h, .string (ns.foldl (fun r n => r.push (UInt8.ofNat n.toNat)) ByteArray.empty), w, ρ, f3, rfl, ?_, GrowsS.refl _, fun _ _ => rfl, hr, ?_, Low.refl _ _⟩
          · rw [run_convert_bytes_string w st dt e (some a) len cap' hs he hd]
            exact run_bytesToString w a len cap' ns hload
          · have := R.str (ρ := ρ) (ns.foldl (fun r n => r.push (UInt8.ofNat n.toNat)) ByteArray.empty)
            rw [foldl_push] at this
            rw [n2]
            simpa using this
        · cases f3
    · cases hk3
  · cases hk2
end
end Go.Ev
/- Maps, builtins, and each operation that calls nothing: the evaluator's answers are the model's. -/
namespace Go.Ev
open Go.RowKit
section
variable {A : Type} {P : Program} {r : A} {ρ : Loc} {N : Zone} {n id : Nat} {h : Heap} {w : World}

/-- Entries. -/
structure RE (ρ : Loc) (es : List (AV × AV × Nat)) (en : List MapEntry) : Prop where
  len : es.length = en.length
  get : ∀ (i : Nat) (e : AV × AV × Nat) (e' : MapEntry), es[i]? = some e → en[i]? = some e' → R ρ e.1 e'.key ∧ R ρ e.2.1 e'.val ∧ e'.born = e.2.2
theorem RE.nil (ρ : Loc) : RE ρ [] [] := ⟨rfl, fun i e e' a _ => by simp at a⟩
theorem RE.cons {e : AV × AV × Nat} {e' : MapEntry} {es : List (AV × AV × Nat)} {en : List MapEntry} (h : R ρ e.1 e'.key ∧ R ρ e.2.1 e'.val ∧ e'.born = e.2.2) (hl : RE ρ es en) : RE ρ (e :: es) (e' :: en) :=
  ⟨by simp [hl.len], fun i x x' a b => by
    cases i with
    | zero => simp at a b; subst a; subst b; exact h
    | succ i => exact hl.get i x x' (by simpa using a) (by simpa using b)⟩
theorem RE.head {e : AV × AV × Nat} {e' : MapEntry} {es : List (AV × AV × Nat)} {en : List MapEntry} (h : RE ρ (e :: es) (e' :: en)) : R ρ e.1 e'.key ∧ R ρ e.2.1 e'.val ∧ e'.born = e.2.2 := h.get 0 _ _ (by simp) (by simp)
theorem RE.tail {e : AV × AV × Nat} {e' : MapEntry} {es : List (AV × AV × Nat)} {en : List MapEntry} (h : RE ρ (e :: es) (e' :: en)) : RE ρ es en :=
  ⟨by have := h.len; simpa using this, fun i x x' a b => h.get (i + 1) x x' (by simpa using a) (by simpa using b)⟩
theorem ba_beq (a b : ByteArray) : (a == b) = (a.data.toList == b.data.toList) := by
  show (a.data == b.data) = _
  obtain ⟨⟨x⟩⟩ := a
  obtain ⟨⟨y⟩⟩ := b
  simp
theorem same_now {kd : TypeDesc} {k e : AV} {k' e' : Value} {b : Bool} (hk : R ρ k k') (he : R ρ e e') (hok : keyOk kd k = true) (hs : sameKey k e = some b) : Instr.sameNow kd k' e' = some b := by
  unfold sameKey at hs
  split at hs
  · rename_i j a j' c
    split at hs
    · rename_i hj
      subst hj
      cases hs
      have := hk.int_inv; subst this
      have := he.int_inv; subst this
      cases kd <;> simp [keyOk] at hok
      simp [Instr.sameNow]
    · cases hs
  · cases hs
    obtain ⟨a', rfl, rfl⟩ := hk.str_inv
    obtain ⟨c', rfl, rfl⟩ := he.str_inv
    cases kd <;> simp [keyOk] at hok
    simp [Instr.sameNow, eqS_eq, ba_beq]
  · cases hs
    have := hk.bool_inv; subst this
    have := he.bool_inv; subst this
    cases kd <;> simp [keyOk] at hok
    simp [Instr.sameNow]
  · cases hs
theorem find_now {kd : TypeDesc} {k : AV} {k' : Value} (hk : R ρ k k') (hok : keyOk kd k = true) : ∀ (es : List (AV × AV × Nat)) (en : List MapEntry) (i : Nat) (o : Option (Nat × AV)), RE ρ es en → findA k es i = some o →
    (o = none ∧ Instr.findNow kd k' en i = some none) ∨ ∃ j v v', o = some (j, v) ∧ Instr.findNow kd k' en i = some (some (j, v')) ∧ R ρ v v' ∧ i ≤ j ∧ ∃ e e', es[j - i]? = some e ∧ en[j - i]? = some e' ∧ sameKey k e.1 = some true ∧ R ρ e.1 e'.key
  | [], en, i, o, hr, hf => by
    have : en = [] := List.eq_nil_of_length_eq_zero (by have := hr.len; simpa using this.symm)
    subst this
    simp [findA] at hf
    exact .inl ⟨hf.symm, rfl⟩
  | e :: es, en, i, o, hr, hf => by
    cases en with
    | nil => have := hr.len; simp at this
    | cons e' en =>
      obtain ⟨h1, h2, h3⟩ := hr.head
      simp only [findA] at hf
      split at hf
      · rename_i hs
        cases hf
        have := same_now hk h1 hok hs
        refine .inr ⟨i, _, e'.val, rfl, by simp [Instr.findNow, this], h2, Nat.le_refl _, e, e', by simp, by simp, hs, h1⟩
      · rename_i hs
        have := same_now hk h1 hok hs
        rcases find_now hk hok es en (i + 1) o hr.tail hf with ⟨a, b⟩ | ⟨j, v, v', a, b, c, d, x, x', y1, y2, y3, y4⟩
        · exact .inl ⟨a, by simp [Instr.findNow, this, b]⟩
        · refine .inr ⟨j, v, v', a, by simp [Instr.findNow, this, b], c, by omega, x, x', ?_, ?_, y3, y4⟩
          · rw [show j - i = (j - (i + 1)) + 1 by omega]; simpa using y1
          · rw [show j - i = (j - (i + 1)) + 1 by omega]; simpa using y2
      · cases hf
theorem run_find {kt : TypeId} {kd : TypeDesc} {k' : Value} {en : List MapEntry} {o : Option (Nat × Value)} (hkt : P.underlying kt = some kd) (hf : Instr.findNow kd k' en 0 = some o) (w : World) : (Instr.findKey kt k' en).run P w = .ok o w := by
  simp [Instr.findKey, run_und hkt, hf]
theorem run_check {kt : TypeId} {kd : TypeDesc} {k : AV} {k' : Value} (_hk : R ρ k k') (hok : keyOk kd k = true) (hkt : P.underlying kt = some kd) (b : Bool) (d : Nat) (w : World) : (Instr.checkKey b (d + 1) kt k').run P w = .ok () w := by
  cases kd <;> simp [keyOk] at hok <;> simp [Instr.checkKey, run_und hkt]
theorem map_there {b ck : Nat} {es : List (AV × AV × Nat)} (hr : Rep ρ ⟨h.m, n⟩ N w) (hb : h.m b = some (.map es ck)) : ∃ p en, ρ b = some p ∧ w.heap[p.blk]? = some (.map en ck) ∧ RE ρ es en.toList ∧ ¬ N.keep p.blk := by
  obtain ⟨p, hp, h0, en, h1, h2, h3⟩ := hr.blk b _ hb
  exact ⟨p, en, hp, h1, ⟨by simpa using h2, fun i e e' x y => h3 i e e' x (by simpa using y)⟩, h0⟩
theorem getObj_run {b : Nat} {o : Obj} (ho : w.heap[b]? = some o) (hn : ∀ c e f, o ≠ .cells c e f) : (getObj b).run P w = .ok o w := by
  simp only [getObj, Sem.run, ho]
theorem setObj_run {b : Nat} {o o' : Obj} (ho : w.heap[b]? = some o) (hn : ∀ c e f, o ≠ .cells c e f) : (setObj b o').run P w = .ok () { w with heap := w.heap.setIfInBounds b o' } := by
  simp only [setObj, Sem.run, ho]
theorem write_obj {b : Nat} {x x' : Blk} {p : Pl} {o' : Obj} (hr : Rep ρ ⟨h.m, n⟩ N w) (hb : h.m b = some x) (hwr : x.writes = true) (hp : ρ b = some p) (hlt : p.blk < w.heap.size) (hN : ¬ N.keep p.blk)
    (hx : ∀ w' : World, w'.heap[p.blk]? = some o' → RB ρ N w' p x') : Rep ρ ⟨(h.put b x').m, n⟩ N { w with heap := w.heap.setIfInBounds p.blk o' } ∧ Low N w { w with heap := w.heap.setIfInBounds p.blk o' } := by
  refine ⟨?_, ⟨rfl, rfl, rfl, by simp, fun k hk => by simp only [Array.getElem?_setIfInBounds]; rw [if_neg (fun e : p.blk = k => hN (e ▸ hk))]⟩⟩
  refine Rep.write (h := ⟨h.m, n⟩) hr hb hwr hp (by simp) (fun q hq => by simp only [Array.getElem?_setIfInBounds]; rw [if_neg (by omega)]) (hx _ (by simp [hlt]))
theorem findK_eq {A : Type} {k : AV} {F : Nat → AV → Option A} {G : Option A} : ∀ (es : List (AV × AV × Nat)) (i : Nat), findK k F G es i = match findA k es i with
    | some (some (j, v)) => F j v
    | some none => G
    | none => none
  | [], _ => rfl
  | e :: es, i => by
    simp only [findK, findA]
    cases sameKey k e.1 with
    | none => rfl
    | some b => cases b <;> first | rfl | exact findK_eq es (i + 1)
theorem sim_lookup {t : TypeId} {x k : AV} {x' k' : Value} {ok : Bool} {K : AV → Option A} (hr : Rep ρ ⟨h.m, n⟩ N w) (hx : R ρ x x') (hk : R ρ k k') (hh : lookupK P t x k ok h K = some r) :
    ∃ v v', K v = some r ∧ R ρ v v' ∧ (Instr.lookup t x' k' ok).run P w = .ok v' w := by
  obtain ⟨d, hd, hk1⟩ := tyK_some hh
  clear hh
  split at hk1
  · rename_i kt et
    obtain ⟨kd, hkt, hk2⟩ := tyK_some hk1
    obtain ⟨hok, hk3⟩ := guardK_some hk2
    obtain ⟨p, rfl, hk4⟩ := asMap_some hk3
    clear hk1 hk2 hk3
    simp only [findK_eq] at hk4
    have fin : ∀ (es : List (AV × AV × Nat)) (en : Array MapEntry), RE ρ es en.toList → (∀ w₀ : World, w₀ = w → True) →
        (match findA k es 0 with | some (some (_, v)) => K (bif ok then .tup [v, .bool true] else v) | some none => zeroV P et fun z => K (bif ok then .tup [z, .bool false] else z) | none => none) = some r →
        ∃ v v', K v = some r ∧ R ρ v v' ∧ ((do
          Instr.checkKey en.isEmpty 10000 kt k'
          let (v, ok') ← match ← Instr.findKey kt k' en.toList with
            | some (_, v) => pure (v, true)
            | none => pure (← zeroValue et, false)
          pure (if ok then .tuple #[v, .bool ok'] else v) : Sem Value)).run P w = .ok v' w := by
      intro es en hre _ hf
      have hck := run_check (P := P) hk hok hkt en.isEmpty 9999 w
      split at hf
      · rename_i j v hfa
        rcases find_now hk hok es en.toList 0 _ hre hfa with ⟨a, _⟩ | ⟨j', u, u', a, b, c, _⟩
        · cases a
        · cases a
          have hrun := run_find (P := P) hkt b w
          cases ok with
          | true => exact ⟨_, .tuple #[u', .bool true], hf, RL.two c (.bool true), by simp [hck, hrun]⟩
          | false => exact ⟨_, u', hf, c, by simp [hck, hrun]⟩
      · rename_i hfa
        obtain ⟨i, z, z1, z2, hf1⟩ := zeroV_some hf
        rcases find_now hk hok es en.toList 0 _ hre hfa with ⟨_, b⟩ | ⟨j', u, u', a, b, c, _⟩
        · have hrun := run_find (P := P) hkt b w
          cases ok with
          | true => exact ⟨_, .tuple #[z, .bool false], hf1, RL.two (.ofConst ρ z) (.bool false), by simp [hck, hrun, run_zero z1 z2]⟩
          | false => exact ⟨_, z, hf1, .ofConst ρ z, by simp [hck, hrun, run_zero z1 z2]⟩
        · cases a
      · cases hf
    cases p with
    | none =>
      cases hx
      obtain ⟨v, v', a, b, c⟩ := fin [] #[] (RE.nil ρ) (fun _ _ => trivial) hk4
      refine ⟨v, v', a, b, ?_⟩
      simp only [Instr.lookup, Sem.run_bind, run_und hd, Result.andThen_ok, Sem.run_pure] at c ⊢
      exact c
    | some b =>
      simp only [entriesK] at hk4
      split at hk4
      · rename_i es ck hb
        obtain ⟨p, en, hp, h1, h2, h3⟩ := map_there hr hb
        cases hx with
        | map hp' =>
          rename_i p'
          rw [hp] at hp'; cases hp'
          obtain ⟨v, v', a, b', c⟩ := fin es en h2 (fun _ _ => trivial) hk4
          refine ⟨v, v', a, b', ?_⟩
          have hg := getObj_run (P := P) h1 (by simp)
          simp only [Instr.lookup, Sem.run_bind, run_und hd, Result.andThen_ok, Sem.run_pure, hg] at c ⊢
          exact c
      · cases hk4
  · cases hk1
theorem setEntry_get (es : List (AV × AV × Nat)) (j : Nat) (k v : AV) (i : Nat) : (setEntry es j k v)[i]? = if i = j then (es[i]?).map (fun e => (k, v, e.2.2)) else es[i]? := by
  induction es generalizing j i with
  | nil => simp [setEntry]
  | cons e es ih =>
    cases j with
    | zero => cases i <;> simp [setEntry]
    | succ j =>
      cases i with
      | zero => simp [setEntry]
      | succ i => simp [setEntry, ih]
theorem setEntry_length (es : List (AV × AV × Nat)) (j : Nat) (k v : AV) : (setEntry es j k v).length = es.length := by
  induction es generalizing j with
  | nil => simp [setEntry]
  | cons e es ih => cases j <;> simp [setEntry, ih]
theorem appE_eq (es : List (AV × AV × Nat)) (x : AV × AV × Nat) : appE es x = es ++ [x] := by
  induction es <;> simp_all [appE]
theorem delEntry_eq (es : List (AV × AV × Nat)) (j : Nat) : delEntry es j = es.eraseIdx j := by
  induction es generalizing j with
  | nil => simp [delEntry]
  | cons e es ih => cases j <;> simp_all [delEntry]
theorem stays {k e : AV} {k' e' : Value} (hk : R ρ k k') (he : R ρ e e') (hs : sameKey k e = some true) : Instr.sameBits 10000 e' k' = true := by
  unfold sameKey at hs
  split at hs
  · split at hs
    · rename_i hj
      subst hj
      have := hk.int_inv; subst this
      have := he.int_inv; subst this
      simp at hs
      simp [Instr.sameBits, hs]
    · cases hs
  · obtain ⟨a', rfl, rfl⟩ := hk.str_inv
    obtain ⟨c', rfl, rfl⟩ := he.str_inv
    rw [eqS_eq] at hs
    simp only [Option.some.injEq] at hs
    have : a'.data.toList = c'.data.toList := by simpa using hs
    have := Go.WideShapes.bytes_inj this
    subst this
    show (ByteArray.data _ == ByteArray.data _) = true
    simp
  · have := hk.bool_inv; subst this
    have := he.bool_inv; subst this
    simp at hs
    simp [Instr.sameBits, hs]
  · cases hs
theorem sim_mapUpdate {t : TypeId} {x k v : AV} {x' k' v' : Value} {K : Heap → Option A} (hr : Rep ρ ⟨h.m, n⟩ N w) (hx : R ρ x x') (hk : R ρ k k') (hv : R ρ v v') (hh : mapUpdateK P t x k v h K = some r) :
    ∃ h' w', K h' = some r ∧ h'.next = h.next ∧ (Instr.mapUpdate t x' k' v').run P w = .ok () w' ∧ Rep ρ ⟨h'.m, n⟩ N w' ∧ Low N w w' := by
  obtain ⟨d, hd, hk1⟩ := tyK_some hh
  clear hh
  split at hk1
  · rename_i kt et
    obtain ⟨kd, hkt, hk2⟩ := tyK_some hk1
    obtain ⟨hok, hk3⟩ := guardK_some hk2
    obtain ⟨p, rfl, hk4⟩ := asMap_some hk3
    clear hk1 hk2 hk3
    split at hk4
    · cases hk4
    · rename_i b
      split at hk4
      · rename_i es ck hb
        obtain ⟨p, en, hp, h1, h2, h3⟩ := map_there hr hb
        have hlt : p.blk < w.heap.size := by
          rcases Nat.lt_or_ge p.blk w.heap.size with h' | h'
          · exact h'
          · simp [Array.getElem?_eq_none h'] at h1
        cases hx with
        | map hp' =>
          rename_i p'
          rw [hp] at hp'; cases hp'
          have hg := getObj_run (P := P) h1 (by simp)
          have hck := run_check (P := P) hk hok hkt false 9999 w
          split at hk4
          · rename_i j u hfa
            rcases find_now hk hok es en.toList 0 _ h2 hfa with ⟨a, _⟩ | ⟨j', u1, u', a, b', c, _, e, e', y1, y2, y3, y4⟩
            · cases a
            · cases a
              have hrun := run_find (P := P) hkt b' w
              simp only [Nat.sub_zero] at y1 y2
              have hst := stays hk y4 y3
              have y2' : en[j]? = some e' := by simpa using y2
              have hks : (Instr.keyThatStays (((en[j]?).map (·.key)).getD k') k').run P w = .ok k' w := by
                simp [Instr.keyThatStays, y2', hst]
              refine ⟨_, { w with heap := w.heap.setIfInBounds p.blk (.map (en.modify j fun e => { e with key := k', val := v' }) ck) }, hk4, rfl, ?_, ?_⟩
              · simp only [Instr.mapUpdate, Sem.run_bind, run_und hd, Result.andThen_ok, hg, hck, hrun, hks, setObj_run (P := P) h1 (by simp)]
              · refine write_obj hr hb rfl hp hlt h3 fun w' hw' => ⟨h3, _, hw', ?_, fun i e1 e2 q1 q2 => ?_⟩
                · rw [setEntry_length]; simp; simpa using h2.len
                · rw [setEntry_get] at q1
                  rw [Array.getElem?_modify] at q2
                  by_cases hij : i = j
                  · subst hij
                    rw [if_pos rfl] at q1 q2
                    rw [y1] at q1
                    rw [y2'] at q2
                    cases q1; cases q2
                    have := h2.get i e e' y1 (by simpa using y2')
                    exact ⟨hk, hv, this.2.2⟩
                  · rw [if_neg hij] at q1
                    rw [if_neg (Ne.symm hij)] at q2
                    exact h2.get i e1 e2 q1 (by simpa using q2)
          · rename_i hfa
            rcases find_now hk hok es en.toList 0 _ h2 hfa with ⟨_, b'⟩ | ⟨j', u1, u', a, _⟩
            · have hrun := run_find (P := P) hkt b' w
              refine ⟨_, { w with heap := w.heap.setIfInBounds p.blk (.map (en.push { key := k', val := v', born := ck }) (ck + 1)) }, hk4, rfl, ?_, ?_⟩
              · simp only [Instr.mapUpdate, Sem.run_bind, run_und hd, Result.andThen_ok, hg, hck, hrun, setObj_run (P := P) h1 (by simp)]
              · have hl := h2.len
                simp only [Array.length_toList] at hl
                refine write_obj hr hb rfl hp hlt h3 fun w' hw' => ⟨h3, _, hw', by rw [appE_eq]; simp [hl], fun i e1 e2 q1 q2 => ?_⟩
                rw [appE_eq] at q1
                rw [Array.getElem?_push] at q2
                by_cases hij : i = en.size
                · subst hij
                  rw [if_pos rfl] at q2
                  rw [← hl] at q1
                  simp at q1
                  cases q1; cases q2
                  exact ⟨hk, hv, rfl⟩
                · rw [if_neg hij] at q2
                  have hlt2 : i < es.length := by
                    rcases Nat.lt_or_ge i es.length with h' | h'
                    · exact h'
                    · rw [Array.getElem?_eq_none (by omega)] at q2; cases q2
                  rw [List.getElem?_append_left hlt2] at q1
                  exact h2.get i e1 e2 q1 (by simpa using q2)
            · cases a
          · cases hk4
      · cases hk4
  · cases hk1
end
end Go.Ev
/- Each operation that calls nothing: the model's run answers what the evaluator tells. -/
namespace Go.Ev
open Go.RowKit
section
variable {A : Type} {P : Program} {r : A} {ρ : Loc} {N : Zone} {n id : Nat} {h : Heap} {w : World}

theorem sim_fold (f : Int → Int → Int) (g : Value → Value → Sem Value) (hg : ∀ k a b, g (.int k a) (.int k b) = pure (.int k (f a b))) (k : IntKind) : ∀ (a : Int) (vs : List AV) (vs' : List Value) (K : AV → Option A), RL ρ vs vs' → foldI f k a vs K = some r →
    ∃ b, K (.int k b) = some r ∧ ∀ w, (vs'.foldlM g (.int k a) : Sem Value).run P w = .ok (.int k b) w
  | a, [], vs', K, hv, hh => by
    have : vs' = [] := List.eq_nil_of_length_eq_zero (by have := hv.len; simpa using this.symm)
    subst this
    exact ⟨a, hh, fun w => by simp⟩
  | a, v :: vs, vs', K, hv, hh => by
    cases vs' with
    | nil => have := hv.len; simp at this
    | cons v' vs' =>
      simp only [foldI] at hh
      obtain ⟨b, rfl, hk⟩ := asInt_some hh
      have := hv.head.int_inv; subst this
      obtain ⟨c, h1, h2⟩ := sim_fold f g hg k (f a b) vs vs' K hv.tail hk
      exact ⟨c, h1, fun w => by simp [hg, h2]⟩
theorem erase_told {es : List (AV × AV × Nat)} {en : Array MapEntry} (h : RE ρ es en.toList) (j : Nat) : (delEntry es j).length = (en.eraseIdxIfInBounds j).size ∧
    ∀ (i : Nat) (e : AV × AV × Nat) (e' : MapEntry), (delEntry es j)[i]? = some e → (en.eraseIdxIfInBounds j)[i]? = some e' → R ρ e.1 e'.key ∧ R ρ e.2.1 e'.val ∧ e'.born = e.2.2 := by
  have ht : (en.eraseIdxIfInBounds j).toList = en.toList.eraseIdx j := by
    unfold Array.eraseIdxIfInBounds
    split
    · simp
    · rw [List.eraseIdx_of_length_le]; simp; omega
  have hl := h.len
  simp only [Array.length_toList] at hl
  refine ⟨?_, fun i e e' a b => ?_⟩
  · rw [← Array.length_toList, ht, delEntry_eq, List.length_eraseIdx, List.length_eraseIdx]
    simp [hl]
  · rw [delEntry_eq, List.getElem?_eraseIdx] at a
    rw [← Array.getElem?_toList, ht, List.getElem?_eraseIdx] at b
    split at a
    · rename_i hi; rw [if_pos hi] at b; exact h.get _ _ _ a b
    · rename_i hi; rw [if_neg hi] at b; exact h.get _ _ _ a b
theorem sim_builtin {b : Builtin} {tys : Array TypeId} {args : List AV} {args' : List Value} {ty : TypeId} {K : AV → Heap → Option A} (hr : Rep ρ ⟨h.m, n⟩ N w) (hid : b = .append → ρ id = none ∧ id < n) (ha : RL ρ args args')
    (hh : builtinK P b tys.toList args h id K = some r) : ∃ s : Sem Value, (∀ consts, builtin b tys ty consts args'.toArray = (do pure (.value (← s)))) ∧ SimM P ρ N n id h w s K r := by
  have one : ∀ {x : AV} {l : List Value}, RL ρ [x] l → ∃ x', l = [x'] ∧ R ρ x x' := fun {x l} hl => by
    cases l with
    | nil => have := hl.len; simp at this
    | cons x' l =>
      have : l = [] := List.eq_nil_of_length_eq_zero (by have := hl.len; simpa using this.symm)
      subst this
      exact ⟨x', rfl, hl.head⟩
  have two : ∀ {x y : AV} {l : List Value}, RL ρ [x, y] l → ∃ x' y', l = [x', y'] ∧ R ρ x x' ∧ R ρ y y' := fun {x y l} hl => by
    cases l with
    | nil => have := hl.len; simp at this
    | cons x' l =>
      obtain ⟨y', rfl, hy⟩ := one hl.tail
      exact ⟨x', y', rfl, hl.head, hy⟩
  have arr1 : ∀ {t : TypeId}, tys.toList = [t] → tys = #[t] := fun {t} e => by apply Array.ext'; simpa using e
  have arr2 : ∀ {t u : TypeId}, tys.toList = [t, u] → tys = #[t, u] := fun {t u} e => by apply Array.ext'; simpa using e
  unfold builtinK at hh
  split at hh
  · rename_i t x e1
    have := arr1 e1; subst this
    obtain ⟨x', rfl, hx⟩ := one ha
    obtain ⟨d, hd, hk⟩ := tyK_some hh
    refine ⟨Builtin.len_ #[t] ty #[x'], fun _ => rfl, ?_⟩
    split at hk
    · obtain ⟨s, rfl, hk1⟩ := asStr_some hk
      obtain ⟨s', rfl, rfl⟩ := hx.str_inv
      rw [lenS_eq] at hk1
      refine ⟨_, h, _, w, ρ, hk1, rfl, ?_, GrowsS.refl _, fun _ _ => rfl, hr, .int _ _, Low.refl _ _⟩
      simp [Builtin.len_, run_und hd, goInt]
    · rcases asSl2_some hx hk with ⟨p, len, cap, ex, sz, hx, hk1⟩ | ⟨cs, len, ex, sz, hx, hk1⟩
      rotate_left
      · obtain ⟨a, cap', rfl, _⟩ := hx.fz_inv
        refine ⟨_, h, .int .i64 (len : Nat), w, ρ, hk1, rfl, ?_, GrowsS.refl _, fun _ _ => rfl, hr, .int _ _, Low.refl _ _⟩
        simp [Builtin.len_, run_und hd, goInt]
      refine ⟨_, h, .int .i64 (len : Nat), w, ρ, hk1, rfl, ?_, GrowsS.refl _, fun _ _ => rfl, hr, .int _ _, Low.refl _ _⟩
      cases p with
      | none => obtain ⟨rfl, rfl, _⟩ := hx.nils_inv; simp [Builtin.len_, run_und hd, goInt]
      | some q =>
        obtain ⟨p, a, cap', q1, rfl, _⟩ := hx.sl_inv
        simp [Builtin.len_, run_und hd, goInt]
    · refine ⟨_, h, _, w, ρ, hk, rfl, ?_, GrowsS.refl _, fun _ _ => rfl, hr, .int _ _, Low.refl _ _⟩
      simp [Builtin.len_, run_und hd, goInt]
    · obtain ⟨p, rfl, hk1⟩ := asMap_some hk
      cases p with
      | none =>
        cases hx
        simp only [entriesK] at hk1
        refine ⟨_, h, _, w, ρ, hk1, rfl, ?_, GrowsS.refl _, fun _ _ => rfl, hr, .int _ _, Low.refl _ _⟩
        simp [Builtin.len_, run_und hd, goInt]
      | some b =>
        simp only [entriesK] at hk1
        split at hk1
        · rename_i es ck hb
          obtain ⟨p, en, hp, h1, h2, h3⟩ := map_there hr hb
          cases hx with
          | map hp' =>
            rename_i p'
            rw [hp] at hp'; cases hp'
            have hg := getObj_run (P := P) h1 (by simp)
            have hl := h2.len
            simp only [Array.length_toList] at hl
            refine ⟨_, h, _, w, ρ, hk1, rfl, ?_, GrowsS.refl _, fun _ _ => rfl, hr, .int _ _, Low.refl _ _⟩
            simp [Builtin.len_, run_und hd, goInt, hg, hl]
        · cases hk1
    · cases hk
  · rename_i t x e1
    have := arr1 e1; subst this
    obtain ⟨x', rfl, hx⟩ := one ha
    obtain ⟨d, hd, hk⟩ := tyK_some hh
    refine ⟨Builtin.cap_ #[t] ty #[x'], fun _ => rfl, ?_⟩
    split at hk
    · rcases asSl2_some hx hk with ⟨p, len, cap, ex, sz, hx, hk1⟩ | ⟨cs, len, ex, sz, hx, hk1⟩
      rotate_left
      · obtain ⟨hex, hk2⟩ := guardK_some hk1
        obtain ⟨a, cap', rfl, f1, f2, f3, f4, f5⟩ := hx.fz_inv
        have := f5 hex
        subst this
        refine ⟨_, h, .int .i64 (cap' : Nat), w, ρ, hk2, rfl, ?_, GrowsS.refl _, fun _ _ => rfl, hr, .int _ _, Low.refl _ _⟩
        simp [Builtin.cap_, run_und hd, goInt]
      obtain ⟨hex, hk2⟩ := guardK_some hk1
      subst hex
      refine ⟨_, h, .int .i64 (cap : Nat), w, ρ, hk2, rfl, ?_, GrowsS.refl _, fun _ _ => rfl, hr, .int _ _, Low.refl _ _⟩
      cases p with
      | none => obtain ⟨rfl, _, rfl, _⟩ := hx.nils_inv; simp [Builtin.cap_, run_und hd, goInt]
      | some q =>
        obtain ⟨p, a, cap', q1, rfl, _, q3, _⟩ := hx.sl_inv
        have := q3 rfl
        subst this
        simp [Builtin.cap_, run_und hd, goInt]
    · cases hk
  · rename_i t u s x e1
    have := arr2 e1; subst this
    obtain ⟨s', x', rfl, hs, hx⟩ := two ha
    obtain ⟨d, hd, hk⟩ := tyK_some hh
    obtain ⟨du, hdu, hk1⟩ := tyK_some hk
    refine ⟨Builtin.append_ #[t, u] ty #[s', x'], fun _ => rfl, ?_⟩
    split at hk1
    · exact sim_append hr (hid rfl).1 (hid rfl).2 hs hx hd (.inl ⟨rfl, .inl ⟨_, hdu⟩⟩) hk1
    · exact sim_append hr (hid rfl).1 (hid rfl).2 hs hx hd (.inl ⟨rfl, .inr hdu⟩) hk1
    · exact sim_append hr (hid rfl).1 (hid rfl).2 hs hx hd (.inr ⟨rfl, _, hdu⟩) hk1
    · cases hk1
  · rename_i t u d' x e1
    have := arr2 e1; subst this
    obtain ⟨s', x', rfl, hs, hx⟩ := two ha
    obtain ⟨d, hd, hk⟩ := tyK_some hh
    refine ⟨Builtin.copy_ #[t, u] ty #[s', x'], fun _ => rfl, ?_⟩
    split at hk
    · exact sim_copy hr hs hx hd hk
    · cases hk
  · rename_i t x e1
    have := arr1 e1; subst this
    obtain ⟨x', rfl, hx⟩ := one ha
    obtain ⟨d, hd, hk⟩ := tyK_some hh
    refine ⟨Builtin.clear_ #[t] ty #[x'], fun _ => rfl, ?_⟩
    split at hk
    · obtain ⟨h', w', a1, a2, a3, a4, a5⟩ := sim_clear (ty := ty) hr hx hd hk
      exact ⟨.tup [], h', .tuple #[], w', ρ, a1, a2, a3, GrowsS.refl _, fun _ _ => rfl, a4, R.undef _, a5⟩
    · cases hk
  · rename_i t u x k e1
    have := arr2 e1; subst this
    obtain ⟨x', k', rfl, hx, hkk⟩ := two ha
    obtain ⟨d, hd, hk⟩ := tyK_some hh
    refine ⟨Builtin.delete_ #[t, u] ty #[x', k'], fun _ => rfl, ?_⟩
    split at hk
    · rename_i kt et
      obtain ⟨kd, hkt, hk2⟩ := tyK_some hk
      obtain ⟨hok, hk3⟩ := guardK_some hk2
      obtain ⟨p, rfl, hk4⟩ := asMap_some hk3
      clear hk hk2 hk3 hh
      split at hk4
      · cases hx
        refine ⟨_, h, _, w, ρ, hk4, rfl, ?_, GrowsS.refl _, fun _ _ => rfl, hr, R.undef _, Low.refl _ _⟩
        have hck := run_check (P := P) hkk hok hkt true 9999 w
        simp [Builtin.delete_, run_und hd, hck]
        rfl
      · rename_i b
        split at hk4
        · rename_i es ck hb
          obtain ⟨p, en, hp, h1, h2, h3⟩ := map_there hr hb
          have hlt : p.blk < w.heap.size := by
            rcases Nat.lt_or_ge p.blk w.heap.size with h' | h'
            · exact h'
            · simp [Array.getElem?_eq_none h'] at h1
          cases hx with
          | map hp' =>
            rename_i p'
            rw [hp] at hp'; cases hp'
            have hg := getObj_run (P := P) h1 (by simp)
            have hck := run_check (P := P) hkk hok hkt en.isEmpty 9999 w
            split at hk4
            · rename_i j u hfa
              rcases find_now hkk hok es en.toList 0 _ h2 hfa with ⟨a, _⟩ | ⟨j', u1, u', a, b', c, _, e, e', y1, y2, y3, y4⟩
              · cases a
              · cases a
                have hrun := run_find (P := P) hkt b' w
                refine ⟨.tup [], _, .tuple #[], { w with heap := w.heap.setIfInBounds p.blk (.map (en.eraseIdxIfInBounds j) ck) }, ρ, hk4, rfl, ?_, GrowsS.refl _, fun _ _ => rfl, ?_, R.undef _, ?_⟩
                · simp only [Builtin.delete_]
                  simp [run_und hd, hg, hck, hrun, setObj_run (P := P) h1]
                · exact (write_obj (x' := .map (delEntry es j) ck) hr hb rfl hp hlt h3 fun w' hw' => ⟨h3, _, hw', (erase_told h2 j).1, (erase_told h2 j).2⟩).1
                · exact (write_obj (x' := .map (delEntry es j) ck) hr hb rfl hp hlt h3 fun w' hw' => ⟨h3, _, hw', (erase_told h2 j).1, (erase_told h2 j).2⟩).2
            · rename_i hfa
              rcases find_now hkk hok es en.toList 0 _ h2 hfa with ⟨_, b'⟩ | ⟨j', u1, u', a, _⟩
              · have hrun := run_find (P := P) hkt b' w
                have hself : w.heap.setIfInBounds p.blk (.map en ck) = w.heap := by
                  apply Array.ext
                  · simp
                  · intro i h1' h2'
                    rw [Array.getElem_setIfInBounds]
                    split
                    · rename_i e; subst e
                      rw [Array.getElem?_eq_getElem hlt] at h1
                      exact (Option.some.inj h1).symm
                    · rfl
                refine ⟨.tup [], h, .tuple #[], w, ρ, hk4, rfl, ?_, GrowsS.refl _, fun _ _ => rfl, hr, R.undef _, Low.refl _ _⟩
                simp only [Builtin.delete_]
                simp [run_und hd, hg, hck, hrun, setObj_run (P := P) h1, hself]
              · cases a
            · cases hk4
        · cases hk4
    · cases hk
  · rename_i v vs
    cases args' with
    | nil => have := ha.len; simp at this
    | cons v' vs' =>
      obtain ⟨k, a, rfl, hk⟩ := anyInt_some hh
      have := ha.head.int_inv; subst this
      obtain ⟨c, h1, h2⟩ := sim_fold (P := P) minI Builtin.min2 (fun k a b => by simp [Builtin.min2, minI]) k a vs vs' _ ha.tail hk
      refine ⟨Builtin.min_ tys ty _, fun _ => rfl, ⟨_, h, _, w, ρ, h1, rfl, ?_, GrowsS.refl _, fun _ _ => rfl, hr, .int _ _, Low.refl _ _⟩⟩
      simp [Builtin.min_, h2]
  · rename_i v vs
    cases args' with
    | nil => have := ha.len; simp at this
    | cons v' vs' =>
      obtain ⟨k, a, rfl, hk⟩ := anyInt_some hh
      have := ha.head.int_inv; subst this
      obtain ⟨c, h1, h2⟩ := sim_fold (P := P) maxI Builtin.max2 (fun k a b => by simp [Builtin.max2, maxI]) k a vs vs' _ ha.tail hk
      refine ⟨Builtin.max_ tys ty _, fun _ => rfl, ⟨_, h, _, w, ρ, h1, rfl, ?_, GrowsS.refl _, fun _ _ => rfl, hr, .int _ _, Low.refl _ _⟩⟩
      simp [Builtin.max_, h2]
  · cases hh
/-- What one operation that calls nothing comes to. -/
def SimO (P : Program) (ρ : Loc) (N : Zone) (n id : Nat) (h : Heap) (w : World) (s : Sem Next) (K : AV → Heap → Option A) (r : A) : Prop :=
  ∃ v h' v' w' ρ' nx, K v h' = some r ∧ h'.next = h.next ∧ s.run P w = .ok nx w' ∧ (nx = .value v' ∨ (nx = .skip ∧ v' = Go.undef)) ∧ GrowsS ρ ρ' ∧ (∀ b, b ≠ id → ρ' b = ρ b) ∧ Rep ρ' ⟨h'.m, n⟩ N w' ∧ R ρ' v v' ∧ Low N w w'
theorem SimM.op {s : Sem Value} {K : AV → Heap → Option A} (hs : SimM P ρ N n id h w s K r) : SimO P ρ N n id h w (do pure (.value (← s))) K r := by
  obtain ⟨v, h', v', w', ρ', a, b, c, d, e, f, g, i⟩ := hs
  exact ⟨v, h', v', w', ρ', _, a, b, by simp [c], .inl rfl, d, e, f, g, i⟩
theorem SimV.op {s : Sem Value} {K : AV → Heap → Option A} (hr : Rep ρ ⟨h.m, n⟩ N w) (hs : SimV P ρ s (fun v => K v h) r) : SimO P ρ N n id h w (do pure (.value (← s))) K r := (SimV.mem hr hs).op
theorem SimO.val {v : AV} {v' : Value} {s : Sem Next} {K : AV → Heap → Option A} (hr : Rep ρ ⟨h.m, n⟩ N w) (hv : R ρ v v') (hk : K v h = some r) (hs : s.run P w = .ok (.value v') w) : SimO P ρ N n id h w s K r :=
  ⟨v, h, v', w, ρ, _, hk, rfl, hs, .inl rfl, GrowsS.refl _, fun _ _ => rfl, hr, hv, Low.refl _ _⟩
theorem prim_sound {o : Oper} {e : Operand → AV} {e' : Operand → Value} {K : AV → Heap → Option A} (hr : Rep ρ ⟨h.m, n⟩ N w) (he : ∀ x, R ρ (e x) (e' x)) (hid : news o.op = true → ρ id = none ∧ id < n)
    (hh : prim P o e h id K = some r) : SimO P ρ N n id h w (execOp e' o) K r := by
  obtain ⟨dst, op, type, pos, after, guard⟩ := o
  unfold prim at hh
  simp only at hh hid
  split at hh
  · exact SimO.val hr (he _) hh (by simp [execOp])
  · exact SimO.val hr (he _) hh (by simp [execOp])
  · rename_i c a b
    obtain ⟨t, e1, hk⟩ := asBool_some hh
    have hc := he c
    rw [e1] at hc
    have hc := hc.bool_inv
    cases t with
    | true => exact SimO.val hr (he a) hk (by simp [execOp, hc, Go.asBool])
    | false => exact SimO.val hr (he b) hk (by simp [execOp, hc, Go.asBool])
  · exact (sim_alloc hr (hid rfl).1 (hid rfl).2 hh).op
  · exact (sim_box hr (hid rfl).1 (hid rfl).2 (he _) hh).op
  · rename_i t parts
    have := sim_build (ρ := ρ) (Parts.map he parts.toList) hh
    have e2 : (parts.toList.map fun p => (p.1, e' p.2)).toArray = parts.map fun (i, x) => (i, e' x) := by apply Array.ext'; simp
    rw [e2] at this
    exact SimV.op hr this
  · rename_i t k parts
    have := sim_buildSlice hr (hid rfl).1 (hid rfl).2 (Parts.map he parts.toList) hh
    have e2 : (parts.toList.map fun p => (p.1, e' p.2)).toArray = parts.map fun (i, x) => (i, e' x) := by apply Array.ext'; simp
    rw [e2] at this
    exact this.op
  · rename_i t a
    rcases asAdr2_some hh with ⟨⟨b, o⟩, e1, hk⟩ | ⟨cs, o, e1, hk⟩
    rotate_left
    · have ha := he a
      rw [e1] at ha
      obtain ⟨v, v', a', a1, a2, a3, a4⟩ := sim_loadF (P := P) (h := ⟨h.m, n⟩) hr ha (K := fun v => K v h) hk
      refine SimO.val hr a2 a1 ?_
      simp [execOp, Instr.loadAt, a3, Instr.sureAddr, a4]
    have ha := he a
    rw [e1] at ha
    obtain ⟨p, hp, e2⟩ := ha.ptr_inv
    obtain ⟨v, v', a1, a2, a3⟩ := sim_load (P := P) (h := ⟨h.m, n⟩) hr hp (K := fun v => K v h) (by simpa [loadK, ldN, ld1] using hk)
    refine SimO.val hr a2 a1 ?_
    simp [execOp, Instr.loadAt, e2, Instr.sureAddr, a3]
  · rename_i t a x
    obtain ⟨⟨b, o⟩, e1, hk⟩ := asAdr_some hh
    have ha := he a
    rw [e1] at ha
    obtain ⟨p, hp, e2⟩ := ha.ptr_inv
    obtain ⟨cs, cs', hk1, c1, c2, c3⟩ := cellsK_some (he x) hk
    obtain ⟨i, h1, hk2⟩ := sizeK_some hk1
    obtain ⟨g1, hk3⟩ := guardK_some hk2
    obtain ⟨vs, f1, f2, f3⟩ := stN_some hk3
    rw [lenA_eq] at g1
    have g1 := Nat.eq_of_beq_eq_true g1
    have hl := c2.len
    simp only [Array.length_toList] at hl
    obtain ⟨w', s1, s2, s3⟩ := store_cells (P := P) (h := ⟨h.m, n⟩) hr f1 hp f2 c2 c3
    refine ⟨.tup [], _, Go.undef, w', ρ, _, f3, rfl, ?_, .inr ⟨rfl, rfl⟩, GrowsS.refl _, fun _ _ => rfl, s2, R.undef _, s3⟩
    simp only at s1
    have hsz : cs'.size = i.size := by omega
    simp [execOp, Instr.storeAt, e2, Instr.sureAddr, storeVar, run_size h1, c1, hsz, s1]
  · rename_i x
    obtain ⟨hk, hc⟩ := sim_nil (he x) hh
    refine SimO.val hr (he x) hk ?_
    rcases hc with ⟨p, e1⟩ | ⟨f, a, c, e1⟩ | ⟨l, e1⟩ <;> simp [execOp, e1]
  · exact SimV.op hr (sim_binK _ _ (he _) (he _) hh)
  · exact SimV.op hr (sim_unK (he _) hh)
  · exact (sim_conv hr (hid rfl).1 (hid rfl).2 (he _) hh).op
  · rename_i t x
    obtain ⟨d, hd, hk⟩ := tyK_some hh
    split at hk
    · cases hk
    · rename_i hni
      refine SimO.val hr (.iface t (he x)) hk ?_
      simp only [execOp, Instr.makeInterface, Sem.run_bind, run_und hd, Result.andThen_ok]
      cases d <;> first | exact absurd rfl (hni _) | rfl
  · rename_i f first cap
    refine SimO.val (v' := .func (.func f) (first.map e') (cap.map e')) hr ?_ hh (by simp [execOp, Instr.makeFunc])
    have h1 := RL.map (ρ := ρ) e e' first.toList (fun x _ => he x)
    have h2 := RL.map (ρ := ρ) e e' cap.toList (fun x _ => he x)
    exact .fn f (by simp) (fun i v v' a b => h1.get i v v' a (by simpa using b)) (by simp) (fun i v v' a b => h2.get i v v' a (by simpa using b))
  · rename_i t
    have hg : GrowsS ρ (setLoc ρ id ⟨w.heap.size, 0, 0⟩) := setLoc_growsS (hid rfl).1
    refine ⟨_, _, .map (some w.heap.size), { w with heap := w.heap.push (.map #[] 0) }, setLoc ρ id ⟨w.heap.size, 0, 0⟩, _, hh, rfl, by simp [execOp, Instr.makeMap], .inl rfl, hg, fun b hb => by simp [setLoc, hb], ?_, ?_, Low.push hr.old _⟩
    · exact Rep.new (h := ⟨h.m, n⟩) hr (hid rfl).1 (hid rfl).2 _ (.map [] 0) ⟨w.heap.size, 0, 0⟩ rfl rfl ⟨fun hk => absurd (hr.old _ hk) (Nat.lt_irrefl _), #[], push_get _ _, rfl, fun i e e' a _ => by simp at a⟩
    · exact .map (p := ⟨w.heap.size, 0, 0⟩) (by simp [setLoc])
  · exact (sim_makeSlice hr (hid rfl).1 (hid rfl).2 (he _) (he _) hh).op
  · rename_i t x lo hi mx
    obtain ⟨g1, hk⟩ := guardK_some hh
    refine SimV.op hr (sim_slice (he _) (RO.map he lo) (RO.map he hi) (RO.map he mx) (fun hm => ?_) hk)
    cases mx with
    | none => simp at hm
    | some m =>
      cases hi with
      | none => simp [isNone'] at g1
      | some _ => simp
  · exact SimV.op hr (sim_fieldAddr (he _) hh)
  · exact SimV.op hr (sim_field (he _) hh)
  · exact SimV.op hr (sim_indexAddr (he _) (he _) hh)
  · exact SimV.op hr (sim_index (he _) (he _) hh)
  · rename_i t x k ok
    obtain ⟨v, v', a, b, c⟩ := sim_lookup hr (he x) (he k) hh
    exact SimO.val hr b a (by simp [execOp, c])
  · rename_i t m k x
    obtain ⟨h', w', a, b, c, d, f⟩ := sim_mapUpdate hr (he m) (he k) (he x) hh
    exact ⟨.tup [], h', Go.undef, w', ρ, _, a, b, by simp [execOp, c], .inr ⟨rfl, rfl⟩, GrowsS.refl _, fun _ _ => rfl, d, R.undef _, f⟩
  · exact SimV.op hr (sim_assert (he _) hh)
  · exact SimV.op hr (sim_extract (he _) hh)
  · rename_i b args tys
    have ha := RL.map (ρ := ρ) e e' args.toList (fun x _ => he x)
    obtain ⟨s, s1, s2⟩ := sim_builtin (ty := type) hr (fun hb => by subst hb; exact hid rfl) ha hh
    have := s2.op
    have e2 : (args.toList.map e').toArray = args.map e' := by apply Array.ext'; simp
    rw [e2] at s1
    obtain ⟨v, h', v', w', ρ', nx, a1, a2, a3, a4⟩ := this
    refine ⟨v, h', v', w', ρ', nx, a1, a2, ?_, a4⟩
    rw [← a3]
    simp only [execOp, resolve, invoke, Sem.run_bind, Sem.run_pure, Result.andThen_ok, s1]
  · cases hh
end
end Go.Ev
