/- More of the evaluator's operations that look at no memory. -/
import Derived.Test.YthlmbnhelkbchaaEvD
namespace Go.Ev
open Go.RowKit
section
variable {A : Type} {P : Program} {r : A} {ρ : Loc} {K : AV → Option A}

theorem add_at (b o n : Nat) : (⟨b, o, none⟩ : Addr).add n = ⟨b, o + n, none⟩ := by unfold Addr.add; split <;> simp_all
theorem R.sl_inv {b o len cap sz : Nat} {ex : Bool} {v' : Value} (h : R ρ (.sl (some (b, o)) len cap ex sz) v') :
    ∃ p a cap', ρ b = some p ∧ v' = .slice (some a) len cap' ∧ cap ≤ cap' ∧ (ex = true → cap' = cap) ∧ (0 < cap' → a = ⟨p.blk, p.off + o, none⟩ ∧ o + cap' * sz ≤ p.ext) ∧ len ≤ cap := by
  cases h with
  | sl h h1 h2 h3 h4 => exact ⟨_, _, _, h, rfl, h1, h2, h3, h4⟩
theorem R.nils_inv {len cap sz : Nat} {ex : Bool} {v' : Value} (h : R ρ (.sl none len cap ex sz) v') : v' = .slice none 0 0 ∧ len = 0 ∧ cap = 0 ∧ ex = true := by
  cases h with
  | sln sz => exact ⟨rfl, rfl, rfl, rfl⟩
theorem R.fp_inv {cs : List AV} {o : Nat} {v' : Value} (h : R ρ (.fp cs o) v') :
    ∃ b q o0 cs0, v' = .pointer (some ⟨b, q + o0 + o, none⟩) ∧ ρ.F b q cs0 ∧ cs = (cs0.drop o0).take cs.length ∧ o0 + cs.length ≤ cs0.length := by
  cases h with
  | fp h hc hl => exact ⟨_, _, _, _, rfl, h, hc, hl⟩
theorem fieldOff_some {t : TypeId} {f : Nat} {K : Nat → TypeId → Option A} (h : fieldOff P t f K = some r) :
    ∃ fs fd, P.underlying t = some (.struct fs) ∧ fs[f]? = some fd ∧ K fd.offset fd.type = some r := by
  obtain ⟨d, hd, hk⟩ := tyK_some h
  clear h
  split at hk
  · split at hk
    · exact ⟨_, _, hd, by assumption, hk⟩
    · cases hk
  · cases hk
theorem sim_fieldAddr {t : TypeId} {x : AV} {x' : Value} {f : Nat} (hx : R ρ x x') (h : fieldAddrK P t x f K = some r) : SimV P ρ (Instr.fieldAt t x' f) K r := by
  obtain ⟨fs, fd, h1, h2, hk⟩ := fieldOff_some h
  obtain ⟨i, h3, hk⟩ := sizeK_some hk
  obtain ⟨h4, hk⟩ := guardK_some hk
  have h5 : i.size ≠ 0 := by
    have := Nat.le_of_ble_eq_true h4
    omega
  rcases asAdr2_some hk with ⟨⟨b, o⟩, rfl, hk1⟩ | ⟨cs, q, rfl, hk1⟩
  rotate_left
  · obtain ⟨b, r0, o0, cs0, rfl, f1, f2, f3⟩ := hx.fp_inv
    refine ⟨_, .pointer (some ⟨b, r0 + o0 + (q + fd.offset), none⟩), hk1, .fp f1 f2 f3, fun w => ?_⟩
    simp [Instr.fieldAt, run_und h1, h2, Instr.sureAddr, fieldPlace, run_size h3, h5, add_at, Nat.add_assoc]
  clear hk
  have hk := hk1; clear hk1
  obtain ⟨p, hp, rfl⟩ := hx.ptr_inv
  refine ⟨_, .pointer (some ⟨p.blk, p.off + (o + fd.offset), none⟩), hk, .ptr hp, fun w => ?_⟩
  simp [Instr.fieldAt, run_und h1, h2, Instr.sureAddr, fieldPlace, run_size h3, h5, add_at, Nat.add_assoc]

theorem R.proj {d : TypeDesc} {v : AV} {v' : Value} (h : R ρ v v') (ht : isT d v = true) : R ρ (projT d v) v' := by
  unfold isT at ht
  unfold projT
  split at ht
  · cases v <;> simp [isIntK] at ht
    subst ht; exact h
  · cases v <;> simp [isBoolA] at ht
    exact h
  · cases v <;> simp [isStrA] at ht
    exact h
  · cases v <;> simp [isFzN] at ht
    · rename_i p len cap ex sz
      cases p <;> simp at ht
      obtain ⟨rfl, _⟩ := h.nils_inv
      exact .fz (fun h0 => absurd h0 (Nat.lt_irrefl _)) (fun _ => rfl) (by simp [fzC, fzL]) (Nat.le_refl 0) (fun _ => rfl) (fun _ hx => by cases hx)
    · exact h
  · exact h
theorem asTy_some {d : TypeDesc} {v : AV} (h : asTy d v K = some r) : K v = some r := by
  unfold asTy at h
  split at h
  · obtain ⟨h0, h1⟩ := guardK_some h
    cases v <;> simp [isIntK] at h0
    subst h0; exact h1
  · obtain ⟨h0, h1⟩ := guardK_some h
    cases v <;> simp [isBoolA] at h0
    exact h1
  · obtain ⟨h0, h1⟩ := guardK_some h
    cases v <;> simp [isStrA] at h0
    exact h1
  · obtain ⟨n, rfl, h1⟩ := asPtr_some h; exact h1
  · exact (guardK_some h).2
  · obtain ⟨n, rfl, h1⟩ := asMap_some h; exact h1
  · exact h
theorem sim_part {t : TypeId} {cs : List AV} {cs' : List Value} {off : Nat} (hc : RL ρ cs cs') (h : partK P t cs off K = some r) : SimV P ρ (part t cs'.toArray off) K r := by
  obtain ⟨d, hd, hk⟩ := tyK_some h
  clear h
  cases hg : isAggD d with
  | true =>
    simp only [hg, cond_true] at hk
    obtain ⟨i, h1, hk⟩ := sizeK_some hk
    refine ⟨_, .agg (cs'.toArray.extract off (off + i.size)), hk, ?_, fun w => ?_⟩
    · rw [takeA_eq, dropA_eq]
      have := ((hc.drop off).take i.size).agg
      have e : (List.take i.size (List.drop off cs')).toArray = cs'.toArray.extract off (off + i.size) := by
        apply Array.ext'
        simp [List.extract_eq_take_drop]
      rw [← e]; exact this
    · simp [part, run_agg hd, hg, run_size h1]
  | false =>
    simp only [hg, cond_false] at hk
    obtain ⟨h1, hk⟩ := guardK_some hk
    have hk := asTy_some hk
    rw [lenA_eq] at h1
    have h2 : off < cs.length := Nat.le_of_ble_eq_true h1
    obtain ⟨v', h3, h4⟩ := hc.get_some (List.getElem?_eq_getElem h2)
    refine ⟨_, v', hk, ?_, fun w => ?_⟩
    · rw [nth_eq]; simp only [List.getD, List.getElem?_eq_getElem h2, Option.getD_some]; exact h4
    · simp [part, run_agg hd, hg, h3]
theorem sim_field {t : TypeId} {x : AV} {x' : Value} {f : Nat} (hx : R ρ x x') (h : fieldK P t x f K = some r) : SimV P ρ (Instr.field t x' f) K r := by
  obtain ⟨fs, fd, h1, h2, hk⟩ := fieldOff_some h
  obtain ⟨cs, rfl, hk1⟩ := asAgg_some hk
  obtain ⟨cs', rfl, hc⟩ := hx.of_agg
  obtain ⟨v, v', a, b, c⟩ := sim_part hc hk1
  exact ⟨v, v', a, b, fun w => by simp [Instr.field, run_und h1, h2, Go.asAgg, c]⟩
theorem selK_some {A : Type} {i : Int} {K : Nat → Option A} {r : A} : ∀ {n j : Nat}, selK i K n j = some r → ∃ m : Nat, i = (m : Int) ∧ K m = some r
  | 0, _, h => by cases h
  | n + 1, j, h => by
    simp only [selK] at h
    cases hb : i == (j : Int) with
    | true => rw [hb] at h; exact ⟨j, eq_of_beq hb, h⟩
    | false => rw [hb] at h; exact selK_some h
theorem arrK_some {A : Type} {i : Int} {len : Nat} {K : Nat → Option A} {r : A} (h : arrK i len K = some r) : K i.toNat = some r := by
  unfold arrK at h
  cases hb : Nat.ble len 8 with
  | true =>
    rw [hb] at h
    obtain ⟨m, rfl, hm⟩ := selK_some h
    exact hm
  | false => rw [hb] at h; exact h
theorem sim_indexAddr {t : TypeId} {x ix : AV} {x' ix' : Value} (hx : R ρ x x') (hi : R ρ ix ix') (h : indexAddrK P t x ix K = some r) : SimV P ρ (Instr.indexAt t x' ix') K r := by
  obtain ⟨k, i, rfl, hk1⟩ := anyInt_some h
  have := hi.int_inv; subst this
  obtain ⟨d, hd, hk⟩ := tyK_some hk1
  clear h hk1
  split at hk
  · rename_i len e
    obtain ⟨n, h1, hk⟩ := sizeK_some hk
    rcases asAdr2_some hk with ⟨⟨b, o⟩, rfl, hk1⟩ | ⟨cs, q, rfl, hk1⟩
    rotate_left
    · obtain ⟨b, r0, o0, cs0, rfl, f1, f2, f3⟩ := hx.fp_inv
      obtain ⟨h2, hk2⟩ := guardK_some hk1
      simp only [Bool.and_eq_true, decide_eq_true_eq] at h2
      have hk2 := arrK_some hk2
      refine ⟨_, .pointer (some ⟨b, r0 + o0 + (q + i.toNat * n.size), none⟩), hk2, .fp f1 f2 f3, fun w => ?_⟩
      simp [Instr.indexAt, asIntOf, run_und hd, Instr.sureAddr, h2, run_size h1, add_at, Nat.add_assoc]
    clear hk
    have hk := hk1; clear hk1
    obtain ⟨p, hp, rfl⟩ := hx.ptr_inv
    obtain ⟨h2, hk⟩ := guardK_some hk
    simp only [Bool.and_eq_true, decide_eq_true_eq] at h2
    have hk := arrK_some hk
    refine ⟨_, .pointer (some ⟨p.blk, p.off + (o + i.toNat * n.size), none⟩), hk, .ptr hp, fun w => ?_⟩
    simp [Instr.indexAt, asIntOf, run_und hd, Instr.sureAddr, h2, run_size h1, add_at, Nat.add_assoc]
  · rename_i e
    obtain ⟨n, h1, hk⟩ := sizeK_some hk
    rcases asSl2_some hx hk with ⟨p, len, cap, ex, sz, hx, hk1⟩ | ⟨cs, len, ex, sz, hx, hk1⟩
    rotate_left
    · obtain ⟨h2, hk2⟩ := guardK_some hk1
      simp only [Bool.and_eq_true, decide_eq_true_eq] at h2
      obtain ⟨⟨h3, h4⟩, h5⟩ := h2
      have h3 := Nat.eq_of_beq_eq_true h3
      obtain ⟨a, cap', rfl, g1, g2, g3, g4, g5⟩ := hx.fz_inv
      obtain ⟨b, r0, o0, cs0, f1, rfl, f2, f3⟩ := g1 (by omega)
      refine ⟨_, .pointer (some ⟨b, r0 + o0 + i.toNat * n.size, none⟩), hk2, .fp f1 (by rw [g3]; exact f2) (by rw [g3]; exact f3), fun w => ?_⟩
      simp [Instr.indexAt, asIntOf, run_und hd, h4, h5, run_size h1, add_at, Nat.add_assoc]
    clear hk
    split at hk1
    · cases hk1
    · rename_i q
      obtain ⟨h2, hk⟩ := guardK_some hk1
      simp only [Bool.and_eq_true, decide_eq_true_eq] at h2
      obtain ⟨⟨h3, h4⟩, h5⟩ := h2
      have h3 := Nat.eq_of_beq_eq_true h3
      obtain ⟨b, o⟩ := q
      obtain ⟨p, a, cap', g1, rfl, g2, g3, g4, g5⟩ := hx.sl_inv
      obtain ⟨ha, hb⟩ := g4 (by omega)
      subst ha
      refine ⟨_, .pointer (some ⟨p.blk, p.off + (o + i.toNat * n.size), none⟩), hk, .ptr g1, fun w => ?_⟩
      simp [Instr.indexAt, asIntOf, run_und hd, h4, h5, run_size h1, add_at, Nat.add_assoc]
  · cases hk
theorem sim_index {t : TypeId} {x ix : AV} {x' ix' : Value} (hx : R ρ x x') (hi : R ρ ix ix') (h : indexK P t x ix K = some r) : SimV P ρ (Instr.index t x' ix') K r := by
  obtain ⟨k, i, rfl, hk1⟩ := anyInt_some h
  have := hi.int_inv; subst this
  obtain ⟨d, hd, hk⟩ := tyK_some hk1
  clear h hk1
  split at hk
  · rename_i len e
    obtain ⟨n, h1, hk⟩ := sizeK_some hk
    obtain ⟨cs, rfl, hk1⟩ := asAgg_some hk
    obtain ⟨cs', rfl, hc⟩ := hx.of_agg
    clear hk
    obtain ⟨h2, hk⟩ := guardK_some hk1
    simp only [Bool.and_eq_true, decide_eq_true_eq] at h2
    obtain ⟨v, v', a, b, c⟩ := sim_part hc hk
    exact ⟨v, v', a, b, fun w => by simp [Instr.index, asIntOf, run_und hd, h2, run_size h1, c]⟩
  · obtain ⟨s, rfl, hk1⟩ := asStr_some hk
    clear hk
    obtain ⟨s', rfl, rfl⟩ := hx.str_inv
    obtain ⟨h2, hk⟩ := guardK_some hk1
    simp only [Bool.and_eq_true, decide_eq_true_eq] at h2
    obtain ⟨h3, h4⟩ := h2
    rw [lenS_eq] at h4
    have hl : s'.data.toList.length = s'.size := by simp
    have h5 : i.toNat < s'.data.toList.length := by omega
    refine ⟨_, .int .u8 (s'.data.toList.getD i.toNat 0).toNat, hk, by rw [nthS_eq]; exact .int _ _, fun w => ?_⟩
    have h6 : i.toNat < s'.size := by omega
    have e : s'[i.toNat]? = some (s'[i.toNat]) := by simp [getElem?_pos, h6]
    have e2 : s'.data.toList.getD i.toNat 0 = s'[i.toNat] := by
      simp only [List.getD, List.getElem?_eq_getElem h5, Option.getD_some]
      rfl
    simp only [Instr.index, asIntOf, Sem.run_bind, Sem.run_pure, Result.andThen_ok, run_und hd, h3, if_true, e, e2]
  · cases hk
theorem sim_extract {x : AV} {x' : Value} {i : Nat} (hx : R ρ x x') (h : extractK x i K = some r) : SimV P ρ (Instr.extract x' i) K r := by
  obtain ⟨vs, rfl, hk1⟩ := asTup_some h
  obtain ⟨vs', rfl, hc⟩ := hx.of_tup
  obtain ⟨h1, hk⟩ := guardK_some hk1
  rw [lenA_eq] at h1
  have h2 : i < vs.length := Nat.le_of_ble_eq_true h1
  obtain ⟨v', h3, h4⟩ := hc.get_some (List.getElem?_eq_getElem h2)
  refine ⟨_, v', hk, ?_, fun w => ?_⟩
  · rw [nth_eq]; simp only [List.getD, List.getElem?_eq_getElem h2, Option.getD_some]; exact h4
  · simp [Instr.extract, h3]
end
end Go.Ev
