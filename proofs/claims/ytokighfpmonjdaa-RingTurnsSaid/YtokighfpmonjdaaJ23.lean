/- The document's Play: its turns. -/
import Derived.Test.YtokighfpmonjdaaJ22
namespace Go.Proofs.Ytokighfpmonjdaa
open Go.Ev
set_option maxRecDepth 100000
def sF (n c first : Nat) (a : Ab) (cs : List (List Int)) : Rf := ⟨n, c, first, a.W, a.R, a.se, a.lo, a.cl, a.ta, cs⟩
def gotA (xs : List (List Int)) (a : Ab) : List (List Int) := (xs.drop a.R).take a.gt
def soD (n c first : Nat) (xs : List (List Int)) (S : List Tn) (i : Nat) (a : Ab) (cs : List (List Int)) : St := stDc xs (flatS S) S.length (sF n c first a cs) (a.put : Int) (i : Int) (lst (gotA xs a)) (lst (xs.take a.R))
structure Hyp (n c first : Nat) (xs : List (List Int)) : Prop where
  hn : 1 ≤ n ∧ n ≤ 1024
  hc : 1 ≤ c ∧ c ≤ 8
  fi : first < 65536
  hx : xs.length ≤ 2000
  rows : ∀ f ∈ xs, f.length = c ∧ badR f = false
section
variable {n c first : Nat} {xs cs : List (List Int)} {S : List Tn} {i : Nat} {a : Ab} {A : Type}
theorem w64_in {x : Int} (h : -9000000000000000000 ≤ x ∧ x ≤ 9000000000000000000) : w64 x = x := by unfold w64; rw [IntKind.wrap_i64]; omega
theorem rfOk_sF (H : Hyp n c first xs) (hI : InvA n xs.length a) (hC : Cel n c first xs cs a) : RfOk (sF n c first a cs) := by
  obtain ⟨hr, hc, ht⟩ := hI
  have := H.hn
  have := H.hc
  have := H.fi
  have := H.hx
  have := hC.len
  refine ⟨?_, ?_, fun f hf => ?_, ?_, ?_, ?_, ?_, ?_⟩
  · show (1 : Int) ≤ c ∧ (c : Int) ≤ 8; omega
  · show (n : Int) = (cs.length : Int) ∧ 1 ≤ cs.length ∧ cs.length ≤ 1024; omega
  · show (f.length : Int) = c
    rw [hC.rows f hf]
  · show (0 : Int) ≤ first ∧ (first : Int) < 65536; omega
  · show (0 : Int) ≤ a.W ∧ (a.W : Int) ≤ 100000000; omega
  · show (0 : Int) ≤ a.R ∧ (a.R : Int) ≤ 100000000; omega
  · show a.cl ≤ 65536; omega
  · show a.ta ≤ 65536; omega
theorem toD_eq (hi : i ≤ 1000000) (K : Ex → St → Option A) (b : Ab) (cs' : List (List Int)) {s' : Rf} (hs : s' = sF n c first b cs') {put' : Int} (hp : put' = b.put) {q' o' : List (List Int)} (hq : q' = gotA xs b) (ho : o' = xs.take b.R) :
    toD xs (flatS S) S.length (i : Int) K s' put' (lst q') (lst o') = K .normal (soD n c first xs S (i + 1) b cs') := by
  subst hs hp hq ho
  unfold toD soD
  show guardK (alO (lst (gotA xs b)) (alO (lst (xs.take b.R)) true)) _ = _
  rw [alO_lst, alO_lst, w64_succ (by omega)]
  rfl
theorem gotA_len (hI : InvA n xs.length a) : (gotA xs a).length = a.gt := by
  obtain ⟨hr, hc, ht⟩ := hI
  unfold gotA
  rw [List.length_take, List.length_drop]
  omega
theorem see_D (hi : i ≤ 1000000) (hC : Cel n c first xs cs a) (m : Int) : ∃ cs', Cel n c first xs cs' (stepA n xs.length a (0, 0, m)) ∧ ∀ K : Ex → St → Option A, seeD xs (flatS S) S.length (sF n c first a cs) a.put i (lst (gotA xs a)) (lst (xs.take a.R)) K = K .normal (soD n c first xs S (i + 1) (stepA n xs.length a (0, 0, m)) cs') := by
  refine ⟨cs, hC.mono (Nat.le_refl _) (Nat.le_refl _), fun K => ?_⟩
  unfold seeD
  rw [isSo_true ⟨_, rfl⟩, rfOf_agg]
  exact toD_eq hi K (stepA n xs.length a (0, 0, m)) cs rfl rfl rfl rfl
theorem look_D (hi : i ≤ 1000000) (hC : Cel n c first xs cs a) (m : Int) : ∃ cs', Cel n c first xs cs' (stepA n xs.length a (1, 0, m)) ∧ ∀ K : Ex → St → Option A, lookD xs (flatS S) S.length (sF n c first a cs) a.put i (lst (gotA xs a)) (lst (xs.take a.R)) K = K .normal (soD n c first xs S (i + 1) (stepA n xs.length a (1, 0, m)) cs') := by
  refine ⟨cs, hC.mono (Nat.le_refl _) (Nat.le_refl _), fun K => ?_⟩
  unfold lookD
  rw [isSo_true ⟨_, rfl⟩, rfOf_agg]
  exact toD_eq hi K (stepA n xs.length a (1, 0, m)) cs rfl rfl rfl rfl
theorem claim_A (m : Int) : stepA n xs.length a (0, 1, m) = if a.cl ≥ 0 then a else { a with cl := minI (minI m ((xs.length : Int) - a.W)) ((n : Int) - ((a.W : Int) - a.se)) } := rfl
theorem take_A (m : Int) : stepA n xs.length a (1, 1, m) = if a.ta ≥ 0 then a else { a with ta := minI m ((a.lo : Int) - a.R) } := rfl
theorem put_A (m : Int) : stepA n xs.length a (0, 2, m) = if (a.put : Int) < a.cl then { a with put := a.put + 1 } else a := rfl
theorem com_A (m : Int) : stepA n xs.length a (0, 3, m) = if a.cl ≥ 0 then { a with W := a.W + a.put, cl := -1, put := 0 } else a := rfl
theorem get_A (m : Int) : stepA n xs.length a (1, 2, m) = if (a.gt : Int) < a.ta then { a with gt := a.gt + 1 } else a := rfl
theorem fin_A (m : Int) : stepA n xs.length a (1, 3, m) = if a.ta ≥ 0 then { a with R := a.R + a.gt, ta := -1, gt := 0 } else a := rfl
theorem claim_D (H : Hyp n c first xs) (hi : i ≤ 1000000) (hI : InvA n xs.length a) (hC : Cel n c first xs cs a) {m : Int} (hm : 0 ≤ m) : ∃ cs', Cel n c first xs cs' (stepA n xs.length a (0, 1, m)) ∧ ∀ K : Ex → St → Option A, claimD xs (flatS S) S.length (sF n c first a cs) a.put i (lst (gotA xs a)) (lst (xs.take a.R)) K m = K .normal (soD n c first xs S (i + 1) (stepA n xs.length a (0, 1, m)) cs') := by
  obtain ⟨hr, hc, ht⟩ := hI
  have hx := H.hx
  have hn := H.hn
  refine ⟨cs, hC.mono ?_ ?_, fun K => ?_⟩
  · rw [claim_A]; split <;> exact Nat.le_refl _
  · rw [claim_A]; split <;> exact Nat.le_refl _
  unfold claimD
  rw [isSo_true ⟨_, _, rfl⟩, rfOf_agg]
  have e1 : w64 ((xs.length : Int) - (sF n c first a cs).w) = (xs.length : Int) - a.W := w64_in (by show _ ≤ (xs.length : Int) - (a.W : Int) ∧ (xs.length : Int) - (a.W : Int) ≤ _; omega)
  have e2 : roomF (sF n c first a cs) = (n : Int) - ((a.W : Int) - a.se) := by
    show w64 ((n : Int) - w64 ((a.W : Int) - a.se)) = _
    rw [w64_in (by omega : -9000000000000000000 ≤ (a.W : Int) - a.se ∧ (a.W : Int) - a.se ≤ 9000000000000000000), w64_in (by omega)]
  have e3 : ¬ minI m ((xs.length : Int) - a.W) < 0 := by rw [minI_eq]; omega
  have es : (claF (sF n c first a cs) (minI m (w64 ((xs.length : Int) - (sF n c first a cs).w)))).1 = sF n c first (stepA n xs.length a (0, 1, m)) cs := by
    rw [e1, claim_A]
    unfold claF
    rw [if_neg e3, e2]
    show (if a.cl ≥ 0 then _ else _ : Rf × Int × Int).1 = _
    by_cases h : a.cl ≥ 0
    · rw [if_pos h, if_pos h]
    · rw [if_neg h, if_neg h]
      rfl
  have : ∀ b : Ab, (b = a ∨ ∃ v, b = { a with cl := v }) → (a.put : Int) = b.put ∧ gotA xs a = gotA xs b ∧ xs.take a.R = xs.take b.R := by
    rintro b (rfl | ⟨v, rfl⟩) <;> exact ⟨rfl, rfl, rfl⟩
  obtain ⟨h1, h2, h3⟩ := this (stepA n xs.length a (0, 1, m)) (by rw [claim_A]; split; exact Or.inl rfl; exact Or.inr ⟨_, rfl⟩)
  exact toD_eq hi K (stepA n xs.length a (0, 1, m)) cs es h1 h2 h3
theorem take_D (H : Hyp n c first xs) (hi : i ≤ 1000000) (hI : InvA n xs.length a) (hC : Cel n c first xs cs a) {m : Int} (hm : 0 ≤ m) : ∃ cs', Cel n c first xs cs' (stepA n xs.length a (1, 1, m)) ∧ ∀ K : Ex → St → Option A, takeD xs (flatS S) S.length (sF n c first a cs) a.put i (lst (gotA xs a)) (lst (xs.take a.R)) K m = K .normal (soD n c first xs S (i + 1) (stepA n xs.length a (1, 1, m)) cs') := by
  obtain ⟨hr, hc, ht⟩ := hI
  have hx := H.hx
  have hn := H.hn
  refine ⟨cs, hC.mono ?_ ?_, fun K => ?_⟩
  · rw [take_A]; split <;> exact Nat.le_refl _
  · rw [take_A]; split <;> exact Nat.le_refl _
  unfold takeD
  rw [isSo_true ⟨_, _, rfl⟩, rfOf_agg]
  have e2 : fillF (sF n c first a cs) = (a.lo : Int) - a.R := w64_in (by show _ ≤ (a.lo : Int) - (a.R : Int) ∧ (a.lo : Int) - (a.R : Int) ≤ _; omega)
  have es : (takF (sF n c first a cs) m).1 = sF n c first (stepA n xs.length a (1, 1, m)) cs := by
    rw [take_A]
    unfold takF
    rw [if_neg (by omega), e2]
    show (if a.ta ≥ 0 then _ else _ : Rf × Int × Int).1 = _
    by_cases h : a.ta ≥ 0
    · rw [if_pos h, if_pos h]
    · rw [if_neg h, if_neg h]
      rfl
  have : ∀ b : Ab, (b = a ∨ ∃ v, b = { a with ta := v }) → (a.put : Int) = b.put ∧ gotA xs a = gotA xs b ∧ xs.take a.R = xs.take b.R := by
    rintro b (rfl | ⟨v, rfl⟩) <;> exact ⟨rfl, rfl, rfl⟩
  obtain ⟨h1, h2, h3⟩ := this (stepA n xs.length a (1, 1, m)) (by rw [take_A]; split; exact Or.inl rfl; exact Or.inr ⟨_, rfl⟩)
  exact toD_eq hi K (stepA n xs.length a (1, 1, m)) cs es h1 h2 h3
theorem no_D (hi : i ≤ 1000000) (K : Ex → St → Option A) : toD xs (flatS S) S.length i K (sF n c first a cs) a.put (lst (gotA xs a)) (lst (xs.take a.R)) = K .normal (soD n c first xs S (i + 1) a cs) := toD_eq hi K a cs rfl rfl rfl rfl
theorem put_D (H : Hyp n c first xs) (hi : i ≤ 1000000) (hI : InvA n xs.length a) (hC : Cel n c first xs cs a) (m : Int) : ∃ cs', Cel n c first xs cs' (stepA n xs.length a (0, 2, m)) ∧ ∀ K : Ex → St → Option A,
    (bif decide ((a.put : Int) < (sF n c first a cs).cl) then putD xs (flatS S) S.length (sF n c first a cs) a.put i (lst (gotA xs a)) (lst (xs.take a.R)) K else toD xs (flatS S) S.length i K (sF n c first a cs) a.put (lst (gotA xs a)) (lst (xs.take a.R))) = K .normal (soD n c first xs S (i + 1) (stepA n xs.length a (0, 2, m)) cs') := by
  have hOk := rfOk_sF H hI hC
  obtain ⟨hr, hc, ht⟩ := hI
  have hx := H.hx
  have hn := H.hn
  have hfi := H.fi
  rw [put_A]
  by_cases h : (a.put : Int) < a.cl
  rotate_left
  · rw [if_neg h]
    refine ⟨cs, hC, fun K => ?_⟩
    rw [show decide ((a.put : Int) < (sF n c first a cs).cl) = false from decide_eq_false h]
    exact no_D hi K
  rw [if_pos h]
  have hlt : a.W + a.put < xs.length := by omega
  have hf : xs.getD (a.W + a.put) [] = xs[a.W + a.put] := by simp [List.getD, hlt]
  have hrow := H.rows _ (List.getElem_mem hlt)
  refine ⟨_, hC.set (by omega) (by omega) hrow.1 hf, fun K => ?_⟩
  have ew : w64 ((sF n c first a cs).w + (a.put : Int)) = ((a.W + a.put : Nat) : Int) := by
    show w64 ((a.W : Int) + (a.put : Int)) = _
    rw [w64_in (by omega)]
    omega
  have eF : frD xs (sF n c first a cs) (a.put : Int) = ints xs[a.W + a.put] := by
    show rowF (rwA xs (w64 ((sF n c first a cs).w + (a.put : Int)))) = _
    rw [ew, rwA_eq hlt]
    rfl
  rw [show decide ((a.put : Int) < (sF n c first a cs).cl) = true from decide_eq_true h, cond_true]
  unfold putD
  rw [ew, rowG_eq hlt, eF, isSo_true ⟨_, _, _, rfl, hOk, by have := H.hc; omega⟩, rfOf_agg, rowOf_ints]
  refine toD_eq hi K { a with put := a.put + 1 } _ ?_ (w64_succ (by omega)) rfl rfl
  unfold putF
  have e0 : putFE (sF n c first a cs) (a.put : Int) xs[a.W + a.put] = 0 := by
    unfold putFE
    rw [if_neg (by rw [hrow.2]; show ¬ (false = true ∨ ((xs[a.W + a.put].length : Nat) : Int) ≠ (c : Int)); simp [hrow.1]), if_neg (by omega), if_neg (by show ¬ a.cl < 0; omega), if_neg (by show ¬ (a.put : Int) ≥ a.cl; omega)]
  rw [if_pos e0]
  have ep : (plW (sF n c first a cs) (a.put : Int)).toNat = (first + (a.W + a.put)) % n := by
    show ((w64 ((first : Int) + w64 ((a.W : Int) + (a.put : Int)))).tmod (n : Int)).toNat = _
    rw [w64_in (by omega : -9000000000000000000 ≤ (a.W : Int) + a.put ∧ (a.W : Int) + a.put ≤ 9000000000000000000), w64_in (by omega), Int.tmod_eq_emod_of_nonneg (by omega)]
    rw [show (first : Int) + ((a.W : Int) + a.put) = ((first + (a.W + a.put) : Nat) : Int) by omega]
    rfl
  rw [ep]
  rfl
theorem com_D (H : Hyp n c first xs) (hi : i ≤ 1000000) (hI : InvA n xs.length a) (hC : Cel n c first xs cs a) (m : Int) : ∃ cs', Cel n c first xs cs' (stepA n xs.length a (0, 3, m)) ∧ ∀ K : Ex → St → Option A,
    (bif decide ((sF n c first a cs).cl ≥ 0) then comD xs (flatS S) S.length (sF n c first a cs) a.put i (lst (gotA xs a)) (lst (xs.take a.R)) K else toD xs (flatS S) S.length i K (sF n c first a cs) a.put (lst (gotA xs a)) (lst (xs.take a.R))) = K .normal (soD n c first xs S (i + 1) (stepA n xs.length a (0, 3, m)) cs') := by
  obtain ⟨hr, hc, ht⟩ := hI
  have hx := H.hx
  have hn := H.hn
  rw [com_A]
  by_cases h : a.cl ≥ 0
  rotate_left
  · rw [if_neg h]
    refine ⟨cs, hC, fun K => ?_⟩
    rw [show decide ((sF n c first a cs).cl ≥ 0) = false from decide_eq_false h]
    exact no_D hi K
  rw [if_pos h]
  refine ⟨cs, hC.mono (Nat.le_refl _) (Nat.le_refl _), fun K => ?_⟩
  rw [show decide ((sF n c first a cs).cl ≥ 0) = true from decide_eq_true h, cond_true]
  unfold comD
  rw [isSo_true ⟨_, _, rfl⟩, rfOf_agg]
  refine toD_eq hi K { a with W := a.W + a.put, cl := -1, put := 0 } cs ?_ rfl rfl rfl
  unfold comF
  rw [if_neg (by omega), if_neg (by show ¬ a.cl < 0; omega), if_neg (by show ¬ (a.put : Int) > a.cl; omega)]
  have ew : w64 ((a.W : Int) + (a.put : Int)) = ((a.W + a.put : Nat) : Int) := by rw [w64_in (by omega)]; omega
  show (⟨n, c, first, w64 ((a.W : Int) + (a.put : Int)), a.R, a.se, a.lo, -1, a.ta, cs⟩ : Rf) = _
  rw [ew]
  rfl
theorem get_D (H : Hyp n c first xs) (hi : i ≤ 1000000) (hI : InvA n xs.length a) (hC : Cel n c first xs cs a) (m : Int) : ∃ cs', Cel n c first xs cs' (stepA n xs.length a (1, 2, m)) ∧ ∀ K : Ex → St → Option A,
    (bif decide ((lenL (lst (gotA xs a)) : Int) < (sF n c first a cs).ta) then getD' xs (flatS S) S.length (sF n c first a cs) a.put i (lst (gotA xs a)) (lst (xs.take a.R)) K else toD xs (flatS S) S.length i K (sF n c first a cs) a.put (lst (gotA xs a)) (lst (xs.take a.R))) = K .normal (soD n c first xs S (i + 1) (stepA n xs.length a (1, 2, m)) cs') := by
  have hOk := rfOk_sF H hI hC
  have hg := gotA_len hI
  obtain ⟨hr, hc, ht⟩ := hI
  have hx := H.hx
  have hn := H.hn
  have hfi := H.fi
  rw [get_A]
  rw [lenL_lst, hg]
  by_cases h : (a.gt : Int) < a.ta
  rotate_left
  · rw [if_neg h]
    refine ⟨cs, hC, fun K => ?_⟩
    rw [show decide ((a.gt : Int) < (sF n c first a cs).ta) = false from decide_eq_false h]
    exact no_D hi K
  rw [if_pos h]
  refine ⟨cs, hC.mono (Nat.le_refl _) (Nat.le_refl _), fun K => ?_⟩
  rw [show decide ((a.gt : Int) < (sF n c first a cs).ta) = true from decide_eq_true h, cond_true]
  unfold getD'
  rw [lenL_lst, hg, isSo_true ⟨_, _, rfl, hOk⟩, rfOf_agg, cond_true]
  rw [lst_snoc _ _ (by omega)]
  refine toD_eq hi K { a with gt := a.gt + 1 } cs rfl rfl ?_ rfl
  have ep : (plcF (sF n c first a cs) (a.gt : Int)).toNat = (first + (a.R + a.gt)) % n := by
    show ((w64 ((first : Int) + w64 ((a.R : Int) + (a.gt : Int)))).tmod (n : Int)).toNat = _
    rw [w64_in (by omega : -9000000000000000000 ≤ (a.R : Int) + a.gt ∧ (a.R : Int) + a.gt ≤ 9000000000000000000), w64_in (by omega), Int.tmod_eq_emod_of_nonneg (by omega)]
    rw [show (first : Int) + ((a.R : Int) + a.gt) = ((first + (a.R + a.gt) : Nat) : Int) by omega]
    rfl
  have e0 : getEF (sF n c first a cs) (a.gt : Int) = 0 := by
    unfold getEF
    rw [if_neg (by omega), if_neg (by show ¬ a.ta < 0; omega), if_neg (by show ¬ (a.gt : Int) ≥ a.ta; omega)]
  have er : getRF (sF n c first a cs) (a.gt : Int) = xs.getD (a.R + a.gt) [] := by
    unfold getRF
    rw [if_pos e0, ep]
    exact hC.get (by omega)
  rw [er]
  exact take_snoc xs a.R a.gt (by omega)
theorem fin_D (H : Hyp n c first xs) (hi : i ≤ 1000000) (hI : InvA n xs.length a) (hC : Cel n c first xs cs a) (m : Int) : ∃ cs', Cel n c first xs cs' (stepA n xs.length a (1, 3, m)) ∧ ∀ K : Ex → St → Option A,
    (bif decide ((sF n c first a cs).ta ≥ 0) then finD xs (flatS S) S.length (sF n c first a cs) a.put i (lst (gotA xs a)) (lst (xs.take a.R)) K else toD xs (flatS S) S.length i K (sF n c first a cs) a.put (lst (gotA xs a)) (lst (xs.take a.R))) = K .normal (soD n c first xs S (i + 1) (stepA n xs.length a (1, 3, m)) cs') := by
  have hg := gotA_len hI
  obtain ⟨hr, hc, ht⟩ := hI
  have hx := H.hx
  have hn := H.hn
  rw [fin_A]
  by_cases h : a.ta ≥ 0
  rotate_left
  · rw [if_neg h]
    refine ⟨cs, hC, fun K => ?_⟩
    rw [show decide ((sF n c first a cs).ta ≥ 0) = false from decide_eq_false h]
    exact no_D hi K
  rw [if_pos h]
  refine ⟨cs, hC.mono (Nat.le_add_right _ _) (Nat.le_refl _), fun K => ?_⟩
  rw [show decide ((sF n c first a cs).ta ≥ 0) = true from decide_eq_true h, cond_true]
  unfold finD
  rw [lenL_lst, hg, isSo_true ⟨_, _, rfl⟩, rfOf_agg]
  simp only [cond_true]
  rw [lst_cat _ _ (by rw [List.length_take]; omega) (by omega)]
  refine toD_eq (q' := []) hi K { a with R := a.R + a.gt, ta := -1, gt := 0 } cs ?_ rfl rfl (take_cat xs a.R a.gt)
  unfold donF
  rw [if_neg (by omega), if_neg (by show ¬ a.ta < 0; omega), if_neg (by show ¬ (a.gt : Int) > a.ta; omega)]
  have ew : w64 ((a.R : Int) + (a.gt : Int)) = ((a.R + a.gt : Nat) : Int) := by rw [w64_in (by omega)]; omega
  show (⟨n, c, first, a.W, w64 ((a.R : Int) + (a.gt : Int)), a.se, a.lo, a.cl, -1, cs⟩ : Rf) = _
  rw [ew]
  rfl
theorem round_D (H : Hyp n c first xs) (hS : S.length ≤ 5000) (hI : InvA n xs.length a) (hC : Cel n c first xs cs a) (hi : i < S.length) (ht : okU S[i]) : ∃ cs', Cel n c first xs cs' (stepA n xs.length a S[i]) ∧ ∀ K : Ex → St → Option A, B20 (soD n c first xs S i a cs) K = K .normal (soD n c first xs S (i + 1) (stepA n xs.length a S[i]) cs') := by
  have cut : ∀ K : Ex → St → Option A, B20 (soD n c first xs S i a cs) K = EC (OF orc0) SW (stB xs (flatS S) S.length (sF n c first a cs) a.put i (lst (gotA xs a)) (lst (xs.take a.R)) S[i].1 S[i].2.1 S[i].2.2) (swK (OF orc0) K) := by
    intro K
    unfold soD
    rw [b20_cut, decide_eq_true (by omega : (i : Int) < (S.length : Int)), cond_true, turn_eq hi]
  simp only [cut]
  generalize S[i] = t at ht ⊢
  obtain ⟨w, k, m⟩ := t
  obtain ⟨⟨h1 | h1, h2 | h2 | h2 | h2⟩, h3⟩ := ht <;> simp only at h1 h2 h3 <;> subst h1 <;> subst h2
  · simp only [sw_see]; exact see_D (by omega) hC m
  · simp only [sw_claim]; exact claim_D H (by omega) hI hC (h3 rfl)
  · simp only [sw_put]; exact put_D H (by omega) hI hC m
  · simp only [sw_com]; exact com_D H (by omega) hI hC m
  · simp only [sw_look]; exact look_D (by omega) hC m
  · simp only [sw_take]; exact take_D H (by omega) hI hC (h3 rfl)
  · simp only [sw_get]; exact get_D H (by omega) hI hC m
  · simp only [sw_fin]; exact fin_D H (by omega) hI hC m
theorem loop_D (H : Hyp n c first xs) (hS : S.length ≤ 5000) (hT : ∀ t ∈ S, okU t) : ∀ (d i Q : Nat) (a : Ab) (cs : List (List Int)), i + d = S.length → d < Q → InvA n xs.length a → Cel n c first xs cs a →
    ∃ cs', loopN B20 Q (soD n c first xs S i a cs) pairE = some (.exit 4, soD n c first xs S S.length ((S.drop i).foldl (stepA n xs.length) a) cs') := by
  intro d
  induction d with
  | zero =>
    intro i Q a cs hi hQ hI hC
    obtain ⟨Q, rfl⟩ : ∃ q, Q = q + 1 := ⟨Q - 1, by omega⟩
    have hi' : i = S.length := by omega
    subst hi'
    refine ⟨cs, ?_⟩
    have e : alD (lst (gotA xs a)) (lst (xs.take a.R)) = true := by
      show alO (lst (gotA xs a)) (alO (lst (xs.take a.R)) true) = true
      rw [alO_lst, alO_lst]
    rw [loopN_succ, List.drop_eq_nil_of_le (Nat.le_refl _)]
    unfold soD
    rw [b20_cut, decide_eq_false (by omega : ¬ (S.length : Int) < (S.length : Int)), e]
    rfl
  | succ d ih =>
    intro i Q a cs hi hQ hI hC
    obtain ⟨Q, rfl⟩ : ∃ q, Q = q + 1 := ⟨Q - 1, by omega⟩
    have h : i < S.length := by omega
    have ht := hT _ (List.getElem_mem h)
    obtain ⟨cs', hC', hr⟩ := round_D (A := Ex × St) H hS hI hC h ht
    rw [loopN_succ, hr, List.drop_eq_getElem_cons h, List.foldl_cons]
    exact ih (i + 1) Q _ cs' (by omega) (by omega) (inv_step hI ht) hC'
end
end Go.Proofs.Ytokighfpmonjdaa
/- ring.Play does what is told without the first counter. -/
namespace Go.Proofs.Ytokighfpmonjdaa
open Go.Ev
set_option maxRecDepth 100000
def gA (c first : Nat) (a : Ab) : Rg := ⟨c, ((first + a.W) % 65536 : Nat), ((first + a.se) % 65536 : Nat), decide (0 ≤ a.cl), max 0 a.cl, 0, ((first + a.R) % 65536 : Nat), ((first + a.lo) % 65536 : Nat), decide (0 ≤ a.ta), max 0 a.ta, 0⟩
def pA (c first : Nat) (xs : List (List Int)) (a : Ab) (cs : List (List Int)) : Pl := ⟨gA c first a, cs, xs.drop a.W, (xs.drop a.W).take a.put, gotA xs a, xs.take a.R⟩
theorem aprt_A {f x y : Nat} (h : y ≤ x) (hx : x < y + 65536) : aprt ((f + x) % 65536 : Nat) ((f + y) % 65536 : Nat) = (x : Int) - y := by
  rw [aprt_eq (by omega) (by omega)]
  omega
theorem own_A {f x p : Nat} (hp : p ≤ 65536) : (w64 (((f + x) % 65536 : Nat) + (p : Int))).tmod 65536 = ((f + (x + p)) % 65536 : Nat) := by
  rw [w64_in (by omega), Int.tmod_eq_emod_of_nonneg (by omega)]
  omega
theorem plc_A {f x p n : Nat} (hp : p ≤ 65536) (hn : n ∣ 65536) : ((w64 (((f + x) % 65536 : Nat) + (p : Int))).tmod (n : Int)).toNat = (f + (x + p)) % n := by
  have e : ((f + x) % 65536 + p) % n = (f + (x + p)) % n := by
    rw [Nat.add_mod, Nat.mod_mod_of_dvd _ hn, ← Nat.add_mod, Nat.add_assoc]
  rw [w64_in (by omega), Int.tmod_eq_emod_of_nonneg (by omega)]
  rw [show (((f + x) % 65536 : Nat) + (p : Int)) = (((f + x) % 65536 + p : Nat) : Int) by omega]
  rw [← e]
  rfl
section
variable {n c first : Nat} {xs cs : List (List Int)} {a : Ab}
theorem put_len (hI : InvA n xs.length a) : ((xs.drop a.W).take a.put).length = a.put := by
  obtain ⟨hr, hc, ht⟩ := hI
  rw [List.length_take, List.length_drop]
  omega
theorem stp_claim (H : Hyp n c first xs) (hI : InvA n xs.length a) {m : Int} (hm : 0 ≤ m) : stepP (pA c first xs a cs) (0, 1, m) = pA c first xs (stepA n xs.length a (0, 1, m)) cs ∨ cs.length ≠ n := by
  by_cases hl : cs.length = n
  rotate_left
  · exact Or.inr hl
  left
  obtain ⟨hr, hc, ht⟩ := hI
  have hx := H.hx
  have hn := H.hn
  rw [claim_A]
  show ({ pA c first xs a cs with g := (claimS cs.length (gA c first a) (minI m ((xs.drop a.W).length : Int))).1 } : Pl) = _
  have e1 : ((xs.drop a.W).length : Int) = (xs.length : Int) - a.W := by rw [List.length_drop]; omega
  have e2 : roomG cs.length (gA c first a) = (n : Int) - ((a.W : Int) - a.se) := by
    show w64 ((cs.length : Int) - aprt ((first + a.W) % 65536 : Nat) ((first + a.se) % 65536 : Nat)) = _
    rw [aprt_A (by omega) (by omega), hl, w64_in (by omega)]
  rw [e1]
  unfold claimS
  rw [if_neg (by rw [minI_eq]; omega)]
  by_cases h : a.cl ≥ 0
  · rw [if_pos (show (gA c first a).wop = true from decide_eq_true h), if_pos h]
    rfl
  · rw [if_neg (show ¬ (gA c first a).wop = true from by show ¬ decide (0 ≤ a.cl) = true; rw [decide_eq_true_eq]; exact h), if_neg h]
    unfold claimG
    rw [e2]
    have hv : 0 ≤ minI (minI m ((xs.length : Int) - a.W)) ((n : Int) - ((a.W : Int) - a.se)) := by rw [minI_eq, minI_eq]; omega
    generalize minI (minI m ((xs.length : Int) - a.W)) ((n : Int) - ((a.W : Int) - a.se)) = v at hv
    unfold pA gA
    simp only [decide_eq_true hv, show max 0 v = v by omega]
    rfl
theorem stp_take (H : Hyp n c first xs) (hI : InvA n xs.length a) {m : Int} (hm : 0 ≤ m) : stepP (pA c first xs a cs) (1, 1, m) = pA c first xs (stepA n xs.length a (1, 1, m)) cs := by
  obtain ⟨hr, hc, ht⟩ := hI
  have hx := H.hx
  have hn := H.hn
  rw [take_A]
  show ({ pA c first xs a cs with g := (takeS (gA c first a) m).1 } : Pl) = _
  have e2 : fillG (gA c first a) = (a.lo : Int) - a.R := aprt_A (by omega) (by omega)
  unfold takeS
  rw [if_neg (by omega)]
  by_cases h : a.ta ≥ 0
  · rw [if_pos (show (gA c first a).rop = true from decide_eq_true h), if_pos h]
    rfl
  · rw [if_neg (show ¬ (gA c first a).rop = true from by show ¬ decide (0 ≤ a.ta) = true; rw [decide_eq_true_eq]; exact h), if_neg h]
    unfold takeG
    rw [e2]
    have hv : 0 ≤ minI m ((a.lo : Int) - a.R) := by rw [minI_eq]; omega
    generalize minI m ((a.lo : Int) - a.R) = v at hv
    unfold pA gA
    simp only [decide_eq_true hv, show max 0 v = v by omega]
    rfl
theorem stp_com (H : Hyp n c first xs) (hI : InvA n xs.length a) (m : Int) : stepP (pA c first xs a cs) (0, 3, m) = pA c first xs (stepA n xs.length a (0, 3, m)) cs := by
  have hp := put_len hI
  obtain ⟨hr, hc, ht⟩ := hI
  have hx := H.hx
  have hn := H.hn
  rw [com_A]
  show (if decide (0 ≤ a.cl) = true then { pA c first xs a cs with g := (commS (gA c first a) (((xs.drop a.W).take a.put).length : Int)).1, left := (xs.drop a.W).drop ((xs.drop a.W).take a.put).length, put := [] } else pA c first xs a cs) = _
  rw [hp]
  by_cases h : a.cl ≥ 0
  rotate_left
  · rw [if_neg (by rw [decide_eq_true_eq]; exact h), if_neg h]
  rw [if_pos (decide_eq_true h), if_pos h]
  have e : commS (gA c first a) (a.put : Int) = (commG (gA c first a) (a.put : Int), 0) := by
    unfold commS
    rw [if_neg (by omega), if_neg (show ¬ (gA c first a).wop = false from by show ¬ decide (0 ≤ a.cl) = false; rw [decide_eq_true h]; simp), if_neg (show ¬ (a.put : Int) > (gA c first a).wc from by show ¬ (a.put : Int) > max 0 a.cl; omega)]
  rw [e]
  have eo : (w64 ((gA c first a).wo + (a.put : Int))).tmod 65536 = ((first + (a.W + a.put)) % 65536 : Nat) := own_A (by omega)
  unfold commG
  rw [eo, List.drop_drop]
  rfl
theorem stp_fin (H : Hyp n c first xs) (hI : InvA n xs.length a) (m : Int) : stepP (pA c first xs a cs) (1, 3, m) = pA c first xs (stepA n xs.length a (1, 3, m)) cs := by
  have hp := gotA_len hI
  obtain ⟨hr, hc, ht⟩ := hI
  have hx := H.hx
  have hn := H.hn
  rw [fin_A]
  show (if decide (0 ≤ a.ta) = true then { pA c first xs a cs with g := (doneS (gA c first a) ((gotA xs a).length : Int)).1, out := xs.take a.R ++ gotA xs a, got := [] } else pA c first xs a cs) = _
  rw [hp]
  by_cases h : a.ta ≥ 0
  rotate_left
  · rw [if_neg (by rw [decide_eq_true_eq]; exact h), if_neg h]
  rw [if_pos (decide_eq_true h), if_pos h]
  have e : doneS (gA c first a) (a.gt : Int) = (doneG (gA c first a) (a.gt : Int), 0) := by
    unfold doneS
    rw [if_neg (by omega), if_neg (show ¬ (gA c first a).rop = false from by show ¬ decide (0 ≤ a.ta) = false; rw [decide_eq_true h]; simp), if_neg (show ¬ (a.gt : Int) > (gA c first a).rc from by show ¬ (a.gt : Int) > max 0 a.ta; omega)]
  rw [e]
  have eo : (w64 ((gA c first a).ro + (a.gt : Int))).tmod 65536 = ((first + (a.R + a.gt)) % 65536 : Nat) := own_A (by omega)
  unfold doneG
  rw [eo]
  have : xs.take a.R ++ gotA xs a = xs.take (a.R + a.gt) := take_cat xs a.R a.gt
  rw [this]
  rfl
theorem stp_get (H : Hyp n c first xs) (hd : n ∣ 65536) (hI : InvA n xs.length a) (hC : Cel n c first xs cs a) (m : Int) : stepP (pA c first xs a cs) (1, 2, m) = pA c first xs (stepA n xs.length a (1, 2, m)) cs := by
  have hp := gotA_len hI
  obtain ⟨hr, hc, ht⟩ := hI
  have hx := H.hx
  have hn := H.hn
  rw [get_A]
  show (if wErr (decide (0 ≤ a.ta)) (max 0 a.ta) ((gotA xs a).length : Int) = 0 then { pA c first xs a cs with got := gotA xs a ++ [getL (gA c first a) ((gotA xs a).length : Int) cs] } else pA c first xs a cs) = _
  rw [hp]
  by_cases h : (a.gt : Int) < a.ta
  rotate_left
  · rw [if_neg h, if_neg]
    unfold wErr
    rw [if_neg (by omega)]
    by_cases h1 : 0 ≤ a.ta
    · rw [decide_eq_true h1, if_neg (by simp), if_pos (by omega)]
      omega
    · rw [decide_eq_false h1, if_pos rfl]
      omega
  have ew : wErr (decide (0 ≤ a.ta)) (max 0 a.ta) (a.gt : Int) = 0 := by
    unfold wErr
    rw [if_neg (by omega), decide_eq_true (by omega : 0 ≤ a.ta), if_neg (by simp), if_neg (by omega)]
  rw [if_pos ew, if_pos h]
  have ep : (plcR (gA c first a) cs.length (a.gt : Int)).toNat = (first + (a.R + a.gt)) % n := by rw [hC.len]; exact plc_A (by omega) hd
  have eg : getL (gA c first a) (a.gt : Int) cs = xs.getD (a.R + a.gt) [] := by
    unfold getL
    rw [if_pos (show wErr (gA c first a).rop (gA c first a).rc (a.gt : Int) = 0 from ew), ep]
    exact hC.get (by omega)
  rw [eg]
  have : gotA xs a ++ [xs.getD (a.R + a.gt) []] = gotA xs { a with gt := a.gt + 1 } := take_snoc xs a.R a.gt (by omega)
  rw [this]
  rfl
theorem stp_put (H : Hyp n c first xs) (hd : n ∣ 65536) (hI : InvA n xs.length a) (hC : Cel n c first xs cs a) (m : Int) : ∃ cs', Cel n c first xs cs' (stepA n xs.length a (0, 2, m)) ∧ stepP (pA c first xs a cs) (0, 2, m) = pA c first xs (stepA n xs.length a (0, 2, m)) cs' := by
  have hp := put_len hI
  obtain ⟨hr, hc, ht⟩ := hI
  have hx := H.hx
  have hn := H.hn
  rw [put_A]
  have e0 : stepP (pA c first xs a cs) (0, 2, m) = (if (xs.drop a.W).length > a.put then
      (if putE (gA c first a) (a.put : Int) ((xs.drop a.W).getD a.put []) = 0 then { pA c first xs a cs with fs := putL (gA c first a) (a.put : Int) ((xs.drop a.W).getD a.put []) cs, put := (xs.drop a.W).take a.put ++ [(xs.drop a.W).getD a.put []] }
       else { pA c first xs a cs with fs := putL (gA c first a) (a.put : Int) ((xs.drop a.W).getD a.put []) cs }) else pA c first xs a cs) := by
    show (if (xs.drop a.W).length > ((xs.drop a.W).take a.put).length then
      (if putE (gA c first a) (((xs.drop a.W).take a.put).length : Int) ((xs.drop a.W).getD ((xs.drop a.W).take a.put).length []) = 0 then { pA c first xs a cs with fs := putL (gA c first a) (((xs.drop a.W).take a.put).length : Int) ((xs.drop a.W).getD ((xs.drop a.W).take a.put).length []) cs, put := (xs.drop a.W).take a.put ++ [(xs.drop a.W).getD ((xs.drop a.W).take a.put).length []] }
       else { pA c first xs a cs with fs := putL (gA c first a) (((xs.drop a.W).take a.put).length : Int) ((xs.drop a.W).getD ((xs.drop a.W).take a.put).length []) cs }) else pA c first xs a cs) = _
    rw [hp]
  rw [e0]
  have el : (xs.drop a.W).length = xs.length - a.W := List.length_drop
  by_cases h : (a.put : Int) < a.cl
  rotate_left
  · rw [if_neg h]
    refine ⟨cs, hC, ?_⟩
    by_cases h2 : (xs.drop a.W).length > a.put
    rotate_left
    · rw [if_neg h2]
    rw [if_pos h2]
    have ne : putE (gA c first a) (a.put : Int) ((xs.drop a.W).getD a.put []) ≠ 0 := by
      unfold putE
      split
      · omega
      · show wErr (decide (0 ≤ a.cl)) (max 0 a.cl) (a.put : Int) ≠ 0
        unfold wErr
        rw [if_neg (by omega)]
        by_cases h1 : 0 ≤ a.cl
        · rw [decide_eq_true h1, if_neg (by simp), if_pos (by omega)]
          omega
        · rw [decide_eq_false h1, if_pos rfl]
          omega
    rw [if_neg ne]
    unfold putL
    rw [if_neg ne]
    rfl
  rw [if_pos h]
  have hlt : a.W + a.put < xs.length := by omega
  have hf : xs.getD (a.W + a.put) [] = xs[a.W + a.put] := by simp [List.getD, hlt]
  have hf2 : (xs.drop a.W).getD a.put [] = xs.getD (a.W + a.put) [] := by simp [List.getD]
  have hrow := H.rows _ (List.getElem_mem hlt)
  rw [if_pos (by omega), hf2]
  have ew : putE (gA c first a) (a.put : Int) (xs.getD (a.W + a.put) []) = 0 := by
    unfold putE
    rw [hf, hrow.2, hrow.1, if_neg (show ¬ ((c : Int) ≠ (gA c first a).ch ∨ false = true) from by show ¬ ((c : Int) ≠ (c : Int) ∨ false = true); simp)]
    show wErr (decide (0 ≤ a.cl)) (max 0 a.cl) (a.put : Int) = 0
    unfold wErr
    rw [if_neg (by omega), decide_eq_true (by omega : 0 ≤ a.cl), if_neg (by simp), if_neg (by omega)]
  have ep : (plcW (gA c first a) cs.length (a.put : Int)).toNat = (first + (a.W + a.put)) % n := by rw [hC.len]; exact plc_A (by omega) hd
  have el2 : putL (gA c first a) (a.put : Int) (xs.getD (a.W + a.put) []) cs = cs.set ((first + (a.W + a.put)) % n) (xs.getD (a.W + a.put) []) := by
    unfold putL
    rw [if_pos ew, ep]
  rw [if_pos ew, el2, take_snoc xs a.W a.put hlt]
  exact ⟨_, hC.set (by omega) (by omega) (by rw [hf]; exact hrow.1) rfl, rfl⟩
theorem stp_A (H : Hyp n c first xs) (hd : n ∣ 65536) (hI : InvA n xs.length a) (hC : Cel n c first xs cs a) {t : Tn} (ht : okU t) : ∃ cs', Cel n c first xs cs' (stepA n xs.length a t) ∧ stepP (pA c first xs a cs) t = pA c first xs (stepA n xs.length a t) cs' := by
  obtain ⟨w, k, m⟩ := t
  obtain ⟨⟨h1 | h1, h2 | h2 | h2 | h2⟩, h3⟩ := ht <;> simp only at h1 h2 h3 <;> subst h1 <;> subst h2
  · exact ⟨cs, hC.mono (Nat.le_refl _) (Nat.le_refl _), rfl⟩
  · refine ⟨cs, hC.mono ?_ ?_, (stp_claim H hI (h3 rfl)).resolve_right (fun h => h hC.len)⟩ <;> · rw [claim_A]; split <;> exact Nat.le_refl _
  · exact stp_put H hd hI hC m
  · refine ⟨cs, hC.mono ?_ ?_, stp_com H hI m⟩ <;> · rw [com_A]; split <;> exact Nat.le_refl _
  · exact ⟨cs, hC.mono (Nat.le_refl _) (Nat.le_refl _), rfl⟩
  · refine ⟨cs, hC.mono ?_ ?_, stp_take H hI (h3 rfl)⟩ <;> · rw [take_A]; split <;> exact Nat.le_refl _
  · refine ⟨cs, hC.mono ?_ ?_, stp_get H hd hI hC m⟩ <;> · rw [get_A]; split <;> exact Nat.le_refl _
  · refine ⟨cs, hC.mono ?_ ?_, stp_fin H hI m⟩ <;> · rw [fin_A]; split <;> first | exact Nat.le_refl _ | exact Nat.le_add_right _ _
theorem fold_A (H : Hyp n c first xs) (hd : n ∣ 65536) : ∀ (S : List Tn) (a : Ab) (cs : List (List Int)), InvA n xs.length a → Cel n c first xs cs a → (∀ t ∈ S, okU t) → ∃ cs', S.foldl stepP (pA c first xs a cs) = pA c first xs (S.foldl (stepA n xs.length) a) cs'
  | [], _, cs, _, _, _ => ⟨cs, rfl⟩
  | t :: S, a, cs, hI, hC, hS => by
    have ht := hS t List.mem_cons_self
    obtain ⟨cs', hC', he⟩ := stp_A H hd hI hC ht
    rw [List.foldl_cons, List.foldl_cons, he]
    exact fold_A H hd S _ cs' (inv_step hI ht) hC' fun x hx => hS x (List.mem_cons_of_mem _ hx)
end
end Go.Proofs.Ytokighfpmonjdaa
/- The document's Play: what it tells. -/
namespace Go.Proofs.Ytokighfpmonjdaa
open Go.Ev
set_option maxRecDepth 100000
/-! ### Whether a frame is right, asked of a ring without cells -/
def zR (ch : Int) : Rf := ⟨0, ch, 0, 0, 0, 0, 0, 0, 0, []⟩
theorem run78z_f (ch : Int) (xs : List Int) (i : Int) (h : Heap) : evCall Try.prog (knowL Try.prog 78 2 N78 1 (st78 (zR ch) xs 0) (.exit 0) (st78 (zR ch) xs i) orc0) tb 100 AV (.fn 78) (vwArgs Try.prog [] h (parsOf Try.prog 78) [zC ch, ints xs]) (mkHeap [] 0) .off rv = bif sameSt (st78 (zR ch) xs 0) (st78 (zR ch) xs 0) then some (.bool ((xs.length : Int) == ch)) else none := by kernel_rfl
theorem run78z_t (ch : Int) (xs : List Int) (h : Heap) : evCall Try.prog (knowL Try.prog 78 2 N78 1 (st78 (zR ch) xs 0) .ret (rt78 (zR ch)) orc0) tb 100 AV (.fn 78) (vwArgs Try.prog [] h (parsOf Try.prog 78) [zC ch, ints xs]) (mkHeap [] 0) .off rv = bif sameSt (st78 (zR ch) xs 0) (st78 (zR ch) xs 0) then some (.bool false) else none := by kernel_rfl
theorem fact78z {ch : Int} {xs : List Int} (hl : xs.length ≤ maxLen) : F 78 [zC ch, ints xs] (.bool (!badR xs && ((xs.length : Int) == ch))) := by
  have hr : rounds = 100000000000000000000 := rfl
  have hM : maxLen = 9223372036854775807 := rfl
  have l1 := loop78 (s := zR ch) hl xs.length 0 rounds (by omega) (by omega)
  rw [List.drop_zero] at l1
  cases hb : badR xs with
  | false =>
    rw [hb] at l1
    exact .of (knowL_ok tbOk ⟨orc0, ok0, l1⟩ ok0 (ep := e78) rfl norm78 count78) rfl fun h => (run78z_f ch xs _ h).trans (by rw [sameSt_self]; rfl)
  | true =>
    rw [hb] at l1
    exact .of (knowL_ok tbOk ⟨orc0, ok0, l1⟩ ok0 (ep := e78) rfl norm78 count78) rfl fun h => (run78z_t ch xs h).trans (by rw [sameSt_self]; rfl)
theorem O78_ok {S : Orc} (h : Ok S) : Ok (O78 S) := knowW_ok tbOk (fun a h => by
  obtain ⟨ch, xs, rfl, hl⟩ := isSo_iff.1 h
  have := fact78z (ch := ch) hl
  have e : V78 [zC ch, ints xs] = .bool (!badR xs && ((xs.length : Int) == ch)) := by
    unfold V78 v78
    show AV.bool (!badR (rowOf (ints xs)) && (((rowOf (ints xs)).length : Int) == ch)) = _
    rw [rowOf_ints]
  rw [e]
  exact this) h
/-! ### Its loops -/
theorem loopDa {ch : Int} {s : Rf} {e : Int} {xs : List (List Int)} {zs : List AV} {M : Nat} (hx : xs.length ≤ 1000000) (hl : ∀ f ∈ xs, f.length ≤ maxLen) : ∀ (d i Q : Nat), i + d = xs.length → d < Q →
    loopN (loopB Try.prog (O78 orc0) tb 33 3 1) Q (stDa ch xs zs M s e (i : Int)) pairE = some (bif (xs.drop i).any (badF ch) then (.ret, rtD s 1 10) else (.exit 0, stDa ch xs zs M s e (xs.length : Int))) := by
  intro d
  induction d with
  | zero =>
    intro i Q hi hQ
    obtain ⟨Q, rfl⟩ : ∃ q, Q = q + 1 := ⟨Q - 1, by omega⟩
    have hi' : i = xs.length := by omega
    subst hi'
    rw [loopN_succ, bDa, List.drop_eq_nil_of_le (Nat.le_refl _), decide_eq_false (by omega : ¬ (xs.length : Int) < (xs.length : Int))]
    rfl
  | succ d ih =>
    intro i Q hi hQ
    obtain ⟨Q, rfl⟩ : ∃ q, Q = q + 1 := ⟨Q - 1, by omega⟩
    have h : i < xs.length := by omega
    have hF : rowF (ints xs[i]) = ints xs[i] := rfl
    have hL : fzL (ints xs[i]) = xs[i].length := rfl
    have h8 : isSo (G78 [zC ch, ints xs[i]]) = true := isSo_true ⟨_, _, rfl, hl _ (List.getElem_mem h)⟩
    have hv : v78 [zC ch, ints xs[i]] = (!badR xs[i] && ((xs[i].length : Int) == ch)) := by
      unfold v78
      show (!badR (rowOf (ints xs[i])) && (((rowOf (ints xs[i])).length : Int) == ch)) = _
      rw [rowOf_ints]
    rw [loopN_succ, bDa, rowG_eq h, rowG_eq h, rwA_eq h, hF, hL, h8, hv, decide_eq_true (by omega : (i : Int) < (xs.length : Int)), w64_succ (by omega), List.drop_eq_getElem_cons h, List.any_cons]
    unfold badF
    cases h1 : (xs[i].length : Int) == ch with
    | false => rfl
    | true =>
      cases h2 : badR xs[i] with
      | true => rfl
      | false => exact ih (i + 1) Q (by omega) (by omega)
theorem loopDb {xs : List (List Int)} {s : Rf} {S : List Tn} (hx : S.length ≤ 1000000) : ∀ (d i Q : Nat), i + d = S.length → d < Q →
    loopN (loopB Try.prog orc0 tb 33 10 10) Q (stDb xs (flatS S) S.length s (i : Int)) pairE = some (bif (S.drop i).any badT then (.ret, rtD s 7 17) else (.exit 2, stDb xs (flatS S) S.length s (S.length : Int))) := by
  intro d
  induction d with
  | zero =>
    intro i Q hi hQ
    obtain ⟨Q, rfl⟩ : ∃ q, Q = q + 1 := ⟨Q - 1, by omega⟩
    have hi' : i = S.length := by omega
    subst hi'
    rw [loopN_succ, bDb, List.drop_eq_nil_of_le (Nat.le_refl _), decide_eq_false (by omega : ¬ (S.length : Int) < (S.length : Int))]
    rfl
  | succ d ih =>
    intro i Q hi hQ
    obtain ⟨Q, rfl⟩ : ∃ q, Q = q + 1 := ⟨Q - 1, by omega⟩
    have h : i < S.length := by omega
    have e4 : ∀ k : Int, decide (k > 3) = decide (k ≥ 4) := fun k => by
      rw [Bool.eq_iff_iff]
      simp only [decide_eq_true_eq]
      omega
    rw [loopN_succ, bDb, turn_eq h, decide_eq_true (by omega : (i : Int) < (S.length : Int)), w64_succ (by omega), List.drop_eq_getElem_cons h, List.any_cons]
    generalize S[i] = t
    rw [e4]
    unfold badT
    cases h1 : decide (t.1 < 0) with
    | true => rfl
    | false =>
      cases h2 : decide (t.1 > 1) with
      | true => rfl
      | false =>
        cases h3 : decide (t.2.1 < 0) with
        | true => rfl
        | false =>
          cases h4 : decide (t.2.1 ≥ 4) with
          | true => rfl
          | false =>
            cases h5 : t.2.1 == 1 with
            | false => exact ih (i + 1) Q (by omega) (by omega)
            | true =>
              cases h6 : decide (t.2.2 < 0) with
              | true => rfl
              | false => exact ih (i + 1) Q (by omega) (by omega)
end Go.Proofs.Ytokighfpmonjdaa
