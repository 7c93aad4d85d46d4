/- UnitPeriods: what oscillators of a constant step tell; the law. -/
import Derived.Test.YthlmbnhelkbchaaUrK
import Derived.Test.YthlmbnhelkbchaaUaA
import Derived.Test.YthlmbnhelkbchaaUlB
namespace Go.Proofs.Ythlmbnhelkbchaa
open Go.Ev
set_option maxRecDepth 100000
theorem kM'_eq {s : Int} (h0 : 0 ≤ s) (h1 : s < 4294967296) : kM' s = s := (kept_b s (-1099511627776) 1099511627776 (by omega)).2.2.2.2 (by omega) (by omega)
theorem phN_eq {p s : Int} (p0 : 0 ≤ p) (p1 : p < 4294967296) (h0 : 0 ≤ s) (h1 : s < 4294967296) : phN p s = (p + s) % 4294967296 := by
  unfold phN
  have e1 : w64 (p + s) = p + s := by unfold w64; rw [IntKind.wrap_i64]; omega
  rw [e1, Int.tmod_eq_emod_of_nonneg (a := p + s) (by omega)]
  have e2 : w64 ((p + s) % 4294967296 + 4294967296) = (p + s) % 4294967296 + 4294967296 := by unfold w64; rw [IntKind.wrap_i64]; omega
  rw [e2, Int.tmod_eq_emod_of_nonneg (by omega)]
  omega
theorem osc_run {v : Int → Int} {s : Int} {F : Nat → Ob → Ob} {N : Nat} (h0 : 0 ≤ s) (h1 : s < 4294967296) (hF : ∀ i o, i < N → F i o = oscO o s (v o.at')) : ∀ (d i : Nat) (o : Ob), i + d ≤ N → 0 ≤ o.at' → o.at' < 4294967296 →
    (runO 3 F i d o).2 = (List.range d).map fun j : Nat => v ((o.at' + (j : Int) * s) % 4294967296)
  | 0, _, _, _, _, _ => rfl
  | d + 1, i, o, hi, p0, p1 => by
    have hat : (onO 3 F i o).at' = (o.at' + s) % 4294967296 := by
      show (F i o).at' = _
      rw [hF i o (by omega)]
      show phN o.at' (kM' s) = _
      rw [kM'_eq h0 h1, phN_eq p0 p1 h0 h1]
    have htold : (onO 3 F i o).told = v o.at' := by
      show (F i o).told = _
      rw [hF i o (by omega)]
      rfl
    have ih := osc_run h0 h1 hF d (i + 1) (onO 3 F i o) (by omega) (by rw [hat]; omega) (by rw [hat]; omega)
    simp only [runO]
    rw [ih, htold, List.range_succ_eq_map, List.map_cons, List.map_map, hat]
    congr 1
    · congr 1
      simp only [Int.natCast_zero, Int.zero_mul]
      omega
    · refine List.map_congr_left fun j _ => ?_
      simp only [Function.comp]
      congr 1
      have : ((j.succ : Nat) : Int) * s = (j : Int) * s + s := by
        rw [show ((j.succ : Nat) : Int) = (j : Int) + 1 from rfl, Int.add_mul, Int.one_mul]
      rw [this]
      generalize (j : Int) * s = x
      omega
theorem FK1 (xs : List Int) : FK 1 [xs] = F1 xs := by unfold FK; rw [if_pos rfl]; rfl
theorem FK2 (xs ys : List Int) : FK 2 [xs, ys] = F2 xs ys := by unfold FK; rw [if_neg (by decide), if_pos rfl]; rfl
theorem FK3 (xs : List Int) : FK 3 [xs] = F3 xs := by unfold FK; rw [if_neg (by decide), if_neg (by decide)]; rfl
theorem rep_get {N i : Nat} {s : Int} (h : i < N) : (List.replicate N s).getD i 0 = s := by
  rw [List.getD_eq_getElem?_getD, List.getElem?_eq_getElem (by simpa using h)]
  simp
/-- What is told is so again behind a period. -/
theorem again {f : Nat → Int} {n : Nat} (h : ∀ j, f (j + n) = f j) : ((List.range (2 * n)).map f).take n = ((List.range (2 * n)).map f).drop n := by
  refine List.ext_getElem (by simp; omega) fun j h1 h2 => ?_
  simp only [List.getElem_take, List.getElem_drop, List.getElem_map, List.getElem_range]
  rw [Nat.add_comm n j, h]
theorem again_osc {v : Int → Int} {s : Int} {n : Nat} (h : ((n : Int) * s) % 4294967296 = 0) (j : Nat) : v (((0 : Int) + ((j + n : Nat) : Int) * s) % 4294967296) = v (((0 : Int) + (j : Int) * s) % 4294967296) := by
  congr 1
  have : ((j + n : Nat) : Int) * s = (j : Int) * s + (n : Int) * s := by
    rw [show ((j + n : Nat) : Int) = (j : Int) + (n : Int) from rfl, Int.add_mul]
  rw [this]
  generalize (j : Int) * s = x
  generalize (n : Int) * s = y at h
  omega
theorem askT_eq {A : Type} {n : Nat} {os : List Int} (hn : n ≤ 1000) (hl : os.length = 2 * n) (h : os.take n = os.drop n) (go : Option A) : askT (n : Int) os go = go := by
  have e0 : w64 (2 * (n : Int)) = ((2 * n : Nat) : Int) := by unfold w64; rw [IntKind.wrap_i64]; omega
  have e1 : AV.fz (takeA (dropA (os.map int64) (0 * 1)) (((n : Int).toNat - 0) * 1)) ((n : Int).toNat - 0) false 1 = ints (os.take n) := by
    rw [show (n : Int).toNat = n by omega, Nat.sub_zero, Nat.mul_one, Nat.mul_one, dropA_eq, List.drop_zero, takeA_eq, ← List.map_take]
    unfold ints
    rw [List.length_take, hl, show min n (2 * n) = n by omega]
  have e2 : AV.fz (takeA (dropA (os.map int64) ((n : Int).toNat * 1)) ((os.length - (n : Int).toNat) * 1)) (os.length - (n : Int).toNat) false 1 = ints (os.drop n) := by
    rw [show (n : Int).toNat = n by omega, Nat.mul_one, Nat.mul_one, dropA_eq, takeA_eq, ← List.map_drop, List.take_of_length_le (by simp)]
    unfold ints
    rw [List.length_drop]
  have hM : maxLen = 9223372036854775807 := rfl
  unfold askT
  rw [e1, e2, e0, hl, isSo_true ⟨_, _, rfl, by simp; omega⟩, rowOf_ints, rowOf_ints, decide_eq_true h, decide_eq_true (Int.natCast_nonneg n), show (n : Int).toNat = n by omega, Nat.ble_eq_true_of_le (show n ≤ 2 * n by omega), Nat.ble_eq_true_of_le (Nat.le_refl (2 * n))]
  simp only [beq_self_eq_true, Bool.not_true, guardK, cond_true, cond_false]
theorem callT_eq {A : Type} {k : Int} {n : Nat} {ui : List Int} {ls : List (List Int)} (hn : n ≤ 1000) (hG : G19 (argU ((2 * n : Nat) : Int) ls) (objU k 3 ui [] o00)) (go : Ob → List Int → Option A) :
    callT k (n : Int) ui ls go = go (runO 3 (FK k ls) 0 (2 * n) o00).1 (runO 3 (FK k ls) 0 (2 * n) o00).2 := by
  have e0 : w64 (2 * (n : Int)) = ((2 * n : Nat) : Int) := by unfold w64; rw [IntKind.wrap_i64]; omega
  unfold callT
  rw [e0, isSo_true hG, res19_eq]
  rfl
theorem mkD_ok {N : Nat} (h : N ≤ 20000) : mkD (N : Int) = true := by
  have e : limit = 140737488355328 := rfl
  unfold mkD
  simp only [Bool.and_eq_true, decide_eq_true_eq]
  omega
theorem saw_not {p : Int} (h0 : 512 ≤ p) (h1 : p < 4294967296) : saw p ≠ saw 0 := by
  unfold saw snd
  rw [Int.tdiv_eq_ediv_of_nonneg (by omega), Int.tdiv_eq_ediv_of_nonneg (by omega)]
  have e1 : w64 (w64 (p / 256) - 8388608) = p / 256 - 8388608 := by
    have : w64 (p / 256) = p / 256 := by unfold w64; rw [IntKind.wrap_i64]; omega
    rw [this]
    unfold w64
    rw [IntKind.wrap_i64]
    omega
  have e2 : w64 (w64 (0 / 256) - 8388608) = -8388608 := by decide
  rw [e1, e2]
  have k1 := kept_b (p / 256 - 8388608) (-8388607) 8388607 (by omega)
  have k2 := kept_b (-8388608) (-8388607) 8388607 (by omega)
  have := k1.2.2.2.2 (by omega) (by omega)
  have := k2.2.2.1 (by omega)
  omega
theorem law5 {H : Type} {k0 k1 : Nat} {d0 d1 : DataW H} (w0 : WT Try.prog k0 3 d0) (w1 : WT Try.prog k1 3 d1) :
    ∃ S, Ok S ∧ evCall Try.prog S tb 100 Bool (.fn 5) [dVal Try.prog k0 3 d0, dVal Try.prog k1 3 d1] ⟨fun _ => none, 0⟩ .off done = some true := by
  obtain ⟨s, e0, _⟩ := WT.vint (by kernel_rfl) w0
  obtain ⟨w, e1, _⟩ := WT.vint (by kernel_rfl) w1
  rw [e0, e1]
  obtain ⟨n, e, hp, hper⟩ := period_law s
  by_cases hc : e = 0 ∧ ¬ n > 1000 ∧ ¬ s < 0
  rotate_left
  · refine ⟨_, know_ok tbOk awake_fact (know_ok tbOk hp (stopAt_ok ok0)), (p_run0 s w n e).trans ?_⟩
    rw [same_self, same_self]
    simp only [cond_true]
    by_cases h1 : e = 0
    · subst h1
      by_cases h2 : n > 1000
      · rw [decide_eq_true h2]; rfl
      · rw [decide_eq_false h2, decide_eq_true (by omega : s < 0)]; rfl
    · have : (e == 0) = false := by simp only [beq_eq_false_iff_ne]; exact h1
      rw [this]; rfl
  obtain ⟨rfl, hn, hs⟩ := hc
  obtain ⟨p1, p2, p3, p4⟩ := hper rfl (by omega)
  obtain ⟨n, rfl⟩ : ∃ m : Nat, n = m := ⟨n.toNat, by omega⟩
  have h0 : 0 ≤ s := by omega
  have hn' : n ≤ 1000 := by omega
  have e0 : w64 (2 * (n : Int)) = ((2 * n : Nat) : Int) := by unfold w64; rw [IntKind.wrap_i64]; omega
  have eN : (w64 (2 * (n : Int))).toNat = 2 * n := by rw [e0]; omega
  have L1 : (runO 3 (FK 1 [List.replicate (2 * n) s]) 0 (2 * n) o00).2 = (List.range (2 * n)).map fun j : Nat => saw (((0 : Int) + (j : Int) * s) % 4294967296) :=
    osc_run (v := saw) h0 p1 (N := 2 * n) (fun i o hi => by rw [FK1]; unfold F1; rw [rep_get hi]) _ _ o00 (by omega) (by decide) (by decide)
  have L2 : (runO 3 (FK 2 [List.replicate (2 * n) s, List.replicate (2 * n) w]) 0 (2 * n) o00).2 = (List.range (2 * n)).map fun j : Nat => pul (((0 : Int) + (j : Int) * s) % 4294967296) w :=
    osc_run (v := fun p => pul p w) h0 p1 (N := 2 * n) (fun i o hi => by rw [FK2]; unfold F2; rw [rep_get hi, rep_get hi]) _ _ o00 (by omega) (by decide) (by decide)
  have L3 : (runO 3 (FK 3 [List.replicate (2 * n) s]) 0 (2 * n) o00).2 = (List.range (2 * n)).map fun j : Nat => tri (((0 : Int) + (j : Int) * s) % 4294967296) :=
    osc_run (v := tri) h0 p1 (N := 2 * n) (fun i o hi => by rw [FK3]; unfold F3; rw [rep_get hi]) _ _ o00 (by omega) (by decide) (by decide)
  have f27 : LFact Try.prog tb 5 27 38 (st27 s w n (runO 3 (FK 1 [List.replicate (2 * n) s]) 0 (2 * n) o00).1 (runO 3 (FK 1 [List.replicate (2 * n) s]) 0 (2 * n) o00).2 1) (.exit 4) (st27 s w n (runO 3 (FK 1 [List.replicate (2 * n) s]) 0 (2 * n) o00).1 (runO 3 (FK 1 [List.replicate (2 * n) s]) 0 (2 * n) o00).2 n) := by
    refine ⟨_, orc27_ok, ?_⟩
    rw [L1]
    have hr : rounds = 100000000000000000000 := rfl
    refine loop27 (N := n) rfl (by simp; omega) (by simp; omega) (by simp; omega) (fun j j0 j1 => ?_) (n - 1) 1 rounds (by omega) (by omega) (by omega)
    have g : ∀ i, i < 2 * n → ((List.range (2 * n)).map fun j : Nat => saw (((0 : Int) + (j : Int) * s) % 4294967296)).getD i 0 = saw (((0 : Int) + (i : Int) * s) % 4294967296) := fun i hi => by
      rw [List.getD_eq_getElem?_getD, List.getElem?_eq_getElem (by simpa using hi)]
      simp
    rw [g j (by omega), g 0 (by omega)]
    have h5 := p4 (by omega) (j : Int) (by omega) (by omega)
    have e3 : ((0 : Int) + ((0 : Nat) : Int) * s) % 4294967296 = 0 := by
      simp only [Int.natCast_zero, Int.zero_mul]
      omega
    rw [e3, Int.zero_add]
    exact saw_not h5 (by omega)
  have hS := S5_ok hp awake_fact e0 (by omega) f27
  refine ⟨_, hS, ?_⟩
  have run := p_run s w n ((2 * n : Nat) : Int) (List.replicate (2 * n) s) (List.replicate (2 * n) w) (runO 3 (FK 1 [List.replicate (2 * n) s]) 0 (2 * n) o00).1 (runO 3 (FK 1 [List.replicate (2 * n) s]) 0 (2 * n) o00).2
  rw [eN] at run
  refine run.trans ?_
  have hz : zs (2 * n) = (List.replicate (2 * n) (0 : Int)).map int64 := rep_zero _
  rw [same_self, same_self, decide_eq_false hn, decide_eq_false hs]
  simp only [cond_true, cond_false]
  have per := fun (v : Int → Int) => again (f := fun j : Nat => v (((0 : Int) + (j : Int) * s) % 4294967296)) (n := n) (again_osc (v := v) p3)
  have k1 : ∀ go : Option Bool, kind1 s w n (runO 3 (FK 1 [List.replicate (2 * n) s]) 0 (2 * n) o00).1 (runO 3 (FK 1 [List.replicate (2 * n) s]) 0 (2 * n) o00).2 (List.replicate (2 * n) s) go = go := fun go => by
    unfold kind1
    rw [callT_eq hn' ⟨1, 3, o00, 2 * n, by omega, .inl ⟨rfl, _, _, rfl, rfl, by simp⟩⟩, e0, mkD_ok (by omega), show (((2 * n : Nat) : Int)).toNat = 2 * n by omega, sameSt_self, hz, allS_ints, askT_eq hn' (by rw [runO_len]) (by rw [L1]; exact per saw), sameSt_self]
    rfl
  have k2 : ∀ go : Option Bool, kind2 s w n (List.replicate (2 * n) s) (List.replicate (2 * n) w) go = go := fun go => by
    unfold kind2
    rw [callT_eq hn' ⟨2, 3, o00, 2 * n, by omega, .inr (.inl ⟨rfl, _, _, _, _, rfl, rfl, by simp, by simp⟩)⟩, e0, mkD_ok (by omega), show (((2 * n : Nat) : Int)).toNat = 2 * n by omega, sameSt_self, hz, allS_ints, askT_eq hn' (by rw [runO_len]) (by rw [L2]; exact per fun p => pul p w)]
    rfl
  have k3 : ∀ go : Option Bool, kind3 s w n (List.replicate (2 * n) s) go = go := fun go => by
    unfold kind3
    rw [callT_eq hn' ⟨3, 3, o00, 2 * n, by omega, .inr (.inr ⟨rfl, _, _, rfl, rfl, by simp⟩)⟩, e0, mkD_ok (by omega), show (((2 * n : Nat) : Int)).toNat = 2 * n by omega, sameSt_self, hz, allS_ints, askT_eq hn' (by rw [runO_len]) (by rw [L3]; exact per tri)]
    rfl
  rw [k1, k2, k3]
end Go.Proofs.Ythlmbnhelkbchaa
