/- UnitPeriods: the loops' facts. -/
import Derived.Test.YthlmbnhelkbchaaUrJ
namespace Go.Proofs.Ythlmbnhelkbchaa
open Go.Ev
set_option maxRecDepth 100000
theorem rep_zero : ∀ n : Nat, repL [int64 0] n = (List.replicate n (0 : Int)).map int64
  | 0 => rfl
  | n + 1 => by
    show appA [int64 0] (repL [int64 0] n) = _
    rw [rep_zero n, List.replicate_succ]
    rfl
theorem put_ints (l : List Int) (i : Nat) (v : Int) : splice (l.map int64) (0 + i * 1) [int64 v] = (l.set i v).map int64 := by
  show setL (l.map int64) (0 + i * 1) (int64 v) = _
  rw [setL_eq, Nat.mul_one, Nat.zero_add, List.map_set]
/-- The first are so, the others 0. -/
def fillL (s : Int) (N i : Nat) : List Int := (List.range N).map fun j => if j < i then s else 0
theorem fill_len (s : Int) (N i : Nat) : (fillL s N i).length = N := by simp [fillL]
theorem fill_set (s : Int) {N i : Nat} : (fillL s N i).set i s = fillL s N (i + 1) := by
  refine List.ext_getElem (by simp [fillL]) fun j h1 h2 => ?_
  simp only [fillL, List.getElem_set, List.getElem_map, List.getElem_range]
  by_cases h : i = j
  · rw [if_pos h, if_pos (by omega)]
  · rw [if_neg h]
    by_cases h2 : j < i
    · rw [if_pos h2, if_pos (by omega)]
    · rw [if_neg h2, if_neg (by omega)]
theorem fill_0 (s : Int) (N : Nat) : (List.replicate N (0 : Int)) = fillL s N 0 := by
  refine List.ext_getElem (by simp [fillL]) fun j h1 h2 => ?_
  simp [fillL]
theorem fill_N (s : Int) (N : Nat) : fillL s N N = List.replicate N s := by
  refine List.ext_getElem (by simp [fillL]) fun j h1 h2 => ?_
  simp only [fillL, List.getElem_map, List.getElem_range, List.getElem_replicate]
  rw [if_pos (by simpa [fillL] using h1)]
theorem loop15 {k s w n : Int} {N : Nat} (hk : ∀ (i : Int) (cs : List AV) (K : Ex → St → Option (Ex × St)), loopBF Try.prog orc0 tb 5 15 [7] 9 (st15 k s w n i N cs) K = body15 k s w n i N cs K) (h2 : w64 (2 * n) = N) (hs : N ≤ 20000) : ∀ (d i m : Nat), i + d = N → d < m →
    loopN (loopBF Try.prog orc0 tb 5 15 [7] 9) m (st15 k s w n (i : Int) N ((fillL s N i).map int64)) pairE = some (.exit 2, ex15 k s w n (N : Int) (ints (List.replicate N s))) := by
  intro d
  induction d with
  | zero =>
    intro i m hi hm
    obtain ⟨m, rfl⟩ : ∃ q, m = q + 1 := ⟨m - 1, by omega⟩
    have hi : i = N := by omega
    subst hi
    rw [loopN_succ, hk]
    unfold body15
    rw [h2, decide_eq_false (by omega : ¬ ((i : Int) < (i : Int))), frz_eq (fill_len _ _ _), fill_N]
    rfl
  | succ d ih =>
    intro i m hi hm
    obtain ⟨m, rfl⟩ : ∃ q, m = q + 1 := ⟨m - 1, by omega⟩
    rw [loopN_succ, hk]
    unfold body15
    have e1 : (i : Int).toNat = i := by omega
    have e3 : Nat.ble (0 + i * 1 + 1) N = true := Nat.ble_eq_true_of_le (by omega)
    rw [h2, decide_eq_true (by omega : (i : Int) < (N : Int)), cond_true, e1, put_ints, decide_eq_true (Int.natCast_nonneg i), lenM, fill_len, e3, allS_ints, show w64 ((i : Int) + 1) = ((i + 1 : Nat) : Int) from wrapN (by omega), fill_set]
    exact ih (i + 1) m (by omega) (by omega)
theorem loop15p {s w n : Int} {N : Nat} (h2 : w64 (2 * n) = N) (hs : N ≤ 20000) : ∀ (d i m : Nat), i + d = N → d < m →
    loopN (loopBF Try.prog orc0 tb 5 15 [7, 10] 13) m (st15p s w n (i : Int) N ((fillL s N i).map int64) ((fillL w N i).map int64)) pairE = some (.exit 2, ex15p s w n (N : Int) (ints (List.replicate N s)) (ints (List.replicate N w)) (ints (List.replicate N s)) (ints (List.replicate N w))) := by
  intro d
  induction d with
  | zero =>
    intro i m hi hm
    obtain ⟨m, rfl⟩ : ∃ q, m = q + 1 := ⟨m - 1, by omega⟩
    have hi : i = N := by omega
    subst hi
    rw [loopN_succ, b15_2]
    unfold body15p
    rw [h2, decide_eq_false (by omega : ¬ ((i : Int) < (i : Int)))]
    simp only [frz_eq (fill_len s i i), frz_eq (fill_len w i i)]
    simp only [fill_N]
    rfl
  | succ d ih =>
    intro i m hi hm
    obtain ⟨m, rfl⟩ : ∃ q, m = q + 1 := ⟨m - 1, by omega⟩
    rw [loopN_succ, b15_2]
    unfold body15p
    have e1 : (i : Int).toNat = i := by omega
    have e3 : Nat.ble (0 + i * 1 + 1) N = true := Nat.ble_eq_true_of_le (by omega)
    rw [h2, decide_eq_true (by omega : (i : Int) < (N : Int)), cond_true, e1, put_ints, put_ints, decide_eq_true (Int.natCast_nonneg i), lenM, lenM, fill_len, fill_len, e3, allS_ints, allS_ints, show w64 ((i : Int) + 1) = ((i + 1 : Nat) : Int) from wrapN (by omega), fill_set, fill_set]
    exact ih (i + 1) m (by omega) (by omega)
theorem loop27 {s w n : Int} {o : Ob} {os : List Int} {N : Nat} (hn : n = N) (hl : N ≤ os.length) (h0 : 0 < os.length) (hs : os.length ≤ 20000) (hne : ∀ j, 0 < j → j < N → os.getD j 0 ≠ os.getD 0 0) : ∀ (d k m : Nat), k + d = N → d < m → 0 < k →
    loopN (loopB Try.prog (stopAt 5 [30] orc0) tb 5 27 38) m (st27 s w n o os (k : Int)) pairE = some (.exit 4, st27 s w n o os n) := by
  intro d
  induction d with
  | zero =>
    intro k m hi hm hk
    obtain ⟨m, rfl⟩ : ∃ q, m = q + 1 := ⟨m - 1, by omega⟩
    have hi : k = N := by omega
    subst hi
    rw [loopN_succ, b27, decide_eq_false (by omega : ¬ ((k : Int) < n)), hn]
    rfl
  | succ d ih =>
    intro k m hi hm hk
    obtain ⟨m, rfl⟩ : ∃ q, m = q + 1 := ⟨m - 1, by omega⟩
    have hx := hne k hk (by omega)
    have e0 := ldI_get (A := Ex × St) (i := 0) (xs := os) h0
    rw [loopN_succ, b27, decide_eq_true (by omega : (k : Int) < n), cond_true, ldI_get (by omega)]
    refine (e0 _).trans ?_
    have e : (os.getD k 0 == os.getD 0 0) = false := by simp only [beq_eq_false_iff_ne]; exact hx
    rw [e, cond_false, show w64 ((k : Int) + 1) = ((k + 1 : Nat) : Int) from wrapN (by omega)]
    exact ih (k + 1) m (by omega) (by omega) (by omega)
theorem orc27_ok : Ok (stopAt 5 [30] orc0) := stopAt_ok ok0
/-- All that is told to the law's run. -/
theorem S5_ok {s w n : Int} {N : Nat} {o : Ob} {os : List Int} (hp : F 17 [int64 s] (.tup [int64 n, int64 0])) (hw : F 12 [] (.bool true)) (h2 : w64 (2 * n) = N) (hs : N ≤ 20000)
    (h27 : LFact Try.prog tb 5 27 38 (st27 s w n o os 1) (.exit 4) (st27 s w n o os n)) : Ok (S5 [22, 25, 30] s w n N N (List.replicate N s) (List.replicate N w) o os) := by
  have hr : rounds = 100000000000000000000 := rfl
  have hz : zs N = (fillL s N 0).map int64 := by unfold zs; rw [rep_zero, fill_0]
  have hzw : zs N = (fillL w N 0).map int64 := by unfold zs; rw [rep_zero, fill_0]
  have f1 : LFact Try.prog tb 5 15 9 (st15 1 s w n 0 N (zs N)) (.exit 2) (ex15 1 s w n N (ints (List.replicate N s))) := LFact.flat ok0 (by
    rw [hz]; exact loop15 (fun i cs K => b15_1 s w n i N cs K) h2 hs N 0 rounds (by omega) (by omega))
  have f3 : LFact Try.prog tb 5 15 9 (st15 3 s w n 0 N (zs N)) (.exit 2) (ex15 3 s w n N (ints (List.replicate N s))) := LFact.flat ok0 (by
    rw [hz]; exact loop15 (fun i cs K => b15_3 s w n i N cs K) h2 hs N 0 rounds (by omega) (by omega))
  have f2 : LFact Try.prog tb 5 15 13 (st15p s w n 0 N (zs N) (zs N)) (.exit 2) (ex15p s w n N (ints (List.replicate N s)) (ints (List.replicate N w)) (ints (List.replicate N s)) (ints (List.replicate N w))) := LFact.flat ok0 (by
    have := loop15p (s := s) (w := w) h2 hs N 0 rounds (by omega) (by omega)
    rw [← hz, ← hzw] at this
    exact this)
  have k27 : Ok (addL 5 27 (L27 s w n o os) (stopAt 5 [22, 25, 30] orc0)) := addL_gen (stopAt_ok ok0) (e := e5) rfl count27
    (fun b hb => loopSim_or (loopSim_at tbOk h27 (ep := e5) rfl norm27 hb) (loopRun_sim tbOk ok0 rfl hb)) (natL_or natL_at (natL_loop ok0))
  have k15 : Ok (addL 5 15 (L15 s w n N N (List.replicate N s) (List.replicate N w)) (addL 5 27 (L27 s w n o os) (stopAt 5 [22, 25, 30] orc0))) := addL_gen k27 (e := e5) rfl count15
    (fun b hb => loopSim_or (loopSim_atF tbOk f1 (ep := e5) rfl norm15 hb) (loopSim_or (loopSim_atF tbOk f2 (ep := e5) rfl norm15 hb) (loopSim_atF tbOk f3 (ep := e5) rfl norm15 hb))) (natL_or natL_atF (natL_or natL_atF natL_atF))
  exact know_ok tbOk hw (know_ok tbOk hp (O20_ok (O19_ok (ONw_ok k15))))
end Go.Proofs.Ythlmbnhelkbchaa
