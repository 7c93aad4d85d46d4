/- RingLimits: the law holds. -/
import Derived.Test.YtokighfpmonjdaaRlC
namespace Go.Proofs.Ytokighfpmonjdaa
open Go.Ev
set_option maxRecDepth 100000
def zsl (N : Nat) : List AV := (List.replicate (N * 3) (0 : Int)).map int64
theorem repL3 : ∀ n : Nat, repL [int64 0, int64 0, int64 0] n = zsl n
  | 0 => rfl
  | n + 1 => by
    show appA [int64 0, int64 0, int64 0] (repL [int64 0, int64 0, int64 0] n) = _
    rw [repL3 n]
    unfold zsl
    rw [show (n + 1) * 3 = n * 3 + 1 + 1 + 1 by omega, List.replicate_succ, List.replicate_succ, List.replicate_succ]
    rfl
theorem zsl_len (N : Nat) : lenA (zsl N) = N * 3 := by
  unfold zsl
  rw [lenM]
  simp
theorem zsl_nth {N j : Nat} (h : j < N * 3) : nth (zsl N) j = int64 0 := by
  unfold zsl
  rw [nthM int64 _ j (by simpa using h)]
  simp
theorem zsl_S (N : Nat) : allS (zsl N) = true := allS_ints _
theorem turn_eq {A : Type} {N i : Nat} (h : i < N) (f : Int → Int → Int → Option A) : turn (zsl N) N (i : Int) f = f 0 0 0 := by
  unfold turn
  have e : (i : Int).toNat = i := by omega
  have e2 : Nat.ble (i * 3 + 3) (N * 3) = true := Nat.ble_eq_true_of_le (by omega)
  rw [e, zsl_len, e2, zsl_nth (by omega), zsl_nth (by omega), zsl_nth (by omega), decide_eq_true (Int.natCast_nonneg i), decide_eq_true (by omega : (i : Int) < (N : Int))]
  rfl
theorem loop88 {N : Nat} (hN : N ≤ 6000) : ∀ (d i n : Nat), i + d = N → d < n → loopN (loopB Try.prog (stopAt 88 [5] orc0) tb 88 2 10) n (st88 (zsl N) N (i : Int)) pairE = some (.exit 0, st88 (zsl N) N (N : Int)) := by
  intro d
  induction d with
  | zero =>
    intro i n hi hn
    obtain ⟨n, rfl⟩ : ∃ m, n = m + 1 := ⟨n - 1, by omega⟩
    have hi : i = N := by omega
    subst hi
    rw [loopN_succ, b88]
    unfold body88
    rw [decide_eq_false (by omega : ¬ ((i : Int) < (i : Int)))]
    rfl
  | succ d ih =>
    intro i n hi hn
    obtain ⟨n, rfl⟩ : ∃ m, n = m + 1 := ⟨n - 1, by omega⟩
    rw [loopN_succ, b88]
    unfold body88
    rw [decide_eq_true (by omega : (i : Int) < (N : Int)), cond_true, turn_eq (by omega), wrapN (by omega)]
    exact ih (i + 1) n (by omega) (by omega)
theorem loop12 {xs : List (List Int)} {N : Nat} (hN : N ≤ 6000) : ∀ (d i n : Nat), i + d = N → d < n → loopN (loopB Try.prog (OS orc0) tb 32 12 17) n (st12 xs (zsl N) N (i : Int)) pairE = some (.exit 1, st12 xs (zsl N) N (N : Int)) := by
  intro d
  induction d with
  | zero =>
    intro i n hi hn
    obtain ⟨n, rfl⟩ : ∃ m, n = m + 1 := ⟨n - 1, by omega⟩
    have hi : i = N := by omega
    subst hi
    rw [loopN_succ, b12]
    unfold body12
    rw [decide_eq_false (by omega : ¬ ((i : Int) < (i : Int)))]
    rfl
  | succ d ih =>
    intro i n hi hn
    obtain ⟨n, rfl⟩ : ∃ m, n = m + 1 := ⟨n - 1, by omega⟩
    rw [loopN_succ, b12]
    unfold body12
    rw [decide_eq_true (by omega : (i : Int) < (N : Int)), cond_true, turn_eq (by omega), wrapN (by omega)]
    exact ih (i + 1) n (by omega) (by omega)
theorem loop79 {k : Nat} (hk : k ≤ 6000) : ∀ (d i n : Nat), i + d = k → d < n → loopN (loopB Try.prog (stopAt 79 [5] (OB orc0)) tb 79 2 4) n (st79 (fr1 k) (i : Int)) pairE = some (.exit 0, st79 (fr1 k) ((fr1 k).length : Int)) := by
  intro d
  have hl : (fr1 k).length = k := by simp [fr1]
  induction d with
  | zero =>
    intro i n hi hn
    obtain ⟨n, rfl⟩ : ∃ m, n = m + 1 := ⟨n - 1, by omega⟩
    have hi : i = k := by omega
    subst hi
    rw [loopN_succ, b79]
    unfold body79
    rw [decide_eq_false (by omega : ¬ ((i : Int) < ((fr1 i).length : Int))), hl]
    rfl
  | succ d ih =>
    intro i n hi hn
    obtain ⟨n, rfl⟩ : ∃ m, n = m + 1 := ⟨n - 1, by omega⟩
    have h3 : (i : Int).toNat * 1 = i := by omega
    have hx : i < (fr1 k).length := by omega
    have hr : nth ((fr1 k).map ints) i = ints [1] := by
      rw [nthM ints _ i hx]
      simp [fr1]
    have hra : rowAt (fr1 k) i = ints [1] := by unfold rowAt; rw [hr]; rfl
    have hf : isFzN (ints [1]) = true := rfl
    have hz : fzL (ints [1]) = 1 := rfl
    have hb : Nat.blt i k = true := Nat.ble_eq_true_of_le (by omega)
    have hso : isSo ([ints [1], f81] = [ints [1], f81]) = true := isSo_true rfl
    rw [loopN_succ, b79]
    unfold body79
    rw [h3, decide_eq_true (by omega : (i : Int) < ((fr1 k).length : Int)), decide_eq_true (Int.natCast_nonneg i), lenM, hr, hra, hf, hz, hso, hl, hb, wrapN (by omega)]
    have := ih (i + 1) n (by omega) (by omega)
    rw [hl] at this
    exact this
theorem count79 : Nat.ble (countL 2 e79.code) 1 = true := by kernel_rfl
theorem norm79 : loopN0 tb 79 2 = some N79 := by kernel_rfl
theorem count88 : Nat.ble (countL 2 e88.code) 1 = true := by kernel_rfl
theorem norm88 : loopN0 tb 88 2 = some N79 := by kernel_rfl
theorem count32 : Nat.ble (countL 12 e32.code) 1 = true := by kernel_rfl
theorem norm32 : loopN0 tb 32 12 = some N32 := by kernel_rfl
theorem count7 : Nat.ble (countL 5 e7.code) 1 = true := by kernel_rfl
theorem norm7 : loopN0 tb 7 5 = some N7 := by kernel_rfl
theorem OS_ok {S : Orc} (h : Ok S) : Ok (OS S) := stopAt_ok (stopAt_ok (stopAt_ok (stopAt_ok (stopAt_ok (stopAt_ok (stopAt_ok h))))))
theorem rr {n : Nat} (h : n ≤ 6000) : n < rounds := by
  have hr : rounds = 100000000000000000000 := rfl
  omega
/-- What Play tells of so many frames and turns. -/
theorem play_fact {k N : Nat} (hk : k ≤ 6000) (hN : N ≤ 6000) : DFact Try.prog tb 32 [int64 4, int64 1, int64 0, rows (fr1 k), stp (zsl N) N] (.tup [.dead, int64 0, int64 (if 2000 < k ∨ 5000 < N then 4 else 0)]) := by
  have hl : (fr1 k).length = k := by simp [fr1]
  refine ⟨SP (fr1 k) (zsl N) N, ?_, (run32 _ _ _).trans ?_⟩
  · exact addF_ok (fnSim_loc tbOk ok0 _ 14) (natF_loc _ 14)
      (knowL_ok tbOk ⟨_, stopAt_ok (OB_ok ok0), loop79 hk k 0 rounds (by omega) (rr hk)⟩
        (knowL_ok tbOk ⟨_, stopAt_ok ok0, loop88 hN N 0 rounds (by omega) (rr hN)⟩
          (knowL_ok tbOk ⟨_, OS_ok ok0, loop12 hN N 0 rounds (by omega) (rr hN)⟩ ok0 (ep := e32) rfl norm32 count32) (ep := e88) rfl norm88 count88) (ep := e79) rfl norm79 count79)
  · rw [sameSt_self, sameSt_self, sameSt_self, hl]
    by_cases h1 : 2000 < k
    · rw [decide_eq_true (by omega : (k : Int) > 2000), if_pos (.inl h1)]; rfl
    · rw [decide_eq_false (by omega : ¬ (k : Int) > 2000)]
      by_cases h2 : 5000 < N
      · rw [decide_eq_true (by omega : (N : Int) > 5000), if_pos (.inr h2)]; rfl
      · rw [decide_eq_false (by omega : ¬ (N : Int) > 5000), if_neg (by omega)]; rfl
theorem endT_eq (k N : Nat) : endT (k : Int) (N : Int) (if 2000 < k ∨ 5000 < N then 4 else 0) = some true := by
  unfold endT
  simp only [D, same_self, cond_true]
  by_cases h1 : 2000 < k
  · rw [decide_eq_true (by omega : (k : Int) > 2000), if_pos (.inl h1)]; rfl
  · rw [decide_eq_false (by omega : ¬ (k : Int) > 2000)]
    by_cases h2 : 5000 < N
    · rw [decide_eq_true (by omega : (N : Int) > 5000), if_pos (.inr h2)]; rfl
    · rw [decide_eq_false (by omega : ¬ (N : Int) > 5000), if_neg (by omega)]; rfl
theorem fix_rows (l : List (List Int)) : fixLen (l.length * 1) (dropA (l.map ints) 0) = l.map ints := by
  rw [dropA_eq, List.drop_zero, Nat.mul_one]
  induction l with
  | nil => rfl
  | cons x l ih => simp only [List.length_cons, List.map_cons, fixLen, ih]
theorem fix_all : ∀ l : List AV, fixLen l.length l = l
  | [] => rfl
  | x :: l => by simp only [List.length_cons, fixLen, fix_all l]
theorem law {H : Type} {k0 k1 : Nat} {d0 d1 : DataW H} (w0 : WT Try.prog k0 3 d0) (w1 : WT Try.prog k1 3 d1) :
    ∃ S, Ok S ∧ evCall Try.prog S tb 100 Bool (.fn 7) [dVal Try.prog k0 3 d0, dVal Try.prog k1 3 d1] ⟨fun _ => none, 0⟩ .off done = some true := by
  obtain ⟨k, e0, _⟩ := WT.vint (by kernel_rfl) w0
  obtain ⟨t, e1, _⟩ := WT.vint (by kernel_rfl) w1
  rw [e0, e1]
  by_cases hc : 0 ≤ k ∧ k ≤ 2010 ∧ 0 ≤ t ∧ t ≤ 5010
  rotate_left
  · refine ⟨_, know_ok tbOk awake_fact (stopAt_ok ok0), (lim_run0 k t).trans ?_⟩
    simp only [D, same_self, cond_true]
    by_cases h1 : k < 0
    · rw [decide_eq_true h1]; rfl
    rw [decide_eq_false h1, cond_false]
    by_cases h2 : k > 2010
    · rw [decide_eq_true h2]; rfl
    rw [decide_eq_false h2, cond_false]
    by_cases h3 : t < 0
    · rw [decide_eq_true h3]; rfl
    rw [decide_eq_false h3, decide_eq_true (by omega : t > 5010)]; rfl
  obtain ⟨k, rfl⟩ : ∃ n : Nat, k = (n : Int) := ⟨k.toNat, by omega⟩
  obtain ⟨N, rfl⟩ : ∃ n : Nat, t = (n : Int) := ⟨t.toNat, by omega⟩
  have hB : ∀ x : Option Bool, B (k : Int) (N : Int) x = x := fun x => by
    simp only [B]
    rw [decide_eq_false (by omega : ¬ (k : Int) < 0), decide_eq_false (by omega : ¬ (k : Int) > 2010), decide_eq_false (by omega : ¬ (N : Int) < 0), decide_eq_false (by omega : ¬ (N : Int) > 5010)]
    rfl
  have hmk : mk (N : Int) = true := by
    have : (limit : Int) = 140737488355328 := rfl
    simp only [mk, Bool.and_eq_true, decide_eq_true_eq]
    omega
  have hN : ((N : Int)).toNat = N := by omega
  have hz : fixLen (N * 3) (dropA (zsl N) 0) = zsl N := by
    rw [dropA_eq, List.drop_zero]
    have := fix_all (zsl N)
    rw [← lenA_eq, zsl_len] at this
    exact this
  have hz2 : allS (dropA (zsl N) 0) = true := by rw [dropA_eq, List.drop_zero, zsl_S]
  have pf := play_fact (k := k) (N := N) (by omega) (by omega)
  have hl : (fr1 k).length = k := by simp [fr1]
  by_cases h0 : k = 0
  · subst h0
    refine ⟨_, know_ok tbOk awake_fact (knowD_ok tbOk pf (knowLG_ok (F := ⟨[], [3], [5]⟩) tbOk (LFact.flatG ok0 loop7_nil) ok0 (ep := e7) rfl norm7 count7)), (lim_run_nil 0 (N : Int) _ _).trans ?_⟩
    have := hB
    rw [show ((0 : Nat) : Int) = 0 from rfl] at this
    rw [this, sameSt_self, hmk, show zs0 (N : Int) = zsl N by unfold zs0; rw [hN, repL3], hz2, hN, hz]
    have e : same [int64 4, int64 1, int64 0, rows [], AV.fz (zsl N) N false 3] [int64 4, int64 1, int64 0, rows (fr1 0), stp (zsl N) N] = true := same_self _
    rw [e]
    exact endT_eq 0 N
  · refine ⟨_, know_ok tbOk awake_fact (knowD_ok tbOk pf (knowLG_ok (F := ⟨[], [3], [5]⟩) tbOk (LFact.flatG ok0 (loop7_all (k := k) (t := (N : Int)) (by omega) (by omega))) ok0 (ep := e7) rfl norm7 count7)), ?_⟩
    obtain ⟨m, hm⟩ : ∃ m, k = m + 1 := ⟨k - 1, by omega⟩
    have hrun := lim_run (k : Int) (N : Int) (if 2000 < k ∨ 5000 < N then 4 else 0) ((fr1 k).map ints) m [int64 4, int64 1, int64 0, rows (fr1 k), stp (zsl N) N]
    rw [← hm] at hrun
    refine Eq.trans rfl (hrun.trans ?_)
    have e2 : allS (dropA ((fr1 k).map ints) 0) = true := by
      rw [dropA_eq, List.drop_zero]
      have : ∀ l : List (List Int), allS (l.map ints) = true := fun l => by
        induction l with
        | nil => rfl
        | cons x l ih => simp only [List.map_cons, allS, ih]; rfl
      exact this _
    have e3 := fix_rows (fr1 k)
    rw [hl] at e3
    rw [hB, sameSt_self, hmk, show zs0 (N : Int) = zsl N by unfold zs0; rw [hN, repL3], hz2, hN, hz, e2, e3]
    have e : same [int64 4, int64 1, int64 0, AV.fz ((fr1 k).map ints) k false 1, AV.fz (zsl N) N false 3] [int64 4, int64 1, int64 0, rows (fr1 k), stp (zsl N) N] = true := by
      have : rows (fr1 k) = AV.fz ((fr1 k).map ints) k false 1 := by unfold rows; rw [hl]
      rw [this]
      exact same_self _
    rw [e]
    exact endT_eq k N
end Go.Proofs.Ytokighfpmonjdaa
