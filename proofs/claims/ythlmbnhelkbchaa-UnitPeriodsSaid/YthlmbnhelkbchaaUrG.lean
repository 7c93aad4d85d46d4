/- Period, and what is so of it: behind so many steps the phase is 0 again, and not before. -/
import Derived.Test.YthlmbnhelkbchaaUwA
namespace Go.Proofs.Ythlmbnhelkbchaa
open Go.Ev
set_option maxRecDepth 100000
theorem odd_pow : ∀ (m : Nat) (k s : Int), s % 2 = 1 → (∃ q, k * s = 2 ^ m * q) → ∃ t, k = 2 ^ m * t
  | 0, k, s, _, _ => ⟨k, by simp⟩
  | m + 1, k, s, hs, ⟨q, hq⟩ => by
    have hp : (2 : Int) ^ (m + 1) = 2 * 2 ^ m := by rw [Int.pow_succ]; omega
    rw [hp, Int.mul_assoc] at hq
    generalize hx : (2 : Int) ^ m * q = x at hq
    have hk : k % 2 = 0 := by
      have h1 : (k * s) % 2 = 0 := by rw [hq]; omega
      rw [Int.mul_emod, hs] at h1
      omega
    obtain ⟨k1, rfl⟩ : ∃ k1, k = 2 * k1 := ⟨k / 2, by omega⟩
    rw [Int.mul_assoc] at hq
    have hq2 : k1 * s = x := by omega
    obtain ⟨t, ht⟩ := odd_pow m k1 s hs ⟨q, hq2.trans hx.symm⟩
    exact ⟨t, by rw [hp, Int.mul_assoc, ← ht]⟩
theorem period_inv : ∀ (i : Nat), i ≤ 32 → ∀ (s : Int), 0 ≤ s → s < (2 : Int) ^ i → ∃ (s' : Int) (j m : Nat), i = j + m ∧ s = s' * 2 ^ j ∧ 0 ≤ s' ∧ (s' = 0 ∨ s' % 2 = 1) ∧ ∀ N, i < N →
    loopN (loopB Try.prog orc0 tb 17 4 0) N (st17 s ((2 : Int) ^ i)) pairE = some (.exit 0, st17 s' ((2 : Int) ^ m)) := by
  intro i
  induction i with
  | zero =>
    intro _ s h0 h1
    have hs : s = 0 := by simp at h1; omega
    subst hs
    refine ⟨0, 0, 0, rfl, rfl, by omega, .inl rfl, fun N hN => ?_⟩
    obtain ⟨N, rfl⟩ : ∃ k, N = k + 1 := ⟨N - 1, by omega⟩
    rw [loopN_succ, b17, decide_eq_false (by omega : ¬ (0 : Int) > 0)]
    rfl
  | succ i ih =>
    intro hi s h0 h1
    have hp : (2 : Int) ^ (i + 1) = 2 * (2 : Int) ^ i := by rw [Int.pow_succ]; omega
    have hb : (2 : Int) ^ i ≤ 2147483648 := by
      have : (2 : Int) ^ 31 = 2147483648 := by decide
      rw [← this]
      exact_mod_cast Nat.pow_le_pow_right (by omega) (by omega : i ≤ 31)
    have hpos : (0 : Int) < (2 : Int) ^ i := Int.pow_pos (by omega)
    have em : s.tmod 2 = s % 2 := Int.tmod_eq_emod_of_nonneg h0
    have ed : s.tdiv 2 = s / 2 := Int.tdiv_eq_ediv_of_nonneg h0
    by_cases hc : s > 0 ∧ s % 2 = 0
    · obtain ⟨s', j, m, e1, e2, e3, e4, hr⟩ := ih (by omega) (s / 2) (by omega) (by omega)
      refine ⟨s', j + 1, m, by omega, ?_, e3, e4, fun N hN => ?_⟩
      · rw [Int.pow_succ, ← Int.mul_assoc, ← e2]
        omega
      obtain ⟨N, rfl⟩ : ∃ k, N = k + 1 := ⟨N - 1, by omega⟩
      have x := hr N (by omega)
      rw [hp]
      generalize hq : (2 : Int) ^ i = q at *
      have e1 : w64 (s / 2) = s / 2 := by unfold w64; rw [IntKind.wrap_i64]; omega
      have e2 : (2 * q).tdiv 2 = q := by rw [Int.tdiv_eq_ediv_of_nonneg (by omega)]; omega
      have e3 : w64 q = q := by unfold w64; rw [IntKind.wrap_i64]; omega
      have e4 : (s % 2 == 0) = true := by simp [hc.2]
      rw [loopN_succ, b17, decide_eq_true hc.1, em, e4, decide_eq_true (by omega : 2 * q > 1), ed, e1, e2, e3]
      exact x
    · refine ⟨s, 0, i + 1, by omega, by simp, h0, by omega, fun N hN => ?_⟩
      obtain ⟨N, rfl⟩ : ∃ k, N = k + 1 := ⟨N - 1, by omega⟩
      rw [loopN_succ, b17, em]
      by_cases hs : s > 0
      · have e4 : (s % 2 == 0) = false := by simp only [beq_eq_false_iff_ne]; exact fun h => hc ⟨hs, h⟩
        rw [decide_eq_true hs, e4]
        rfl
      · rw [decide_eq_false hs]
        rfl
/-- What is asked of a period. -/
structure Per (s n : Int) : Prop where
  lt : s < 4294967296
  pos : 1 ≤ n
  again : (n * s) % 4294967296 = 0
  not : n ≤ 1000 → ∀ k : Int, 0 < k → k < n → 512 ≤ (k * s) % 4294967296
theorem period_law (s : Int) : ∃ n e, F 17 [int64 s] (.tup [int64 n, int64 e]) ∧ (e = 0 → 0 ≤ s → Per s n) := by
  by_cases hc : 0 ≤ s ∧ s ≤ 4294967295
  · obtain ⟨s', j, m, e1, e2, e3, e4, hr⟩ := period_inv 32 (Nat.le_refl _) s hc.1 (by rw [show (2 : Int) ^ 32 = 4294967296 by decide]; omega)
    have h32 : (2 : Int) ^ 32 = 4294967296 := by decide
    rw [h32] at hr
    have x := hr rounds (by have hr : rounds = 100000000000000000000 := rfl; omega)
    have k17 := knowL_ok tbOk (N := NP) ⟨orc0, ok0, x⟩ ok0 (ep := e17) rfl norm17 count17
    have hjm : (2 : Int) ^ m * 2 ^ j = 4294967296 := by rw [← h32, e1, Int.pow_add, Int.mul_comm]
    have pm : (0 : Int) < 2 ^ m := Int.pow_pos (by omega)
    have pj : (0 : Int) < 2 ^ j := Int.pow_pos (by omega)
    cases hs : s' == 0 with
    | true =>
      have hz : s' = 0 := by simpa using hs
      subst hz
      rw [Int.zero_mul] at e2
      subst e2
      refine ⟨1, 0, .of k17 rfl fun h => (run17 0 0 _ h).trans ?_, fun _ _ => ⟨by omega, by omega, by decide, fun _ k h1 h2 => by omega⟩⟩
      rw [decide_eq_true (by omega : (0 : Int) ≥ 0), decide_eq_true (by omega : (0 : Int) ≤ 4294967295), sameSt_self]; rfl
    | false =>
      have hz : s' ≠ 0 := by simpa using hs
      have ho : s' % 2 = 1 := by omega
      refine ⟨2 ^ m, 0, .of k17 rfl fun h => (run17 s s' _ h).trans ?_, fun _ _ => ⟨by omega, by omega, ?_, fun hn k h1 h2 => ?_⟩⟩
      · rw [decide_eq_true (by omega : s ≥ 0), decide_eq_true (by omega : s ≤ 4294967295), sameSt_self, hs]; rfl
      · have : (2 : Int) ^ m * s = 4294967296 * s' := by
          rw [e2, ← hjm, Int.mul_comm s', ← Int.mul_assoc]
        rw [this]
        omega
      · have h3 : k * s = k * s' * 2 ^ j := by rw [e2, Int.mul_assoc]
        rw [h3, ← hjm, Int.mul_comm (k * s'), Int.mul_comm (2 ^ m), Int.mul_emod_mul_of_pos _ _ pj, Int.mul_comm]
        have h4 : (k * s') % 2 ^ m ≠ 0 := fun h => by
          obtain ⟨t, ht⟩ := odd_pow m k s' ho ⟨k * s' / 2 ^ m, by
            have := Int.mul_ediv_add_emod (k * s') (2 ^ m)
            omega⟩
          have : 1 ≤ t := by
            rcases Int.lt_or_le 0 t with h | h
            · omega
            · have := Int.mul_le_mul_of_nonneg_left h (Int.le_of_lt pm)
              omega
          have := Int.mul_le_mul_of_nonneg_left this (Int.le_of_lt pm)
          omega
        have h5 : 0 ≤ (k * s') % 2 ^ m := Int.emod_nonneg _ (by omega)
        have h6 : (2 : Int) ^ j ≤ (k * s') % 2 ^ m * 2 ^ j := by
          have := Int.mul_le_mul_of_nonneg_right (show (1 : Int) ≤ (k * s') % 2 ^ m by omega) (Int.le_of_lt pj)
          omega
        have h7 : (512 : Int) ≤ 2 ^ j := by
          rcases Int.lt_or_le (2 ^ j) 512 with h | h
          · have := Int.mul_le_mul hn (Int.le_of_lt h) (Int.le_of_lt pj) (by omega)
            omega
          · exact h
        omega
  · refine ⟨0, 7, .of (stopAt_ok ok0) rfl fun h => (run17r s h).trans ?_, fun h => by omega⟩
    by_cases h1 : s ≥ 0
    · rw [decide_eq_true h1, decide_eq_false (by omega : ¬ s ≤ 4294967295)]; rfl
    · rw [decide_eq_false h1]; rfl
end Go.Proofs.Ythlmbnhelkbchaa
