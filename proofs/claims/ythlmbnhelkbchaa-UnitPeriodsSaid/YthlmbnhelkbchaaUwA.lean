/- UnitNumbers: steps and periods. -/
import Derived.Test.YthlmbnhelkbchaaUpB
import Derived.Test.YthlmbnhelkbchaaEvZ1
namespace Go.Proofs.Ythlmbnhelkbchaa
open Go.Ev
set_option maxRecDepth 100000
abbrev eR : Option AV := some (.tup [int64 0, int64 7])
theorem run39 (f r : Int) (h : Heap) : evCall Try.prog (stopAt 68 [2] orc0) tb 100 AV (.fn 39) (vwArgs Try.prog [] h (parsOf Try.prog 39) [int64 f, int64 r]) (mkHeap [] 0) .off rv =
    bif decide (f ≥ 0) then bif !decide (f ≤ 192000) then eR else bif decide (r ≥ 1) then bif !decide (r ≤ 192000) then eR else
      bif decide (w64 (f * 4294967296) < 0) then none else bif r == 0 then none else some (.tup [int64 (w64 ((w64 (w64 (f * 4294967296) + w64 (r.tdiv 2))).tdiv r)), int64 0]) else eR else eR := by kernel_rfl
theorem run40 (f r : Int) (h : Heap) : evCall Try.prog orc0 tb 100 AV (.fn 40) (vwArgs Try.prog [] h (parsOf Try.prog 40) [int64 f, int64 r]) (mkHeap [] 0) .off rv =
    bif decide (f < 0) then eR else bif decide (f > 192000) then eR else bif decide (r < 1) then eR else bif decide (r > 192000) then eR else
      bif w64 (2 * r) == 0 then none else some (.tup [int64 (w64 ((w64 (w64 (w64 (2 * f) * 4294967296) + r)).tdiv (w64 (2 * r)))), int64 0]) := by kernel_rfl
theorem step_facts (f r : Int) : ∃ n e, F 39 [int64 f, int64 r] (.tup [int64 n, int64 e]) ∧ F 40 [int64 f, int64 r] (.tup [int64 n, int64 e]) := by
  by_cases hc : 0 ≤ f ∧ f ≤ 192000 ∧ 1 ≤ r ∧ r ≤ 192000
  rotate_left
  · refine ⟨0, 7, .of (stopAt_ok ok0) rfl fun h => (run39 f r h).trans ?_, .of ok0 rfl fun h => (run40 f r h).trans ?_⟩
    · by_cases h1 : f ≥ 0
      · rw [decide_eq_true h1, cond_true]
        by_cases h2 : f ≤ 192000
        · rw [decide_eq_true h2, Bool.not_true, cond_false]
          by_cases h3 : r ≥ 1
          · rw [decide_eq_true h3, decide_eq_false (by omega : ¬ r ≤ 192000)]; rfl
          · rw [decide_eq_false h3]; rfl
        · rw [decide_eq_false h2]; rfl
      · rw [decide_eq_false h1]; rfl
    · by_cases h1 : f < 0
      · rw [decide_eq_true h1]; rfl
      · rw [decide_eq_false h1, cond_false]
        by_cases h2 : f > 192000
        · rw [decide_eq_true h2]; rfl
        · rw [decide_eq_false h2, cond_false]
          by_cases h3 : r < 1
          · rw [decide_eq_true h3]; rfl
          · rw [decide_eq_false h3, decide_eq_true (by omega : r > 192000)]; rfl
  obtain ⟨f0, f1, r0, r1⟩ := hc
  have e1 : w64 (f * 4294967296) = f * 4294967296 := by unfold w64; rw [IntKind.wrap_i64]; omega
  have e2 : w64 (r.tdiv 2) = r / 2 := by unfold w64; rw [Int.tdiv_eq_ediv_of_nonneg (by omega), IntKind.wrap_i64]; omega
  have e3 : w64 (f * 4294967296 + r / 2) = f * 4294967296 + r / 2 := by unfold w64; rw [IntKind.wrap_i64]; omega
  have e4 : w64 (2 * r) = 2 * r := by unfold w64; rw [IntKind.wrap_i64]; omega
  have e5 : w64 (2 * f) = 2 * f := by unfold w64; rw [IntKind.wrap_i64]; omega
  have e6 : w64 (2 * f * 4294967296) = 2 * f * 4294967296 := by unfold w64; rw [IntKind.wrap_i64]; omega
  have e7 : w64 (2 * f * 4294967296 + r) = 2 * f * 4294967296 + r := by unfold w64; rw [IntKind.wrap_i64]; omega
  have e8 : (2 * f * 4294967296 + r) / (2 * r) = (f * 4294967296 + r / 2) / r := by
    have e := @Int.ediv_ediv (2 * f * 4294967296 + r) 2 r
    rw [if_neg (by omega), Int.sub_zero] at e
    rw [← e]
    congr 1
    omega
  have n1 : (r == 0) = false := by simp only [beq_eq_false_iff_ne]; omega
  have n2 : (2 * r == 0) = false := by simp only [beq_eq_false_iff_ne]; omega
  refine ⟨w64 ((f * 4294967296 + r / 2) / r), 0, .of (stopAt_ok ok0) rfl fun h => (run39 f r h).trans ?_, .of ok0 rfl fun h => (run40 f r h).trans ?_⟩
  · rw [decide_eq_true (by omega : f ≥ 0), decide_eq_true (by omega : f ≤ 192000), decide_eq_true (by omega : r ≥ 1), decide_eq_true (by omega : r ≤ 192000), e1, e2, e3, decide_eq_false (by omega : ¬ f * 4294967296 < 0), n1, Int.tdiv_eq_ediv_of_nonneg (by omega)]
    rfl
  · rw [decide_eq_false (by omega : ¬ f < 0), decide_eq_false (by omega : ¬ f > 192000), decide_eq_false (by omega : ¬ r < 1), decide_eq_false (by omega : ¬ r > 192000), e4, n2, e5, e6, e7, Int.tdiv_eq_ediv_of_nonneg (by omega), e8]
    rfl
/-! ### Periods -/
def st17 (s n : Int) : St := ⟨[int64 s, .dead, .dead, .dead, int64 n] ++ repA .dead 21, mkHeap [] 4, [], .off⟩
def st41 (s n : Int) : St := ⟨[int64 s, .dead, .dead, .dead, int64 n] ++ repA .dead 20, mkHeap [] 4, [], .off⟩
theorem b17 {A : Type} (s n : Int) (K : Ex → St → Option A) : loopB Try.prog orc0 tb 17 4 0 (st17 s n) K =
    bif decide (s > 0) then bif s.tmod 2 == 0 then bif decide (n > 1) then K .normal (st17 (w64 (s.tdiv 2)) (w64 (n.tdiv 2))) else K (.exit 0) (st17 s n) else K (.exit 0) (st17 s n) else K (.exit 0) (st17 s n) := by kernel_rfl
theorem b41 {A : Type} (s n : Int) (K : Ex → St → Option A) : loopB Try.prog orc0 tb 41 4 0 (st41 s n) K =
    bif decide (s > 0) then bif s.tmod 2 == 0 then K .normal (st41 (w64 (s.tdiv 2)) (w64 (n.tdiv 2))) else K (.exit 0) (st41 s n) else K (.exit 0) (st41 s n) := by kernel_rfl
theorem period_loops : ∀ (i : Nat), i ≤ 32 → ∀ (s : Int), 0 ≤ s → s < (2 : Int) ^ i → ∃ s' n', ∀ m, i < m →
    loopN (loopB Try.prog orc0 tb 17 4 0) m (st17 s ((2 : Int) ^ i)) pairE = some (.exit 0, st17 s' n') ∧ loopN (loopB Try.prog orc0 tb 41 4 0) m (st41 s ((2 : Int) ^ i)) pairE = some (.exit 0, st41 s' n') := by
  intro i
  induction i with
  | zero =>
    intro _ s h0 h1
    refine ⟨s, 1, fun m hm => ?_⟩
    obtain ⟨m, rfl⟩ : ∃ k, m = k + 1 := ⟨m - 1, by omega⟩
    have : ¬ s > 0 := by simp at h1; omega
    rw [loopN_succ, loopN_succ, b17, b41, decide_eq_false this]
    exact ⟨rfl, rfl⟩
  | succ i ih =>
    intro hi s h0 h1
    have hp : (2 : Int) ^ (i + 1) = 2 * (2 : Int) ^ i := by rw [Int.pow_succ]; omega
    have hb : (2 : Int) ^ i ≤ 2147483648 := by
      have : (2 : Int) ^ 31 = 2147483648 := by decide
      rw [← this]
      exact_mod_cast Nat.pow_le_pow_right (by omega) (by omega : i ≤ 31)
    have hpos : (0 : Int) < (2 : Int) ^ i := Int.pow_pos (by omega)
    rw [hp] at h1 ⊢
    generalize hq : (2 : Int) ^ i = q at *
    have em : s.tmod 2 = s % 2 := Int.tmod_eq_emod_of_nonneg h0
    have ed : s.tdiv 2 = s / 2 := Int.tdiv_eq_ediv_of_nonneg h0
    by_cases hc : s > 0 ∧ s % 2 = 0
    · obtain ⟨s', n', hr⟩ := ih (by omega) (s / 2) (by omega) (by omega)
      refine ⟨s', n', fun m hm => ?_⟩
      obtain ⟨m, rfl⟩ : ∃ k, m = k + 1 := ⟨m - 1, by omega⟩
      obtain ⟨x, y⟩ := hr m (by omega)
      have e1 : w64 (s / 2) = s / 2 := by unfold w64; rw [IntKind.wrap_i64]; omega
      have e2 : (2 * q).tdiv 2 = q := by rw [Int.tdiv_eq_ediv_of_nonneg (by omega)]; omega
      have e3 : w64 q = q := by unfold w64; rw [IntKind.wrap_i64]; omega
      have e4 : (s % 2 == 0) = true := by simp [hc.2]
      rw [loopN_succ, loopN_succ, b17, b41, decide_eq_true hc.1, em, e4, decide_eq_true (by omega : 2 * q > 1), ed, e1, e2, e3]
      exact ⟨x, y⟩
    · refine ⟨s, 2 * q, fun m hm => ?_⟩
      obtain ⟨m, rfl⟩ : ∃ k, m = k + 1 := ⟨m - 1, by omega⟩
      rw [loopN_succ, loopN_succ, b17, b41, em]
      by_cases hs : s > 0
      · have e4 : (s % 2 == 0) = false := by simp only [beq_eq_false_iff_ne]; exact fun h => hc ⟨hs, h⟩
        rw [decide_eq_true hs, e4]
        exact ⟨rfl, rfl⟩
      · rw [decide_eq_false hs]
        exact ⟨rfl, rfl⟩
def NP : Norm := ⟨[0, 2, 3, 4], []⟩
theorem count17 : Nat.ble (countL 4 e17.code) 1 = true := by kernel_rfl
theorem norm17 : loopN0 tb 17 4 = some NP := by kernel_rfl
theorem count41 : Nat.ble (countL 4 e41.code) 1 = true := by kernel_rfl
theorem norm41 : loopN0 tb 41 4 = some NP := by kernel_rfl
theorem run17 (s s' n' : Int) (h : Heap) : evCall Try.prog (knowL Try.prog 17 4 NP 0 (st17 s 4294967296) (.exit 0) (st17 s' n') orc0) tb 100 AV (.fn 17) (vwArgs Try.prog [] h (parsOf Try.prog 17) [int64 s]) (mkHeap [] 0) .off rv =
    bif decide (s ≥ 0) then bif !decide (s ≤ 4294967295) then eR else bif sameSt (st17 s 4294967296) (st17 s 4294967296) then bif s' == 0 then some (.tup [int64 1, int64 0]) else some (.tup [int64 n', int64 0]) else none else eR := by kernel_rfl
theorem run41 (s s' n' : Int) (h : Heap) : evCall Try.prog (knowL Try.prog 41 4 NP 0 (st41 s 4294967296) (.exit 0) (st41 s' n') orc0) tb 100 AV (.fn 41) (vwArgs Try.prog [] h (parsOf Try.prog 41) [int64 s]) (mkHeap [] 0) .off rv =
    bif decide (s < 0) then eR else bif decide (s ≥ 4294967296) then eR else bif sameSt (st41 s 4294967296) (st41 s 4294967296) then bif s' == 0 then some (.tup [int64 1, int64 0]) else some (.tup [int64 n', int64 0]) else none := by kernel_rfl
theorem run17r (s : Int) (h : Heap) : evCall Try.prog (stopAt 17 [3] orc0) tb 100 AV (.fn 17) (vwArgs Try.prog [] h (parsOf Try.prog 17) [int64 s]) (mkHeap [] 0) .off rv =
    bif decide (s ≥ 0) then bif !decide (s ≤ 4294967295) then eR else none else eR := by kernel_rfl
theorem run41r (s : Int) (h : Heap) : evCall Try.prog (stopAt 41 [3] orc0) tb 100 AV (.fn 41) (vwArgs Try.prog [] h (parsOf Try.prog 41) [int64 s]) (mkHeap [] 0) .off rv =
    bif decide (s < 0) then eR else bif decide (s ≥ 4294967296) then eR else none := by kernel_rfl
theorem period_facts (s : Int) : ∃ n e, F 17 [int64 s] (.tup [int64 n, int64 e]) ∧ F 41 [int64 s] (.tup [int64 n, int64 e]) := by
  by_cases hc : 0 ≤ s ∧ s ≤ 4294967295
  · obtain ⟨s', n', hr⟩ := period_loops 32 (Nat.le_refl _) s hc.1 (by rw [show (2 : Int) ^ 32 = 4294967296 by decide]; omega)
    have h32 : (2 : Int) ^ 32 = 4294967296 := by decide
    rw [h32] at hr
    obtain ⟨x, y⟩ := hr rounds (by have hr : rounds = 100000000000000000000 := rfl; omega)
    have k17 := knowL_ok tbOk (N := NP) ⟨orc0, ok0, x⟩ ok0 (ep := e17) rfl norm17 count17
    have k41 := knowL_ok tbOk (N := NP) ⟨orc0, ok0, y⟩ ok0 (ep := e41) rfl norm41 count41
    cases hs : s' == 0 with
    | true =>
      refine ⟨1, 0, .of k17 rfl fun h => (run17 s s' n' h).trans ?_, .of k41 rfl fun h => (run41 s s' n' h).trans ?_⟩
      · rw [decide_eq_true (by omega : s ≥ 0), decide_eq_true (by omega : s ≤ 4294967295), sameSt_self, hs]; rfl
      · rw [decide_eq_false (by omega : ¬ s < 0), decide_eq_false (by omega : ¬ s ≥ 4294967296), sameSt_self, hs]; rfl
    | false =>
      refine ⟨n', 0, .of k17 rfl fun h => (run17 s s' n' h).trans ?_, .of k41 rfl fun h => (run41 s s' n' h).trans ?_⟩
      · rw [decide_eq_true (by omega : s ≥ 0), decide_eq_true (by omega : s ≤ 4294967295), sameSt_self, hs]; rfl
      · rw [decide_eq_false (by omega : ¬ s < 0), decide_eq_false (by omega : ¬ s ≥ 4294967296), sameSt_self, hs]; rfl
  · refine ⟨0, 7, .of (stopAt_ok ok0) rfl fun h => (run17r s h).trans ?_, .of (stopAt_ok ok0) rfl fun h => (run41r s h).trans ?_⟩
    · by_cases h1 : s ≥ 0
      · rw [decide_eq_true h1, decide_eq_false (by omega : ¬ s ≤ 4294967295)]; rfl
      · rw [decide_eq_false h1]; rfl
    · by_cases h1 : s < 0
      · rw [decide_eq_true h1]; rfl
      · rw [decide_eq_false h1, decide_eq_true (by omega : s ≥ 4294967296)]; rfl
end Go.Proofs.Ythlmbnhelkbchaa
