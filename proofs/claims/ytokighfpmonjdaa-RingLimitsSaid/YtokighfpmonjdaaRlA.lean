/- RingLimits: the law's own loop (so many frames). -/
import Derived.Test.YtokighfpmonjdaaBase
import Derived.Test.YtokighfpmonjdaaEvZ3
namespace Go.Proofs.Ytokighfpmonjdaa
open Go.Ev
set_option maxRecDepth 100000
def st7 (k t i : Int) (o : AV) (l : List (Nat × Blk)) : St := ⟨[int64 k, int64 t, .dead, .dead, .dead, o, int64 i] ++ repA .dead 55, mkHeap l 5, [], .off⟩
abbrev fr7 : List (Nat × List AV) := [(5, [int64 1])]
def cs7 (cs : List AV) (m : Nat) : List AV := appA (takeA (dropA cs 0) ((m + 1) * 1)) [.sl (some (5, 0)) 1 1 true 1]
def body7 {A : Type} (k t i : Int) (cs : List AV) (m : Nat) (K : Ex → St → Option A) : Option A :=
  bif decide (i < k) then
    guardK (Nat.ble ((m + 1 + 1) * 24) limit && Nat.ble (m + 1 + 1) limit) <| guardK (Nat.ble (0 + (m + 1) * 1) (lenA cs)) <| guardK (allC fr7 (cs7 cs m) && true) <|
    K .normal (st7 k t (IntKind.i64.wrap (i + 1)) (.gr (3, 0) (m + 1 + 1) 1) [(3, .cells true (mapC fr7 (cs7 cs m)))])
  else guardK (allC [] cs && true) (K (.exit 0) (st7 k t i (.gr (3, 0) (m + 1) 1) [(3, .cells true (mapC [] cs))]))
theorem b7 {A : Type} (k t i : Int) (cs : List AV) (m : Nat) (K : Ex → St → Option A) :
    loopBG Try.prog orc0 tb 7 5 ⟨[], [3], [5]⟩ 0 (st7 k t i (.gr (3, 0) (m + 1) 1) [(3, .cells true cs)]) K = body7 k t i cs m K := by kernel_rfl
theorem b7_0 {A : Type} (k t i : Int) (K : Ex → St → Option A) :
    loopBG Try.prog orc0 tb 7 5 ⟨[], [3], [5]⟩ 0 (st7 k t i (.sl none 0 0 true 0) []) K =
    bif decide (i < k) then K .normal (st7 k t (IntKind.i64.wrap (i + 1)) (.gr (3, 0) 1 1) [(3, .cells true [ints [1]])])
    else K (.exit 0) (st7 k t i (.sl none 0 0 true 0) []) := by kernel_rfl
theorem allC_rows (fr : List (Nat × List AV)) : ∀ l : List (List Int), allC fr (l.map ints) = true
  | [] => rfl
  | x :: l => by simp only [List.map_cons, allC, allC_rows fr l]; rfl
theorem mapC_rows (fr : List (Nat × List AV)) : ∀ l : List (List Int), mapC fr (l.map ints) = l.map ints
  | [] => rfl
  | x :: l => by simp only [List.map_cons, mapC, mapC_rows fr l]; rfl
theorem allC_app (fr : List (Nat × List AV)) : ∀ (l r : List AV), allC fr (l ++ r) = (allC fr l && allC fr r)
  | [], r => rfl
  | x :: l, r => by simp only [List.cons_append, allC, allC_app fr l r, Bool.and_assoc]
theorem mapC_app (fr : List (Nat × List AV)) : ∀ (l r : List AV), mapC fr (l ++ r) = mapC fr l ++ mapC fr r
  | [], r => rfl
  | x :: l, r => by simp only [List.cons_append, mapC, mapC_app fr l r]
theorem cs7_eq {l : List (List Int)} {m : Nat} (h : l.length = m + 1) : cs7 (l.map ints) m = l.map ints ++ [.sl (some (5, 0)) 1 1 true 1] := by
  unfold cs7
  rw [appA_eq, takeA_eq, dropA_eq, List.drop_zero, Nat.mul_one, ← h, List.take_of_length_le (by simp)]
def fr1 (n : Nat) : List (List Int) := List.replicate n [1]
def so7 (k t : Int) (i : Nat) : St := st7 k t (i : Int) (.gr (3, 0) i 1) [(3, .cells true ((fr1 i).map ints))]
theorem next7 {A : Type} {k : Nat} {t : Int} {i : Nat} (h0 : 0 < i) (hi : i < k) (hk : k ≤ 5000) (K : Ex → St → Option A) :
    loopBG Try.prog orc0 tb 7 5 ⟨[], [3], [5]⟩ 0 (so7 k t i) K = K .normal (so7 k t (i + 1)) := by
  obtain ⟨m, rfl⟩ : ∃ m, i = m + 1 := ⟨i - 1, by omega⟩
  unfold so7
  rw [b7]
  unfold body7
  have hl : (fr1 (m + 1)).length = m + 1 := by simp [fr1]
  have e1 : Nat.ble (0 + (m + 1) * 1) (m + 1) = true := Nat.ble_eq_true_of_le (by omega)
  have hlim : limit = 140737488355328 := rfl
  have e2 : Nat.ble ((m + 1 + 1) * 24) limit = true := Nat.ble_eq_true_of_le (by omega)
  have e3 : Nat.ble (m + 1 + 1) limit = true := Nat.ble_eq_true_of_le (by omega)
  have e4 : allC fr7 ((fr1 (m + 1)).map ints ++ [.sl (some (5, 0)) 1 1 true 1]) = true := by rw [allC_app, allC_rows]; rfl
  have e5 : mapC fr7 ((fr1 (m + 1)).map ints ++ [.sl (some (5, 0)) 1 1 true 1]) = (fr1 (m + 1 + 1)).map ints := by
    rw [mapC_app, mapC_rows]
    unfold fr1
    rw [List.replicate_succ' (n := m + 1), List.map_append]
    rfl
  rw [decide_eq_true (by omega : ((m + 1 : Nat) : Int) < (k : Int)), cond_true, e2, e3, lenM, hl, e1, cs7_eq hl, e4, e5, wrapN (by omega)]
  rfl
theorem loop7 {k : Nat} {t : Int} (hk : k ≤ 5000) : ∀ (d i n : Nat), i + d = k → d < n → 0 < i → loopN (loopBG Try.prog orc0 tb 7 5 ⟨[], [3], [5]⟩ 0) n (so7 k t i) pairE = some (.exit 0, so7 k t k) := by
  intro d
  induction d with
  | zero =>
    intro i n hi hn h0
    obtain ⟨n, rfl⟩ : ∃ m, n = m + 1 := ⟨n - 1, by omega⟩
    obtain ⟨m, rfl⟩ : ∃ m, i = m + 1 := ⟨i - 1, by omega⟩
    have hi : m + 1 = k := by omega
    subst hi
    rw [loopN_succ]
    unfold so7
    rw [b7]
    unfold body7
    rw [decide_eq_false (by omega : ¬ (((m + 1 : Nat) : Int) < ((m + 1 : Nat) : Int))), allC_rows, mapC_rows]
    rfl
  | succ d ih =>
    intro i n hi hn h0
    obtain ⟨n, rfl⟩ : ∃ m, n = m + 1 := ⟨n - 1, by omega⟩
    rw [loopN_succ, next7 h0 (by omega) hk]
    exact ih (i + 1) n (by omega) (by omega) (by omega)
theorem loop7_all {k : Nat} {t : Int} (h0 : 0 < k) (hk : k ≤ 5000) : loopN (loopBG Try.prog orc0 tb 7 5 ⟨[], [3], [5]⟩ 0) rounds (st7 k t 0 (.sl none 0 0 true 0) []) pairE = some (.exit 0, so7 k t k) := by
  obtain ⟨n, hn⟩ : ∃ n, rounds = n + 1 := ⟨99999999999999999999, rfl⟩
  have hr : rounds = 100000000000000000000 := rfl
  rw [hn, loopN_succ, b7_0, decide_eq_true (by omega : (0 : Int) < (k : Int))]
  exact loop7 hk (k - 1) 1 n (by omega) (by omega) (by omega)
theorem loop7_nil {t : Int} : loopN (loopBG Try.prog orc0 tb 7 5 ⟨[], [3], [5]⟩ 0) rounds (st7 0 t 0 (.sl none 0 0 true 0) []) pairE = some (.exit 0, st7 0 t 0 (.sl none 0 0 true 0) []) := by
  obtain ⟨n, hn⟩ : ∃ n, rounds = n + 1 := ⟨99999999999999999999, rfl⟩
  rw [hn, loopN_succ, b7_0]
  rfl
end Go.Proofs.Ytokighfpmonjdaa
