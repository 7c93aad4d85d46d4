/- Lists of numbers are alike or not (ints of the laws). -/
import Derived.Test.YthlmbnhelkbchaaUkA
namespace Go.Proofs.Ythlmbnhelkbchaa
open Go.Ev
set_option maxRecDepth 100000
theorem lenA_map {α : Type} (f : α → AV) (l : List α) : lenA (l.map f) = l.length := by
  induction l with
  | nil => rfl
  | cons x l ih => show lenA (l.map f) + 1 = _; rw [ih]; rfl
theorem nth_map {α : Type} (f : α → AV) : ∀ (l : List α) (i : Nat) (h : i < l.length), nth (l.map f) i = f l[i]
  | x :: l, 0, _ => rfl
  | x :: l, i + 1, h => nth_map f l i (by simpa using h)
def st20 (xs ys : List Int) (i : Int) : St := ⟨[ints xs, ints ys, .dead, .dead, .dead, int64 i] ++ repA .dead 20, mkHeap [] 4, [], .off⟩
def rt20 (b : Bool) : St := ⟨[.dead, .dead, .dead, .dead, .bool b] ++ repA .dead 21, mkHeap [] 4, [], .off⟩
def body20 {A : Type} (xs ys : List Int) (i : Int) (K : Ex → St → Option A) : Option A :=
  bif decide (i < (xs.length : Int)) then
    guardK (decide (0 ≤ i) && decide (i < (xs.length : Int))) (guardK (Nat.blt (i.toNat * 1) (lenA (xs.map int64))) (guardK (isIntK .i64 (nth (xs.map int64) (i.toNat * 1)))
    (guardK (decide (0 ≤ i) && decide (i < (ys.length : Int))) (guardK (Nat.blt (i.toNat * 1) (lenA (ys.map int64))) (guardK (isIntK .i64 (nth (ys.map int64) (i.toNat * 1)))
      (bif !(intOf (nth (xs.map int64) (i.toNat * 1)) == intOf (nth (ys.map int64) (i.toNat * 1))) then K .ret (rt20 false)
       else K .normal (st20 xs ys (IntKind.i64.wrap (i + 1)))))))))
  else K (.exit 0) (st20 xs ys i)
theorem b20 {A : Type} (xs ys : List Int) (i : Int) (K : Ex → St → Option A) : loopB Try.prog orc0 tb 20 4 0 (st20 xs ys i) K = body20 xs ys i K := by kernel_rfl
theorem body20_eq {A : Type} {xs ys : List Int} {i : Nat} (hx : i < xs.length) (hy : i < ys.length) (hm : xs.length ≤ maxLen) (K : Ex → St → Option A) :
    body20 xs ys (i : Int) K = bif xs[i] == ys[i] then K .normal (st20 xs ys ((i + 1 : Nat) : Int)) else K .ret (rt20 false) := by
  have h1 : (i : Int) < (xs.length : Int) := by omega
  have h2 : (i : Int) < (ys.length : Int) := by omega
  have h3 : (i : Int).toNat * 1 = i := by omega
  have h4 : IntKind.i64.wrap ((i : Int) + 1) = ((i + 1 : Nat) : Int) := by
    rw [IntKind.wrap_i64]
    have : maxLen = 9223372036854775807 := rfl
    omega
  unfold body20
  simp only [h3, h4, lenA_map, nth_map int64 xs i hx, nth_map int64 ys i hy, decide_eq_true h1, decide_eq_true h2, decide_eq_true (Int.natCast_nonneg i), cond_true, guardK, Bool.and_self, int64, intOf, isIntK]
  have h5 : Nat.blt i xs.length = true := Nat.ble_eq_true_of_le hx
  have h6 : Nat.blt i ys.length = true := Nat.ble_eq_true_of_le hy
  simp only [h5, h6, cond_true, decide_true]
  cases xs[i] == ys[i] <;> rfl
/-- The loop, from the i-th place on. -/
theorem loop20 {xs ys : List Int} (hl : xs.length = ys.length) (hm : xs.length ≤ maxLen) : ∀ (d i n : Nat), i + d = xs.length → d < n →
    loopN (loopB Try.prog orc0 tb 20 4 0) n (st20 xs ys (i : Int)) pairE = some (if xs.drop i = ys.drop i then (.exit 0, st20 xs ys (xs.length : Int)) else (.ret, rt20 false)) := by
  intro d
  induction d with
  | zero =>
    intro i n hi hn
    obtain ⟨n, rfl⟩ : ∃ m, n = m + 1 := ⟨n - 1, by omega⟩
    have hi : i = xs.length := by omega
    subst hi
    rw [loopN_succ, b20]
    have h1 : ¬ ((xs.length : Int) < (xs.length : Int)) := by omega
    unfold body20
    rw [decide_eq_false h1]
    rw [List.drop_eq_nil_of_le (Nat.le_refl _), List.drop_eq_nil_of_le (by omega)]
    rfl
  | succ d ih =>
    intro i n hi hn
    obtain ⟨n, rfl⟩ : ∃ m, n = m + 1 := ⟨n - 1, by omega⟩
    have hx : i < xs.length := by omega
    have hy : i < ys.length := by omega
    rw [loopN_succ, b20, body20_eq hx hy hm]
    cases hb : xs[i] == ys[i] with
    | true =>
      have he : xs[i] = ys[i] := eq_of_beq hb
      have e : (xs.drop i = ys.drop i) = (xs.drop (i + 1) = ys.drop (i + 1)) := by
        rw [List.drop_eq_getElem_cons hx, List.drop_eq_getElem_cons hy, List.cons.injEq, he]
        simp
      simp only [cond_true, e]
      exact ih (i + 1) n (by omega) (by omega)
    | false =>
      have e : ¬ xs.drop i = ys.drop i := fun h => by
        rw [List.drop_eq_getElem_cons hx, List.drop_eq_getElem_cons hy, List.cons.injEq] at h
        rw [h.1] at hb
        simp at hb
      simp only [cond_false]
      rw [if_neg e]
      rfl
theorem rounds_big {n : Nat} (h : n ≤ maxLen) : n < rounds := by
  have h1 : maxLen = 9223372036854775807 := rfl
  have h2 : rounds = 100000000000000000000 := rfl
  omega
theorem ints_loop1 {xs : List Int} (hm : xs.length ≤ maxLen) : LFact Try.prog tb 20 4 0 (st20 xs xs 0) (.exit 0) (st20 xs xs (xs.length : Int)) :=
  ⟨orc0, ok0, (loop20 rfl hm xs.length 0 rounds (by omega) (rounds_big hm)).trans (by rw [if_pos rfl])⟩
theorem ints_loop2 {xs ys : List Int} (hl : xs.length = ys.length) (hn : xs ≠ ys) (hm : xs.length ≤ maxLen) : LFact Try.prog tb 20 4 0 (st20 xs ys 0) .ret (rt20 false) :=
  ⟨orc0, ok0, (loop20 hl hm xs.length 0 rounds (by omega) (rounds_big hm)).trans (by rw [if_neg (by simpa using hn)])⟩
noncomputable def S20 (xs ys : List Int) (e : Ex) (s : St) : Orc := knowL Try.prog 20 4 ⟨[0, 1, 4, 5], []⟩ 0 (st20 xs ys 0) e s orc0
theorem ints_run (xs ys : List Int) (h : Heap) : evCall Try.prog (stopAt 20 [3] orc0) tb 100 AV (.fn 20) (vwArgs Try.prog [] h (parsOf Try.prog 20) [ints xs, ints ys]) (mkHeap [] 0) .off rv =
    bif !((xs.length : Int) == (ys.length : Int)) then some (.bool false) else none := by kernel_rfl
theorem ints_run1 (xs ys : List Int) (h : Heap) : evCall Try.prog (S20 xs ys (.exit 0) (st20 xs ys (xs.length : Int))) tb 100 AV (.fn 20) (vwArgs Try.prog [] h (parsOf Try.prog 20) [ints xs, ints ys]) (mkHeap [] 0) .off rv =
    bif !((xs.length : Int) == (ys.length : Int)) then some (.bool false) else bif sameSt (st20 xs ys 0) (st20 xs ys 0) then some (.bool true) else none := by kernel_rfl
theorem ints_run2 (xs ys : List Int) (h : Heap) : evCall Try.prog (S20 xs ys .ret (rt20 false)) tb 100 AV (.fn 20) (vwArgs Try.prog [] h (parsOf Try.prog 20) [ints xs, ints ys]) (mkHeap [] 0) .off rv =
    bif !((xs.length : Int) == (ys.length : Int)) then some (.bool false) else bif sameSt (st20 xs ys 0) (st20 xs ys 0) then some (.bool false) else none := by kernel_rfl
theorem count20 : Nat.ble (countL 4 e20.code) 1 = true := by kernel_rfl
theorem norm20 : loopN0 tb 20 4 = some ⟨[0, 1, 4, 5], []⟩ := by kernel_rfl
/-- Two rows are alike, or not. -/
theorem same_ints {xs ys : List Int} (hm : xs.length ≤ maxLen) : F 20 [ints xs, ints ys] (.bool (decide (xs = ys))) := by
  by_cases hl : xs.length = ys.length
  · have hl' : (!((xs.length : Int) == (ys.length : Int))) = false := by simp [hl]
    by_cases he : xs = ys
    · subst he
      refine .of (knowL_ok tbOk (ints_loop1 hm) ok0 (ep := e20) rfl norm20 count20) rfl fun h => (ints_run1 xs xs h).trans ?_
      rw [hl', sameSt_self]
      simp
    · refine .of (knowL_ok tbOk (ints_loop2 hl he hm) ok0 (ep := e20) rfl norm20 count20) rfl fun h => (ints_run2 xs ys h).trans ?_
      rw [hl', sameSt_self]
      simp [he]
  · refine .of (stopAt_ok ok0) rfl fun h => (ints_run xs ys h).trans ?_
    have hl' : (!((xs.length : Int) == (ys.length : Int))) = true := by
      simp only [Bool.not_eq_true', beq_eq_false_iff_ne]
      omega
    have he : xs ≠ ys := fun h => hl (by rw [h])
    rw [hl']
    simp [he]
end Go.Proofs.Ythlmbnhelkbchaa
