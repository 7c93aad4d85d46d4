/- UnitNumbers: the document's low. -/
import Derived.Test.YthlmbnhelkbchaaUwB
namespace Go.Proofs.Ythlmbnhelkbchaa
open Go.Ev
set_option maxRecDepth 100000
noncomputable def OR (S : Orc) : Orc := knowW 16 (fun a => isSo (isN1 a)) V16 (knowW 47 (fun a => isSo (isN3 a)) V47 (knowW 77 (fun a => isSo (is77 a)) V77 S))
theorem OR_ok {S : Orc} (h : Ok S) : Ok (OR S) := knowW_ok tbOk when16 (knowW_ok tbOk when47 (knowW_ok tbOk when77 h))
def st43 (w : Int) (xs : List Int) (i n : Int) (o : AV) (l : List (Nat × Blk)) : St := ⟨[int64 w, ints xs, .dead, .dead, .dead, .dead, .ptr (some (0, 0)), o, int64 i] ++ repA .dead 28, mkHeap (l ++ [(0, .cells true [int64 7, int64 0, .sl none 0 0 true 0, .sl none 0 0 true 0, int64 0, int64 0, int64 0, int64 n, int64 0, .bool false, int64 0, .sl none 0 0 true 0])]) 8, [], .off⟩
noncomputable def h77 {A : Type} (x y : Int) (k : Option A) : Option A := bif isSo (is77 [int64 x, int64 y, int64 65536]) then k else none
def lowN (x w n : Int) : Int := w64 (n + round1 (w64 (w64 (num x - n) * into (num w) 0 65536)))
noncomputable def stepR {A : Type} (x w n : Int) (k : Int → Option A) : Option A :=
  h1 x <| h1 w <| h3l (num w) 0 65536 <| El n <| El (num x) <| El n <| h77 (w64 (num x - n)) (into (num w) 0 65536) <| El n <| El (lowN x w n) <| k (lowN x w n)
noncomputable def body43 {A : Type} (w : Int) (xs : List Int) (i n : Int) (cs : List AV) (m : Nat) (K : Ex → St → Option A) : Option A :=
  bif decide (i < (xs.length : Int)) then
    ldI xs i fun x => stepR x w n fun v =>
    guardK (Nat.ble ((m + 1 + 1) * 8) limit && Nat.ble (m + 1 + 1) limit) <| guardK (Nat.ble (0 + (m + 1) * 1) (lenA cs)) <| guardK (allS (appA (takeA (dropA cs 0) ((m + 1) * 1)) [int64 v]) && true) <|
    K .normal (st43 w xs (IntKind.i64.wrap (i + 1)) v (.gr (6, 0) (m + 1 + 1) 1) [(6, .cells true (appA (takeA (dropA cs 0) ((m + 1) * 1)) [int64 v]))])
  else guardK (allS cs && true) (K (.exit 0) (st43 w xs i n (.gr (6, 0) (m + 1) 1) [(6, .cells true cs)]))
theorem b43 {A : Type} (w : Int) (xs : List Int) (i n : Int) (cs : List AV) (m : Nat) (K : Ex → St → Option A) :
    loopBF Try.prog (OR orc0) tb 43 6 [6] 1 (st43 w xs i n (.gr (6, 0) (m + 1) 1) [(6, .cells true cs)]) K = body43 w xs i n cs m K := by kernel_rfl
theorem b43_0 {A : Type} (w : Int) (xs : List Int) (i n : Int) (K : Ex → St → Option A) :
    loopBF Try.prog (OR orc0) tb 43 6 [6] 1 (st43 w xs i n (.sl none 0 0 true 0) []) K =
    bif decide (i < (xs.length : Int)) then
      ldI xs i fun x => stepR x w n fun v => K .normal (st43 w xs (IntKind.i64.wrap (i + 1)) v (.gr (6, 0) 1 1) [(6, .cells true [int64 v])])
    else K (.exit 0) (st43 w xs i n (.sl none 0 0 true 0) []) := by kernel_rfl
theorem low_raw {x w last : Int} (h1 : -1099511627776 ≤ last) (h2 : last ≤ 1099511627776) : w64 (last + round1 (lowP x w last)) = lowV x w last ∧ -1099511627776 ≤ lowV x w last ∧ lowV x w last ≤ 1099511627776 := by
  obtain ⟨a1, a2, -, -, -⟩ := kept_b x (-1099511627776) 1099511627776 (by omega)
  obtain ⟨c1, c2, c3, c4, c5⟩ := kept_b w (-1099511627776) 1099511627776 (by omega)
  obtain ⟨b1, b2, b3, b4, b5⟩ := kept_b (kMl w) 0 65536 (by omega)
  have hk : lowP x w last = (kMl x - last) * kept (kMl w) 0 65536 := by
    unfold lowP w64
    have e : IntKind.i64.wrap (kMl x - last) = kMl x - last := by
      rw [IntKind.wrap_i64]
      unfold kMl
      omega
    rw [e]
    have f1 : (kMl x - last) * kept (kMl w) 0 65536 ≤ 2199023255552 * 65536 := by
      rcases Int.le_total (kMl x - last) 0 with h | h
      · have := Int.mul_nonneg (show 0 ≤ -(kMl x - last) by omega) b1
        rw [Int.neg_mul] at this
        omega
      · exact Int.mul_le_mul (by unfold kMl; omega) b2 b1 (by omega)
    have f2 : -(2199023255552 * 65536) ≤ (kMl x - last) * kept (kMl w) 0 65536 := by
      rcases Int.le_total (kMl x - last) 0 with h | h
      · have := Int.mul_le_mul (show -(kMl x - last) ≤ 2199023255552 by unfold kMl; omega) b2 b1 (by omega)
        rw [Int.neg_mul] at this
        omega
      · have := Int.mul_nonneg h b1
        omega
    rw [IntKind.wrap_i64]
    omega
  have hd1 : -2199023255552 ≤ kMl x - last := by unfold kMl; omega
  have hd2 : kMl x - last ≤ 2199023255552 := by unfold kMl; omega
  have ha1 : -1099511627776 ≤ kMl x := a1
  have ha2 : kMl x ≤ 1099511627776 := a2
  generalize hw : kept (kMl w) 0 65536 = q at *
  generalize hx : kMl x = a at *
  -- the product lies between
  have g1 : a - last ≤ 0 → (a - last) * 65536 ≤ (a - last) * q ∧ (a - last) * q ≤ 0 := fun h => by
    have := Int.mul_le_mul_of_nonneg_left b2 (show 0 ≤ -(a - last) by omega)
    have := Int.mul_nonneg (show 0 ≤ -(a - last) by omega) b1
    rw [Int.neg_mul] at *
    rw [Int.neg_mul] at *
    omega
  have g2 : 0 ≤ a - last → 0 ≤ (a - last) * q ∧ (a - last) * q ≤ (a - last) * 65536 := fun h => ⟨Int.mul_nonneg h b1, Int.mul_le_mul_of_nonneg_left b2 h⟩
  have hb : -2199023255552 * 65536 ≤ (a - last) * q ∧ (a - last) * q ≤ 2199023255552 * 65536 := by
    rcases Int.le_total (a - last) 0 with h | h
    · have := g1 h; omega
    · have := g2 h; omega
  have hr := round1_eq (p := (a - last) * q) (by omega) (by omega)
  have hin : -1099511627776 ≤ last + round1 ((a - last) * q) ∧ last + round1 ((a - last) * q) ≤ 1099511627776 := by
    rw [hr]
    rcases Int.le_total (a - last) 0 with h | h
    · have := g1 h
      split <;> omega
    · have := g2 h
      split <;> omega
  have e : w64 (last + round1 ((a - last) * q)) = last + round1 ((a - last) * q) := by
    unfold w64
    rw [IntKind.wrap_i64]
    omega
  unfold lowV
  rw [hk, e]
  have hkk := (kept_b (last + round1 ((a - last) * q)) (-1099511627776) 1099511627776 (by omega)).2.2.2.2 hin.1 hin.2
  unfold kMl
  rw [hkk]
  exact ⟨rfl, hin.1, hin.2⟩
theorem into_eq (n lo hi : Int) (h : lo ≤ hi) : into n lo hi = kept n lo hi := by
  unfold into kept maxI minI
  by_cases h1 : n < lo
  · rw [decide_eq_true h1, cond_true]
    split <;> split <;> omega
  · rw [decide_eq_false h1, cond_false]
    by_cases h2 : n > hi
    · rw [decide_eq_true h2, cond_true]
      split <;> split <;> omega
    · rw [decide_eq_false h2, cond_false]
      split <;> split <;> omega
theorem stepR_eq {A : Type} {x w n : Int} (a1 : -1099511627776 ≤ n) (a2 : n ≤ 1099511627776) (k : Int → Option A) : stepR x w n k = k (lowV x w n) := by
  have h : ∀ (x lo hi : Int) (y : Option A), h3l x lo hi y = y := fun x lo hi y => by unfold h3l; rw [isSo_true ⟨_, _, _, rfl⟩]; rfl
  have e : ∀ (n : Int) (y : Option A), El n y = y := fun n y => by unfold El; rw [beq_self_eq_true]; rfl
  obtain ⟨b1, b2, -, -, -⟩ := kept_b x (-1099511627776) 1099511627776 (by omega)
  obtain ⟨c1, c2, -, -, -⟩ := kept_b (kMl w) 0 65536 (by omega)
  have hx : num x = kMl x := num_eq x
  have hw : num w = kMl w := num_eq w
  have hd : w64 (kMl x - n) = kMl x - n := by unfold w64; rw [IntKind.wrap_i64]; unfold kMl; omega
  have h7 : ∀ y : Option A, h77 (w64 (num x - n)) (into (num w) 0 65536) y = y := fun y => by
    unfold h77
    rw [isSo_true ⟨_, _, rfl, by rw [hx, hd]; unfold kMl; omega, by rw [hx, hd]; unfold kMl; omega, by rw [hw, into_eq _ _ _ (by omega)]; exact c1, by rw [hw, into_eq _ _ _ (by omega)]; exact c2⟩]
    rfl
  have hN : lowN x w n = lowV x w n := by
    unfold lowN
    rw [hx, hw, into_eq _ _ _ (by omega)]
    exact (low_raw (x := x) (w := w) a1 a2).1
  unfold stepR
  simp only [h1_eq, h, e, h7, hN]
def so43 (w : Int) (xs : List Int) (i : Nat) (n : Int) (os : List Int) : St := st43 w xs (i : Int) n (.gr (6, 0) os.length 1) [(6, .cells true (os.map int64))]
theorem loop43 {w : Int} {xs : List Int} (hm : xs.length ≤ 20000) : ∀ (d i n : Nat) (last : Int) (os : List Int), i + d = xs.length → d < n → os.length = i → 0 < i → -1099511627776 ≤ last → last ≤ 1099511627776 →
    loopN (loopBF Try.prog (OR orc0) tb 43 6 [6] 1) n (so43 w xs i last os) pairE = some (.exit 0, so43 w xs xs.length (lastL w last (xs.drop i)) (os ++ lows w last (xs.drop i))) := by
  intro d
  induction d with
  | zero =>
    intro i n last os hi hn ho h0 a1 a2
    obtain ⟨n, rfl⟩ : ∃ m, n = m + 1 := ⟨n - 1, by omega⟩
    obtain ⟨m, hom⟩ : ∃ m, os.length = m + 1 := ⟨os.length - 1, by omega⟩
    have hi : i = xs.length := by omega
    subst hi
    rw [loopN_succ]
    unfold so43
    rw [hom, b43]
    unfold body43
    rw [decide_eq_false (by omega : ¬ ((xs.length : Int) < (xs.length : Int))), List.drop_eq_nil_of_le (Nat.le_refl _)]
    simp only [allS_ints, Bool.and_self, guardK, cond_true, cond_false, lastL, lows, List.append_nil, hom]
    rfl
  | succ d ih =>
    intro i n last os hi hn ho h0 a1 a2
    obtain ⟨n, rfl⟩ : ∃ m, n = m + 1 := ⟨n - 1, by omega⟩
    obtain ⟨m, hom⟩ : ∃ m, os.length = m + 1 := ⟨os.length - 1, by omega⟩
    have hx : i < xs.length := by omega
    obtain ⟨-, v1, v2⟩ := low_raw (x := xs[i]) (w := w) a1 a2
    have ih' := ih (i + 1) n (lowV xs[i] w last) (os ++ [lowV xs[i] w last]) (by omega) (by omega) (by simp; omega) (by omega) v1 v2
    rw [loopN_succ]
    unfold so43 at ih' ⊢
    rw [hom, b43]
    unfold body43
    rw [decide_eq_true (by omega : (i : Int) < (xs.length : Int)), cond_true, ldI_eq hx, stepR_eq a1 a2, limit_ok (by omega), grow_ints hom, allS_ints, lenM, hom, wrapN (by omega)]
    have e : Nat.ble (0 + (m + 1) * 1) (m + 1) = true := Nat.ble_eq_true_of_le (by omega)
    simp only [e, Bool.and_self, guardK, cond_true]
    rw [List.drop_eq_getElem_cons hx]
    simp only [lastL, lows]
    rw [List.append_cons os (lowV xs[i] w last) (lows w (lowV xs[i] w last) (List.drop (i + 1) xs))]
    have e2 : (os ++ [lowV xs[i] w last]).length = m + 1 + 1 := by simp [hom]
    rw [e2] at ih'
    exact ih'
theorem first43 {A : Type} (w x : Int) (xs : List Int) (K : Ex → St → Option A) :
    loopBF Try.prog (OR orc0) tb 43 6 [6] 1 (st43 w (x :: xs) 0 0 (.sl none 0 0 true 0) []) K = K .normal (so43 w (x :: xs) 1 (lowV x w 0) [lowV x w 0]) := by
  have h0 : (0 : Int) < ((x :: xs).length : Int) := by simp only [List.length_cons]; omega
  rw [b43_0, decide_eq_true h0, cond_true]
  have hx : 0 < (x :: xs).length := by simp
  have := ldI_eq hx (fun x' => stepR x' w 0 fun v => K .normal (st43 w (x :: xs) (IntKind.i64.wrap (0 + 1)) v (.gr (6, 0) 1 1) [(6, .cells true [int64 v])]))
  refine this.trans ?_
  rw [stepR_eq (by omega) (by omega)]
  rfl
theorem loop43_all {w x : Int} {xs : List Int} (hm : (x :: xs).length ≤ 20000) :
    loopN (loopBF Try.prog (OR orc0) tb 43 6 [6] 1) rounds (st43 w (x :: xs) 0 0 (.sl none 0 0 true 0) []) pairE = some (.exit 0, so43 w (x :: xs) (x :: xs).length (lastL w 0 (x :: xs)) (lows w 0 (x :: xs))) := by
  obtain ⟨n, hn⟩ : ∃ n, rounds = n + 1 := ⟨99999999999999999999, rfl⟩
  have hr : rounds = 100000000000000000000 := rfl
  obtain ⟨-, v1, v2⟩ := low_raw (x := x) (w := w) (last := 0) (by omega) (by omega)
  have hl := loop43 (w := w) hm xs.length 1 n (lowV x w 0) [lowV x w 0] (by simp only [List.length_cons]; omega) (by simp only [List.length_cons] at hm; omega) rfl (by omega) v1 v2
  rw [hn, loopN_succ, first43]
  exact hl
theorem loop43_nil {w : Int} : loopN (loopBF Try.prog (OR orc0) tb 43 6 [6] 1) rounds (st43 w [] 0 0 (.sl none 0 0 true 0) []) pairE = some (.exit 0, st43 w [] 0 0 (.sl none 0 0 true 0) []) := by
  obtain ⟨n, hn⟩ : ∃ n, rounds = n + 1 := ⟨99999999999999999999, rfl⟩
  rw [hn, loopN_succ, b43_0]
  rfl
def N43 : Norm := ⟨[0, 1, 4, 5, 6, 7, 8], []⟩
noncomputable def S43 (w : Int) (xs : List Int) (s1 : St) : Orc := knowLF Try.prog 43 6 N43 [6] 1 (st43 w xs 0 0 (.sl none 0 0 true 0) []) (.exit 0) s1 (OR orc0)
theorem count43 : Nat.ble (countL 6 e43.code) 1 = true := by kernel_rfl
theorem norm43 : loopN0 tb 43 6 = some N43 := by kernel_rfl
theorem S43_ok {w : Int} {xs : List Int} {s1 : St} (h : loopN (loopBF Try.prog (OR orc0) tb 43 6 [6] 1) rounds (st43 w xs 0 0 (.sl none 0 0 true 0) []) pairE = some (.exit 0, s1)) : Ok (S43 w xs s1) :=
  knowLF_ok tbOk (LFact.flat (OR_ok ok0) h) (OR_ok ok0) (ep := e43) rfl norm43 count43
theorem run43 (w x n : Int) (xs : List Int) (cs : List AV) (m : Nat) :
    evCall Try.prog (S43 w (x :: xs) (st43 w (x :: xs) ((x :: xs).length : Int) n (.gr (6, 0) (m + 1) 1) [(6, .cells true cs)])) tb 100 AV (.fn 43) [int64 w, ints (x :: xs)] (mkHeap [] 0) .off (viewK Try.prog (resOf Try.prog 43)) =
    bif decide (((x :: xs).length : Int) > 20000) then some (.tup [.fz [] 0 false 1, int64 4]) else bif sameSt (st43 w (x :: xs) 0 0 (.sl none 0 0 true 0) []) (st43 w (x :: xs) 0 0 (.sl none 0 0 true 0) []) then guardK (allS (dropA cs 0) && true) (some (.tup [.fz (fixLen ((m + 1) * 1) (dropA cs 0)) (m + 1) false 1, int64 0])) else none := by kernel_rfl
theorem run43_nil (w : Int) :
    evCall Try.prog (S43 w [] (st43 w [] 0 0 (.sl none 0 0 true 0) [])) tb 100 AV (.fn 43) [int64 w, ints []] (mkHeap [] 0) .off (viewK Try.prog (resOf Try.prog 43)) =
    bif sameSt (st43 w [] 0 0 (.sl none 0 0 true 0) []) (st43 w [] 0 0 (.sl none 0 0 true 0) []) then some (.tup [.fz [] 0 false 1, int64 0]) else none := by kernel_rfl
theorem args43 (w : Int) (xs : List Int) : vwArgs Try.prog [] none0 (parsOf Try.prog 43) [int64 w, ints xs] = [int64 w, ints xs] := by kernel_rfl
/-- What the document's Low tells. -/
theorem low_ref {w : Int} {xs : List Int} (hm : xs.length ≤ 20000) : FFact Try.prog tb 43 [int64 w, ints xs] (.tup [ints (lows w 0 xs), int64 0]) := by
  refine ⟨args43 w xs, ?_⟩
  cases xs with
  | nil => exact ⟨_, S43_ok loop43_nil, by rw [run43_nil, sameSt_self]; rfl⟩
  | cons x xs =>
    refine ⟨_, S43_ok (loop43_all (w := w) hm), ?_⟩
    unfold so43
    have hl : (lows w 0 (x :: xs)).length = xs.length + 1 := by rw [lows_len]; rfl
    rw [hl, run43, sameSt_self, decide_eq_false (by omega : ¬ (((x :: xs).length : Int) > 20000))]
    have e := fix_ints (lows w 0 (x :: xs))
    rw [hl] at e
    have e2 : allS (dropA ((lows w 0 (x :: xs)).map int64) 0) = true := by rw [dropA_eq, List.drop_zero, allS_ints]
    rw [e, e2]
    simp only [cond_false, cond_true, guardK, Bool.and_self]
    unfold ints
    rw [hl]
theorem run43_big (w : Int) (xs : List Int) : evCall Try.prog (stopAt 43 [3] orc0) tb 100 AV (.fn 43) [int64 w, ints xs] (mkHeap [] 0) .off (viewK Try.prog (resOf Try.prog 43)) =
    bif decide ((xs.length : Int) > 20000) then some (.tup [ints [], int64 4]) else none := by kernel_rfl
theorem run15_big (w : Int) (xs : List Int) : evCall Try.prog (stopAt 46 [3] orc0) tb 100 AV (.fn 15) [int64 w, ints xs] (mkHeap [] 0) .off (viewK Try.prog (resOf Try.prog 15)) =
    bif decide ((xs.length : Int) > 20000) then some (.tup [ints [], int64 4]) else none := by kernel_rfl
/-- Low, for any numbers. -/
theorem low_facts (w : Int) (xs : List Int) : ∃ ys e, ys.length ≤ maxLen ∧ FFact Try.prog tb 15 [int64 w, ints xs] (.tup [ints ys, int64 e]) ∧ FFact Try.prog tb 43 [int64 w, ints xs] (.tup [ints ys, int64 e]) := by
  have hM : maxLen = 9223372036854775807 := rfl
  by_cases hm : xs.length ≤ 20000
  · exact ⟨_, _, by rw [lows_len]; omega, low_fact hm, low_ref hm⟩
  · refine ⟨[], 4, by simp, ⟨args15 w xs, _, stopAt_ok ok0, (run15_big w xs).trans ?_⟩, ⟨args43 w xs, _, stopAt_ok ok0, (run43_big w xs).trans ?_⟩⟩ <;>
      (rw [decide_eq_true (by omega : (xs.length : Int) > 20000)]; rfl)
end Go.Proofs.Ythlmbnhelkbchaa
