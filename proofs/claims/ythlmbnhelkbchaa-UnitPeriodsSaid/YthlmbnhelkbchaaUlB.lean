/- UnitLows: the law's own loop. -/
import Derived.Test.YthlmbnhelkbchaaUlA
import Derived.Test.YthlmbnhelkbchaaUaA
namespace Go.Proofs.Ythlmbnhelkbchaa
open Go.Ev
set_option maxRecDepth 100000
def st4 (w : Int) (xs ys : List Int) (i lo hi : Int) : St := ⟨[int64 w, ints xs, .dead, .dead, .dead, ints ys, .dead, int64 lo, int64 hi, int64 i] ++ repA .dead 75, mkHeap [] 7, [], .off⟩
noncomputable def O4 (S : Orc) : Orc := stopAt 4 [15] (knowW 16 (fun a => isSo (isN1 a)) V16 S)
noncomputable def h1 {A : Type} (x : Int) (y : Option A) : Option A := bif isSo (isN1 [int64 x]) then y else none
noncomputable def body4 {A : Type} (w : Int) (xs ys : List Int) (i lo hi : Int) (K : Ex → St → Option A) : Option A :=
  bif decide (i < (ys.length : Int)) then
    ldI xs i fun x => h1 x <|
    let go : Option A := K .normal (st4 w xs ys (IntKind.i64.wrap (i + 1)) (minI lo (num x)) (maxI hi (num x)))
    let three : Option A := bif decide (w ≤ 0) then ldI ys i fun y => bif !(y == 0) then none else go else go
    ldI ys i fun y => bif decide (y < minI lo (num x)) then none else
    ldI ys i fun y => bif decide (y > maxI hi (num x)) then none else
    bif decide (w ≥ 65536) then ldI ys i fun y => bif !(y == num x) then none else three else three
  else K (.exit 0) (st4 w xs ys i lo hi)
theorem b4 {A : Type} (w : Int) (xs ys : List Int) (i lo hi : Int) (K : Ex → St → Option A) :
    loopB Try.prog (O4 orc0) tb 4 10 0 (st4 w xs ys i lo hi) K = body4 w xs ys i lo hi K := by kernel_rfl
/-- What the law asks, from a place on. -/
def okL (w : Int) : Int → Int → List Int → List Int → Prop
  | lo, hi, x :: xs, y :: ys => (minI lo (num x) ≤ y ∧ y ≤ maxI hi (num x) ∧ (w ≥ 65536 → y = num x) ∧ (w ≤ 0 → y = 0)) ∧ okL w (minI lo (num x)) (maxI hi (num x)) xs ys
  | _, _, _, _ => True
theorem h1_eq {A : Type} (x : Int) (y : Option A) : h1 x y = y := by unfold h1; rw [isSo_true ⟨_, rfl⟩]; rfl
theorem body4_eq {A : Type} {w : Int} {xs ys : List Int} {i : Nat} {lo hi : Int} (hx : i < xs.length) (hy : i < ys.length) (hm : ys.length ≤ 20000) (h : okL w lo hi (xs.drop i) (ys.drop i)) (K : Ex → St → Option A) :
    body4 w xs ys (i : Int) lo hi K = K .normal (st4 w xs ys ((i + 1 : Nat) : Int) (minI lo (num xs[i])) (maxI hi (num xs[i]))) := by
  rw [List.drop_eq_getElem_cons hx, List.drop_eq_getElem_cons hy] at h
  obtain ⟨⟨g1, g2, g3, g4⟩, _⟩ := h
  unfold body4
  rw [decide_eq_true (by omega : (i : Int) < (ys.length : Int)), cond_true]
  simp only [ldI_eq hx, ldI_eq hy, h1_eq, wrapN (by omega : i < 9223372036854775807)]
  rw [decide_eq_false (by omega : ¬ ys[i] < minI lo (num xs[i])), cond_false, decide_eq_false (by omega : ¬ ys[i] > maxI hi (num xs[i])), cond_false]
  have h0 : (bif decide (w ≤ 0) then bif !(ys[i] == 0) then none else K .normal (st4 w xs ys ((i + 1 : Nat) : Int) (minI lo (num xs[i])) (maxI hi (num xs[i]))) else K .normal (st4 w xs ys ((i + 1 : Nat) : Int) (minI lo (num xs[i])) (maxI hi (num xs[i])))) = K .normal (st4 w xs ys ((i + 1 : Nat) : Int) (minI lo (num xs[i])) (maxI hi (num xs[i]))) := by
    by_cases hw : w ≤ 0
    · rw [decide_eq_true hw, cond_true, g4 hw]; rfl
    · rw [decide_eq_false hw]; rfl
  simp only [h0]
  by_cases hw : w ≥ 65536
  · rw [decide_eq_true hw, cond_true, g3 hw, beq_self_eq_true]; rfl
  · rw [decide_eq_false hw]; rfl
theorem loop4 {w : Int} {xs ys : List Int} (hl : xs.length = ys.length) (hm : ys.length ≤ 20000) : ∀ (d i n : Nat) (lo hi : Int), i + d = ys.length → d < n → okL w lo hi (xs.drop i) (ys.drop i) →
    ∃ lo' hi', loopN (loopB Try.prog (O4 orc0) tb 4 10 0) n (st4 w xs ys (i : Int) lo hi) pairE = some (.exit 0, st4 w xs ys (ys.length : Int) lo' hi') := by
  intro d
  induction d with
  | zero =>
    intro i n lo hi hi' hn h
    obtain ⟨n, rfl⟩ : ∃ m, n = m + 1 := ⟨n - 1, by omega⟩
    have hi : i = ys.length := by omega
    subst hi
    refine ⟨lo, hi, ?_⟩
    rw [loopN_succ, b4]
    unfold body4
    rw [decide_eq_false (by omega : ¬ ((ys.length : Int) < (ys.length : Int)))]
    rfl
  | succ d ih =>
    intro i n lo hi hi' hn h
    obtain ⟨n, rfl⟩ : ∃ m, n = m + 1 := ⟨n - 1, by omega⟩
    have hy : i < ys.length := by omega
    have hx : i < xs.length := by omega
    rw [loopN_succ, b4, body4_eq hx hy hm h]
    rw [List.drop_eq_getElem_cons hx, List.drop_eq_getElem_cons hy] at h
    exact ih (i + 1) n _ _ (by omega) (by omega) h.2
theorem O4_ok {S : Orc} (h : Ok S) : Ok (O4 S) := stopAt_ok (knowW_ok tbOk when16 h)
def N4 : Norm := ⟨[0, 1, 4, 5, 7, 8, 9], []⟩
noncomputable def SL (w : Int) (xs ys : List Int) (s1 : St) : Orc := know 12 [] (.bool true) (knowF 15 [int64 w, ints xs] (.tup [ints ys, int64 0]) (knowL Try.prog 4 10 N4 0 (st4 w xs ys 0 0 0) (.exit 0) s1 orc0))
theorem count4 : Nat.ble (countL 10 e4.code) 1 = true := by kernel_rfl
theorem norm4 : loopN0 tb 4 10 = some N4 := by kernel_rfl
theorem low_run (w : Int) (xs ys : List Int) (lo hi : Int) :
    evCall Try.prog (SL w xs ys (st4 w xs ys (ys.length : Int) lo hi)) tb 100 Bool (.fn 4) [int64 w, ints xs] ⟨fun _ => none, 0⟩ .off done =
    bif same [] [] then bif decide ((xs.length : Int) > 2000) then some true else bif same [int64 w, ints xs] [int64 w, ints xs] then bif !((ys.length : Int) == (xs.length : Int)) then some false else
      bif sameSt (st4 w xs ys 0 0 0) (st4 w xs ys 0 0 0) then some true else none else none else none := by kernel_rfl
theorem low_run0 (w : Int) (xs : List Int) :
    evCall Try.prog (know 12 [] (.bool true) (stopAt 4 [5] orc0)) tb 100 Bool (.fn 4) [int64 w, ints xs] ⟨fun _ => none, 0⟩ .off done =
    bif same [] [] then bif decide ((xs.length : Int) > 2000) then some true else none else none := by kernel_rfl
/-! ### The plain law -/
theorem round1_eq {p : Int} (h1 : -1152921504606846976 ≤ p) (h2 : p ≤ 1152921504606846976) : round1 p = if p < 0 then -((-p + 32768) / 65536) else (p + 32768) / 65536 := by
  unfold round1
  by_cases h : p < 0
  · rw [decide_eq_true h, if_pos h, cond_true]
    have e1 : IntKind.i64.wrap (0 - p) = -p := by rw [IntKind.wrap_i64]; omega
    have e2 : IntKind.i64.wrap (-p + 32768) = -p + 32768 := by rw [IntKind.wrap_i64]; omega
    rw [e1, e2, Int.tdiv_eq_ediv_of_nonneg (by omega)]
    rw [IntKind.wrap_i64, IntKind.wrap_i64]
    omega
  · rw [decide_eq_false h, if_neg h, cond_false]
    have e2 : IntKind.i64.wrap (p + 32768) = p + 32768 := by rw [IntKind.wrap_i64]; omega
    rw [e2, Int.tdiv_eq_ediv_of_nonneg (by omega), IntKind.wrap_i64]
    omega
theorem kept_b (n lo hi : Int) (h : lo ≤ hi) : lo ≤ kept n lo hi ∧ kept n lo hi ≤ hi ∧ (n ≤ lo → kept n lo hi = lo) ∧ (hi ≤ n → kept n lo hi = hi) ∧ (lo ≤ n → n ≤ hi → kept n lo hi = n) := by
  unfold kept maxI minI
  split <;> split <;> omega
theorem num_eq (x : Int) : num x = kMl x := by
  unfold num into kMl kept maxI minI
  by_cases h1 : x < -1099511627776
  · rw [decide_eq_true h1]
    simp only [cond_true]
    split <;> split <;> omega
  · rw [decide_eq_false h1, cond_false]
    by_cases h2 : x > 1099511627776
    · rw [decide_eq_true h2, cond_true]
      split <;> split <;> omega
    · rw [decide_eq_false h2, cond_false]
      split <;> split <;> omega
theorem lowV_eq {x w last : Int} (h1 : -1099511627776 ≤ last) (h2 : last ≤ 1099511627776) :
    (kMl x ≤ last → kMl x ≤ lowV x w last ∧ lowV x w last ≤ last) ∧ (last ≤ kMl x → last ≤ lowV x w last ∧ lowV x w last ≤ kMl x) ∧ (w ≥ 65536 → lowV x w last = kMl x) ∧ (w ≤ 0 → lowV x w last = last) := by
  obtain ⟨a1, a2, -, -, -⟩ := kept_b x (-1099511627776) 1099511627776 (by omega)
  obtain ⟨c1, c2, c3, c4, c5⟩ := kept_b w (-1099511627776) 1099511627776 (by omega)
  obtain ⟨b1, b2, b3, b4, b5⟩ := kept_b (kMl w) 0 65536 (by omega)
  have hk : lowP x w last = (kMl x - last) * kept (kMl w) 0 65536 := by
    unfold lowP w64
    have e : IntKind.i64.wrap (kMl x - last) = kMl x - last := by
      rw [IntKind.wrap_i64]
      unfold kMl
      omega
    rw [e]
    have f1 : (kMl x - last) * kept (kMl w) 0 65536 ≤ 2199023255552 * 65536 := by
      rcases Int.le_total (kMl x - last) 0 with h | h
      · have := Int.mul_nonneg (show 0 ≤ -(kMl x - last) by omega) b1
        rw [Int.neg_mul] at this
        omega
      · exact Int.mul_le_mul (by unfold kMl; omega) b2 b1 (by omega)
    have f2 : -(2199023255552 * 65536) ≤ (kMl x - last) * kept (kMl w) 0 65536 := by
      rcases Int.le_total (kMl x - last) 0 with h | h
      · have := Int.mul_le_mul (show -(kMl x - last) ≤ 2199023255552 by unfold kMl; omega) b2 b1 (by omega)
        rw [Int.neg_mul] at this
        omega
      · have := Int.mul_nonneg h b1
        omega
    rw [IntKind.wrap_i64]
    omega
  have hd1 : -2199023255552 ≤ kMl x - last := by unfold kMl; omega
  have hd2 : kMl x - last ≤ 2199023255552 := by unfold kMl; omega
  have ha1 : -1099511627776 ≤ kMl x := a1
  have ha2 : kMl x ≤ 1099511627776 := a2
  generalize hw : kept (kMl w) 0 65536 = q at *
  generalize hx : kMl x = a at *
  -- the product lies between
  have g1 : a - last ≤ 0 → (a - last) * 65536 ≤ (a - last) * q ∧ (a - last) * q ≤ 0 := fun h => by
    have := Int.mul_le_mul_of_nonneg_left b2 (show 0 ≤ -(a - last) by omega)
    have := Int.mul_nonneg (show 0 ≤ -(a - last) by omega) b1
    rw [Int.neg_mul] at *
    rw [Int.neg_mul] at *
    omega
  have g2 : 0 ≤ a - last → 0 ≤ (a - last) * q ∧ (a - last) * q ≤ (a - last) * 65536 := fun h => ⟨Int.mul_nonneg h b1, Int.mul_le_mul_of_nonneg_left b2 h⟩
  have hv : lowV x w last = last + round1 ((a - last) * q) := by
    unfold lowV w64
    rw [hk]
    have hb : -2199023255552 * 65536 ≤ (a - last) * q ∧ (a - last) * q ≤ 2199023255552 * 65536 := by
      rcases Int.le_total (a - last) 0 with h | h
      · have := g1 h; omega
      · have := g2 h; omega
    have hr := round1_eq (p := (a - last) * q) (by omega) (by omega)
    have hin : -1099511627776 ≤ last + round1 ((a - last) * q) ∧ last + round1 ((a - last) * q) ≤ 1099511627776 := by
      rw [hr]
      rcases Int.le_total (a - last) 0 with h | h
      · have := g1 h
        split <;> omega
      · have := g2 h
        split <;> omega
    have e : IntKind.i64.wrap (last + round1 ((a - last) * q)) = last + round1 ((a - last) * q) := by
      rw [IntKind.wrap_i64]
      omega
    rw [e]
    exact (kept_b _ (-1099511627776) 1099511627776 (by omega)).2.2.2.2 hin.1 hin.2
  rw [hv]
  have hb : -2199023255552 * 65536 ≤ (a - last) * q ∧ (a - last) * q ≤ 2199023255552 * 65536 := by
    rcases Int.le_total (a - last) 0 with h | h
    · have := g1 h; omega
    · have := g2 h; omega
  rw [round1_eq (p := (a - last) * q) (by omega) (by omega)]
  refine ⟨fun h => ?_, fun h => ?_, fun h => ?_, fun h => ?_⟩
  · have := g1 (by omega)
    split <;> omega
  · have := g2 (by omega)
    split <;> omega
  · have hq : q = 65536 := by
      refine b4 ?_
      unfold kMl
      rcases Int.le_total 1099511627776 w with h' | h'
      · rw [c4 h']; omega
      · rw [c5 (by omega) h']; omega
    rw [hq]
    split <;> omega
  · have hq : q = 0 := by
      refine b3 ?_
      unfold kMl
      rcases Int.le_total w (-1099511627776) with h' | h'
      · rw [c3 h']; omega
      · rw [c5 h' (by omega)]; omega
    rw [hq]
    split <;> omega
theorem lows_ok (w : Int) : ∀ (xs : List Int) (lo hi last : Int), lo ≤ last → last ≤ hi → -1099511627776 ≤ last → last ≤ 1099511627776 → (w ≤ 0 → last = 0) → okL w lo hi xs (lows w last xs)
  | [], _, _, _, _, _, _, _, _ => trivial
  | x :: xs, lo, hi, last, h1, h2, h3l, h4, h5 => by
    obtain ⟨k1, k2, k3, k4⟩ := lowV_eq (x := x) (w := w) h3l h4
    obtain ⟨a1, a2, -, -, -⟩ := kept_b x (-1099511627776) 1099511627776 (by omega)
    have a1 : -1099511627776 ≤ kMl x := a1
    have a2 : kMl x ≤ 1099511627776 := a2
    have m1 : minI lo (num x) ≤ lo ∧ minI lo (num x) ≤ kMl x ∧ (minI lo (num x) = lo ∨ minI lo (num x) = kMl x) := by
      rw [num_eq]; unfold minI; split <;> omega
    have m2 : hi ≤ maxI hi (num x) ∧ kMl x ≤ maxI hi (num x) := by
      rw [num_eq]; unfold maxI; split <;> omega
    rcases Int.le_total (kMl x) last with h | h
    · have := k1 h
      exact ⟨⟨by omega, by omega, fun hw => by rw [num_eq]; exact k3 hw, fun hw => by rw [k4 hw]; exact h5 hw⟩, lows_ok w xs _ _ _ (by omega) (by omega) (by omega) (by omega) (fun hw => by rw [k4 hw]; exact h5 hw)⟩
    · have := k2 h
      exact ⟨⟨by omega, by omega, fun hw => by rw [num_eq]; exact k3 hw, fun hw => by rw [k4 hw]; exact h5 hw⟩, lows_ok w xs _ _ _ (by omega) (by omega) (by omega) (by omega) (fun hw => by rw [k4 hw]; exact h5 hw)⟩
theorem law {H : Type} {k0 k1 : Nat} {d0 d1 : DataW H} (w0 : WT Try.prog k0 3 d0) (w1 : WT Try.prog k1 22 d1) :
    ∃ S, Ok S ∧ evCall Try.prog S tb 100 Bool (.fn 4) [dVal Try.prog k0 3 d0, dVal Try.prog k1 22 d1] ⟨fun _ => none, 0⟩ .off done = some true := by
  obtain ⟨w, e0, _⟩ := WT.vint (by kernel_rfl) w0
  obtain ⟨xs, e1, _⟩ := WT.vints (e := 3) (by kernel_rfl) (by kernel_rfl) (by kernel_rfl) w1
  rw [e0, e1]
  by_cases hm : (xs.length : Int) > 2000
  · refine ⟨_, know_ok tbOk awake_fact (stopAt_ok ok0), (low_run0 w xs).trans ?_⟩
    rw [same_self, decide_eq_true hm]; rfl
  · have hl := lows_len w xs 0
    obtain ⟨lo, hi, hr⟩ := loop4 (w := w) (xs := xs) (ys := lows w 0 xs) hl.symm (by omega) (lows w 0 xs).length 0 rounds 0 0 (by omega) (rounds_gt (by have : maxLen = 9223372036854775807 := rfl; omega)) (lows_ok w xs 0 0 0 (by omega) (by omega) (by omega) (by omega) (fun _ => rfl))
    refine ⟨_, know_ok tbOk awake_fact (knowF_ok tbOk (low_fact (by omega)) (knowL_ok tbOk ⟨O4 orc0, O4_ok ok0, hr⟩ ok0 (ep := e4) rfl norm4 count4)), (low_run w xs (lows w 0 xs) lo hi).trans ?_⟩
    rw [same_self, same_self, sameSt_self, decide_eq_false hm, hl]
    simp
end Go.Proofs.Ythlmbnhelkbchaa
