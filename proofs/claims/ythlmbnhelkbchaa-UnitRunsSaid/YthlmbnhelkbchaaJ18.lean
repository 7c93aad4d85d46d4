/- UnitLows: the law's own loop. -/
import Derived.Test.YthlmbnhelkbchaaJ17
namespace Go.Proofs.Ythlmbnhelkbchaa
open Go.Ev
set_option maxRecDepth 100000
def st4 (w : Int) (xs ys : List Int) (i lo hi : Int) : St := ⟨[int64 w, ints xs, .dead, .dead, .dead, ints ys, .dead, int64 lo, int64 hi, int64 i] ++ repA .dead 75, mkHeap [] 7, [], .off⟩
noncomputable def O4 (S : Orc) : Orc := stopAt 4 [15] (knowW 16 (fun a => isSo (isN1 a)) V16 S)
noncomputable def h1 {A : Type} (x : Int) (y : Option A) : Option A := bif isSo (isN1 [int64 x]) then y else none
noncomputable def body4 {A : Type} (w : Int) (xs ys : List Int) (i lo hi : Int) (K : Ex → St → Option A) : Option A :=
  bif decide (i < (ys.length : Int)) then
    ldI xs i fun x => h1 x <|
    let go : Option A := K .normal (st4 w xs ys (IntKind.i64.wrap (i + 1)) (minI lo (num x)) (maxI hi (num x)))
    let three : Option A := bif decide (w ≤ 0) then ldI ys i fun y => bif !(y == 0) then none else go else go
    ldI ys i fun y => bif decide (y < minI lo (num x)) then none else
    ldI ys i fun y => bif decide (y > maxI hi (num x)) then none else
    bif decide (w ≥ 65536) then ldI ys i fun y => bif !(y == num x) then none else three else three
  else K (.exit 0) (st4 w xs ys i lo hi)
theorem b4 {A : Type} (w : Int) (xs ys : List Int) (i lo hi : Int) (K : Ex → St → Option A) :
    loopB Try.prog (O4 orc0) tb 4 10 0 (st4 w xs ys i lo hi) K = body4 w xs ys i lo hi K := by kernel_rfl
/-- What the law asks, from a place on. -/
def okL (w : Int) : Int → Int → List Int → List Int → Prop
  | lo, hi, x :: xs, y :: ys => (minI lo (num x) ≤ y ∧ y ≤ maxI hi (num x) ∧ (w ≥ 65536 → y = num x) ∧ (w ≤ 0 → y = 0)) ∧ okL w (minI lo (num x)) (maxI hi (num x)) xs ys
  | _, _, _, _ => True
theorem h1_eq {A : Type} (x : Int) (y : Option A) : h1 x y = y := by unfold h1; rw [isSo_true ⟨_, rfl⟩]; rfl
theorem body4_eq {A : Type} {w : Int} {xs ys : List Int} {i : Nat} {lo hi : Int} (hx : i < xs.length) (hy : i < ys.length) (hm : ys.length ≤ 20000) (h : okL w lo hi (xs.drop i) (ys.drop i)) (K : Ex → St → Option A) :
    body4 w xs ys (i : Int) lo hi K = K .normal (st4 w xs ys ((i + 1 : Nat) : Int) (minI lo (num xs[i])) (maxI hi (num xs[i]))) := by
  rw [List.drop_eq_getElem_cons hx, List.drop_eq_getElem_cons hy] at h
  obtain ⟨⟨g1, g2, g3, g4⟩, _⟩ := h
  unfold body4
  rw [decide_eq_true (by omega : (i : Int) < (ys.length : Int)), cond_true]
  simp only [ldI_eq hx, ldI_eq hy, h1_eq, wrapN (by omega : i < 9223372036854775807)]
  rw [decide_eq_false (by omega : ¬ ys[i] < minI lo (num xs[i])), cond_false, decide_eq_false (by omega : ¬ ys[i] > maxI hi (num xs[i])), cond_false]
  have h0 : (bif decide (w ≤ 0) then bif !(ys[i] == 0) then none else K .normal (st4 w xs ys ((i + 1 : Nat) : Int) (minI lo (num xs[i])) (maxI hi (num xs[i]))) else K .normal (st4 w xs ys ((i + 1 : Nat) : Int) (minI lo (num xs[i])) (maxI hi (num xs[i])))) = K .normal (st4 w xs ys ((i + 1 : Nat) : Int) (minI lo (num xs[i])) (maxI hi (num xs[i]))) := by
    by_cases hw : w ≤ 0
    · rw [decide_eq_true hw, cond_true, g4 hw]; rfl
    · rw [decide_eq_false hw]; rfl
  simp only [h0]
  by_cases hw : w ≥ 65536
  · rw [decide_eq_true hw, cond_true, g3 hw, beq_self_eq_true]; rfl
  · rw [decide_eq_false hw]; rfl
theorem loop4 {w : Int} {xs ys : List Int} (hl : xs.length = ys.length) (hm : ys.length ≤ 20000) : ∀ (d i n : Nat) (lo hi : Int), i + d = ys.length → d < n → okL w lo hi (xs.drop i) (ys.drop i) →
    ∃ lo' hi', loopN (loopB Try.prog (O4 orc0) tb 4 10 0) n (st4 w xs ys (i : Int) lo hi) pairE = some (.exit 0, st4 w xs ys (ys.length : Int) lo' hi') := by
  intro d
  induction d with
  | zero =>
    intro i n lo hi hi' hn h
    obtain ⟨n, rfl⟩ : ∃ m, n = m + 1 := ⟨n - 1, by omega⟩
    have hi : i = ys.length := by omega
    subst hi
    refine ⟨lo, hi, ?_⟩
    rw [loopN_succ, b4]
    unfold body4
    rw [decide_eq_false (by omega : ¬ ((ys.length : Int) < (ys.length : Int)))]
    rfl
  | succ d ih =>
    intro i n lo hi hi' hn h
    obtain ⟨n, rfl⟩ : ∃ m, n = m + 1 := ⟨n - 1, by omega⟩
    have hy : i < ys.length := by omega
    have hx : i < xs.length := by omega
    rw [loopN_succ, b4, body4_eq hx hy hm h]
    rw [List.drop_eq_getElem_cons hx, List.drop_eq_getElem_cons hy] at h
    exact ih (i + 1) n _ _ (by omega) (by omega) h.2
theorem O4_ok {S : Orc} (h : Ok S) : Ok (O4 S) := stopAt_ok (knowW_ok tbOk when16 h)
def N4 : Norm := ⟨[0, 1, 4, 5, 7, 8, 9], []⟩
noncomputable def SL (w : Int) (xs ys : List Int) (s1 : St) : Orc := know 12 [] (.bool true) (knowF 15 [int64 w, ints xs] (.tup [ints ys, int64 0]) (knowL Try.prog 4 10 N4 0 (st4 w xs ys 0 0 0) (.exit 0) s1 orc0))
theorem count4 : Nat.ble (countL 10 e4.code) 1 = true := by kernel_rfl
theorem norm4 : loopN0 tb 4 10 = some N4 := by kernel_rfl
theorem low_run (w : Int) (xs ys : List Int) (lo hi : Int) :
    evCall Try.prog (SL w xs ys (st4 w xs ys (ys.length : Int) lo hi)) tb 100 Bool (.fn 4) [int64 w, ints xs] ⟨fun _ => none, 0⟩ .off done =
    bif same [] [] then bif decide ((xs.length : Int) > 2000) then some true else bif same [int64 w, ints xs] [int64 w, ints xs] then bif !((ys.length : Int) == (xs.length : Int)) then some false else
      bif sameSt (st4 w xs ys 0 0 0) (st4 w xs ys 0 0 0) then some true else none else none else none := by kernel_rfl
theorem low_run0 (w : Int) (xs : List Int) :
    evCall Try.prog (know 12 [] (.bool true) (stopAt 4 [5] orc0)) tb 100 Bool (.fn 4) [int64 w, ints xs] ⟨fun _ => none, 0⟩ .off done =
    bif same [] [] then bif decide ((xs.length : Int) > 2000) then some true else none else none := by kernel_rfl
/-! ### The plain law -/
theorem round1_eq {p : Int} (h1 : -1152921504606846976 ≤ p) (h2 : p ≤ 1152921504606846976) : round1 p = if p < 0 then -((-p + 32768) / 65536) else (p + 32768) / 65536 := by
  unfold round1
  by_cases h : p < 0
  · rw [decide_eq_true h, if_pos h, cond_true]
    have e1 : IntKind.i64.wrap (0 - p) = -p := by rw [IntKind.wrap_i64]; omega
    have e2 : IntKind.i64.wrap (-p + 32768) = -p + 32768 := by rw [IntKind.wrap_i64]; omega
    rw [e1, e2, Int.tdiv_eq_ediv_of_nonneg (by omega)]
    rw [IntKind.wrap_i64, IntKind.wrap_i64]
    omega
  · rw [decide_eq_false h, if_neg h, cond_false]
    have e2 : IntKind.i64.wrap (p + 32768) = p + 32768 := by rw [IntKind.wrap_i64]; omega
    rw [e2, Int.tdiv_eq_ediv_of_nonneg (by omega), IntKind.wrap_i64]
    omega
theorem kept_b (n lo hi : Int) (h : lo ≤ hi) : lo ≤ kept n lo hi ∧ kept n lo hi ≤ hi ∧ (n ≤ lo → kept n lo hi = lo) ∧ (hi ≤ n → kept n lo hi = hi) ∧ (lo ≤ n → n ≤ hi → kept n lo hi = n) := by
  unfold kept maxI minI
  split <;> split <;> omega
theorem num_eq (x : Int) : num x = kMl x := by
  unfold num into kMl kept maxI minI
  by_cases h1 : x < -1099511627776
  · rw [decide_eq_true h1]
    simp only [cond_true]
    split <;> split <;> omega
  · rw [decide_eq_false h1, cond_false]
    by_cases h2 : x > 1099511627776
    · rw [decide_eq_true h2, cond_true]
      split <;> split <;> omega
    · rw [decide_eq_false h2, cond_false]
      split <;> split <;> omega
theorem lowV_eq {x w last : Int} (h1 : -1099511627776 ≤ last) (h2 : last ≤ 1099511627776) :
    (kMl x ≤ last → kMl x ≤ lowV x w last ∧ lowV x w last ≤ last) ∧ (last ≤ kMl x → last ≤ lowV x w last ∧ lowV x w last ≤ kMl x) ∧ (w ≥ 65536 → lowV x w last = kMl x) ∧ (w ≤ 0 → lowV x w last = last) := by
  obtain ⟨a1, a2, -, -, -⟩ := kept_b x (-1099511627776) 1099511627776 (by omega)
  obtain ⟨c1, c2, c3, c4, c5⟩ := kept_b w (-1099511627776) 1099511627776 (by omega)
  obtain ⟨b1, b2, b3, b4, b5⟩ := kept_b (kMl w) 0 65536 (by omega)
  have hk : lowP x w last = (kMl x - last) * kept (kMl w) 0 65536 := by
    unfold lowP w64
    have e : IntKind.i64.wrap (kMl x - last) = kMl x - last := by
      rw [IntKind.wrap_i64]
      unfold kMl
      omega
    rw [e]
    have f1 : (kMl x - last) * kept (kMl w) 0 65536 ≤ 2199023255552 * 65536 := by
      rcases Int.le_total (kMl x - last) 0 with h | h
      · have := Int.mul_nonneg (show 0 ≤ -(kMl x - last) by omega) b1
        rw [Int.neg_mul] at this
        omega
      · exact Int.mul_le_mul (by unfold kMl; omega) b2 b1 (by omega)
    have f2 : -(2199023255552 * 65536) ≤ (kMl x - last) * kept (kMl w) 0 65536 := by
      rcases Int.le_total (kMl x - last) 0 with h | h
      · have := Int.mul_le_mul (show -(kMl x - last) ≤ 2199023255552 by unfold kMl; omega) b2 b1 (by omega)
        rw [Int.neg_mul] at this
        omega
      · have := Int.mul_nonneg h b1
        omega
    rw [IntKind.wrap_i64]
    omega
  have hd1 : -2199023255552 ≤ kMl x - last := by unfold kMl; omega
  have hd2 : kMl x - last ≤ 2199023255552 := by unfold kMl; omega
  have ha1 : -1099511627776 ≤ kMl x := a1
  have ha2 : kMl x ≤ 1099511627776 := a2
  generalize hw : kept (kMl w) 0 65536 = q at *
  generalize hx : kMl x = a at *
  -- the product lies between
  have g1 : a - last ≤ 0 → (a - last) * 65536 ≤ (a - last) * q ∧ (a - last) * q ≤ 0 := fun h => by
    have := Int.mul_le_mul_of_nonneg_left b2 (show 0 ≤ -(a - last) by omega)
    have := Int.mul_nonneg (show 0 ≤ -(a - last) by omega) b1
    rw [Int.neg_mul] at *
    rw [Int.neg_mul] at *
    omega
  have g2 : 0 ≤ a - last → 0 ≤ (a - last) * q ∧ (a - last) * q ≤ (a - last) * 65536 := fun h => ⟨Int.mul_nonneg h b1, Int.mul_le_mul_of_nonneg_left b2 h⟩
  have hv : lowV x w last = last + round1 ((a - last) * q) := by
    unfold lowV w64
    rw [hk]
    have hb : -2199023255552 * 65536 ≤ (a - last) * q ∧ (a - last) * q ≤ 2199023255552 * 65536 := by
      rcases Int.le_total (a - last) 0 with h | h
      · have := g1 h; omega
      · have := g2 h; omega
    have hr := round1_eq (p := (a - last) * q) (by omega) (by omega)
    have hin : -1099511627776 ≤ last + round1 ((a - last) * q) ∧ last + round1 ((a - last) * q) ≤ 1099511627776 := by
      rw [hr]
      rcases Int.le_total (a - last) 0 with h | h
      · have := g1 h
        split <;> omega
      · have := g2 h
        split <;> omega
    have e : IntKind.i64.wrap (last + round1 ((a - last) * q)) = last + round1 ((a - last) * q) := by
      rw [IntKind.wrap_i64]
      omega
    rw [e]
    exact (kept_b _ (-1099511627776) 1099511627776 (by omega)).2.2.2.2 hin.1 hin.2
  rw [hv]
  have hb : -2199023255552 * 65536 ≤ (a - last) * q ∧ (a - last) * q ≤ 2199023255552 * 65536 := by
    rcases Int.le_total (a - last) 0 with h | h
    · have := g1 h; omega
    · have := g2 h; omega
  rw [round1_eq (p := (a - last) * q) (by omega) (by omega)]
  refine ⟨fun h => ?_, fun h => ?_, fun h => ?_, fun h => ?_⟩
  · have := g1 (by omega)
    split <;> omega
  · have := g2 (by omega)
    split <;> omega
  · have hq : q = 65536 := by
      refine b4 ?_
      unfold kMl
      rcases Int.le_total 1099511627776 w with h' | h'
      · rw [c4 h']; omega
      · rw [c5 (by omega) h']; omega
    rw [hq]
    split <;> omega
  · have hq : q = 0 := by
      refine b3 ?_
      unfold kMl
      rcases Int.le_total w (-1099511627776) with h' | h'
      · rw [c3 h']; omega
      · rw [c5 h' (by omega)]; omega
    rw [hq]
    split <;> omega
theorem lows_ok (w : Int) : ∀ (xs : List Int) (lo hi last : Int), lo ≤ last → last ≤ hi → -1099511627776 ≤ last → last ≤ 1099511627776 → (w ≤ 0 → last = 0) → okL w lo hi xs (lows w last xs)
  | [], _, _, _, _, _, _, _, _ => trivial
  | x :: xs, lo, hi, last, h1, h2, h3l, h4, h5 => by
    obtain ⟨k1, k2, k3, k4⟩ := lowV_eq (x := x) (w := w) h3l h4
    obtain ⟨a1, a2, -, -, -⟩ := kept_b x (-1099511627776) 1099511627776 (by omega)
    have a1 : -1099511627776 ≤ kMl x := a1
    have a2 : kMl x ≤ 1099511627776 := a2
    have m1 : minI lo (num x) ≤ lo ∧ minI lo (num x) ≤ kMl x ∧ (minI lo (num x) = lo ∨ minI lo (num x) = kMl x) := by
      rw [num_eq]; unfold minI; split <;> omega
    have m2 : hi ≤ maxI hi (num x) ∧ kMl x ≤ maxI hi (num x) := by
      rw [num_eq]; unfold maxI; split <;> omega
    rcases Int.le_total (kMl x) last with h | h
    · have := k1 h
      exact ⟨⟨by omega, by omega, fun hw => by rw [num_eq]; exact k3 hw, fun hw => by rw [k4 hw]; exact h5 hw⟩, lows_ok w xs _ _ _ (by omega) (by omega) (by omega) (by omega) (fun hw => by rw [k4 hw]; exact h5 hw)⟩
    · have := k2 h
      exact ⟨⟨by omega, by omega, fun hw => by rw [num_eq]; exact k3 hw, fun hw => by rw [k4 hw]; exact h5 hw⟩, lows_ok w xs _ _ _ (by omega) (by omega) (by omega) (by omega) (fun hw => by rw [k4 hw]; exact h5 hw)⟩
theorem law {H : Type} {k0 k1 : Nat} {d0 d1 : DataW H} (w0 : WT Try.prog k0 3 d0) (w1 : WT Try.prog k1 22 d1) :
    ∃ S, Ok S ∧ evCall Try.prog S tb 100 Bool (.fn 4) [dVal Try.prog k0 3 d0, dVal Try.prog k1 22 d1] ⟨fun _ => none, 0⟩ .off done = some true := by
  obtain ⟨w, e0, _⟩ := WT.vint (by kernel_rfl) w0
  obtain ⟨xs, e1, _⟩ := WT.vints (e := 3) (by kernel_rfl) (by kernel_rfl) (by kernel_rfl) w1
  rw [e0, e1]
  by_cases hm : (xs.length : Int) > 2000
  · refine ⟨_, know_ok tbOk awake_fact (stopAt_ok ok0), (low_run0 w xs).trans ?_⟩
    rw [same_self, decide_eq_true hm]; rfl
  · have hl := lows_len w xs 0
    obtain ⟨lo, hi, hr⟩ := loop4 (w := w) (xs := xs) (ys := lows w 0 xs) hl.symm (by omega) (lows w 0 xs).length 0 rounds 0 0 (by omega) (rounds_gt (by have : maxLen = 9223372036854775807 := rfl; omega)) (lows_ok w xs 0 0 0 (by omega) (by omega) (by omega) (by omega) (fun _ => rfl))
    refine ⟨_, know_ok tbOk awake_fact (knowF_ok tbOk (low_fact (by omega)) (knowL_ok tbOk ⟨O4 orc0, O4_ok ok0, hr⟩ ok0 (ep := e4) rfl norm4 count4)), (low_run w xs (lows w 0 xs) lo hi).trans ?_⟩
    rw [same_self, same_self, sameSt_self, decide_eq_false hm, hl]
    simp
end Go.Proofs.Ythlmbnhelkbchaa
/- magnitude, Mul64, in closed form. -/
namespace Go.Proofs.Ythlmbnhelkbchaa
open Go.Ev
set_option maxRecDepth 100000
abbrev u64 (n : Int) : AV := .int .u64 n
abbrev wu (n : Int) : Int := IntKind.u64.wrap n
def magI (n : Int) : Int := bif decide (n < 0) then wu (IntKind.i64.wrap (0 - n)) else wu n
theorem run100 (n : Int) (h : Heap) : evCall Try.prog orc0 tb 100 AV (.fn 100) (vwArgs Try.prog [] h (parsOf Try.prog 100) [int64 n]) (mkHeap [] 0) .off rv =
    bif decide (n < 0) then some (u64 (wu (IntKind.i64.wrap (0 - n)))) else some (u64 (wu n)) := by kernel_rfl
def lo32 (a : Int) : Int := wu ((BitVec.ofInt 64 a &&& BitVec.ofInt 64 4294967295).toNat : Int)
def hi32 (a : Int) : Int := a.fdiv (2 ^ 32)
def mulT (x y : Int) : Int := wu (wu (hi32 x * lo32 y) + hi32 (wu (lo32 x * lo32 y)))
def mulHi (x y : Int) : Int := wu (wu (wu (hi32 x * hi32 y) + hi32 (mulT x y)) + hi32 (wu (lo32 (mulT x y) + wu (lo32 x * hi32 y))))
theorem run99 (x y : Int) (h : Heap) : evCall Try.prog orc0 tb 100 AV (.fn 99) (vwArgs Try.prog [] h (parsOf Try.prog 99) [u64 x, u64 y]) (mkHeap [] 0) .off rv = some (.tup [u64 (mulHi x y), u64 (wu (x * y))]) := by kernel_rfl
end Go.Proofs.Ythlmbnhelkbchaa
/- Product by One, where a number of 64 bits holds the product. -/
namespace Go.Proofs.Ythlmbnhelkbchaa
open Go.Ev
set_option maxRecDepth 100000
def V100 (a : List AV) : AV := u64 (magI (ar a 0))
theorem when100 (a : List AV) (h : isSo (isN1 a) = true) : F 100 a (V100 a) := by
  obtain ⟨x, rfl⟩ := isSo_iff.1 h
  refine .of ok0 rfl fun h => (run100 x h).trans ?_
  show _ = some (u64 (magI x))
  unfold magI
  cases decide (x < 0) <;> rfl
def isU2 (a : List AV) : Prop := ∃ x y, a = [u64 x, u64 y]
def V99 (a : List AV) : AV := .tup [u64 (mulHi (ar a 0) (ar a 1)), u64 (wu (ar a 0 * ar a 1))]
theorem when99 (a : List AV) (h : isSo (isU2 a) = true) : F 99 a (V99 a) := by
  obtain ⟨x, y, rfl⟩ := isSo_iff.1 h
  exact .of ok0 rfl fun h => run99 x y h
def is102 (a : List AV) : Prop := ∃ lo, a = [u64 0, u64 lo, u64 65536]
def V102 (a : List AV) : AV := .tup [u64 (wu ((ar a 1).tdiv 65536)), u64 ((ar a 1).tmod 65536)]
theorem run102_0 (lo : Int) (h : Heap) : evCall Try.prog orc0 tb 100 AV (.fn 102) (vwArgs Try.prog [] h (parsOf Try.prog 102) [u64 0, u64 lo, u64 65536]) (mkHeap [] 0) .off rv =
    some (.tup [u64 (wu (lo.tdiv 65536)), u64 (lo.tmod 65536)]) := by kernel_rfl
theorem when102 (a : List AV) (h : isSo (is102 a) = true) : F 102 a (V102 a) := by
  obtain ⟨lo, rfl⟩ := isSo_iff.1 h
  exact .of ok0 rfl fun h => run102_0 lo h
noncomputable def OP (S : Orc) : Orc := knowW 100 (fun a => isSo (isN1 a)) V100 (knowW 99 (fun a => isSo (isU2 a)) V99 (knowW 102 (fun a => isSo (is102 a)) V102 S))
theorem OP_ok {S : Orc} (h : Ok S) : Ok (OP S) := knowW_ok tbOk when100 (knowW_ok tbOk when99 (knowW_ok tbOk when102 h))
noncomputable abbrev j1 (x : Int) (y : Option AV) : Option AV := bif isSo (isN1 [int64 x]) then y else none
def pLo (x y : Int) : Int := (wu (magI x * magI y) + wu (w64 ((65536 : Int).tdiv 2)) + 0) % 18446744073709551616
def pHi (x y : Int) : Int := wu (mulHi (magI x) (magI y) + (wu (magI x * magI y) + wu (w64 ((65536 : Int).tdiv 2)) + 0) / 18446744073709551616)
def pEnd (x y n : Int) : Option AV := bif !(decide (x < 0) == decide (y < 0)) then some (int64 (w64 (0 - n))) else some (int64 n)
noncomputable def prT (x y : Int) : Option AV :=
  j1 x <| j1 y <| bif isSo (isU2 [u64 (magI x), u64 (magI y)]) then
    guardK (decide (0 ≤ wu (magI x * magI y)) && decide (0 ≤ wu (w64 ((65536 : Int).tdiv 2))) && decide ((0 : Int) ≤ 0) && decide ((0 : Int) ≤ 1)) <|
    bif decide (pHi x y < wu 65536) then bif isSo (is102 [u64 (pHi x y), u64 (pLo x y), u64 (wu 65536)]) then
      bif decide (wu ((pLo x y).tdiv 65536) < 4611686018427387904) then pEnd x y (w64 (wu ((pLo x y).tdiv 65536))) else pEnd x y 4611686018427387904
      else none else pEnd x y 4611686018427387904
  else none
theorem run77 (x y : Int) (h : Heap) : evCall Try.prog (OP orc0) tb 100 AV (.fn 77) (vwArgs Try.prog [] h (parsOf Try.prog 77) [int64 x, int64 y, int64 65536]) (mkHeap [] 0) .off rv = prT x y := by kernel_rfl
theorem wu_eq (n : Int) : wu n = n % 18446744073709551616 := by unfold wu; simp [IntKind.wrap, IntKind.bits, IntKind.signed]
theorem lo32_eq {a : Int} (h0 : 0 ≤ a) (h1 : a < 18446744073709551616) : lo32 a = a % 4294967296 := by
  unfold lo32
  have e1 : (BitVec.ofInt 64 4294967295).toNat = 2 ^ 32 - 1 := by decide
  have e2 : (BitVec.ofInt 64 a).toNat = a.toNat := by
    rw [BitVec.toNat_ofInt]
    congr 1
    omega
  rw [BitVec.toNat_and, e1, e2, Nat.and_two_pow_sub_one_eq_mod, wu_eq]
  have : (2 : Nat) ^ 32 = 4294967296 := by decide
  rw [this]
  omega
theorem hi32_eq {a : Int} : hi32 a = a / 4294967296 := by
  unfold hi32
  have : (2 : Int) ^ 32 = 4294967296 := by decide
  rw [this, Int.fdiv_eq_ediv_of_nonneg _ (by omega)]
/-- What a product of two numbers has above 64 bits, where the numbers are small. -/
theorem mulHi_zero {a b : Int} (a0 : 0 ≤ a) (a1 : a ≤ 4398046511104) (b0 : 0 ≤ b) (b1 : b ≤ 65536) : mulHi a b = 0 := by
  have la := lo32_eq a0 (by omega : a < 18446744073709551616)
  have lb := lo32_eq b0 (by omega : b < 18446744073709551616)
  have e1 : b % 4294967296 = b := by omega
  have e2 : b / 4294967296 = 0 := by omega
  -- the partial products
  have p0 : 0 ≤ a % 4294967296 * b := Int.mul_nonneg (by omega) b0
  have p1 : a % 4294967296 * b ≤ 4294967295 * 65536 := Int.mul_le_mul (by omega) b1 b0 (by omega)
  have q0 : 0 ≤ a / 4294967296 * b := Int.mul_nonneg (by omega) b0
  have q1 : a / 4294967296 * b ≤ 1024 * 65536 := Int.mul_le_mul (by omega) b1 b0 (by omega)
  unfold mulHi mulT
  simp only [hi32_eq, la, lb, e1, e2, wu_eq, Int.mul_zero]
  generalize a % 4294967296 * b = p at *
  generalize a / 4294967296 * b = q at *
  have l2 : lo32 ((q % 18446744073709551616 + p % 18446744073709551616 / 4294967296) % 18446744073709551616) = (q + p / 4294967296) % 4294967296 := by
    have e3 : (q % 18446744073709551616 + p % 18446744073709551616 / 4294967296) % 18446744073709551616 = q + p / 4294967296 := by omega
    rw [e3, lo32_eq (by omega) (by omega)]
  rw [l2]
  omega
def V77 (a : List AV) : AV := int64 (round1 (w64 (ar a 0 * ar a 1)))
def is77 (a : List AV) : Prop := ∃ x y, a = [int64 x, int64 y, int64 65536] ∧ -4398046511104 ≤ x ∧ x ≤ 4398046511104 ∧ 0 ≤ y ∧ y ≤ 65536
theorem prT_eq {x y : Int} (x0 : -4398046511104 ≤ x) (x1 : x ≤ 4398046511104) (y0 : 0 ≤ y) (y1 : y ≤ 65536) : prT x y = some (int64 (round1 (w64 (x * y)))) := by
  have my : magI y = y := by
    unfold magI
    rw [decide_eq_false (by omega : ¬ y < 0), cond_false, wu_eq]
    omega
  have mx : magI x = if x < 0 then -x else x := by
    unfold magI
    by_cases h : x < 0
    · rw [decide_eq_true h, cond_true, if_pos h, wu_eq, IntKind.wrap_i64]
      omega
    · rw [decide_eq_false h, cond_false, if_neg h, wu_eq]
      omega
  have hb0 : 0 ≤ magI x * y := Int.mul_nonneg (by rw [mx]; split <;> omega) y0
  have hb1 : magI x * y ≤ 4398046511104 * 65536 := Int.mul_le_mul (by rw [mx]; split <;> omega) y1 y0 (by omega)
  have hmag : magI x * y = if x < 0 then -(x * y) else x * y := by
    rw [mx]
    split
    · rw [Int.neg_mul]
    · rfl
  have hz : mulHi (magI x) y = 0 := mulHi_zero (by rw [mx]; split <;> omega) (by rw [mx]; split <;> omega) y0 y1
  have e0 : wu (w64 ((65536 : Int).tdiv 2)) = 32768 := by decide
  have e9 : wu 65536 = 65536 := by decide
  have e1 : wu (magI x * y) = magI x * y := by rw [wu_eq]; omega
  have elo : pLo x y = magI x * y + 32768 := by
    unfold pLo
    rw [my, e0, e1]
    omega
  have ehi : pHi x y = 0 := by
    unfold pHi
    rw [my, hz, e0, e1, wu_eq]
    omega
  have eq : wu ((magI x * y + 32768).tdiv 65536) = (magI x * y + 32768) / 65536 := by
    rw [Int.tdiv_eq_ediv_of_nonneg (by omega), wu_eq]
    omega
  have ew : w64 ((magI x * y + 32768) / 65536) = (magI x * y + 32768) / 65536 := by
    unfold w64
    rw [IntKind.wrap_i64]
    omega
  unfold prT j1
  have i1 : isSo (isN1 [int64 x]) = true := isSo_true ⟨_, rfl⟩
  have i2 : isSo (isN1 [int64 y]) = true := isSo_true ⟨_, rfl⟩
  have i3 : isSo (isU2 [u64 (magI x), u64 (magI y)]) = true := isSo_true ⟨_, _, rfl⟩
  have i4 : isSo (is102 [u64 0, u64 (magI x * y + 32768), u64 65536]) = true := isSo_true ⟨_, rfl⟩
  rw [i1, i2, i3, my, e0, e1, decide_eq_true hb0, ehi, elo, e9, i4, eq, decide_eq_true (by omega : (magI x * y + 32768) / 65536 < 4611686018427387904), ew]
  show pEnd x y ((magI x * y + 32768) / 65536) = _
  unfold pEnd
  rw [decide_eq_false (by omega : ¬ y < 0)]
  have hwm : w64 (x * y) = x * y := by
    unfold w64
    rw [IntKind.wrap_i64]
    split at hmag <;> omega
  rw [hwm, round1_eq (by split at hmag <;> omega) (by split at hmag <;> omega)]
  by_cases h : x < 0
  · rw [decide_eq_true h]
    rw [if_pos h] at hmag
    have : w64 (0 - (magI x * y + 32768) / 65536) = -((magI x * y + 32768) / 65536) := by
      unfold w64
      rw [IntKind.wrap_i64]
      omega
    show some (int64 (w64 (0 - (magI x * y + 32768) / 65536))) = _
    rw [this, hmag]
    by_cases h2 : x * y < 0
    · rw [if_pos h2]
    · have : x * y = 0 := by omega
      rw [if_neg h2, this]
      rfl
  · rw [decide_eq_false h]
    rw [if_neg h] at hmag
    rw [hmag, if_neg (by omega)]
    rfl
theorem when77 (a : List AV) (h : isSo (is77 a) = true) : F 77 a (V77 a) := by
  obtain ⟨x, y, rfl, x0, x1, y0, y1⟩ := isSo_iff.1 h
  exact .of (OP_ok ok0) rfl fun h => (run77 x y h).trans (prT_eq x0 x1 y0 y1)
end Go.Proofs.Ythlmbnhelkbchaa
/- Div64 by One, in closed form. -/
namespace Go.Proofs.Ythlmbnhelkbchaa
open Go.Ev
set_option maxRecDepth 100000
def un32 (hi lo : Int) : Int := wu ((BitVec.ofInt 64 (wu (hi * 2 ^ 47)) ||| BitVec.ofInt 64 (lo.fdiv (2 ^ 17))).toNat : Int)
def un10 (lo : Int) : Int := wu (lo * 2 ^ 47)
def q31 (a : Int) : Int := wu (a.tdiv 2147483648)
def rh (a q : Int) : Int := wu (a - wu (q * 2147483648))
def un21 (a u q : Int) : Int := wu (wu (wu (a * 4294967296) + u) - wu (q * 9223372036854775808))
def st102a (a u1 u0 q r : Int) : St := ⟨[.dead, .dead, u64 9223372036854775808, .dead, .dead, .dead, .dead, .dead, u64 47, u64 2147483648, u64 0, u64 a, .dead, u64 u1, u64 u0, u64 q, u64 r] ++ repA .dead 118, mkHeap [] 14, [], .off⟩
def st102b (u0 q r a2 q2 : Int) : St := ⟨[.dead, .dead, u64 9223372036854775808, .dead, .dead, .dead, .dead, .dead, u64 47, u64 2147483648, u64 0, .dead, .dead, .dead, u64 u0, u64 q, u64 r, u64 a2, u64 q2] ++ repA .dead 116, mkHeap [] 25, [], .off⟩
def N17a : Norm := ⟨[2, 6, 7, 8, 9, 10, 11, 13, 14, 15, 16], []⟩
def N24a : Norm := ⟨[2, 6, 7, 8, 9, 10, 14, 15, 16, 17, 18], []⟩
theorem norm102a : loopN0 tb 102 17 = some N17a := by kernel_rfl
theorem norm102b : loopN0 tb 102 24 = some N24a := by kernel_rfl
theorem count102a : Nat.ble (countL 17 e102.code) 1 = true := by kernel_rfl
theorem count102b : Nat.ble (countL 24 e102.code) 1 = true := by kernel_rfl
theorem b102a {A : Type} (a u1 u0 q r : Int) (K : Ex → St → Option A) : loopB Try.prog (stopAt 102 [18] orc0) tb 102 17 3 (st102a a u1 u0 q r) K =
    bif decide (q ≥ 4294967296) then none else bif decide (wu (q * 0) > wu (wu (4294967296 * r) + u1)) then none else K (.exit 0) (st102a a u1 u0 q r) := by kernel_rfl
theorem b102b {A : Type} (u0 q r a2 q2 : Int) (K : Ex → St → Option A) : loopB Try.prog (stopAt 102 [25] orc0) tb 102 24 14 (st102b u0 q r a2 q2) K =
    bif decide (q2 ≥ 4294967296) then none else bif decide (wu (q2 * 0) > wu (wu (4294967296 * r) + u0)) then none else K (.exit 2) (st102b u0 q r a2 q2) := by kernel_rfl
noncomputable def S102 (a u1 u0 q r : Int) (u0' q' r' a2 q2 : Int) : Orc := stopAt 102 [4] (knowL Try.prog 102 17 N17a 3 (st102a a u1 u0 q r) (.exit 0) (st102a a u1 u0 q r) (knowL Try.prog 102 24 N24a 14 (st102b u0' q' r' a2 q2) (.exit 2) (st102b u0' q' r' a2 q2) orc0))
theorem run102_pre (hi lo : Int) (a u1 u0 q r : Int) (u0' q' r' a2 q2 : Int) (h : Heap) : evCall Try.prog (stopAt 102 [4, 21] (S102 a u1 u0 q r u0' q' r' a2 q2)) tb 100 AV (.fn 102) (vwArgs Try.prog [] h (parsOf Try.prog 102) [u64 hi, u64 lo, u64 65536]) (mkHeap [] 0) .off rv =
    bif decide (65536 ≤ hi) then none else bif hi == 0 then some (.tup [u64 (wu (lo.tdiv 65536)), u64 (lo.tmod 65536)]) else
    bif sameSt (st102a (un32 hi lo) (hi32 (un10 lo)) (lo32 (un10 lo)) (q31 (un32 hi lo)) (rh (un32 hi lo) (q31 (un32 hi lo)))) (st102a a u1 u0 q r) then none else none := by kernel_rfl
theorem run102 (hi lo : Int) (a u1 u0 q r : Int) (u0' q' r' a2 q2 : Int) (h : Heap) : evCall Try.prog (S102 a u1 u0 q r u0' q' r' a2 q2) tb 100 AV (.fn 102) (vwArgs Try.prog [] h (parsOf Try.prog 102) [u64 hi, u64 lo, u64 65536]) (mkHeap [] 0) .off rv =
    bif decide (65536 ≤ hi) then none else bif hi == 0 then some (.tup [u64 (wu (lo.tdiv 65536)), u64 (lo.tmod 65536)]) else
    bif sameSt (st102a (un32 hi lo) (hi32 (un10 lo)) (lo32 (un10 lo)) (q31 (un32 hi lo)) (rh (un32 hi lo) (q31 (un32 hi lo)))) (st102a a u1 u0 q r) then
    bif sameSt (st102b u0 q (rh (un21 a u1 q) (q31 (un21 a u1 q))) (un21 a u1 q) (q31 (un21 a u1 q))) (st102b u0' q' r' a2 q2) then
    some (.tup [u64 (wu (wu (q' * 4294967296) + q2)), u64 ((wu (wu (wu (a2 * 4294967296) + u0') - wu (q2 * 9223372036854775808))).fdiv (2 ^ 47))]) else none else none := by kernel_rfl
end Go.Proofs.Ythlmbnhelkbchaa
/- Product by One, for all numbers of a unit. -/
namespace Go.Proofs.Ythlmbnhelkbchaa
open Go.Ev
set_option maxRecDepth 100000
theorem ofInt_nat {a : Int} (h0 : 0 ≤ a) (h1 : a < 18446744073709551616) : (BitVec.ofInt 64 a).toNat = a.toNat := by
  rw [BitVec.toNat_ofInt]
  congr 1
  omega
theorem mul_parts (a1 a0 b1 b0 : Int) : (4294967296 * a1 + a0) * (4294967296 * b1 + b0) = 18446744073709551616 * (a1 * b1) + 4294967296 * (a1 * b0) + 4294967296 * (a0 * b1) + a0 * b0 := by
  rw [Int.add_mul, Int.mul_add, Int.mul_add]
  have h1 : 4294967296 * a1 * (4294967296 * b1) = 18446744073709551616 * (a1 * b1) := by
    rw [Int.mul_assoc, Int.mul_left_comm a1]
    omega
  have h2 : 4294967296 * a1 * b0 = 4294967296 * (a1 * b0) := Int.mul_assoc _ _ _
  have h3 : a0 * (4294967296 * b1) = 4294967296 * (a0 * b1) := Int.mul_left_comm _ _ _
  rw [h1, h2, h3]
  omega
theorem mulHi_eq {a b : Int} (a0 : 0 ≤ a) (a1 : a ≤ 1099511627776) (b0 : 0 ≤ b) (b1 : b ≤ 1099511627776) : mulHi a b = a * b / 18446744073709551616 := by
  have la := lo32_eq a0 (by omega : a < 18446744073709551616)
  have lb := lo32_eq b0 (by omega : b < 18446744073709551616)
  have hab := mul_parts (a / 4294967296) (a % 4294967296) (b / 4294967296) (b % 4294967296)
  rw [show 4294967296 * (a / 4294967296) + a % 4294967296 = a by omega, show 4294967296 * (b / 4294967296) + b % 4294967296 = b by omega] at hab
  have s0 : 0 ≤ a / 4294967296 * (b / 4294967296) := Int.mul_nonneg (by omega) (by omega)
  have s1 : a / 4294967296 * (b / 4294967296) ≤ 256 * 256 := Int.mul_le_mul (by omega) (by omega) (by omega) (by omega)
  have p0 : 0 ≤ a / 4294967296 * (b % 4294967296) := Int.mul_nonneg (by omega) (by omega)
  have p1 : a / 4294967296 * (b % 4294967296) ≤ 256 * 4294967295 := Int.mul_le_mul (by omega) (by omega) (by omega) (by omega)
  have q0 : 0 ≤ a % 4294967296 * (b / 4294967296) := Int.mul_nonneg (by omega) (by omega)
  have q1 : a % 4294967296 * (b / 4294967296) ≤ 4294967295 * 256 := Int.mul_le_mul (by omega) (by omega) (by omega) (by omega)
  have r0 : 0 ≤ a % 4294967296 * (b % 4294967296) := Int.mul_nonneg (by omega) (by omega)
  have r1 : a % 4294967296 * (b % 4294967296) ≤ 4294967295 * 4294967295 := Int.mul_le_mul (by omega) (by omega) (by omega) (by omega)
  unfold mulHi mulT
  simp only [hi32_eq, la, lb, wu_eq]
  rw [hab]
  generalize a / 4294967296 * (b / 4294967296) = s at *
  generalize a / 4294967296 * (b % 4294967296) = p at *
  generalize a % 4294967296 * (b / 4294967296) = q at *
  generalize a % 4294967296 * (b % 4294967296) = r at *
  have e3 : (p % 18446744073709551616 + r % 18446744073709551616 / 4294967296) % 18446744073709551616 = p + r / 4294967296 := by omega
  rw [e3, lo32_eq (by omega) (by omega)]
  omega
/-! ### Div64 by One -/
theorem or_add {x y : Int} (x0 : 0 ≤ x) (x1 : x < 65536) (y0 : 0 ≤ y) (y1 : y < 140737488355328) : ((BitVec.ofInt 64 (x * 140737488355328) ||| BitVec.ofInt 64 y).toNat : Int) = x * 140737488355328 + y := by
  rw [BitVec.toNat_or, ofInt_nat (by omega) (by omega), ofInt_nat (by omega) (by omega)]
  have e : (x * 140737488355328).toNat = 2 ^ 47 * x.toNat := by
    have : (2 : Nat) ^ 47 = 140737488355328 := by decide
    rw [this]
    omega
  rw [e, ← Nat.two_pow_add_eq_or_of_lt (by have : (2 : Nat) ^ 47 = 140737488355328 := by decide
                                           omega)]
  have : (2 : Nat) ^ 47 = 140737488355328 := by decide
  rw [this]
  omega
theorem un10_eq (lo : Int) : un10 lo = lo % 131072 * 140737488355328 := by
  unfold un10
  have e1 : (2 : Int) ^ 47 = 140737488355328 := by decide
  rw [e1, wu_eq]
  omega
theorem wu_nonneg (n : Int) : 0 ≤ wu n := by rw [wu_eq]; omega
section
variable {hi lo : Int} (h0 : 0 ≤ hi) (h1 : hi < 65536) (l0 : 0 ≤ lo) (l1 : lo < 18446744073709551616)
include h0 h1 l0 l1
theorem un32_eq : un32 hi lo = hi * 140737488355328 + lo / 131072 := by
  unfold un32
  have e1 : (2 : Int) ^ 47 = 140737488355328 := by decide
  have e2 : (2 : Int) ^ 17 = 131072 := by decide
  rw [e1, e2, Int.fdiv_eq_ediv_of_nonneg _ (by omega), wu_eq (hi * 140737488355328), show hi * 140737488355328 % 18446744073709551616 = hi * 140737488355328 by omega, or_add h0 h1 (by omega) (by omega), wu_eq]
  omega
theorem q31_1 : q31 (un32 hi lo) = hi * 65536 + lo / 281474976710656 := by
  unfold q31
  rw [un32_eq h0 h1 l0 l1, Int.tdiv_eq_ediv_of_nonneg (by omega), wu_eq]
  omega
theorem un21_eq : un21 (un32 hi lo) (hi32 (un10 lo)) (q31 (un32 hi lo)) = lo / 131072 % 2147483648 * 4294967296 + lo % 131072 * 32768 := by
  unfold un21
  rw [q31_1 h0 h1 l0 l1, un32_eq h0 h1 l0 l1, hi32_eq, un10_eq]
  simp only [wu_eq]
  omega
theorem q31_2 : q31 (un21 (un32 hi lo) (hi32 (un10 lo)) (q31 (un32 hi lo))) = lo / 131072 % 2147483648 * 2 + lo % 131072 / 65536 := by
  unfold q31
  have := un21_eq h0 h1 l0 l1
  unfold q31 at this
  rw [this, Int.tdiv_eq_ediv_of_nonneg (by omega), wu_eq]
  omega
def remV (hi lo : Int) : Int := if hi = 0 then lo.tmod 65536 else
  (wu (wu (wu (un21 (un32 hi lo) (hi32 (un10 lo)) (q31 (un32 hi lo)) * 4294967296) + lo32 (un10 lo)) - wu (q31 (un21 (un32 hi lo) (hi32 (un10 lo)) (q31 (un32 hi lo))) * 9223372036854775808))).fdiv (2 ^ 47)
theorem quot_eq : wu (wu (q31 (un32 hi lo) * 4294967296) + q31 (un21 (un32 hi lo) (hi32 (un10 lo)) (q31 (un32 hi lo)))) = (hi * 18446744073709551616 + lo) / 65536 := by
  rw [q31_2 h0 h1 l0 l1, q31_1 h0 h1 l0 l1]
  simp only [wu_eq]
  omega
theorem div_fact : Fact Try.prog tb 102 [u64 hi, u64 lo, u64 65536] (.tup [u64 ((hi * 18446744073709551616 + lo) / 65536), u64 (remV hi lo)]) := by
  by_cases hz : hi = 0
  · subst hz
    have e1 : wu (lo.tdiv 65536) = (0 * 18446744073709551616 + lo) / 65536 := by
      rw [Int.tdiv_eq_ediv_of_nonneg l0, wu_eq]
      omega
    refine ⟨rfl, orc0, ok0, fun h => (run102_0 lo h).trans ?_⟩
    unfold remV
    rw [if_pos rfl, e1]
  · have c1 : ¬ q31 (un32 hi lo) ≥ 4294967296 := by rw [q31_1 h0 h1 l0 l1]; omega
    have c2 : ∀ z y : Int, ¬ wu (z * 0) > wu y := fun z y => by
      have := wu_nonneg y
      rw [Int.mul_zero]
      have : wu 0 = 0 := by decide
      omega
    have c3 : ¬ q31 (un21 (un32 hi lo) (hi32 (un10 lo)) (q31 (un32 hi lo))) ≥ 4294967296 := by rw [q31_2 h0 h1 l0 l1]; omega
    obtain ⟨n, hn⟩ : ∃ n, rounds = n + 1 := ⟨99999999999999999999, rfl⟩
    have fa : LFact Try.prog tb 102 17 3 (st102a (un32 hi lo) (hi32 (un10 lo)) (lo32 (un10 lo)) (q31 (un32 hi lo)) (rh (un32 hi lo) (q31 (un32 hi lo)))) (.exit 0) (st102a (un32 hi lo) (hi32 (un10 lo)) (lo32 (un10 lo)) (q31 (un32 hi lo)) (rh (un32 hi lo) (q31 (un32 hi lo)))) := by
      refine ⟨_, stopAt_ok (f := 102) (l := [18]) ok0, ?_⟩
      rw [hn, loopN_succ, b102a, decide_eq_false c1, decide_eq_false (c2 _ _)]
      rfl
    have fb : LFact Try.prog tb 102 24 14 (st102b (lo32 (un10 lo)) (q31 (un32 hi lo)) (rh (un21 (un32 hi lo) (hi32 (un10 lo)) (q31 (un32 hi lo))) (q31 (un21 (un32 hi lo) (hi32 (un10 lo)) (q31 (un32 hi lo))))) (un21 (un32 hi lo) (hi32 (un10 lo)) (q31 (un32 hi lo))) (q31 (un21 (un32 hi lo) (hi32 (un10 lo)) (q31 (un32 hi lo))))) (.exit 2) (st102b (lo32 (un10 lo)) (q31 (un32 hi lo)) (rh (un21 (un32 hi lo) (hi32 (un10 lo)) (q31 (un32 hi lo))) (q31 (un21 (un32 hi lo) (hi32 (un10 lo)) (q31 (un32 hi lo))))) (un21 (un32 hi lo) (hi32 (un10 lo)) (q31 (un32 hi lo))) (q31 (un21 (un32 hi lo) (hi32 (un10 lo)) (q31 (un32 hi lo))))) := by
      refine ⟨_, stopAt_ok (f := 102) (l := [25]) ok0, ?_⟩
      rw [hn, loopN_succ, b102b, decide_eq_false c3, decide_eq_false (c2 _ _)]
      rfl
    refine ⟨rfl, _, stopAt_ok (f := 102) (l := [4]) (knowL_ok tbOk fa (knowL_ok tbOk fb ok0 (ep := e102) rfl norm102b count102b) (ep := e102) rfl norm102a count102a), fun h => ?_⟩
    refine (run102 hi lo _ _ _ _ _ _ _ _ _ _ h).trans ?_
    have hz' : (hi == 0) = false := by simp only [beq_eq_false_iff_ne]; exact hz
    rw [decide_eq_false (by omega : ¬ 65536 ≤ hi), hz', sameSt_self, sameSt_self, quot_eq h0 h1 l0 l1]
    unfold remV
    rw [if_neg hz]
    rfl
end
def is102g (a : List AV) : Prop := ∃ hi lo, a = [u64 hi, u64 lo, u64 65536] ∧ 0 ≤ hi ∧ hi < 65536 ∧ 0 ≤ lo ∧ lo < 18446744073709551616
def V102g (a : List AV) : AV := .tup [u64 ((ar a 0 * 18446744073709551616 + ar a 1) / 65536), u64 (remV (ar a 0) (ar a 1))]
theorem when102g (a : List AV) (h : isSo (is102g a) = true) : F 102 a (V102g a) := by
  obtain ⟨hi, lo, rfl, h0, h1, l0, l1⟩ := isSo_iff.1 h
  exact div_fact h0 h1 l0 l1
noncomputable def OPg (S : Orc) : Orc := knowW 100 (fun a => isSo (isN1 a)) V100 (knowW 99 (fun a => isSo (isU2 a)) V99 (knowW 102 (fun a => isSo (is102g a)) V102g S))
theorem OPg_ok {S : Orc} (h : Ok S) : Ok (OPg S) := knowW_ok tbOk when100 (knowW_ok tbOk when99 (knowW_ok tbOk when102g h))
noncomputable def prG (x y : Int) : Option AV :=
  j1 x <| j1 y <| bif isSo (isU2 [u64 (magI x), u64 (magI y)]) then
    guardK (decide (0 ≤ wu (magI x * magI y)) && decide (0 ≤ wu (w64 ((65536 : Int).tdiv 2))) && decide ((0 : Int) ≤ 0) && decide ((0 : Int) ≤ 1)) <|
    bif decide (pHi x y < wu 65536) then bif isSo (is102g [u64 (pHi x y), u64 (pLo x y), u64 (wu 65536)]) then
      bif decide ((pHi x y * 18446744073709551616 + pLo x y) / 65536 < 4611686018427387904) then pEnd x y (w64 ((pHi x y * 18446744073709551616 + pLo x y) / 65536)) else pEnd x y 4611686018427387904
      else none else pEnd x y 4611686018427387904
  else none
theorem run77g (x y : Int) (h : Heap) : evCall Try.prog (OPg orc0) tb 100 AV (.fn 77) (vwArgs Try.prog [] h (parsOf Try.prog 77) [int64 x, int64 y, int64 65536]) (mkHeap [] 0) .off rv = prG x y := by kernel_rfl
def absI (x : Int) : Int := if x < 0 then -x else x
def qI (x y : Int) : Int := (absI x * absI y + 32768) / 65536
/-- The document's product. -/
def prodN (x y : Int) : Int := if (x < 0 ∧ ¬ y < 0) ∨ (¬ x < 0 ∧ y < 0) then -(min (qI x y) 4611686018427387904) else min (qI x y) 4611686018427387904
theorem prG_eq {x y : Int} (x0 : -1099511627776 ≤ x) (x1 : x ≤ 1099511627776) (y0 : -1099511627776 ≤ y) (y1 : y ≤ 1099511627776) : prG x y = some (int64 (prodN x y)) := by
  have mg : ∀ z : Int, -1099511627776 ≤ z → z ≤ 1099511627776 → magI z = absI z := fun z z0 z1 => by
    unfold magI absI
    by_cases h : z < 0
    · rw [decide_eq_true h, cond_true, if_pos h, wu_eq, IntKind.wrap_i64]
      omega
    · rw [decide_eq_false h, cond_false, if_neg h, wu_eq]
      omega
  have ab : ∀ z : Int, -1099511627776 ≤ z → z ≤ 1099511627776 → 0 ≤ absI z ∧ absI z ≤ 1099511627776 := fun z z0 z1 => by unfold absI; split <;> omega
  obtain ⟨a0, a1⟩ := ab x x0 x1
  obtain ⟨b0, b1⟩ := ab y y0 y1
  have hh := mulHi_eq a0 a1 b0 b1
  have hp0 : 0 ≤ absI x * absI y := Int.mul_nonneg a0 b0
  have hp1 : absI x * absI y ≤ 1099511627776 * 1099511627776 := Int.mul_le_mul a1 b1 b0 (by omega)
  have e0 : wu (w64 ((65536 : Int).tdiv 2)) = 32768 := by decide
  have e9 : wu 65536 = 65536 := by decide
  have eP : pHi x y * 18446744073709551616 + pLo x y = absI x * absI y + 32768 ∧ 0 ≤ pHi x y ∧ 0 ≤ pLo x y ∧ pLo x y < 18446744073709551616 := by
    unfold pHi pLo
    rw [mg x x0 x1, mg y y0 y1, hh, e0]
    simp only [wu_eq]
    generalize absI x * absI y = p at *
    omega
  obtain ⟨eP, hi0, lo0, lo1⟩ := eP
  have i1 : isSo (isN1 [int64 x]) = true := isSo_true ⟨_, rfl⟩
  have i2 : isSo (isN1 [int64 y]) = true := isSo_true ⟨_, rfl⟩
  have i3 : isSo (isU2 [u64 (magI x), u64 (magI y)]) = true := isSo_true ⟨_, _, rfl⟩
  have hw : decide (0 ≤ wu (magI x * magI y)) = true := decide_eq_true (by rw [wu_eq]; omega)
  have pe : ∀ n : Int, 0 ≤ n → n ≤ 4611686018427387904 → n = min (qI x y) 4611686018427387904 → pEnd x y n = some (int64 (prodN x y)) := fun n n0 n1 hn => by
    have en : w64 (0 - n) = -n := by unfold w64; rw [IntKind.wrap_i64]; omega
    unfold pEnd prodN
    rw [← hn, en]
    by_cases hx : x < 0 <;> by_cases hy : y < 0
    · rw [decide_eq_true hx, decide_eq_true hy, if_neg (by omega)]; rfl
    · rw [decide_eq_true hx, decide_eq_false hy, if_pos (.inl ⟨hx, hy⟩)]; rfl
    · rw [decide_eq_false hx, decide_eq_true hy, if_pos (.inr ⟨hx, hy⟩)]; rfl
    · rw [decide_eq_false hx, decide_eq_false hy, if_neg (by omega)]; rfl
  unfold prG j1
  rw [i1, i2, i3, hw, e0, e9, eP]
  show (bif decide (pHi x y < 65536) then _ else _) = _
  by_cases hb : pHi x y < 65536
  · have i4 : isSo (is102g [u64 (pHi x y), u64 (pLo x y), u64 65536]) = true := isSo_true ⟨_, _, rfl, hi0, hb, lo0, lo1⟩
    rw [decide_eq_true hb, i4]
    show (bif decide ((absI x * absI y + 32768) / 65536 < 4611686018427387904) then _ else _) = _
    by_cases hq : (absI x * absI y + 32768) / 65536 < 4611686018427387904
    · have ew : w64 ((absI x * absI y + 32768) / 65536) = (absI x * absI y + 32768) / 65536 := by
        unfold w64
        rw [IntKind.wrap_i64]
        omega
      rw [decide_eq_true hq, ew]
      exact pe _ (by omega) (by omega) (by unfold qI; omega)
    · rw [decide_eq_false hq]
      exact pe _ (by omega) (by omega) (by unfold qI; omega)
  · rw [decide_eq_false hb]
    exact pe _ (by omega) (by omega) (by unfold qI; omega)
def V77g (a : List AV) : AV := int64 (prodN (ar a 0) (ar a 1))
def is77g (a : List AV) : Prop := ∃ x y, a = [int64 x, int64 y, int64 65536] ∧ -1099511627776 ≤ x ∧ x ≤ 1099511627776 ∧ -1099511627776 ≤ y ∧ y ≤ 1099511627776
theorem when77g (a : List AV) (h : isSo (is77g a) = true) : F 77 a (V77g a) := by
  obtain ⟨x, y, rfl, x0, x1, y0, y1⟩ := isSo_iff.1 h
  exact .of (OPg_ok ok0) rfl fun h => (run77g x y h).trans (prG_eq x0 x1 y0 y1)
end Go.Proofs.Ythlmbnhelkbchaa
