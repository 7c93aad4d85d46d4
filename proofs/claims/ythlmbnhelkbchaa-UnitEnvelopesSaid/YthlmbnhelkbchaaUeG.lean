/- UnitEnvelopes: the law. -/
import Derived.Test.YthlmbnhelkbchaaUeF
import Derived.Test.YthlmbnhelkbchaaUaA
namespace Go.Proofs.Ythlmbnhelkbchaa
open Go.Ev
set_option maxRecDepth 100000
/-- The gates behind some rounds. -/
def gl (N : Nat) : Nat → List Int
  | 0 => List.replicate N 0
  | i + 1 => (gl N i).set i (1 + (i : Int))
theorem gl_len (N : Nat) : ∀ i, (gl N i).length = N
  | 0 => by simp [gl]
  | i + 1 => by simp [gl, gl_len N i]
theorem gl_get (N : Nat) : ∀ (i j : Nat), i ≤ N → (gl N i)[j]? = if j < N then some (if j < i then 1 + (j : Int) else 0) else none
  | 0, j, _ => by
    show (List.replicate N 0)[j]? = _
    rw [List.getElem?_replicate]
    simp
  | i + 1, j, hi => by
    show ((gl N i).set i (1 + (i : Int)))[j]? = _
    rw [List.getElem?_set, gl_len, gl_get N i j (by omega)]
    by_cases h : i = j
    · subst h
      rw [if_pos rfl, if_pos (by omega), if_pos (by omega), if_pos (by omega)]
    · rw [if_neg h]
      by_cases hj : j < N
      · rw [if_pos hj, if_pos hj]
        by_cases h2 : j < i
        · rw [if_pos h2, if_pos (by omega)]
        · rw [if_neg h2, if_neg (by omega)]
      · rw [if_neg hj, if_neg hj]
theorem repL_zero : ∀ n : Nat, repL [int64 0] n = (List.replicate n (0 : Int)).map int64
  | 0 => rfl
  | n + 1 => by
    show appA [int64 0] (repL [int64 0] n) = _
    rw [repL_zero n, List.replicate_succ]
    rfl
theorem set_ints (l : List Int) (i : Nat) (v : Int) : splice (l.map int64) (0 + i * 1) [int64 v] = (l.set i v).map int64 := by
  show setL (l.map int64) (0 + i * 1) (int64 v) = _
  rw [setL_eq, Nat.mul_one, Nat.zero_add, List.map_set]
theorem ldB_eq {A : Type} {l : List Int} {i N : Nat} (hl : l.length = N) (h : i < N) (k : Int → Option A) : ldB (l.map int64) N (i : Int) k = k (l[i]'(by omega)) := by
  have h1 : (i : Int) < (N : Int) := by omega
  have h3 : 0 + (i : Int).toNat * 1 = i := by omega
  have h5 : Nat.blt i l.length = true := Nat.ble_eq_true_of_le (by omega)
  unfold ldB
  simp only [h3, lenM, nthM int64 l i (by omega), decide_eq_true h1, decide_eq_true (Int.natCast_nonneg i), guardK, Bool.and_self, cond_true, h5, int64, intOf, isIntK, decide_true]
theorem loop7 {a d kp r : Int} {held N : Nat} (hN : held ≤ N) (hs : N ≤ 20000) : ∀ (k i n : Nat), i + k = held → k < n →
    loopN (loopBF Try.prog orc0 tb 3 7 [1] 2) n (st7 a d kp r (held : Int) N (i : Int) ((gl N i).map int64) 7) pairE = some (.exit 0, st7 a d kp r (held : Int) N (held : Int) ((gl N held).map int64) 7) := by
  intro k
  induction k with
  | zero =>
    intro i n hi hn
    obtain ⟨n, rfl⟩ : ∃ m, n = m + 1 := ⟨n - 1, by omega⟩
    have hi : i = held := by omega
    subst hi
    rw [loopN_succ, b7]
    unfold body7
    rw [decide_eq_false (by omega : ¬ ((i : Int) < (i : Int))), allS_ints]
    rfl
  | succ k ih =>
    intro i n hi hn
    obtain ⟨n, rfl⟩ : ∃ m, n = m + 1 := ⟨n - 1, by omega⟩
    rw [loopN_succ, b7]
    unfold body7
    have e1 : (i : Int).toNat = i := by omega
    have e2 : w64 (1 + (i : Int)) = 1 + (i : Int) := by unfold w64; rw [IntKind.wrap_i64]; omega
    have e3 : Nat.ble (0 + i * 1 + 1) N = true := Nat.ble_eq_true_of_le (by omega)
    rw [decide_eq_true (by omega : (i : Int) < (held : Int)), cond_true, e1, e2, set_ints, decide_eq_true (Int.natCast_nonneg i), decide_eq_true (by omega : (i : Int) < (N : Int)), lenM, gl_len, e3, allS_ints, wrapN (by omega)]
    exact ih (i + 1) n (by omega) (by omega)
def gOf (gs : List Int) (i : Nat) : Bool := decide (kM (gs.getD i 0) > 0)
def soE (a d kp r : Int) (N : Nat) (gs : List Int) (i : Nat) : St :=
  stE a d kp r N (gs.map int64) (i : Int) (i : Int) (envN a d kp r (gOf gs) i).lv (envN a d kp r (gOf gs) i).st (envN a d kp r (gOf gs) i).lv (envN a d kp r (gOf gs) i).fr (envN a d kp r (gOf gs) i).g (.gr (30, 0) i 1) [(30, .cells true ((outs a d kp r (gOf gs) i).map int64))]
section
variable {a d kp r : Int} (h : envOk a d kp r = true) {N : Nat} {gs : List Int} (hl : gs.length = N) (hs : N ≤ 20000)
include h hl hs
theorem firstE {A : Type} (h0 : 0 < N) (K : Ex → St → Option A) :
    loopBF Try.prog (OE orc0) tb 46 8 [30, 1] 26 (stE a d kp r N (gs.map int64) 0 0 0 0 0 0 false (.sl none 0 0 true 0) []) K = K .normal (soE a d kp r N gs 1) := by
  obtain ⟨a1, a2, d1, d2, k1, k2, r1, r2⟩ := envOk_iff.1 h
  rw [bE0]
  unfold bodyE0
  rw [decide_eq_true (by omega : (0 : Int) < (N : Int)), cond_true]
  have := ldB_eq hl h0 (fun x => h3 x (-1099511627776) 1099511627776 <| envT a d kp r (decide (kM x > 0)) false 0 0 0 fun st lv from' => guardK (allS (gs.map int64) && true) <| K .normal (stE a d kp r N (gs.map int64) (IntKind.i64.wrap (0 + 1)) (IntKind.i64.wrap (0 + 1)) lv st lv from' (decide (kM x > 0)) (.gr (30, 0) 1 1) [(30, .cells true [int64 lv])]))
  refine this.trans ?_
  rw [h3_eq]
  have hg : decide (kM (gs[0]'(by omega)) > 0) = gOf gs 0 := by
    unfold gOf
    rw [List.getD_eq_getElem?_getD, List.getElem?_eq_getElem (by omega)]
    rfl
  rw [hg]
  obtain ⟨e1, e2⟩ := envT_eq a1 d1 r1 (gOf gs 0) (envN a d kp r (gOf gs) 0) (kp := kp) (fun st lv from' => guardK (allS (gs.map int64) && true) <| K .normal (stE a d kp r N (gs.map int64) (IntKind.i64.wrap (0 + 1)) (IntKind.i64.wrap (0 + 1)) lv st lv from' (gOf gs 0) (.gr (30, 0) 1 1) [(30, .cells true [int64 lv])]))
  refine e1.trans ?_
  rw [allS_ints]
  have e3 : (envN a d kp r (gOf gs) 1).g = gOf gs 0 := e2
  unfold soE
  rw [e3]
  rfl
theorem nextE {A : Type} {i : Nat} (h0 : 0 < i) (hi : i < N) (K : Ex → St → Option A) :
    loopBF Try.prog (OE orc0) tb 46 8 [30, 1] 26 (soE a d kp r N gs i) K = K .normal (soE a d kp r N gs (i + 1)) := by
  obtain ⟨a1, a2, d1, d2, k1, k2, r1, r2⟩ := envOk_iff.1 h
  obtain ⟨m, rfl⟩ : ∃ m, i = m + 1 := ⟨i - 1, by omega⟩
  unfold soE
  rw [bE]
  unfold bodyE
  rw [decide_eq_true (by omega : ((m + 1 : Nat) : Int) < (N : Int)), cond_true, ldB_eq hl hi, h3_eq]
  have hg : decide (kM (gs[m + 1]'(by omega)) > 0) = gOf gs (m + 1) := by
    unfold gOf
    rw [List.getD_eq_getElem?_getD, List.getElem?_eq_getElem (by omega)]
    rfl
  rw [hg]
  obtain ⟨e1, e2⟩ := envT_eq a1 d1 r1 (gOf gs (m + 1)) (envN a d kp r (gOf gs) (m + 1)) (kp := kp) (fun st lv from' =>
    guardK (Nat.ble ((m + 1 + 1) * 8) limit && Nat.ble (m + 1 + 1) limit) <| guardK (Nat.ble (0 + (m + 1) * 1) (lenA ((outs a d kp r (gOf gs) (m + 1)).map int64))) <| guardK (allS (appA (takeA (dropA ((outs a d kp r (gOf gs) (m + 1)).map int64) 0) ((m + 1) * 1)) [int64 lv]) && (allS (gs.map int64) && true)) <|
    K .normal (stE a d kp r N (gs.map int64) (IntKind.i64.wrap (((m + 1 : Nat) : Int) + 1)) (IntKind.i64.wrap (((m + 1 : Nat) : Int) + 1)) lv st lv from' (gOf gs (m + 1)) (.gr (30, 0) (m + 1 + 1) 1) [(30, .cells true (appA (takeA (dropA ((outs a d kp r (gOf gs) (m + 1)).map int64) 0) ((m + 1) * 1)) [int64 lv]))]))
  refine e1.trans ?_
  have e3 : (envN a d kp r (gOf gs) (m + 1 + 1)).g = gOf gs (m + 1) := e2
  have e4 : Nat.ble (0 + (m + 1) * 1) (m + 1) = true := Nat.ble_eq_true_of_le (by omega)
  rw [grow_ints (outs_len _ _ _ _ _ _), allS_ints, allS_ints, lenM, outs_len, limit_ok (by omega), e4, wrapN (by omega), outs_succ a d kp r (gOf gs) (m + 1), e3]
  rfl
theorem loopE : ∀ (k i n : Nat), i + k = N → k < n → 0 < i → loopN (loopBF Try.prog (OE orc0) tb 46 8 [30, 1] 26) n (soE a d kp r N gs i) pairE = some (.exit 0, soE a d kp r N gs N) := by
  intro k
  induction k with
  | zero =>
    intro i n hi hn h0
    obtain ⟨n, rfl⟩ : ∃ m, n = m + 1 := ⟨n - 1, by omega⟩
    obtain ⟨m, rfl⟩ : ∃ m, i = m + 1 := ⟨i - 1, by omega⟩
    have hi : m + 1 = N := by omega
    subst hi
    rw [loopN_succ]
    unfold soE
    rw [bE]
    unfold bodyE
    rw [decide_eq_false (by omega : ¬ (((m + 1 : Nat) : Int) < ((m + 1 : Nat) : Int))), allS_ints, allS_ints]
    rfl
  | succ k ih =>
    intro i n hi hn h0
    obtain ⟨n, rfl⟩ : ∃ m, n = m + 1 := ⟨n - 1, by omega⟩
    rw [loopN_succ, nextE h hl hs h0 (by omega)]
    exact ih (i + 1) n (by omega) (by omega) (by omega)
theorem loopE_all (h0 : 0 < N) : loopN (loopBF Try.prog (OE orc0) tb 46 8 [30, 1] 26) rounds (stE a d kp r N (gs.map int64) 0 0 0 0 0 0 false (.sl none 0 0 true 0) []) pairE = some (.exit 0, soE a d kp r N gs N) := by
  obtain ⟨n, hn⟩ : ∃ n, rounds = n + 1 := ⟨99999999999999999999, rfl⟩
  have hr : rounds = 100000000000000000000 := rfl
  rw [hn, loopN_succ, firstE h hl hs h0]
  exact loopE h hl hs (N - 1) 1 n (by omega) (by omega) (by omega)
end
theorem loopC {a d kp r : Int} {held : Nat} {gs cs : List Int} {fr told st lv from' : Int} {g : Bool} {M : Nat} (hl : cs.length = M) (hM : M ≤ 20000)
    (hc : ∀ (i : Nat) (hi : i < M), 0 ≤ cs[i] ∧ cs[i] ≤ 65536 ∧ ((i : Int) ≥ w64 (a + d) → i < held → cs[i] = kp)) : ∀ (k i n : Nat), i + k = M → k < n →
    loopN (loopBF Try.prog (stopAt 3 [17] orc0) tb 3 14 [30, 1] 34) n (stC a d kp r (held : Int) (gs.map int64) fr told st lv from' g (cs.map int64) M (i : Int)) pairE = some (.exit 2, stC a d kp r (held : Int) (gs.map int64) fr told st lv from' g (cs.map int64) M (M : Int)) := by
  intro k
  induction k with
  | zero =>
    intro i n hi hn
    obtain ⟨n, rfl⟩ : ∃ m, n = m + 1 := ⟨n - 1, by omega⟩
    have hi : i = M := by omega
    subst hi
    rw [loopN_succ, bC]
    unfold bodyC
    rw [decide_eq_false (by omega : ¬ ((i : Int) < (i : Int))), allS_ints, allS_ints]
    rfl
  | succ k ih =>
    intro i n hi hn
    obtain ⟨n, rfl⟩ : ∃ m, n = m + 1 := ⟨n - 1, by omega⟩
    obtain ⟨c1, c2, c3⟩ := hc i (by omega)
    have ih' := ih (i + 1) n (by omega) (by omega)
    rw [loopN_succ, bC]
    unfold bodyC
    rw [decide_eq_true (by omega : (i : Int) < (M : Int)), cond_true, allS_ints, allS_ints, wrapN (by omega)]
    simp only [ldB_eq hl (by omega : i < M), Bool.and_self, guardK, cond_true]
    rw [decide_eq_false (by omega : ¬ (cs[i]'(by omega)) < 0), cond_false, decide_eq_false (by omega : ¬ (cs[i]'(by omega)) > 65536), cond_false]
    by_cases h1 : (i : Int) ≥ w64 (a + d)
    · rw [decide_eq_true h1, cond_true]
      by_cases h2 : (i : Int) < (held : Int)
      · rw [decide_eq_true h2, cond_true, c3 h1 (by omega), beq_self_eq_true]
        exact ih'
      · rw [decide_eq_false h2, cond_false]
        exact ih'
    · rw [decide_eq_false h1, cond_false]
      exact ih'
theorem count7 : Nat.ble (countL 7 e3.code) 1 = true := by kernel_rfl
theorem norm7 : loopN0 tb 3 7 = some N7 := by kernel_rfl
theorem count14 : Nat.ble (countL 14 e3.code) 1 = true := by kernel_rfl
theorem norm14 : loopN0 tb 3 14 = some N14 := by kernel_rfl
theorem count46 : Nat.ble (countL 8 e46.code) 1 = true := by kernel_rfl
theorem norm46 : loopN0 tb 46 8 = some N46 := by kernel_rfl
theorem unit_now (f : FuncId) (hp : parsOf Try.prog f = [26]) (a d kp r : Int) : vwArgs Try.prog [] none0 (parsOf Try.prog f) [unitV 6 3 [0] [a, d, kp, r]] = [unitV 6 3 [0] [a, d, kp, r]] := by
  rw [hp]
  kernel_rfl
theorem SV_ok {a d kp r : Int} {v : Bool} (hv : envOk a d kp r = v) {S : Orc} (hS : Ok S) : Ok (SV a d kp r v S) := by
  obtain ⟨f29, f13⟩ := env_valid a d kp r
  rw [hv] at f29 f13
  exact know_ok tbOk awake_fact (knowC_ok tbOk (f13.now (unit_now 13 (by kernel_rfl) a d kp r)) (knowC_ok tbOk (f29.now (unit_now 29 (by kernel_rfl) a d kp r)) hS))
theorem sameL_ints (xs : List Int) : sameL (xs.map int64) (xs.map int64) = true := by
  induction xs with
  | nil => rfl
  | cons x xs ih => simp [sameL, sameF, int64, ih]
theorem sameV_ints (xs : List Int) : sameV (ints xs) (ints xs) = true := by
  simp [sameV, sameF, ints, sameL_ints]
theorem law {H : Type} {k0 k1 : Nat} {d0 d1 : DataW H} (w0 : WT Try.prog k0 22 d0) (w1 : WT Try.prog k1 3 d1) :
    ∃ S, Ok S ∧ evCall Try.prog S tb 100 Bool (.fn 3) [dVal Try.prog k0 22 d0, dVal Try.prog k1 3 d1] ⟨fun _ => none, 0⟩ .off done = some true := by
  obtain ⟨xs, e0, _⟩ := WT.vints (e := 3) (by kernel_rfl) (by kernel_rfl) (by kernel_rfl) w0
  obtain ⟨held, e1, _⟩ := WT.vint (by kernel_rfl) w1
  rw [e0, e1]
  by_cases hc : xs.length = 4 ∧ 1 ≤ held ∧ held ≤ 3000
  rotate_left
  · refine ⟨_, know_ok tbOk awake_fact (stopAt_ok (stopAt_ok ok0)), (env_run0 xs held).trans ?_⟩
    rw [same_self, cond_true]
    by_cases h1 : xs.length = 4
    · have : ((xs.length : Int) == 4) = true := by simp [h1]
      rw [this]
      by_cases h2 : held < 1
      · rw [decide_eq_true h2]; rfl
      · rw [decide_eq_false h2, decide_eq_true (by omega : held > 3000)]; rfl
    · have : ((xs.length : Int) == 4) = false := by simp only [beq_eq_false_iff_ne]; omega
      rw [this]; rfl
  obtain ⟨hx, hh1, hh2⟩ := hc
  obtain ⟨a, d, kp, r, rfl⟩ : ∃ a d kp r, xs = [a, d, kp, r] := by
    rcases xs with _ | ⟨a, _ | ⟨d, _ | ⟨kp, _ | ⟨r, _ | ⟨_, _⟩⟩⟩⟩⟩ <;> simp at hx
    exact ⟨a, d, kp, r, rfl⟩
  by_cases hq : envOk a d kp r = true ∧ a ≤ 1000 ∧ d ≤ 1000 ∧ r ≤ 1000
  rotate_left
  · refine ⟨_, SV_ok rfl (stopAt_ok ok0), (env_run1 a d kp r held _).trans ?_⟩
    rw [same_self, same_self, cond_true, cond_true, decide_eq_false (by omega : ¬ held < 1), decide_eq_false (by omega : ¬ held > 3000), cond_false, cond_false]
    cases hv : envOk a d kp r with
    | false => rfl
    | true =>
      have hq' : ¬ (a ≤ 1000 ∧ d ≤ 1000 ∧ r ≤ 1000) := fun h => hq ⟨hv, h⟩
      by_cases h1 : a > 1000
      · rw [decide_eq_true h1]; rfl
      · rw [decide_eq_false h1]
        by_cases h2 : d > 1000
        · rw [decide_eq_true h2]; rfl
        · rw [decide_eq_false h2, decide_eq_true (by omega : r > 1000)]; rfl
  obtain ⟨hv, ha, hd, hr⟩ := hq
  obtain ⟨a1, a2, d1, d2, k1, k2, r1, r2⟩ := envOk_iff.1 hv
  obtain ⟨hd', rfl⟩ : ∃ n : Nat, held = (n : Int) := ⟨held.toNat, by omega⟩
  obtain ⟨rn, rfl⟩ : ∃ n : Nat, r = (n : Int) := ⟨r.toNat, by omega⟩
  have hnG : nG (hd' : Int) (rn : Int) = ((hd' + rn + 1 : Nat) : Int) := by
    unfold nG w64
    rw [IntKind.wrap_i64, IntKind.wrap_i64]
    omega
  obtain ⟨N, hN⟩ : ∃ N, N = hd' + rn + 1 := ⟨_, rfl⟩
  have hT : (nG (hd' : Int) (rn : Int)).toNat = N := by rw [hnG]; omega
  have hw : w64 (a + d) = a + d := by unfold w64; rw [IntKind.wrap_i64]; omega
  let gs := gl N hd'
  have hgl : gs.length = N := gl_len N hd'
  have hgt : ∀ i, i < hd' → gOf gs i = true := fun i hi => by
    show decide (kM ((gl N hd').getD i 0) > 0) = true
    rw [List.getD_eq_getElem?_getD, gl_get N hd' i (by omega), if_pos (by omega), if_pos hi]
    simp only [Option.getD_some, decide_eq_true_eq]
    unfold kM kept minI maxI
    split <;> split <;> omega
  have hgf : ∀ i, hd' ≤ i → gOf gs i = false := fun i hi => by
    show decide (kM ((gl N hd').getD i 0) > 0) = false
    rw [List.getD_eq_getElem?_getD, gl_get N hd' i (by omega)]
    have : (if i < N then some (if i < hd' then 1 + (i : Int) else 0) else none).getD 0 = 0 := by
      by_cases h : i < N
      · rw [if_pos h, if_neg (by omega)]; rfl
      · rw [if_neg h]; rfl
    rw [this]
    rfl
  let s := envN a d kp (rn : Int) (gOf gs) N
  let os := outs a d kp (rn : Int) (gOf gs) N
  have hos : os.length = N := outs_len _ _ _ _ _ _
  have f7 : LFact Try.prog tb 3 7 2 (st7 a d kp rn hd' N 0 (repL [int64 0] N) 7) (.exit 0) (st7 a d kp rn hd' N hd' (gs.map int64) 7) := by
    refine LFact.flat (S := orc0) (fl := [1]) ok0 ?_
    rw [repL_zero]
    have := loop7 (a := a) (d := d) (kp := kp) (r := rn) (held := hd') (N := N) (by omega) (by omega) hd' 0 rounds (by omega) (rounds_gt (by have : maxLen = 9223372036854775807 := rfl; omega))
    exact this
  have fE : LFact Try.prog tb 46 8 26 (stE a d kp rn N (gs.map int64) 0 0 0 0 0 0 false (.sl none 0 0 true 0) []) (.exit 0) (soE a d kp rn N gs N) :=
    LFact.flat (OE_ok ok0) (loopE_all hv hgl (by omega) (by omega))
  have hcs : ∀ (i : Nat) (hi : i < N), 0 ≤ os[i] ∧ os[i] ≤ 65536 ∧ ((i : Int) ≥ w64 (a + d) → i < hd' → os[i] = kp) := fun i hi => by
    have e : os[i] = (envN a d kp (rn : Int) (gOf gs) (i + 1)).lv := outs_get _ _ _ _ _ _ _ _
    rw [e, hw]
    obtain ⟨x, y⟩ := env_range hv (held := hd') (by omega) hgt hgf i
    exact ⟨x, y, fun h1 h2 => held_end hv hgt i h2 (by omega)⟩
  have fC : LFact Try.prog tb 3 14 34 (stC a d kp rn hd' (gs.map int64) (N : Int) s.lv s.st s.lv s.fr s.g (os.map int64) N 0) (.exit 2) (stC a d kp rn hd' (gs.map int64) (N : Int) s.lv s.st s.lv s.fr s.g (os.map int64) N (N : Int)) :=
    LFact.flat (S := stopAt 3 [17] orc0) (stopAt_ok ok0) (loopC hos (by omega) hcs N 0 rounds (by omega) (rounds_gt (by have : maxLen = 9223372036854775807 := rfl; omega)))
  obtain ⟨m, hm⟩ : ∃ m, N = m + 1 := ⟨N - 1, by omega⟩
  refine ⟨SF a d kp rn hd' (gs.map int64) (soE a d kp rn N gs N) (stC a d kp rn hd' (gs.map int64) (N : Int) s.lv s.st s.lv s.fr s.g (os.map int64) N (N : Int)) (os.map int64) N (N : Int) s.lv s.st s.lv s.fr s.g, ?_, ?_⟩
  · unfold SF
    rw [hT]
    exact SV_ok hv (knowLF_ok tbOk f7 (knowLF_ok tbOk fE (knowLF_ok tbOk fC ok0 (ep := e3) rfl norm14 count14) (ep := e46) rfl norm46 count46) (ep := e3) rfl norm7 count7)
  · have hrun := env_run2 a d kp rn hd' (gs.map int64) (os.map int64) m (N : Int) s.lv s.st s.lv s.fr s.g
    rw [← hm, hT] at hrun
    refine Eq.trans ?_ (hrun.trans ?_)
    · rfl
    · have hmk : mk (nG (hd' : Int) (rn : Int)) = true := by
        have : (limit : Int) = 140737488355328 := rfl
        rw [hnG]
        simp only [mk, Bool.and_eq_true, decide_eq_true_eq]
        omega
      have hne : ((N : Int) == (N : Int)) = true := beq_self_eq_true _
      rw [hmk, repL_zero]
      simp only [U, Z, same_self, sameSt_self, sameV_ints, allS_ints, guardK, cond_true, Bool.and_self, hne, Bool.not_true, cond_false]
      rw [decide_eq_false (by omega : ¬ (hd' : Int) < 1), decide_eq_false (by omega : ¬ (hd' : Int) > 3000), decide_eq_false (by omega : ¬ a > 1000), decide_eq_false (by omega : ¬ d > 1000), decide_eq_false (by omega : ¬ (rn : Int) > 1000), decide_eq_false (by omega : ¬ (N : Int) > 20000)]
      simp only [cond_false]
      have e5 : w64 ((N : Int) - 1) = ((N - 1 : Nat) : Int) := by unfold w64; rw [IntKind.wrap_i64]; omega
      rw [e5, ldB_eq hos (by omega)]
      have e6 : os[N - 1]'(by omega) = 0 := by
        have e : os[N - 1]'(by omega) = (envN a d kp (rn : Int) (gOf gs) (N - 1 + 1)).lv := outs_get _ _ _ _ _ _ _ _
        rw [e]
        have := let_go_end hv (held := hd') (by omega) hgt hgf (k := rn) (by omega)
        rw [show hd' + rn + 1 = N - 1 + 1 by omega] at this
        exact this
      rw [e6]
      rfl
end Go.Proofs.Ythlmbnhelkbchaa
