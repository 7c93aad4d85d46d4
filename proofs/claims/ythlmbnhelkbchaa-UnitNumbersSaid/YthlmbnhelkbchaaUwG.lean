/- UnitNumbers: the document's Envelope tells the same. -/
import Derived.Test.YthlmbnhelkbchaaUwE
import Derived.Test.YthlmbnhelkbchaaUwF
namespace Go.Proofs.Ythlmbnhelkbchaa
open Go.Ev
set_option maxRecDepth 100000
/-- The document's state: fr is the step of the fall. -/
def swRF (a d kp : Int) (s : EnvS) : EnvS :=
  if s.st = 1 then (if minI (w64 (s.lv + upI 65536 a)) 65536 = 65536 then { s with st := 2, lv := minI (w64 (s.lv + upI 65536 a)) 65536 } else { s with lv := minI (w64 (s.lv + upI 65536 a)) 65536 })
  else if s.st = 2 then (if maxI (w64 (s.lv - upI (w64 (65536 - kp)) d)) kp = kp then { s with st := 3, lv := maxI (w64 (s.lv - upI (w64 (65536 - kp)) d)) kp } else { s with lv := maxI (w64 (s.lv - upI (w64 (65536 - kp)) d)) kp })
  else if s.st = 3 then { s with lv := kp }
  else if s.st = 4 then { s with lv := maxI (w64 (s.lv - s.fr)) 0 }
  else s
def envRF (a d kp r : Int) (o : Bool) (s : EnvS) : EnvS :=
  swRF a d kp (if o = true ∧ s.g = false then { s with st := 1, g := o } else if o = false ∧ s.g = true then { s with st := 4, fr := upI s.lv r, g := o } else { s with g := o })
theorem swR_eq {A : Type} {a d kp : Int} (ha : a ≥ 1) (hd : d ≥ 1) (s : EnvS) (k : Int → Int → Option A) : swR a d kp s.st s.lv s.fr k = k (swRF a d kp s).st (swRF a d kp s).lv ∧ (swRF a d kp s).fr = s.fr ∧ (swRF a d kp s).g = s.g := by
  unfold swR swRF
  simp only [hU_eq ha, hU_eq hd, E_eq]
  have e : ∀ (x y : Int), (x == y) = decide (x = y) := fun x y => by rw [Bool.eq_iff_iff]; simp
  simp only [e]
  by_cases h1 : s.st = 1
  · rw [decide_eq_true h1, if_pos h1, cond_true]
    by_cases h : minI (w64 (s.lv + upI 65536 a)) 65536 = 65536
    · rw [decide_eq_true h, if_pos h]; exact ⟨rfl, rfl, rfl⟩
    · rw [decide_eq_false h, if_neg h]; exact ⟨rfl, rfl, rfl⟩
  rw [decide_eq_false h1, if_neg h1, cond_false]
  by_cases h2 : s.st = 2
  · rw [decide_eq_true h2, if_pos h2, cond_true]
    by_cases h : maxI (w64 (s.lv - upI (w64 (65536 - kp)) d)) kp = kp
    · rw [decide_eq_true h, if_pos h]; exact ⟨rfl, rfl, rfl⟩
    · rw [decide_eq_false h, if_neg h]; exact ⟨rfl, rfl, rfl⟩
  rw [decide_eq_false h2, if_neg h2, cond_false]
  by_cases h3 : s.st = 3
  · rw [decide_eq_true h3, if_pos h3]; exact ⟨rfl, rfl, rfl⟩
  rw [decide_eq_false h3, if_neg h3, cond_false]
  by_cases h4 : s.st = 4
  · rw [decide_eq_true h4, if_pos h4]; exact ⟨rfl, rfl, rfl⟩
  rw [decide_eq_false h4, if_neg h4]
  exact ⟨rfl, rfl, rfl⟩
theorem envR_eq {A : Type} {a d kp r : Int} (ha : a ≥ 1) (hd : d ≥ 1) (hr : r ≥ 1) (o : Bool) (s : EnvS) (k : Int → Int → Int → Option A) : envR a d kp r o s.g s.st s.lv s.fr k = k (envRF a d kp r o s).st (envRF a d kp r o s).lv (envRF a d kp r o s).fr ∧ (envRF a d kp r o s).g = o := by
  have key : ∀ (s' : EnvS), swR a d kp s'.st s'.lv s'.fr (fun x l => k x l s'.fr) = k (swRF a d kp s').st (swRF a d kp s').lv (swRF a d kp s').fr ∧ (swRF a d kp s').g = s'.g := fun s' => by
    obtain ⟨h1, h2, h3⟩ := swR_eq (kp := kp) ha hd s' (fun x l => k x l s'.fr)
    exact ⟨h1.trans (by rw [h2]), h3⟩
  unfold envR envRF
  cases o with
  | true =>
    cases hg : s.g with
    | false => exact key { s with st := 1, g := true }
    | true => exact key { s with g := true }
  | false =>
    cases hg : s.g with
    | false => exact key { s with g := false }
    | true =>
      simp only [hU_eq hr]
      exact key { s with st := 4, fr := upI s.lv r, g := false }
def envNR (a d kp r : Int) (g : Nat → Bool) : Nat → EnvS
  | 0 => ⟨0, 0, 0, false⟩
  | i + 1 => envRF a d kp r (g i) (envNR a d kp r g i)
/-- Both go alike. -/
def Rel (r : Int) (s t : EnvS) : Prop := t.st = s.st ∧ t.lv = s.lv ∧ t.g = s.g ∧ (s.st = 4 → t.fr = upI s.fr r)
theorem minI_comm (x y : Int) : minI x y = minI y x := by unfold minI; split <;> split <;> omega
theorem maxI_comm (x y : Int) : maxI x y = maxI y x := by unfold maxI; split <;> split <;> omega
theorem sw_rel {a d kp r : Int} {s t : EnvS} (h : Rel r s t) : Rel r (swF a d kp r s) (swRF a d kp t) := by
  obtain ⟨h1, h2, h3, h4⟩ := h
  unfold swF swRF
  rw [h1, h2, minI_comm (w64 (s.lv + upI 65536 a)) 65536, maxI_comm (w64 (s.lv - upI (w64 (65536 - kp)) d)) kp]
  by_cases c1 : s.st = 1
  · rw [if_pos c1, if_pos c1]
    split
    · exact ⟨rfl, rfl, h3, fun h => by simp at h⟩
    · exact ⟨rfl, rfl, h3, fun h => by rw [show s.st = 4 from h] at c1; omega⟩
  rw [if_neg c1, if_neg c1]
  by_cases c2 : s.st = 2
  · rw [if_pos c2, if_pos c2]
    split
    · exact ⟨rfl, rfl, h3, fun h => by simp at h⟩
    · exact ⟨rfl, rfl, h3, fun h => by rw [show s.st = 4 from h] at c2; omega⟩
  rw [if_neg c2, if_neg c2]
  by_cases c3 : s.st = 3
  · rw [if_pos c3, if_pos c3]
    exact ⟨rfl, rfl, h3, fun h => by rw [show s.st = 4 from h] at c3; omega⟩
  rw [if_neg c3, if_neg c3]
  by_cases c4 : s.st = 4
  · rw [if_pos c4, if_pos c4, h4 c4, maxI_comm (w64 (s.lv - upI s.fr r)) 0]
    exact ⟨rfl, rfl, h3, fun _ => rfl⟩
  rw [if_neg c4, if_neg c4]
  exact ⟨h1, h2, h3, h4⟩
theorem env_rel {a d kp r : Int} (o : Bool) {s t : EnvS} (h : Rel r s t) : Rel r (envF a d kp r o s) (envRF a d kp r o t) := by
  obtain ⟨h1, h2, h3, h4⟩ := h
  unfold envF envRF
  rw [h3]
  refine sw_rel ?_
  by_cases c1 : o = true ∧ s.g = false
  · rw [if_pos c1, if_pos c1]
    exact ⟨rfl, h2, rfl, fun h => by simp at h⟩
  rw [if_neg c1, if_neg c1]
  by_cases c2 : o = false ∧ s.g = true
  · rw [if_pos c2, if_pos c2, h2]
    exact ⟨rfl, rfl, rfl, fun _ => rfl⟩
  rw [if_neg c2, if_neg c2]
  exact ⟨h1, h2, rfl, h4⟩
theorem envN_rel (a d kp r : Int) (g : Nat → Bool) : ∀ i, Rel r (envN a d kp r g i) (envNR a d kp r g i)
  | 0 => ⟨rfl, rfl, rfl, fun h => by simp [envN] at h⟩
  | i + 1 => env_rel (g i) (envN_rel a d kp r g i)
theorem kM_pos (x : Int) : decide (kM x > 0) = decide (x > 0) := by
  unfold kM kept minI maxI
  by_cases h : x > 0
  · rw [decide_eq_true h, decide_eq_true]
    split <;> split <;> omega
  · rw [decide_eq_false h, decide_eq_false]
    split <;> split <;> omega
def so42 (a d kp r : Int) (gs : List Int) (i : Nat) : St :=
  st42 a d kp r gs (i : Int) (envNR a d kp r (gOf gs) i).st (envNR a d kp r (gOf gs) i).lv (envNR a d kp r (gOf gs) i).fr (envNR a d kp r (gOf gs) i).g (.gr (9, 0) i 1) [(9, .cells true ((outs a d kp r (gOf gs) i).map int64))]
section
variable {a d kp r : Int} (h : envOk a d kp r = true) {gs : List Int} (hs : gs.length ≤ 20000)
include h hs
theorem first42 {A : Type} (h0 : 0 < gs.length) (K : Ex → St → Option A) :
    loopBF Try.prog (O78 orc0) tb 42 8 [9] 5 (st42 a d kp r gs 0 0 0 0 false (.sl none 0 0 true 0) []) K = K .normal (so42 a d kp r gs 1) := by
  obtain ⟨a1, a2, d1, d2, k1, k2, r1, r2⟩ := envOk_iff.1 h
  rw [b42_0, decide_eq_true (by omega : (0 : Int) < (gs.length : Int)), cond_true]
  have := ldI_eq h0 (fun x => envR a d kp r (decide (x > 0)) false 0 0 0 fun st lv fl => K .normal (st42 a d kp r gs (IntKind.i64.wrap (0 + 1)) st lv fl (decide (x > 0)) (.gr (9, 0) 1 1) [(9, .cells true [int64 lv])]))
  refine this.trans ?_
  rw [← kM_pos, gOf_get h0]
  obtain ⟨e1, e2⟩ := envR_eq a1 d1 r1 (gOf gs 0) (envNR a d kp r (gOf gs) 0) (kp := kp) (fun st lv fl => K .normal (st42 a d kp r gs (IntKind.i64.wrap (0 + 1)) st lv fl (gOf gs 0) (.gr (9, 0) 1 1) [(9, .cells true [int64 lv])]))
  refine e1.trans ?_
  have e3 : (envNR a d kp r (gOf gs) 1).g = gOf gs 0 := e2
  have e4 : outs a d kp r (gOf gs) 1 = [(envNR a d kp r (gOf gs) 1).lv] := by
    rw [(envN_rel a d kp r (gOf gs) 1).2.1]; rfl
  unfold so42
  rw [e3, e4]
  rfl
theorem next42 {A : Type} {i : Nat} (h0 : 0 < i) (hi : i < gs.length) (K : Ex → St → Option A) :
    loopBF Try.prog (O78 orc0) tb 42 8 [9] 5 (so42 a d kp r gs i) K = K .normal (so42 a d kp r gs (i + 1)) := by
  obtain ⟨a1, a2, d1, d2, k1, k2, r1, r2⟩ := envOk_iff.1 h
  obtain ⟨m, rfl⟩ : ∃ m, i = m + 1 := ⟨i - 1, by omega⟩
  unfold so42
  rw [b42]
  unfold body42
  rw [decide_eq_true (by omega : ((m + 1 : Nat) : Int) < (gs.length : Int)), cond_true, ldI_eq hi, ← kM_pos, gOf_get hi]
  obtain ⟨e1, e2⟩ := envR_eq a1 d1 r1 (gOf gs (m + 1)) (envNR a d kp r (gOf gs) (m + 1)) (kp := kp) (fun st lv fl =>
    guardK (Nat.ble ((m + 1 + 1) * 8) limit && Nat.ble (m + 1 + 1) limit) <| guardK (Nat.ble (0 + (m + 1) * 1) (lenA ((outs a d kp r (gOf gs) (m + 1)).map int64))) <| guardK (allS (appA (takeA (dropA ((outs a d kp r (gOf gs) (m + 1)).map int64) 0) ((m + 1) * 1)) [int64 lv]) && true) <|
    K .normal (st42 a d kp r gs (IntKind.i64.wrap (((m + 1 : Nat) : Int) + 1)) st lv fl (gOf gs (m + 1)) (.gr (9, 0) (m + 1 + 1) 1) [(9, .cells true (appA (takeA (dropA ((outs a d kp r (gOf gs) (m + 1)).map int64) 0) ((m + 1) * 1)) [int64 lv]))]))
  refine e1.trans ?_
  have e3 : (envNR a d kp r (gOf gs) (m + 1 + 1)).g = gOf gs (m + 1) := e2
  have e4 : Nat.ble (0 + (m + 1) * 1) (m + 1) = true := Nat.ble_eq_true_of_le (by omega)
  have e5 : (envRF a d kp r (gOf gs (m + 1)) (envNR a d kp r (gOf gs) (m + 1))).lv = (envN a d kp r (gOf gs) (m + 1 + 1)).lv := (envN_rel a d kp r (gOf gs) (m + 1 + 1)).2.1
  rw [grow_ints (outs_len _ _ _ _ _ _), allS_ints, lenM, outs_len, limit_ok (by omega), e4, wrapN (by omega), outs_succ a d kp r (gOf gs) (m + 1), e3, e5]
  have e6 : (envNR a d kp r (gOf gs) (m + 1 + 1)).lv = (envN a d kp r (gOf gs) (m + 1 + 1)).lv := (envN_rel a d kp r (gOf gs) (m + 1 + 1)).2.1
  rw [e6]
  rfl
theorem loop42 : ∀ (k i n : Nat), i + k = gs.length → k < n → 0 < i → loopN (loopBF Try.prog (O78 orc0) tb 42 8 [9] 5) n (so42 a d kp r gs i) pairE = some (.exit 0, so42 a d kp r gs gs.length) := by
  intro k
  induction k with
  | zero =>
    intro i n hi hn h0
    obtain ⟨n, rfl⟩ : ∃ m, n = m + 1 := ⟨n - 1, by omega⟩
    have hi : i = gs.length := by omega
    obtain ⟨m, hm⟩ : ∃ m, gs.length = m + 1 := ⟨gs.length - 1, by omega⟩
    rw [hi, loopN_succ]
    unfold so42
    rw [hm, b42]
    unfold body42
    rw [decide_eq_false (by omega : ¬ (((m + 1 : Nat) : Int) < (gs.length : Int))), allS_ints]
    rfl
  | succ k ih =>
    intro i n hi hn h0
    obtain ⟨n, rfl⟩ : ∃ m, n = m + 1 := ⟨n - 1, by omega⟩
    rw [loopN_succ, next42 h hs h0 (by omega)]
    exact ih (i + 1) n (by omega) (by omega) (by omega)
theorem loop42_all (h0 : 0 < gs.length) : loopN (loopBF Try.prog (O78 orc0) tb 42 8 [9] 5) rounds (st42 a d kp r gs 0 0 0 0 false (.sl none 0 0 true 0) []) pairE = some (.exit 0, so42 a d kp r gs gs.length) := by
  obtain ⟨n, hn⟩ : ∃ n, rounds = n + 1 := ⟨99999999999999999999, rfl⟩
  have hr : rounds = 100000000000000000000 := rfl
  rw [hn, loopN_succ, first42 h hs h0]
  exact loop42 h hs (gs.length - 1) 1 n (by omega) (by omega) (by omega)
end
theorem loop42_nil {a d kp r : Int} : loopN (loopBF Try.prog (O78 orc0) tb 42 8 [9] 5) rounds (st42 a d kp r [] 0 0 0 0 false (.sl none 0 0 true 0) []) pairE = some (.exit 0, st42 a d kp r [] 0 0 0 0 false (.sl none 0 0 true 0) []) := by
  obtain ⟨n, hn⟩ : ∃ n, rounds = n + 1 := ⟨99999999999999999999, rfl⟩
  rw [hn, loopN_succ, b42_0]
  rfl
def N42 : Norm := ⟨[1, 4, 5, 6, 8, 9], []⟩
noncomputable def S42 (a d kp r : Int) (gs : List Int) (s1 : St) : Orc := SW a d kp r true (knowLF Try.prog 42 8 N42 [9] 5 (st42 a d kp r gs 0 0 0 0 false (.sl none 0 0 true 0) []) (.exit 0) s1 orc0)
theorem run42 (a d kp r : Int) (g0 : Int) (gs : List Int) (st lv fl : Int) (g : Bool) (cs : List AV) (m : Nat) :
    evCall Try.prog (S42 a d kp r (g0 :: gs) (st42 a d kp r (g0 :: gs) ((g0 :: gs).length : Int) st lv fl g (.gr (9, 0) (m + 1) 1) [(9, .cells true cs)])) tb 100 AV (.fn 42) [ints [a, d, kp, r], ints (g0 :: gs)] (mkHeap [] 0) .off (viewK Try.prog (resOf Try.prog 42)) = (
    U a d kp r <| bif decide (((g0 :: gs).length : Int) > 20000) then some (.tup [ints [], int64 4]) else
    bif sameSt (st42 a d kp r (g0 :: gs) 0 0 0 0 false (.sl none 0 0 true 0) []) (st42 a d kp r (g0 :: gs) 0 0 0 0 false (.sl none 0 0 true 0) []) then guardK (allS (dropA cs 0) && true) (some (.tup [.fz (fixLen ((m + 1) * 1) (dropA cs 0)) (m + 1) false 1, int64 0])) else none) := by kernel_rfl
theorem run42_nil (a d kp r : Int) :
    evCall Try.prog (S42 a d kp r [] (st42 a d kp r [] 0 0 0 0 false (.sl none 0 0 true 0) [])) tb 100 AV (.fn 42) [ints [a, d, kp, r], ints []] (mkHeap [] 0) .off (viewK Try.prog (resOf Try.prog 42)) = (
    U a d kp r <| bif sameSt (st42 a d kp r [] 0 0 0 0 false (.sl none 0 0 true 0) []) (st42 a d kp r [] 0 0 0 0 false (.sl none 0 0 true 0) []) then some (.tup [ints [], int64 0]) else none) := by kernel_rfl
theorem run42_no (xs gs : List Int) : evCall Try.prog (knowC Try.prog 13 [unitV 6 3 [0] xs] (.bool false) orc0) tb 100 AV (.fn 42) [ints xs, ints gs] (mkHeap [] 0) .off (viewK Try.prog (resOf Try.prog 42)) =
    bif same [unitV 6 3 [0] xs] [unitV 6 3 [0] xs] then some (.tup [ints [], int64 1]) else none := by kernel_rfl
theorem run42_big (a d kp r : Int) (gs : List Int) : evCall Try.prog (knowC Try.prog 13 [unitV 6 3 [0] [a, d, kp, r]] (.bool true) (stopAt 42 [6] orc0)) tb 100 AV (.fn 42) [ints [a, d, kp, r], ints gs] (mkHeap [] 0) .off (viewK Try.prog (resOf Try.prog 42)) = (
    U a d kp r <| bif decide ((gs.length : Int) > 20000) then some (.tup [ints [], int64 4]) else none) := by kernel_rfl
theorem args42 (xs gs : List Int) : vwArgs Try.prog [] none0 (parsOf Try.prog 42) [ints xs, ints gs] = [ints xs, ints gs] := by kernel_rfl
theorem count42 : Nat.ble (countL 8 e42.code) 1 = true := by kernel_rfl
theorem norm42 : loopN0 tb 42 8 = some N42 := by kernel_rfl
theorem env_ref {a d kp r : Int} (h : envOk a d kp r = true) {gs : List Int} (hs : gs.length ≤ 20000) : FFact Try.prog tb 42 [ints [a, d, kp, r], ints gs] (.tup [ints (outs a d kp r (gOf gs) gs.length), int64 0]) := by
  refine ⟨args42 _ gs, ?_⟩
  cases gs with
  | nil =>
    refine ⟨_, SW_ok h (knowLF_ok (fl := [9]) tbOk (LFact.flat (O78_ok ok0) loop42_nil) ok0 (ep := e42) rfl norm42 count42), (run42_nil a d kp r).trans ?_⟩
    simp only [U, same_self, sameSt_self, cond_true]
    rfl
  | cons g0 gs =>
    obtain ⟨m, hm⟩ : ∃ m, (g0 :: gs).length = m + 1 := ⟨gs.length, rfl⟩
    refine ⟨_, SW_ok h (knowLF_ok (fl := [9]) tbOk (LFact.flat (O78_ok ok0) (loop42_all h hs (by simp))) ok0 (ep := e42) rfl norm42 count42), ?_⟩
    have e := run42 a d kp r g0 gs (envNR a d kp r (gOf (g0 :: gs)) (g0 :: gs).length).st (envNR a d kp r (gOf (g0 :: gs)) (g0 :: gs).length).lv (envNR a d kp r (gOf (g0 :: gs)) (g0 :: gs).length).fr (envNR a d kp r (gOf (g0 :: gs)) (g0 :: gs).length).g ((outs a d kp r (gOf (g0 :: gs)) (g0 :: gs).length).map int64) m
    rw [← hm] at e
    refine Eq.trans rfl (e.trans ?_)
    simp only [U, same_self, sameSt_self, cond_true]
    have e2 : allS (dropA ((outs a d kp r (gOf (g0 :: gs)) (g0 :: gs).length).map int64) 0) = true := by rw [dropA_eq, List.drop_zero, allS_ints]
    have e3 := fix_ints (outs a d kp r (gOf (g0 :: gs)) (g0 :: gs).length)
    rw [outs_len] at e3
    rw [decide_eq_false (by omega : ¬ (((g0 :: gs).length : Int) > 20000)), e2, e3]
    simp only [cond_false, cond_true, guardK, Bool.and_self]
    unfold ints
    rw [outs_len]
/-- Envelopes, for any numbers. -/
theorem env_facts (xs gs : List Int) : ∃ ys e, ys.length ≤ maxLen ∧ FFact Try.prog tb 14 [ints xs, ints gs] (.tup [ints ys, int64 e]) ∧ FFact Try.prog tb 42 [ints xs, ints gs] (.tup [ints ys, int64 e]) := by
  have hM : maxLen = 9223372036854775807 := rfl
  by_cases hv : ∃ a d kp r, xs = [a, d, kp, r] ∧ envOk a d kp r = true
  · obtain ⟨a, d, kp, r, rfl, hv⟩ := hv
    by_cases hs : gs.length ≤ 20000
    · exact ⟨_, _, by rw [outs_len]; omega, env_fact hv hs, env_ref hv hs⟩
    · obtain ⟨f29, f13⟩ := env_valid a d kp r
      rw [hv] at f29 f13
      refine ⟨[], 4, by simp, ⟨args14 _ gs, _, knowC_ok tbOk (f29.now (unit_now 29 (by kernel_rfl) _)) (stopAt_ok ok0), (run14_big a d kp r gs).trans ?_⟩, ⟨args42 _ gs, _, knowC_ok tbOk (f13.now (unit_now 13 (by kernel_rfl) _)) (stopAt_ok ok0), (run42_big a d kp r gs).trans ?_⟩⟩ <;>
        (simp only [U, same_self, cond_true]; rw [decide_eq_true (by omega : (gs.length : Int) > 20000)]; rfl)
  · obtain ⟨f29, f13⟩ := no_unit (xs := xs) fun a d kp r e => by
      cases ho : envOk a d kp r with
      | false => rfl
      | true => exact absurd ⟨a, d, kp, r, e, ho⟩ hv
    refine ⟨[], 1, by simp, ⟨args14 _ gs, _, knowC_ok tbOk (f29.now (unit_now 29 (by kernel_rfl) _)) ok0, (run14_no xs gs).trans ?_⟩, ⟨args42 _ gs, _, knowC_ok tbOk (f13.now (unit_now 13 (by kernel_rfl) _)) ok0, (run42_no xs gs).trans ?_⟩⟩ <;>
      (rw [same_self]; rfl)
end Go.Proofs.Ythlmbnhelkbchaa
