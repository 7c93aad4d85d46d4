/- UnitNumbers: the document's Envelope tells the same. -/
import Derived.Test.YthlmbnhelkbchaaJ23
import Derived.Test.YthlmbnhelkbchaaJ20
import Derived.Test.YthlmbnhelkbchaaJ22
namespace Go.Proofs.Ythlmbnhelkbchaa
open Go.Ev
set_option maxRecDepth 100000
/-- The document's state: fr is the step of the fall. -/
def swRF (a d kp : Int) (s : EnvS) : EnvS :=
  if s.st = 1 then (if minI (w64 (s.lv + upI 65536 a)) 65536 = 65536 then { s with st := 2, lv := minI (w64 (s.lv + upI 65536 a)) 65536 } else { s with lv := minI (w64 (s.lv + upI 65536 a)) 65536 })
  else if s.st = 2 then (if maxI (w64 (s.lv - upI (w64 (65536 - kp)) d)) kp = kp then { s with st := 3, lv := maxI (w64 (s.lv - upI (w64 (65536 - kp)) d)) kp } else { s with lv := maxI (w64 (s.lv - upI (w64 (65536 - kp)) d)) kp })
  else if s.st = 3 then { s with lv := kp }
  else if s.st = 4 then { s with lv := maxI (w64 (s.lv - s.fr)) 0 }
  else s
def envRF (a d kp r : Int) (o : Bool) (s : EnvS) : EnvS :=
  swRF a d kp (if o = true ∧ s.g = false then { s with st := 1, g := o } else if o = false ∧ s.g = true then { s with st := 4, fr := upI s.lv r, g := o } else { s with g := o })
theorem swR_eq {A : Type} {a d kp : Int} (ha : a ≥ 1) (hd : d ≥ 1) (s : EnvS) (k : Int → Int → Option A) : swR a d kp s.st s.lv s.fr k = k (swRF a d kp s).st (swRF a d kp s).lv ∧ (swRF a d kp s).fr = s.fr ∧ (swRF a d kp s).g = s.g := by
  unfold swR swRF
  simp only [hU_eq ha, hU_eq hd, E_eq]
  have e : ∀ (x y : Int), (x == y) = decide (x = y) := fun x y => by rw [Bool.eq_iff_iff]; simp
  simp only [e]
  by_cases h1 : s.st = 1
  · rw [decide_eq_true h1, if_pos h1, cond_true]
    by_cases h : minI (w64 (s.lv + upI 65536 a)) 65536 = 65536
    · rw [decide_eq_true h, if_pos h]; exact ⟨rfl, rfl, rfl⟩
    · rw [decide_eq_false h, if_neg h]; exact ⟨rfl, rfl, rfl⟩
  rw [decide_eq_false h1, if_neg h1, cond_false]
  by_cases h2 : s.st = 2
  · rw [decide_eq_true h2, if_pos h2, cond_true]
    by_cases h : maxI (w64 (s.lv - upI (w64 (65536 - kp)) d)) kp = kp
    · rw [decide_eq_true h, if_pos h]; exact ⟨rfl, rfl, rfl⟩
    · rw [decide_eq_false h, if_neg h]; exact ⟨rfl, rfl, rfl⟩
  rw [decide_eq_false h2, if_neg h2, cond_false]
  by_cases h3 : s.st = 3
  · rw [decide_eq_true h3, if_pos h3]; exact ⟨rfl, rfl, rfl⟩
  rw [decide_eq_false h3, if_neg h3, cond_false]
  by_cases h4 : s.st = 4
  · rw [decide_eq_true h4, if_pos h4]; exact ⟨rfl, rfl, rfl⟩
  rw [decide_eq_false h4, if_neg h4]
  exact ⟨rfl, rfl, rfl⟩
theorem envR_eq {A : Type} {a d kp r : Int} (ha : a ≥ 1) (hd : d ≥ 1) (hr : r ≥ 1) (o : Bool) (s : EnvS) (k : Int → Int → Int → Option A) : envR a d kp r o s.g s.st s.lv s.fr k = k (envRF a d kp r o s).st (envRF a d kp r o s).lv (envRF a d kp r o s).fr ∧ (envRF a d kp r o s).g = o := by
  have key : ∀ (s' : EnvS), swR a d kp s'.st s'.lv s'.fr (fun x l => k x l s'.fr) = k (swRF a d kp s').st (swRF a d kp s').lv (swRF a d kp s').fr ∧ (swRF a d kp s').g = s'.g := fun s' => by
    obtain ⟨h1, h2, h3⟩ := swR_eq (kp := kp) ha hd s' (fun x l => k x l s'.fr)
    exact ⟨h1.trans (by rw [h2]), h3⟩
  unfold envR envRF
  cases o with
  | true =>
    cases hg : s.g with
    | false => exact key { s with st := 1, g := true }
    | true => exact key { s with g := true }
  | false =>
    cases hg : s.g with
    | false => exact key { s with g := false }
    | true =>
      simp only [hU_eq hr]
      exact key { s with st := 4, fr := upI s.lv r, g := false }
def envNR (a d kp r : Int) (g : Nat → Bool) : Nat → EnvS
  | 0 => ⟨0, 0, 0, false⟩
  | i + 1 => envRF a d kp r (g i) (envNR a d kp r g i)
/-- Both go alike. -/
def Rel (r : Int) (s t : EnvS) : Prop := t.st = s.st ∧ t.lv = s.lv ∧ t.g = s.g ∧ (s.st = 4 → t.fr = upI s.fr r)
theorem minI_comm (x y : Int) : minI x y = minI y x := by unfold minI; split <;> split <;> omega
theorem maxI_comm (x y : Int) : maxI x y = maxI y x := by unfold maxI; split <;> split <;> omega
theorem sw_rel {a d kp r : Int} {s t : EnvS} (h : Rel r s t) : Rel r (swF a d kp r s) (swRF a d kp t) := by
  obtain ⟨h1, h2, h3, h4⟩ := h
  unfold swF swRF
  rw [h1, h2, minI_comm (w64 (s.lv + upI 65536 a)) 65536, maxI_comm (w64 (s.lv - upI (w64 (65536 - kp)) d)) kp]
  by_cases c1 : s.st = 1
  · rw [if_pos c1, if_pos c1]
    split
    · exact ⟨rfl, rfl, h3, fun h => by simp at h⟩
    · exact ⟨rfl, rfl, h3, fun h => by rw [show s.st = 4 from h] at c1; omega⟩
  rw [if_neg c1, if_neg c1]
  by_cases c2 : s.st = 2
  · rw [if_pos c2, if_pos c2]
    split
    · exact ⟨rfl, rfl, h3, fun h => by simp at h⟩
    · exact ⟨rfl, rfl, h3, fun h => by rw [show s.st = 4 from h] at c2; omega⟩
  rw [if_neg c2, if_neg c2]
  by_cases c3 : s.st = 3
  · rw [if_pos c3, if_pos c3]
    exact ⟨rfl, rfl, h3, fun h => by rw [show s.st = 4 from h] at c3; omega⟩
  rw [if_neg c3, if_neg c3]
  by_cases c4 : s.st = 4
  · rw [if_pos c4, if_pos c4, h4 c4, maxI_comm (w64 (s.lv - upI s.fr r)) 0]
    exact ⟨rfl, rfl, h3, fun _ => rfl⟩
  rw [if_neg c4, if_neg c4]
  exact ⟨h1, h2, h3, h4⟩
theorem env_rel {a d kp r : Int} (o : Bool) {s t : EnvS} (h : Rel r s t) : Rel r (envF a d kp r o s) (envRF a d kp r o t) := by
  obtain ⟨h1, h2, h3, h4⟩ := h
  unfold envF envRF
  rw [h3]
  refine sw_rel ?_
  by_cases c1 : o = true ∧ s.g = false
  · rw [if_pos c1, if_pos c1]
    exact ⟨rfl, h2, rfl, fun h => by simp at h⟩
  rw [if_neg c1, if_neg c1]
  by_cases c2 : o = false ∧ s.g = true
  · rw [if_pos c2, if_pos c2, h2]
    exact ⟨rfl, rfl, rfl, fun _ => rfl⟩
  rw [if_neg c2, if_neg c2]
  exact ⟨h1, h2, rfl, h4⟩
theorem envN_rel (a d kp r : Int) (g : Nat → Bool) : ∀ i, Rel r (envN a d kp r g i) (envNR a d kp r g i)
  | 0 => ⟨rfl, rfl, rfl, fun h => by simp [envN] at h⟩
  | i + 1 => env_rel (g i) (envN_rel a d kp r g i)
theorem kM_pos (x : Int) : decide (kM x > 0) = decide (x > 0) := by
  unfold kM kept minI maxI
  by_cases h : x > 0
  · rw [decide_eq_true h, decide_eq_true]
    split <;> split <;> omega
  · rw [decide_eq_false h, decide_eq_false]
    split <;> split <;> omega
def so42 (a d kp r : Int) (gs : List Int) (i : Nat) : St :=
  st42 a d kp r gs (i : Int) (envNR a d kp r (gOf gs) i).st (envNR a d kp r (gOf gs) i).lv (envNR a d kp r (gOf gs) i).fr (envNR a d kp r (gOf gs) i).g (.gr (9, 0) i 1) [(9, .cells true ((outs a d kp r (gOf gs) i).map int64))]
section
variable {a d kp r : Int} (h : envOk a d kp r = true) {gs : List Int} (hs : gs.length ≤ 20000)
include h hs
theorem first42 {A : Type} (h0 : 0 < gs.length) (K : Ex → St → Option A) :
    loopBF Try.prog (O78 orc0) tb 42 8 [9] 5 (st42 a d kp r gs 0 0 0 0 false (.sl none 0 0 true 0) []) K = K .normal (so42 a d kp r gs 1) := by
  obtain ⟨a1, a2, d1, d2, k1, k2, r1, r2⟩ := envOk_iff.1 h
  rw [b42_0, decide_eq_true (by omega : (0 : Int) < (gs.length : Int)), cond_true]
  have := ldI_eq h0 (fun x => envR a d kp r (decide (x > 0)) false 0 0 0 fun st lv fl => K .normal (st42 a d kp r gs (IntKind.i64.wrap (0 + 1)) st lv fl (decide (x > 0)) (.gr (9, 0) 1 1) [(9, .cells true [int64 lv])]))
  refine this.trans ?_
  rw [← kM_pos, gOf_get h0]
  obtain ⟨e1, e2⟩ := envR_eq a1 d1 r1 (gOf gs 0) (envNR a d kp r (gOf gs) 0) (kp := kp) (fun st lv fl => K .normal (st42 a d kp r gs (IntKind.i64.wrap (0 + 1)) st lv fl (gOf gs 0) (.gr (9, 0) 1 1) [(9, .cells true [int64 lv])]))
  refine e1.trans ?_
  have e3 : (envNR a d kp r (gOf gs) 1).g = gOf gs 0 := e2
  have e4 : outs a d kp r (gOf gs) 1 = [(envNR a d kp r (gOf gs) 1).lv] := by
    rw [(envN_rel a d kp r (gOf gs) 1).2.1]; rfl
  unfold so42
  rw [e3, e4]
  rfl
theorem next42 {A : Type} {i : Nat} (h0 : 0 < i) (hi : i < gs.length) (K : Ex → St → Option A) :
    loopBF Try.prog (O78 orc0) tb 42 8 [9] 5 (so42 a d kp r gs i) K = K .normal (so42 a d kp r gs (i + 1)) := by
  obtain ⟨a1, a2, d1, d2, k1, k2, r1, r2⟩ := envOk_iff.1 h
  obtain ⟨m, rfl⟩ : ∃ m, i = m + 1 := ⟨i - 1, by omega⟩
  unfold so42
  rw [b42]
  unfold body42
  rw [decide_eq_true (by omega : ((m + 1 : Nat) : Int) < (gs.length : Int)), cond_true, ldI_eq hi, ← kM_pos, gOf_get hi]
  obtain ⟨e1, e2⟩ := envR_eq a1 d1 r1 (gOf gs (m + 1)) (envNR a d kp r (gOf gs) (m + 1)) (kp := kp) (fun st lv fl =>
    guardK (Nat.ble ((m + 1 + 1) * 8) limit && Nat.ble (m + 1 + 1) limit) <| guardK (Nat.ble (0 + (m + 1) * 1) (lenA ((outs a d kp r (gOf gs) (m + 1)).map int64))) <| guardK (allS (appA (takeA (dropA ((outs a d kp r (gOf gs) (m + 1)).map int64) 0) ((m + 1) * 1)) [int64 lv]) && true) <|
    K .normal (st42 a d kp r gs (IntKind.i64.wrap (((m + 1 : Nat) : Int) + 1)) st lv fl (gOf gs (m + 1)) (.gr (9, 0) (m + 1 + 1) 1) [(9, .cells true (appA (takeA (dropA ((outs a d kp r (gOf gs) (m + 1)).map int64) 0) ((m + 1) * 1)) [int64 lv]))]))
  refine e1.trans ?_
  have e3 : (envNR a d kp r (gOf gs) (m + 1 + 1)).g = gOf gs (m + 1) := e2
  have e4 : Nat.ble (0 + (m + 1) * 1) (m + 1) = true := Nat.ble_eq_true_of_le (by omega)
  have e5 : (envRF a d kp r (gOf gs (m + 1)) (envNR a d kp r (gOf gs) (m + 1))).lv = (envN a d kp r (gOf gs) (m + 1 + 1)).lv := (envN_rel a d kp r (gOf gs) (m + 1 + 1)).2.1
  rw [grow_ints (outs_len _ _ _ _ _ _), allS_ints, lenM, outs_len, limit_ok (by omega), e4, wrapN (by omega), outs_succ a d kp r (gOf gs) (m + 1), e3, e5]
  have e6 : (envNR a d kp r (gOf gs) (m + 1 + 1)).lv = (envN a d kp r (gOf gs) (m + 1 + 1)).lv := (envN_rel a d kp r (gOf gs) (m + 1 + 1)).2.1
  rw [e6]
  rfl
theorem loop42 : ∀ (k i n : Nat), i + k = gs.length → k < n → 0 < i → loopN (loopBF Try.prog (O78 orc0) tb 42 8 [9] 5) n (so42 a d kp r gs i) pairE = some (.exit 0, so42 a d kp r gs gs.length) := by
  intro k
  induction k with
  | zero =>
    intro i n hi hn h0
    obtain ⟨n, rfl⟩ : ∃ m, n = m + 1 := ⟨n - 1, by omega⟩
    have hi : i = gs.length := by omega
    obtain ⟨m, hm⟩ : ∃ m, gs.length = m + 1 := ⟨gs.length - 1, by omega⟩
    rw [hi, loopN_succ]
    unfold so42
    rw [hm, b42]
    unfold body42
    rw [decide_eq_false (by omega : ¬ (((m + 1 : Nat) : Int) < (gs.length : Int))), allS_ints]
    rfl
  | succ k ih =>
    intro i n hi hn h0
    obtain ⟨n, rfl⟩ : ∃ m, n = m + 1 := ⟨n - 1, by omega⟩
    rw [loopN_succ, next42 h hs h0 (by omega)]
    exact ih (i + 1) n (by omega) (by omega) (by omega)
theorem loop42_all (h0 : 0 < gs.length) : loopN (loopBF Try.prog (O78 orc0) tb 42 8 [9] 5) rounds (st42 a d kp r gs 0 0 0 0 false (.sl none 0 0 true 0) []) pairE = some (.exit 0, so42 a d kp r gs gs.length) := by
  obtain ⟨n, hn⟩ : ∃ n, rounds = n + 1 := ⟨99999999999999999999, rfl⟩
  have hr : rounds = 100000000000000000000 := rfl
  rw [hn, loopN_succ, first42 h hs h0]
  exact loop42 h hs (gs.length - 1) 1 n (by omega) (by omega) (by omega)
end
theorem loop42_nil {a d kp r : Int} : loopN (loopBF Try.prog (O78 orc0) tb 42 8 [9] 5) rounds (st42 a d kp r [] 0 0 0 0 false (.sl none 0 0 true 0) []) pairE = some (.exit 0, st42 a d kp r [] 0 0 0 0 false (.sl none 0 0 true 0) []) := by
  obtain ⟨n, hn⟩ : ∃ n, rounds = n + 1 := ⟨99999999999999999999, rfl⟩
  rw [hn, loopN_succ, b42_0]
  rfl
def N42 : Norm := ⟨[1, 4, 5, 6, 8, 9], []⟩
noncomputable def S42 (a d kp r : Int) (gs : List Int) (s1 : St) : Orc := SW a d kp r true (knowLF Try.prog 42 8 N42 [9] 5 (st42 a d kp r gs 0 0 0 0 false (.sl none 0 0 true 0) []) (.exit 0) s1 orc0)
theorem run42 (a d kp r : Int) (g0 : Int) (gs : List Int) (st lv fl : Int) (g : Bool) (cs : List AV) (m : Nat) :
    evCall Try.prog (S42 a d kp r (g0 :: gs) (st42 a d kp r (g0 :: gs) ((g0 :: gs).length : Int) st lv fl g (.gr (9, 0) (m + 1) 1) [(9, .cells true cs)])) tb 100 AV (.fn 42) [ints [a, d, kp, r], ints (g0 :: gs)] (mkHeap [] 0) .off (viewK Try.prog (resOf Try.prog 42)) = (
    U a d kp r <| bif decide (((g0 :: gs).length : Int) > 20000) then some (.tup [ints [], int64 4]) else
    bif sameSt (st42 a d kp r (g0 :: gs) 0 0 0 0 false (.sl none 0 0 true 0) []) (st42 a d kp r (g0 :: gs) 0 0 0 0 false (.sl none 0 0 true 0) []) then guardK (allS (dropA cs 0) && true) (some (.tup [.fz (fixLen ((m + 1) * 1) (dropA cs 0)) (m + 1) false 1, int64 0])) else none) := by kernel_rfl
theorem run42_nil (a d kp r : Int) :
    evCall Try.prog (S42 a d kp r [] (st42 a d kp r [] 0 0 0 0 false (.sl none 0 0 true 0) [])) tb 100 AV (.fn 42) [ints [a, d, kp, r], ints []] (mkHeap [] 0) .off (viewK Try.prog (resOf Try.prog 42)) = (
    U a d kp r <| bif sameSt (st42 a d kp r [] 0 0 0 0 false (.sl none 0 0 true 0) []) (st42 a d kp r [] 0 0 0 0 false (.sl none 0 0 true 0) []) then some (.tup [ints [], int64 0]) else none) := by kernel_rfl
theorem run42_no (xs gs : List Int) : evCall Try.prog (knowC Try.prog 13 [unitV 6 3 [0] xs] (.bool false) orc0) tb 100 AV (.fn 42) [ints xs, ints gs] (mkHeap [] 0) .off (viewK Try.prog (resOf Try.prog 42)) =
    bif same [unitV 6 3 [0] xs] [unitV 6 3 [0] xs] then some (.tup [ints [], int64 1]) else none := by kernel_rfl
theorem run42_big (a d kp r : Int) (gs : List Int) : evCall Try.prog (knowC Try.prog 13 [unitV 6 3 [0] [a, d, kp, r]] (.bool true) (stopAt 42 [6] orc0)) tb 100 AV (.fn 42) [ints [a, d, kp, r], ints gs] (mkHeap [] 0) .off (viewK Try.prog (resOf Try.prog 42)) = (
    U a d kp r <| bif decide ((gs.length : Int) > 20000) then some (.tup [ints [], int64 4]) else none) := by kernel_rfl
theorem args42 (xs gs : List Int) : vwArgs Try.prog [] none0 (parsOf Try.prog 42) [ints xs, ints gs] = [ints xs, ints gs] := by kernel_rfl
theorem count42 : Nat.ble (countL 8 e42.code) 1 = true := by kernel_rfl
theorem norm42 : loopN0 tb 42 8 = some N42 := by kernel_rfl
theorem env_ref {a d kp r : Int} (h : envOk a d kp r = true) {gs : List Int} (hs : gs.length ≤ 20000) : FFact Try.prog tb 42 [ints [a, d, kp, r], ints gs] (.tup [ints (outs a d kp r (gOf gs) gs.length), int64 0]) := by
  refine ⟨args42 _ gs, ?_⟩
  cases gs with
  | nil =>
    refine ⟨_, SW_ok h (knowLF_ok (fl := [9]) tbOk (LFact.flat (O78_ok ok0) loop42_nil) ok0 (ep := e42) rfl norm42 count42), (run42_nil a d kp r).trans ?_⟩
    simp only [U, same_self, sameSt_self, cond_true]
    rfl
  | cons g0 gs =>
    obtain ⟨m, hm⟩ : ∃ m, (g0 :: gs).length = m + 1 := ⟨gs.length, rfl⟩
    refine ⟨_, SW_ok h (knowLF_ok (fl := [9]) tbOk (LFact.flat (O78_ok ok0) (loop42_all h hs (by simp))) ok0 (ep := e42) rfl norm42 count42), ?_⟩
    have e := run42 a d kp r g0 gs (envNR a d kp r (gOf (g0 :: gs)) (g0 :: gs).length).st (envNR a d kp r (gOf (g0 :: gs)) (g0 :: gs).length).lv (envNR a d kp r (gOf (g0 :: gs)) (g0 :: gs).length).fr (envNR a d kp r (gOf (g0 :: gs)) (g0 :: gs).length).g ((outs a d kp r (gOf (g0 :: gs)) (g0 :: gs).length).map int64) m
    rw [← hm] at e
    refine Eq.trans rfl (e.trans ?_)
    simp only [U, same_self, sameSt_self, cond_true]
    have e2 : allS (dropA ((outs a d kp r (gOf (g0 :: gs)) (g0 :: gs).length).map int64) 0) = true := by rw [dropA_eq, List.drop_zero, allS_ints]
    have e3 := fix_ints (outs a d kp r (gOf (g0 :: gs)) (g0 :: gs).length)
    rw [outs_len] at e3
    rw [decide_eq_false (by omega : ¬ (((g0 :: gs).length : Int) > 20000)), e2, e3]
    simp only [cond_false, cond_true, guardK, Bool.and_self]
    unfold ints
    rw [outs_len]
/-- Envelopes, for any numbers. -/
theorem env_facts (xs gs : List Int) : ∃ ys e, ys.length ≤ maxLen ∧ FFact Try.prog tb 14 [ints xs, ints gs] (.tup [ints ys, int64 e]) ∧ FFact Try.prog tb 42 [ints xs, ints gs] (.tup [ints ys, int64 e]) := by
  have hM : maxLen = 9223372036854775807 := rfl
  by_cases hv : ∃ a d kp r, xs = [a, d, kp, r] ∧ envOk a d kp r = true
  · obtain ⟨a, d, kp, r, rfl, hv⟩ := hv
    by_cases hs : gs.length ≤ 20000
    · exact ⟨_, _, by rw [outs_len]; omega, env_fact hv hs, env_ref hv hs⟩
    · obtain ⟨f29, f13⟩ := env_valid a d kp r
      rw [hv] at f29 f13
      refine ⟨[], 4, by simp, ⟨args14 _ gs, _, knowC_ok tbOk (f29.now (unit_now 29 (by kernel_rfl) _)) (stopAt_ok ok0), (run14_big a d kp r gs).trans ?_⟩, ⟨args42 _ gs, _, knowC_ok tbOk (f13.now (unit_now 13 (by kernel_rfl) _)) (stopAt_ok ok0), (run42_big a d kp r gs).trans ?_⟩⟩ <;>
        (simp only [U, same_self, cond_true]; rw [decide_eq_true (by omega : (gs.length : Int) > 20000)]; rfl)
  · obtain ⟨f29, f13⟩ := no_unit (xs := xs) fun a d kp r e => by
      cases ho : envOk a d kp r with
      | false => rfl
      | true => exact absurd ⟨a, d, kp, r, e, ho⟩ hv
    refine ⟨[], 1, by simp, ⟨args14 _ gs, _, knowC_ok tbOk (f29.now (unit_now 29 (by kernel_rfl) _)) ok0, (run14_no xs gs).trans ?_⟩, ⟨args42 _ gs, _, knowC_ok tbOk (f13.now (unit_now 13 (by kernel_rfl) _)) ok0, (run42_no xs gs).trans ?_⟩⟩ <;>
      (rw [same_self]; rfl)
end Go.Proofs.Ythlmbnhelkbchaa
/- The document's Run: a round of its loop, whatever the kind. -/
namespace Go.Proofs.Ythlmbnhelkbchaa
open Go.Ev
set_option maxRecDepth 100000
def cellsG : AV → List AV
  | .agg cs => cs
  | _ => []
def rsOf (cs : List AV) : Rs := ⟨intOf (nth cs 4), intOf (nth cs 5), intOf (nth cs 6), intOf (nth cs 7), intOf (nth cs 8), boolOf (nth cs 9), intOf (nth cs 10), rowOf (nth cs 11)⟩
theorem rsOf_cells (k r : Int) (ui ua : List Int) (o : Rs) : rsOf (cellsR k r ui ua o) = o := by
  unfold rsOf cellsR
  show (⟨o.frame, o.held, o.phase, o.n, o.stage, o.gate, o.fall, rowOf (ints o.past)⟩ : Rs) = o
  rw [rowOf_ints]
def zero12 : Blk := .cells true [int64 0, int64 0, .sl none 0 0 true 0, .sl none 0 0 true 0, int64 0, int64 0, int64 0, int64 0, int64 0, .bool false, int64 0, .sl none 0 0 true 0]
def st34 (k r : Int) (ui ua : List Int) (n : Int) (ls : List (List Int)) (i : Int) (o : Rs) (out : AV) (l : List (Nat × Blk)) : St := ⟨[.dead, int64 n, lists ls, .ptr (some (0, 0)), .dead, .dead, .ptr (some (1, 0)), .dead, .dead, .dead, out, int64 i] ++ repA .dead 65,
  mkHeap (l ++ [(1, zero12), (0, .cells true (cellsR k r ui ua o))]) 10, [], .off⟩
def dueRT {A : Type} (r fr : Int) (yes no : Option A) : Option A := bif r == 3 then yes else bif r == 2 then (bif fr.tmod 64 == 0 then yes else bif fr == 0 then yes else no) else bif fr == 0 then yes else no
def heldR (o : Rs) (v : Int) : Rs := ⟨o.frame, v, o.phase, o.n, o.stage, o.gate, o.fall, o.past⟩
def fwdR (o : Rs) : Rs := ⟨IntKind.i64.wrap (o.frame + 1), o.held, o.phase, o.n, o.stage, o.gate, o.fall, o.past⟩
noncomputable def tailR0 {A : Type} (k r : Int) (ui ua : List Int) (n : Int) (ls : List (List Int)) (i : Int) (K : Ex → St → Option A) (o : Rs) : Option A :=
  E o.held <| K .normal (st34 k r ui ua n ls (IntKind.i64.wrap (i + 1)) (fwdR o) (.gr (8, 0) 1 1) [(8, .cells true [int64 o.held])])
noncomputable def tailRG {A : Type} (k r : Int) (ui ua : List Int) (n : Int) (ls : List (List Int)) (i : Int) (cs : List AV) (m : Nat) (K : Ex → St → Option A) (o : Rs) : Option A :=
  E o.held <| guardK (Nat.ble ((m + 1 + 1) * 8) limit && Nat.ble (m + 1 + 1) limit) <| guardK (Nat.ble (0 + (m + 1) * 1) (lenA cs)) <| guardK (allS (appA (takeA (dropA cs 0) ((m + 1) * 1)) [int64 o.held]) && true) <|
  K .normal (st34 k r ui ua n ls (IntKind.i64.wrap (i + 1)) (fwdR o) (.gr (8, 0) (m + 1 + 1) 1) [(8, .cells true (appA (takeA (dropA cs 0) ((m + 1) * 1)) [int64 o.held]))])
/-- The envelope, told of. -/
def envG (a d kp r : Int) (b : Bool) (o : Rs) : Rs := envS o (envRF a d kp r b ⟨o.stage, o.n, o.fall, o.gate⟩).st (envRF a d kp r b ⟨o.stage, o.n, o.fall, o.gate⟩).lv (envRF a d kp r b ⟨o.stage, o.n, o.fall, o.gate⟩).fr b
theorem run69 (r u0 y0 y1 y2 y3 : Int) (b : Bool) (o : Rs) : evCall Try.prog (OT orc0) tb 100 AV (.fn 69) [.agg (cellsR 6 r [u0] [y0, y1, y2, y3] o), .bool b] (mkHeap [] 0) .off (viewK Try.prog (resOf Try.prog 69)) =
    envR y0 y1 y2 y3 b o.gate o.stage o.n o.fall fun st lv fl => some (.agg (cellsR 6 r [u0] [y0, y1, y2, y3] (envS o st lv fl b))) := by kernel_rfl
theorem args69 (r u0 y0 y1 y2 y3 : Int) (b : Bool) (o : Rs) : vwArgs Try.prog [] none0 (parsOf Try.prog 69) [.agg (cellsR 6 r [u0] [y0, y1, y2, y3] o), .bool b] = [.agg (cellsR 6 r [u0] [y0, y1, y2, y3] o), .bool b] := by kernel_rfl
def is69 (a : List AV) : Prop := ∃ r u0 y0 y1 y2 y3 b o, a = [.agg (cellsR 6 r [u0] [y0, y1, y2, y3] o), .bool b] ∧ y0 ≥ 1 ∧ y1 ≥ 1 ∧ y3 ≥ 1
def env69 (cs : List AV) (b : Bool) : Rs := envG ((rowOf (nth cs 3)).getD 0 0) ((rowOf (nth cs 3)).getD 1 0) ((rowOf (nth cs 3)).getD 2 0) ((rowOf (nth cs 3)).getD 3 0) b (rsOf cs)
def putR (cs : List AV) (o : Rs) : List AV := [nth cs 0, nth cs 1, nth cs 2, nth cs 3, int64 o.frame, int64 o.held, int64 o.phase, int64 o.n, int64 o.stage, .bool o.gate, int64 o.fall, nth cs 11]
def V69 (a : List AV) : AV := .agg (putR (cellsG (nth a 0)) (env69 (cellsG (nth a 0)) (boolOf (nth a 1))))
theorem when69 (a : List AV) (h : isSo (is69 a) = true) : FFact Try.prog tb 69 a (V69 a) := by
  obtain ⟨r, u0, y0, y1, y2, y3, b, o, rfl, h0, h1, h3⟩ := isSo_iff.1 h
  refine ⟨args69 r u0 y0 y1 y2 y3 b o, _, OT_ok ok0, (run69 r u0 y0 y1 y2 y3 b o).trans ?_⟩
  obtain ⟨e1, e2⟩ := envR_eq (A := AV) h0 h1 h3 b ⟨o.stage, o.n, o.fall, o.gate⟩ (kp := y2) (fun st lv fl => some (.agg (cellsR 6 r [u0] [y0, y1, y2, y3] (envS o st lv fl b))))
  refine e1.trans ?_
  have er : rsOf (cellsR 6 r [u0] [y0, y1, y2, y3] o) = o := rsOf_cells _ _ _ _ _
  have ey : rowOf (nth (cellsR 6 r [u0] [y0, y1, y2, y3] o) 3) = [y0, y1, y2, y3] := rowOf_ints _
  unfold V69 env69
  show _ = some (AV.agg (putR (cellsR 6 r [u0] [y0, y1, y2, y3] o) (envG ((rowOf (nth (cellsR 6 r [u0] [y0, y1, y2, y3] o) 3)).getD 0 0) ((rowOf (nth (cellsR 6 r [u0] [y0, y1, y2, y3] o) 3)).getD 1 0) ((rowOf (nth (cellsR 6 r [u0] [y0, y1, y2, y3] o) 3)).getD 2 0) ((rowOf (nth (cellsR 6 r [u0] [y0, y1, y2, y3] o) 3)).getD 3 0) b (rsOf (cellsR 6 r [u0] [y0, y1, y2, y3] o)))))
  rw [er, ey]
  rfl
noncomputable def OT6 (S : Orc) : Orc := addF 69 (whenO (fun a => isSo (is69 a)) V69) (OT S)
theorem OT6_ok {S : Orc} (h : Ok S) : Ok (OT6 S) := addF_ok (fnSim_whenF tbOk when69) natF_when (OT_ok h)
/-- A round: where a number is told, the kind's own steps. -/
noncomputable def bodyR {A X : Type} (n i r : Int) (o : Rs) (inp : (X → Option A) → Option A) (step : X → (Rs → Int → Option A) → Option A) (tl : Rs → Option A) (ex : Option A) : Option A :=
  bif decide (i < n) then inp fun x => dueRT r o.frame (step x fun o' v => tl (heldR o' v)) (tl o) else ex
noncomputable abbrev B34 {A : Type} (S : Orc) (k r : Int) (ui ua : List Int) (n : Int) (ls : List (List Int)) (i : Int) (o : Rs) (K : Ex → St → Option A) : Option A := loopBG Try.prog S tb 34 12 ⟨[8], [], []⟩ 2 (st34 k r ui ua n ls i o (.sl none 0 0 true 0) []) K
noncomputable abbrev G34 {A : Type} (S : Orc) (k r : Int) (ui ua : List Int) (n : Int) (ls : List (List Int)) (i : Int) (o : Rs) (cs : List AV) (q : Nat) (K : Ex → St → Option A) : Option A := loopBG Try.prog S tb 34 12 ⟨[8], [], []⟩ 2 (st34 k r ui ua n ls i o (.gr (8, 0) (q + 1) 1) [(8, .cells true cs)]) K
noncomputable abbrev exR0 {A : Type} (k r : Int) (ui ua : List Int) (n : Int) (ls : List (List Int)) (i : Int) (o : Rs) (K : Ex → St → Option A) : Option A := K (.exit 2) (st34 k r ui ua n ls i o (.sl none 0 0 true 0) [])
noncomputable abbrev exRG {A : Type} (k r : Int) (ui ua : List Int) (n : Int) (ls : List (List Int)) (i : Int) (o : Rs) (cs : List AV) (q : Nat) (K : Ex → St → Option A) : Option A := guardK (allS cs && true) (K (.exit 2) (st34 k r ui ua n ls i o (.gr (8, 0) (q + 1) 1) [(8, .cells true cs)]))
abbrev no0R {A : Type} (f : Unit → Option A) : Option A := f ()
abbrev in2R {A : Type} (xs ys : List Int) (i : Int) (f : Int × Int → Option A) : Option A := ldI xs i fun x => ldI ys i fun y => f (x, y)
def zR {A : Type} (k r : Int) (ui ua : List Int) (o : Rs) (x : Option A) : Option A := bif sameV (.agg (cellsR k r ui ua o)) (.agg (cellsR k r ui ua o)) then x else none
section
variable {A : Type}
def stepR1 (r u0 : Int) (o : Rs) (x : Int) (f : Rs → Int → Option A) : Option A := zR 1 r [u0] [] (oscR o x) <| f (oscR o x) (sndR (w64 (w64 (o.phase.tdiv 256) - 8388608)))
def stepR2 (r u0 u1 : Int) (o : Rs) (p : Int × Int) (f : Rs → Int → Option A) : Option A := bif decide (o.phase < w64 (num p.2 * 65536)) then zR 2 r [u0, u1] [] (oscR o p.1) <| f (oscR o p.1) 8388607 else zR 2 r [u0, u1] [] (oscR o p.1) <| f (oscR o p.1) (-8388607)
def stepR3 (r u0 : Int) (o : Rs) (x : Int) (f : Rs → Int → Option A) : Option A := bif decide (w64 (o.phase.tdiv 128) ≥ 16777216) then zR 3 r [u0] [] (oscR o x) <| f (oscR o x) (sndR (w64 (25165824 - w64 (o.phase.tdiv 128)))) else zR 3 r [u0] [] (oscR o x) <| f (oscR o x) (sndR (w64 (w64 (o.phase.tdiv 128) - 8388608)))
def stepR4 (r y0 : Int) (o : Rs) (_ : Unit) (f : Rs → Int → Option A) : Option A := zR 4 r [] [y0] (withN o (rnR o.n)) <| f (withN o (rnR o.n)) (sndR (w64 (w64 ((rnR o.n).tdiv 128) - 8388608)))
noncomputable def h77h (a i n : Int) (x : Option A) : Option A := bif isSo (is77h [int64 a, int64 i, int64 n]) then x else none
noncomputable def stepR5 (r y0 y1 y2 : Int) (o : Rs) (_ : Unit) (f : Rs → Int → Option A) : Option A :=
  let rest (n : Int) : Option A := bif decide (o.n ≥ y2) then E y1 <| f (withN o n) y1 else h77h (w64 (y1 - y0)) o.n y2 <| zR 5 r [] [y0, y1, y2] (withN o n) <| E y0 <| E y0 <| f (withN o n) (w64 (y0 + prodM (w64 (y1 - y0)) o.n y2))
  bif decide (o.n < y2) then rest (w64 (o.n + 1)) else rest o.n
noncomputable def h77g (a b : Int) (x : Option A) : Option A := bif isSo (is77g [int64 a, int64 b, int64 65536]) then x else none
noncomputable def h77l (a b : Int) (x : Option A) : Option A := bif isSo (is77 [int64 a, int64 b, int64 65536]) then x else none
noncomputable def stepR7 (_ _ _ : Int) (o : Rs) (p : Int × Int) (f : Rs → Int → Option A) : Option A := E o.n <| E (num p.1) <| E o.n <| h77l (w64 (num p.1 - o.n)) (into (num p.2) 0 65536) <| E o.n <| E (lowW p.1 p.2 o.n) <| f (withN o (lowW p.1 p.2 o.n)) (lowW p.1 p.2 o.n)
noncomputable def stepR6 (r u0 y0 y1 y2 y3 : Int) (o : Rs) (x : Int) (f : Rs → Int → Option A) : Option A :=
  bif isSo (is69 [.agg (cellsR 6 r [u0] [y0, y1, y2, y3] o), .bool (decide (num x > 0))]) then E (envG y0 y1 y2 y3 (decide (num x > 0)) o).n <| f (envG y0 y1 y2 y3 (decide (num x > 0)) o) (envG y0 y1 y2 y3 (decide (num x > 0)) o).n else none
def stepR8 (r u0 u1 : Int) (o : Rs) (p : Int × Int) (f : Rs → Int → Option A) : Option A := zR 8 r [u0, u1] [] o <| f o (num (w64 (num p.1 + num p.2)))
noncomputable def stepR9 (r u0 u1 : Int) (o : Rs) (p : Int × Int) (f : Rs → Int → Option A) : Option A := h77g (num p.1) (num p.2) <| zR 9 r [u0, u1] [] o <| f o (num (prodN (num p.1) (num p.2)))
def stepR10 (r u0 u1 : Int) (o : Rs) (p : Int × Int) (f : Rs → Int → Option A) : Option A := zR 10 r [u0, u1] [] o <| f o (into (num p.1) (w64 (0 - maxI (num p.2) 0)) (maxI (num p.2) 0))
def stepR12 (r y0 : Int) (o : Rs) (x : Int) (f : Rs → Int → Option A) : Option A := zR 12 r [] [y0] o <| f o (num x)
def stepR13 (r u0 y0 : Int) (o : Rs) (x : Int) (f : Rs → Int → Option A) : Option A := zR 13 r [u0] [y0] o <| f o (num x)
def stepR14 (r y0 : Int) (o : Rs) (x : Int) (f : Rs → Int → Option A) : Option A := zR 14 r [] [y0] o <| f o (num x)
def stepR15 (r y0 : Int) (o : Rs) (_ : Unit) (f : Rs → Int → Option A) : Option A := zR 15 r [] [y0] o <| f o y0
end
end Go.Proofs.Ythlmbnhelkbchaa
/- The document's Run of a delay: a round of its loop. -/
namespace Go.Proofs.Ythlmbnhelkbchaa
open Go.Ev
set_option maxRecDepth 100000
def cellsRd (r u0 y0 : Int) (o : Rs) (pv : AV) : List AV := [int64 11, int64 r, ints [u0], ints [y0], int64 o.frame, int64 o.held, int64 o.phase, int64 o.n, int64 o.stage, .bool o.gate, int64 o.fall, pv]
def st34d (r u0 y0 : Int) (n : Int) (ls : List (List Int)) (i : Int) (o : Rs) (pv out : AV) (l : List (Nat × Blk)) : St := ⟨[.dead, int64 n, lists ls, .ptr (some (0, 0)), .dead, .dead, .ptr (some (1, 0)), .dead, .dead, .dead, out, int64 i] ++ repA .dead 65,
  mkHeap (l ++ [(1, zero12), (0, .cells true (cellsRd r u0 y0 o pv))]) 10, [], .off⟩
section
variable {A : Type}
def pushL (p : Int) (ps : List Int) (x : Int) : List AV := appA (takeA (dropA ((p :: ps).map int64) (1 * 1)) (ps.length * 1)) [int64 (num x)]
def pushV (p : Int) (ps : List Int) (x : Int) : AV := .fz (fixLen ((ps.length + 1) * 1) (dropA (pushL p ps x) 0)) (ps.length + 1) false 1
noncomputable def stepR11 (p : Int) (ps : List Int) (o : Rs) (x : Int) (f : AV → Rs → Int → Option A) : Option A :=
  ldI (p :: ps) 0 fun v => guardK (Nat.ble (ps.length + 1) (ps.length + 1)) <| guardK (Nat.ble (ps.length + 1) (ps.length + 1)) <|
  guardK (Nat.ble ((ps.length + 1) * 8) limit && Nat.ble (ps.length + 1) limit && Nat.beq (ps.length + 1) (ps.length + 1) && true) <| f (pushV p ps x) o v
noncomputable def bodyRd (n i r : Int) (o : Rs) (xs : List Int) (yes : Int → Option A) (no ex : Option A) : Option A := bif decide (i < n) then ldI xs i fun x => dueRT r o.frame (yes x) no else ex
noncomputable def yesR0 (r u0 y0 n : Int) (ls : List (List Int)) (i : Int) (p : Int) (ps : List Int) (o : Rs) (K : Ex → St → Option A) (x : Int) : Option A :=
  stepR11 p ps o x fun pv o' v => E v <| guardK (allS (pushL p ps x) && true && true) <| K .normal (st34d r u0 y0 n ls (IntKind.i64.wrap (i + 1)) (fwdR (heldR o' v)) pv (.gr (8, 0) 1 1) [(8, .cells true [int64 v])])
noncomputable def noR0 (r u0 y0 n : Int) (ls : List (List Int)) (i : Int) (p : Int) (ps : List Int) (o : Rs) (K : Ex → St → Option A) : Option A :=
  E o.held <| K .normal (st34d r u0 y0 n ls (IntKind.i64.wrap (i + 1)) (fwdR o) (ints (p :: ps)) (.gr (8, 0) 1 1) [(8, .cells true [int64 o.held])])
noncomputable def yesRG (r u0 y0 n : Int) (ls : List (List Int)) (i : Int) (p : Int) (ps : List Int) (o : Rs) (cs : List AV) (q : Nat) (K : Ex → St → Option A) (x : Int) : Option A :=
  stepR11 p ps o x fun pv o' v => E v <| guardK (Nat.ble ((q + 1 + 1) * 8) limit && Nat.ble (q + 1 + 1) limit) <| guardK (Nat.ble (0 + (q + 1) * 1) (lenA cs)) <|
    guardK (allS (pushL p ps x) && true && (allS (appA (takeA (dropA cs 0) ((q + 1) * 1)) [int64 v]) && true)) <|
    K .normal (st34d r u0 y0 n ls (IntKind.i64.wrap (i + 1)) (fwdR (heldR o' v)) pv (.gr (8, 0) (q + 1 + 1) 1) [(8, .cells true (appA (takeA (dropA cs 0) ((q + 1) * 1)) [int64 v]))])
noncomputable def noRG (r u0 y0 n : Int) (ls : List (List Int)) (i : Int) (p : Int) (ps : List Int) (o : Rs) (cs : List AV) (q : Nat) (K : Ex → St → Option A) : Option A :=
  E o.held <| guardK (Nat.ble ((q + 1 + 1) * 8) limit && Nat.ble (q + 1 + 1) limit) <| guardK (Nat.ble (0 + (q + 1) * 1) (lenA cs)) <|
    guardK (allS (appA (takeA (dropA cs 0) ((q + 1) * 1)) [int64 o.held]) && true) <|
    K .normal (st34d r u0 y0 n ls (IntKind.i64.wrap (i + 1)) (fwdR o) (ints (p :: ps)) (.gr (8, 0) (q + 1 + 1) 1) [(8, .cells true (appA (takeA (dropA cs 0) ((q + 1) * 1)) [int64 o.held]))])
end
theorem b34d {A : Type} (r u0 y0 n i p : Int) (ps : List Int) (o : Rs) (xs : List Int) (K : Ex → St → Option A) : loopBG Try.prog (OT orc0) tb 34 12 ⟨[8], [0], [31]⟩ 2 (st34d r u0 y0 n [xs] i o (ints (p :: ps)) (.sl none 0 0 true 0) []) K =
    bodyRd n i r o xs (yesR0 r u0 y0 n [xs] i p ps o K) (noR0 r u0 y0 n [xs] i p ps o K) (K (.exit 2) (st34d r u0 y0 n [xs] i o (ints (p :: ps)) (.sl none 0 0 true 0) [])) := by kernel_rfl
theorem g34d {A : Type} (r u0 y0 n i p : Int) (ps : List Int) (o : Rs) (xs : List Int) (cs : List AV) (q : Nat) (K : Ex → St → Option A) : loopBG Try.prog (OT orc0) tb 34 12 ⟨[8], [0], [31]⟩ 2 (st34d r u0 y0 n [xs] i o (ints (p :: ps)) (.gr (8, 0) (q + 1) 1) [(8, .cells true cs)]) K =
    bodyRd n i r o xs (yesRG r u0 y0 n [xs] i p ps o cs q K) (noRG r u0 y0 n [xs] i p ps o cs q K) (guardK (allS cs && true) (K (.exit 2) (st34d r u0 y0 n [xs] i o (ints (p :: ps)) (.gr (8, 0) (q + 1) 1) [(8, .cells true cs)]))) := by kernel_rfl
end Go.Proofs.Ythlmbnhelkbchaa
/- The document's Run: the rounds, kind by kind. Printed by utgen.py. -/
namespace Go.Proofs.Ythlmbnhelkbchaa
open Go.Ev
set_option maxRecDepth 100000
theorem b34_1 {A : Type} (r u0 n i : Int) (o : Rs) (xs : List Int) (K : Ex → St → Option A) : B34 (OT orc0) 1 r [u0] [] n [xs] i o K = bodyR n i r o (ldI xs i) (stepR1 r u0 o) (tailR0 1 r [u0] [] n [xs] i K) (exR0 1 r [u0] [] n [xs] i o K) := by kernel_rfl
theorem g34_1 {A : Type} (r u0 n i : Int) (o : Rs) (xs : List Int) (cs : List AV) (q : Nat) (K : Ex → St → Option A) : G34 (OT orc0) 1 r [u0] [] n [xs] i o cs q K = bodyR n i r o (ldI xs i) (stepR1 r u0 o) (tailRG 1 r [u0] [] n [xs] i cs q K) (exRG 1 r [u0] [] n [xs] i o cs q K) := by kernel_rfl
theorem b34_2 {A : Type} (r u0 u1 n i : Int) (o : Rs) (xs ys : List Int) (K : Ex → St → Option A) : B34 (OT orc0) 2 r [u0, u1] [] n [xs, ys] i o K = bodyR n i r o (in2R xs ys i) (stepR2 r u0 u1 o) (tailR0 2 r [u0, u1] [] n [xs, ys] i K) (exR0 2 r [u0, u1] [] n [xs, ys] i o K) := by kernel_rfl
theorem g34_2 {A : Type} (r u0 u1 n i : Int) (o : Rs) (xs ys : List Int) (cs : List AV) (q : Nat) (K : Ex → St → Option A) : G34 (OT orc0) 2 r [u0, u1] [] n [xs, ys] i o cs q K = bodyR n i r o (in2R xs ys i) (stepR2 r u0 u1 o) (tailRG 2 r [u0, u1] [] n [xs, ys] i cs q K) (exRG 2 r [u0, u1] [] n [xs, ys] i o cs q K) := by kernel_rfl
theorem b34_3 {A : Type} (r u0 n i : Int) (o : Rs) (xs : List Int) (K : Ex → St → Option A) : B34 (OT orc0) 3 r [u0] [] n [xs] i o K = bodyR n i r o (ldI xs i) (stepR3 r u0 o) (tailR0 3 r [u0] [] n [xs] i K) (exR0 3 r [u0] [] n [xs] i o K) := by kernel_rfl
theorem g34_3 {A : Type} (r u0 n i : Int) (o : Rs) (xs : List Int) (cs : List AV) (q : Nat) (K : Ex → St → Option A) : G34 (OT orc0) 3 r [u0] [] n [xs] i o cs q K = bodyR n i r o (ldI xs i) (stepR3 r u0 o) (tailRG 3 r [u0] [] n [xs] i cs q K) (exRG 3 r [u0] [] n [xs] i o cs q K) := by kernel_rfl
theorem b34_4 {A : Type} (r y0 n i : Int) (o : Rs) (K : Ex → St → Option A) : B34 (OT orc0) 4 r [] [y0] n [] i o K = bodyR n i r o no0R (stepR4 r y0 o) (tailR0 4 r [] [y0] n [] i K) (exR0 4 r [] [y0] n [] i o K) := by kernel_rfl
theorem g34_4 {A : Type} (r y0 n i : Int) (o : Rs) (cs : List AV) (q : Nat) (K : Ex → St → Option A) : G34 (OT orc0) 4 r [] [y0] n [] i o cs q K = bodyR n i r o no0R (stepR4 r y0 o) (tailRG 4 r [] [y0] n [] i cs q K) (exRG 4 r [] [y0] n [] i o cs q K) := by kernel_rfl
theorem b34_5 {A : Type} (r y0 y1 y2 n i : Int) (o : Rs) (K : Ex → St → Option A) : B34 (OTh orc0) 5 r [] [y0, y1, y2] n [] i o K = bodyR n i r o no0R (stepR5 r y0 y1 y2 o) (tailR0 5 r [] [y0, y1, y2] n [] i K) (exR0 5 r [] [y0, y1, y2] n [] i o K) := by kernel_rfl
theorem g34_5 {A : Type} (r y0 y1 y2 n i : Int) (o : Rs) (cs : List AV) (q : Nat) (K : Ex → St → Option A) : G34 (OTh orc0) 5 r [] [y0, y1, y2] n [] i o cs q K = bodyR n i r o no0R (stepR5 r y0 y1 y2 o) (tailRG 5 r [] [y0, y1, y2] n [] i cs q K) (exRG 5 r [] [y0, y1, y2] n [] i o cs q K) := by kernel_rfl
theorem b34_6 {A : Type} (r u0 y0 y1 y2 y3 n i : Int) (o : Rs) (xs : List Int) (K : Ex → St → Option A) : B34 (OT6 orc0) 6 r [u0] [y0, y1, y2, y3] n [xs] i o K = bodyR n i r o (ldI xs i) (stepR6 r u0 y0 y1 y2 y3 o) (tailR0 6 r [u0] [y0, y1, y2, y3] n [xs] i K) (exR0 6 r [u0] [y0, y1, y2, y3] n [xs] i o K) := by kernel_rfl
theorem g34_6 {A : Type} (r u0 y0 y1 y2 y3 n i : Int) (o : Rs) (xs : List Int) (cs : List AV) (q : Nat) (K : Ex → St → Option A) : G34 (OT6 orc0) 6 r [u0] [y0, y1, y2, y3] n [xs] i o cs q K = bodyR n i r o (ldI xs i) (stepR6 r u0 y0 y1 y2 y3 o) (tailRG 6 r [u0] [y0, y1, y2, y3] n [xs] i cs q K) (exRG 6 r [u0] [y0, y1, y2, y3] n [xs] i o cs q K) := by kernel_rfl
theorem b34_7 {A : Type} (r u0 u1 n i : Int) (o : Rs) (xs ys : List Int) (K : Ex → St → Option A) : B34 (OTl orc0) 7 r [u0, u1] [] n [xs, ys] i o K = bodyR n i r o (in2R xs ys i) (stepR7 r u0 u1 o) (tailR0 7 r [u0, u1] [] n [xs, ys] i K) (exR0 7 r [u0, u1] [] n [xs, ys] i o K) := by kernel_rfl
theorem g34_7 {A : Type} (r u0 u1 n i : Int) (o : Rs) (xs ys : List Int) (cs : List AV) (q : Nat) (K : Ex → St → Option A) : G34 (OTl orc0) 7 r [u0, u1] [] n [xs, ys] i o cs q K = bodyR n i r o (in2R xs ys i) (stepR7 r u0 u1 o) (tailRG 7 r [u0, u1] [] n [xs, ys] i cs q K) (exRG 7 r [u0, u1] [] n [xs, ys] i o cs q K) := by kernel_rfl
theorem b34_8 {A : Type} (r u0 u1 n i : Int) (o : Rs) (xs ys : List Int) (K : Ex → St → Option A) : B34 (OT orc0) 8 r [u0, u1] [] n [xs, ys] i o K = bodyR n i r o (in2R xs ys i) (stepR8 r u0 u1 o) (tailR0 8 r [u0, u1] [] n [xs, ys] i K) (exR0 8 r [u0, u1] [] n [xs, ys] i o K) := by kernel_rfl
theorem g34_8 {A : Type} (r u0 u1 n i : Int) (o : Rs) (xs ys : List Int) (cs : List AV) (q : Nat) (K : Ex → St → Option A) : G34 (OT orc0) 8 r [u0, u1] [] n [xs, ys] i o cs q K = bodyR n i r o (in2R xs ys i) (stepR8 r u0 u1 o) (tailRG 8 r [u0, u1] [] n [xs, ys] i cs q K) (exRG 8 r [u0, u1] [] n [xs, ys] i o cs q K) := by kernel_rfl
theorem b34_9 {A : Type} (r u0 u1 n i : Int) (o : Rs) (xs ys : List Int) (K : Ex → St → Option A) : B34 (OTg orc0) 9 r [u0, u1] [] n [xs, ys] i o K = bodyR n i r o (in2R xs ys i) (stepR9 r u0 u1 o) (tailR0 9 r [u0, u1] [] n [xs, ys] i K) (exR0 9 r [u0, u1] [] n [xs, ys] i o K) := by kernel_rfl
theorem g34_9 {A : Type} (r u0 u1 n i : Int) (o : Rs) (xs ys : List Int) (cs : List AV) (q : Nat) (K : Ex → St → Option A) : G34 (OTg orc0) 9 r [u0, u1] [] n [xs, ys] i o cs q K = bodyR n i r o (in2R xs ys i) (stepR9 r u0 u1 o) (tailRG 9 r [u0, u1] [] n [xs, ys] i cs q K) (exRG 9 r [u0, u1] [] n [xs, ys] i o cs q K) := by kernel_rfl
theorem b34_10 {A : Type} (r u0 u1 n i : Int) (o : Rs) (xs ys : List Int) (K : Ex → St → Option A) : B34 (OT orc0) 10 r [u0, u1] [] n [xs, ys] i o K = bodyR n i r o (in2R xs ys i) (stepR10 r u0 u1 o) (tailR0 10 r [u0, u1] [] n [xs, ys] i K) (exR0 10 r [u0, u1] [] n [xs, ys] i o K) := by kernel_rfl
theorem g34_10 {A : Type} (r u0 u1 n i : Int) (o : Rs) (xs ys : List Int) (cs : List AV) (q : Nat) (K : Ex → St → Option A) : G34 (OT orc0) 10 r [u0, u1] [] n [xs, ys] i o cs q K = bodyR n i r o (in2R xs ys i) (stepR10 r u0 u1 o) (tailRG 10 r [u0, u1] [] n [xs, ys] i cs q K) (exRG 10 r [u0, u1] [] n [xs, ys] i o cs q K) := by kernel_rfl
theorem b34_12 {A : Type} (r y0 n i : Int) (o : Rs) (xs : List Int) (K : Ex → St → Option A) : B34 (OT orc0) 12 r [] [y0] n [xs] i o K = bodyR n i r o (ldI xs i) (stepR12 r y0 o) (tailR0 12 r [] [y0] n [xs] i K) (exR0 12 r [] [y0] n [xs] i o K) := by kernel_rfl
theorem g34_12 {A : Type} (r y0 n i : Int) (o : Rs) (xs : List Int) (cs : List AV) (q : Nat) (K : Ex → St → Option A) : G34 (OT orc0) 12 r [] [y0] n [xs] i o cs q K = bodyR n i r o (ldI xs i) (stepR12 r y0 o) (tailRG 12 r [] [y0] n [xs] i cs q K) (exRG 12 r [] [y0] n [xs] i o cs q K) := by kernel_rfl
theorem b34_13 {A : Type} (r u0 y0 n i : Int) (o : Rs) (xs : List Int) (K : Ex → St → Option A) : B34 (OT orc0) 13 r [u0] [y0] n [xs] i o K = bodyR n i r o (ldI xs i) (stepR13 r u0 y0 o) (tailR0 13 r [u0] [y0] n [xs] i K) (exR0 13 r [u0] [y0] n [xs] i o K) := by kernel_rfl
theorem g34_13 {A : Type} (r u0 y0 n i : Int) (o : Rs) (xs : List Int) (cs : List AV) (q : Nat) (K : Ex → St → Option A) : G34 (OT orc0) 13 r [u0] [y0] n [xs] i o cs q K = bodyR n i r o (ldI xs i) (stepR13 r u0 y0 o) (tailRG 13 r [u0] [y0] n [xs] i cs q K) (exRG 13 r [u0] [y0] n [xs] i o cs q K) := by kernel_rfl
theorem b34_14 {A : Type} (r y0 n i : Int) (o : Rs) (xs : List Int) (K : Ex → St → Option A) : B34 (OT orc0) 14 r [] [y0] n [xs] i o K = bodyR n i r o (ldI xs i) (stepR14 r y0 o) (tailR0 14 r [] [y0] n [xs] i K) (exR0 14 r [] [y0] n [xs] i o K) := by kernel_rfl
theorem g34_14 {A : Type} (r y0 n i : Int) (o : Rs) (xs : List Int) (cs : List AV) (q : Nat) (K : Ex → St → Option A) : G34 (OT orc0) 14 r [] [y0] n [xs] i o cs q K = bodyR n i r o (ldI xs i) (stepR14 r y0 o) (tailRG 14 r [] [y0] n [xs] i cs q K) (exRG 14 r [] [y0] n [xs] i o cs q K) := by kernel_rfl
theorem b34_15 {A : Type} (r y0 n i : Int) (o : Rs) (K : Ex → St → Option A) : B34 (OT orc0) 15 r [] [y0] n [] i o K = bodyR n i r o no0R (stepR15 r y0 o) (tailR0 15 r [] [y0] n [] i K) (exR0 15 r [] [y0] n [] i o K) := by kernel_rfl
theorem g34_15 {A : Type} (r y0 n i : Int) (o : Rs) (cs : List AV) (q : Nat) (K : Ex → St → Option A) : G34 (OT orc0) 15 r [] [y0] n [] i o cs q K = bodyR n i r o no0R (stepR15 r y0 o) (tailRG 15 r [] [y0] n [] i cs q K) (exRG 15 r [] [y0] n [] i o cs q K) := by kernel_rfl
end Go.Proofs.Ythlmbnhelkbchaa
