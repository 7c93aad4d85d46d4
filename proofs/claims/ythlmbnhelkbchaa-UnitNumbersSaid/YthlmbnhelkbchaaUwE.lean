/- UnitNumbers: unit.Envelope, as a fact. -/
import Derived.Test.YthlmbnhelkbchaaUwD
import Derived.Test.YthlmbnhelkbchaaUaA
namespace Go.Proofs.Ythlmbnhelkbchaa
open Go.Ev
set_option maxRecDepth 100000
def gOf (gs : List Int) (i : Nat) : Bool := decide (kM (gs.getD i 0) > 0)
theorem gOf_get {gs : List Int} {i : Nat} (h : i < gs.length) : decide (kM gs[i] > 0) = gOf gs i := by
  unfold gOf
  rw [List.getD_eq_getElem?_getD, List.getElem?_eq_getElem h]
  rfl
def soU (a d kp r : Int) (gs : List Int) (i : Nat) : St :=
  stU a d kp r gs (i : Int) (i : Int) (envN a d kp r (gOf gs) i).lv (envN a d kp r (gOf gs) i).st (envN a d kp r (gOf gs) i).lv (envN a d kp r (gOf gs) i).fr (envN a d kp r (gOf gs) i).g (.gr (23, 0) i 1) [(23, .cells true ((outs a d kp r (gOf gs) i).map int64))]
section
variable {a d kp r : Int} (h : envOk a d kp r = true) {gs : List Int} (hs : gs.length ≤ 20000)
include h hs
theorem firstU {A : Type} (h0 : 0 < gs.length) (K : Ex → St → Option A) :
    loopBF Try.prog (OE orc0) tb 46 8 [23] 19 (stU a d kp r gs 0 0 0 0 0 0 false (.sl none 0 0 true 0) []) K = K .normal (soU a d kp r gs 1) := by
  obtain ⟨a1, a2, d1, d2, k1, k2, r1, r2⟩ := envOk_iff.1 h
  rw [bU0]
  unfold bodyU0
  rw [decide_eq_true (by omega : (0 : Int) < (gs.length : Int)), cond_true]
  have := ldI_eq h0 (fun x => h3 x (-1099511627776) 1099511627776 <| envT a d kp r (decide (kM x > 0)) false 0 0 0 fun st lv from' => K .normal (stU a d kp r gs (IntKind.i64.wrap (0 + 1)) (IntKind.i64.wrap (0 + 1)) lv st lv from' (decide (kM x > 0)) (.gr (23, 0) 1 1) [(23, .cells true [int64 lv])]))
  refine this.trans ?_
  rw [h3_eq, gOf_get h0]
  obtain ⟨e1, e2⟩ := envT_eq a1 d1 r1 (gOf gs 0) (envN a d kp r (gOf gs) 0) (kp := kp) (fun st lv from' => K .normal (stU a d kp r gs (IntKind.i64.wrap (0 + 1)) (IntKind.i64.wrap (0 + 1)) lv st lv from' (gOf gs 0) (.gr (23, 0) 1 1) [(23, .cells true [int64 lv])]))
  refine e1.trans ?_
  have e3 : (envN a d kp r (gOf gs) 1).g = gOf gs 0 := e2
  unfold soU
  rw [e3]
  rfl
theorem nextU {A : Type} {i : Nat} (h0 : 0 < i) (hi : i < gs.length) (K : Ex → St → Option A) :
    loopBF Try.prog (OE orc0) tb 46 8 [23] 19 (soU a d kp r gs i) K = K .normal (soU a d kp r gs (i + 1)) := by
  obtain ⟨a1, a2, d1, d2, k1, k2, r1, r2⟩ := envOk_iff.1 h
  obtain ⟨m, rfl⟩ : ∃ m, i = m + 1 := ⟨i - 1, by omega⟩
  unfold soU
  rw [bU]
  unfold bodyU
  rw [decide_eq_true (by omega : ((m + 1 : Nat) : Int) < (gs.length : Int)), cond_true, ldI_eq hi, h3_eq, gOf_get hi]
  obtain ⟨e1, e2⟩ := envT_eq a1 d1 r1 (gOf gs (m + 1)) (envN a d kp r (gOf gs) (m + 1)) (kp := kp) (fun st lv from' =>
    guardK (Nat.ble ((m + 1 + 1) * 8) limit && Nat.ble (m + 1 + 1) limit) <| guardK (Nat.ble (0 + (m + 1) * 1) (lenA ((outs a d kp r (gOf gs) (m + 1)).map int64))) <| guardK (allS (appA (takeA (dropA ((outs a d kp r (gOf gs) (m + 1)).map int64) 0) ((m + 1) * 1)) [int64 lv]) && true) <|
    K .normal (stU a d kp r gs (IntKind.i64.wrap (((m + 1 : Nat) : Int) + 1)) (IntKind.i64.wrap (((m + 1 : Nat) : Int) + 1)) lv st lv from' (gOf gs (m + 1)) (.gr (23, 0) (m + 1 + 1) 1) [(23, .cells true (appA (takeA (dropA ((outs a d kp r (gOf gs) (m + 1)).map int64) 0) ((m + 1) * 1)) [int64 lv]))]))
  refine e1.trans ?_
  have e3 : (envN a d kp r (gOf gs) (m + 1 + 1)).g = gOf gs (m + 1) := e2
  have e4 : Nat.ble (0 + (m + 1) * 1) (m + 1) = true := Nat.ble_eq_true_of_le (by omega)
  rw [grow_ints (outs_len _ _ _ _ _ _), allS_ints, lenM, outs_len, limit_ok (by omega), e4, wrapN (by omega), outs_succ a d kp r (gOf gs) (m + 1), e3]
  rfl
theorem loopU : ∀ (k i n : Nat), i + k = gs.length → k < n → 0 < i → loopN (loopBF Try.prog (OE orc0) tb 46 8 [23] 19) n (soU a d kp r gs i) pairE = some (.exit 0, soU a d kp r gs gs.length) := by
  intro k
  induction k with
  | zero =>
    intro i n hi hn h0
    obtain ⟨n, rfl⟩ : ∃ m, n = m + 1 := ⟨n - 1, by omega⟩
    have hi : i = gs.length := by omega
    obtain ⟨m, hm⟩ : ∃ m, gs.length = m + 1 := ⟨gs.length - 1, by omega⟩
    rw [hi, loopN_succ]
    unfold soU
    rw [hm, bU]
    unfold bodyU
    rw [decide_eq_false (by omega : ¬ (((m + 1 : Nat) : Int) < (gs.length : Int))), allS_ints]
    rfl
  | succ k ih =>
    intro i n hi hn h0
    obtain ⟨n, rfl⟩ : ∃ m, n = m + 1 := ⟨n - 1, by omega⟩
    rw [loopN_succ, nextU h hs h0 (by omega)]
    exact ih (i + 1) n (by omega) (by omega) (by omega)
theorem loopU_all (h0 : 0 < gs.length) : loopN (loopBF Try.prog (OE orc0) tb 46 8 [23] 19) rounds (stU a d kp r gs 0 0 0 0 0 0 false (.sl none 0 0 true 0) []) pairE = some (.exit 0, soU a d kp r gs gs.length) := by
  obtain ⟨n, hn⟩ : ∃ n, rounds = n + 1 := ⟨99999999999999999999, rfl⟩
  have hr : rounds = 100000000000000000000 := rfl
  rw [hn, loopN_succ, firstU h hs h0]
  exact loopU h hs (gs.length - 1) 1 n (by omega) (by omega) (by omega)
end
theorem loopU_nil {a d kp r : Int} : loopN (loopBF Try.prog (OE orc0) tb 46 8 [23] 19) rounds (stU a d kp r [] 0 0 0 0 0 0 false (.sl none 0 0 true 0) []) pairE = some (.exit 0, stU a d kp r [] 0 0 0 0 0 0 false (.sl none 0 0 true 0) []) := by
  obtain ⟨n, hn⟩ : ∃ n, rounds = n + 1 := ⟨99999999999999999999, rfl⟩
  rw [hn, loopN_succ, bU0]
  rfl
def NU : Norm := ⟨[2, 6, 7, 8, 10, 26, 27, 28], []⟩
noncomputable def SW (a d kp r : Int) (v : Bool) (S : Orc) : Orc := knowC Try.prog 13 [unitV 6 3 [0] [a, d, kp, r]] (.bool v) (knowC Try.prog 29 [unitV 6 3 [0] [a, d, kp, r]] (.bool v) S)
noncomputable def SU (a d kp r : Int) (gs : List Int) (s1 : St) : Orc := SW a d kp r true (knowLF Try.prog 46 8 NU [23] 19 (stU a d kp r gs 0 0 0 0 0 0 false (.sl none 0 0 true 0) []) (.exit 0) s1 orc0)
noncomputable abbrev U {A : Type} (a d kp r : Int) (x : Option A) : Option A := bif same [unitV 6 3 [0] [a, d, kp, r]] [unitV 6 3 [0] [a, d, kp, r]] then x else none
noncomputable abbrev Z {A : Type} (l : List Int) (x : Option A) : Option A := bif sameV (ints l) (ints l) then x else none
theorem run14 (a d kp r : Int) (g0 : Int) (gs : List Int) (fr told st lv from' : Int) (g : Bool) (cs : List AV) (m : Nat) :
    evCall Try.prog (SU a d kp r (g0 :: gs) (stU a d kp r (g0 :: gs) ((g0 :: gs).length : Int) fr told st lv from' g (.gr (23, 0) (m + 1) 1) [(23, .cells true cs)])) tb 100 AV (.fn 14) [ints [a, d, kp, r], ints (g0 :: gs)] (mkHeap [] 0) .off (viewK Try.prog (resOf Try.prog 14)) = (
    U a d kp r <| bif decide (((g0 :: gs).length : Int) > 20000) then some (.tup [ints [], int64 4]) else U a d kp r <| Z [a, d, kp, r] <|
    bif sameSt (stU a d kp r (g0 :: gs) 0 0 0 0 0 0 false (.sl none 0 0 true 0) []) (stU a d kp r (g0 :: gs) 0 0 0 0 0 0 false (.sl none 0 0 true 0) []) then guardK (allS (dropA cs 0) && true) (some (.tup [.fz (fixLen ((m + 1) * 1) (dropA cs 0)) (m + 1) false 1, int64 0])) else none) := by kernel_rfl
theorem run14_nil (a d kp r : Int) :
    evCall Try.prog (SU a d kp r [] (stU a d kp r [] 0 0 0 0 0 0 false (.sl none 0 0 true 0) [])) tb 100 AV (.fn 14) [ints [a, d, kp, r], ints []] (mkHeap [] 0) .off (viewK Try.prog (resOf Try.prog 14)) = (
    U a d kp r <| U a d kp r <| Z [a, d, kp, r] <|
    bif sameSt (stU a d kp r [] 0 0 0 0 0 0 false (.sl none 0 0 true 0) []) (stU a d kp r [] 0 0 0 0 0 0 false (.sl none 0 0 true 0) []) then some (.tup [ints [], int64 0]) else none) := by kernel_rfl
/-- It is refused, or there is too much. -/
theorem run14_no (xs gs : List Int) : evCall Try.prog (knowC Try.prog 29 [unitV 6 3 [0] xs] (.bool false) orc0) tb 100 AV (.fn 14) [ints xs, ints gs] (mkHeap [] 0) .off (viewK Try.prog (resOf Try.prog 14)) =
    bif same [unitV 6 3 [0] xs] [unitV 6 3 [0] xs] then some (.tup [ints [], int64 1]) else none := by kernel_rfl
theorem run14_big (a d kp r : Int) (gs : List Int) : evCall Try.prog (knowC Try.prog 29 [unitV 6 3 [0] [a, d, kp, r]] (.bool true) (stopAt 46 [3] orc0)) tb 100 AV (.fn 14) [ints [a, d, kp, r], ints gs] (mkHeap [] 0) .off (viewK Try.prog (resOf Try.prog 14)) = (
    U a d kp r <| bif decide ((gs.length : Int) > 20000) then some (.tup [ints [], int64 4]) else none) := by kernel_rfl
theorem unit_now (f : FuncId) (hp : parsOf Try.prog f = [26]) (xs : List Int) : vwArgs Try.prog [] none0 (parsOf Try.prog f) [unitV 6 3 [0] xs] = [unitV 6 3 [0] xs] := by
  rw [hp]
  kernel_rfl
theorem SW_ok {a d kp r : Int} {v : Bool} (hv : envOk a d kp r = v) {S : Orc} (hS : Ok S) : Ok (SW a d kp r v S) := by
  obtain ⟨f29, f13⟩ := env_valid a d kp r
  rw [hv] at f29 f13
  exact knowC_ok tbOk (f13.now (unit_now 13 (by kernel_rfl) _)) (knowC_ok tbOk (f29.now (unit_now 29 (by kernel_rfl) _)) hS)
theorem sameL_ints (xs : List Int) : sameL (xs.map int64) (xs.map int64) = true := by
  induction xs with
  | nil => rfl
  | cons x xs ih => simp [sameL, sameF, int64, ih]
theorem sameV_ints (xs : List Int) : sameV (ints xs) (ints xs) = true := by
  simp [sameV, sameF, ints, sameL_ints]
/-- A unit of an envelope whose numbers are not four, or out of their bounds, is no unit. -/
theorem no_unit {xs : List Int} (h : ∀ a d kp r, xs = [a, d, kp, r] → envOk a d kp r = false) : F 29 [unitV 6 3 [0] xs] (.bool false) ∧ F 13 [unitV 6 3 [0] xs] (.bool false) := by
  by_cases hl : xs.length = 4
  · rcases xs with _ | ⟨a, _ | ⟨d, _ | ⟨kp, _ | ⟨r, _ | ⟨_, _⟩⟩⟩⟩⟩ <;> simp at hl
    have := env_valid a d kp r
    rw [h a d kp r rfl] at this
    exact this
  · refine ⟨.of (stopAt_ok ok0) rfl fun h => (m29_6 3 [0] xs h).trans (ch_none _ ?_), .of (stopAt_ok ok0) rfl fun h => (m13_6 3 [0] xs h).trans (ch_none _ ?_)⟩ <;>
      (rw [← Bool.not_eq_true]
       simp only [allc, Bool.and_true, Bool.and_eq_true, Bool.not_eq_true', decide_eq_false_iff_not, Bool.not_not, decide_eq_true_eq, beq_iff_eq]
       omega)
theorem args14 (xs gs : List Int) : vwArgs Try.prog [] none0 (parsOf Try.prog 14) [ints xs, ints gs] = [ints xs, ints gs] := by kernel_rfl
theorem N46_count : Nat.ble (countL 8 e46.code) 1 = true := by kernel_rfl
theorem N46_norm : loopN0 tb 46 8 = some NU := by kernel_rfl
/-- What unit.Envelope tells. -/
theorem env_fact {a d kp r : Int} (h : envOk a d kp r = true) {gs : List Int} (hs : gs.length ≤ 20000) : FFact Try.prog tb 14 [ints [a, d, kp, r], ints gs] (.tup [ints (outs a d kp r (gOf gs) gs.length), int64 0]) := by
  refine ⟨args14 _ gs, ?_⟩
  cases gs with
  | nil =>
    refine ⟨_, SW_ok h (knowLF_ok (fl := [23]) tbOk (LFact.flat (OE_ok ok0) loopU_nil) ok0 (ep := e46) rfl N46_norm N46_count), (run14_nil a d kp r).trans ?_⟩
    simp only [U, Z, same_self, sameSt_self, sameV_ints, cond_true]
    rfl
  | cons g0 gs =>
    obtain ⟨m, hm⟩ : ∃ m, (g0 :: gs).length = m + 1 := ⟨gs.length, rfl⟩
    refine ⟨_, SW_ok h (knowLF_ok (fl := [23]) tbOk (LFact.flat (OE_ok ok0) (loopU_all h hs (by simp))) ok0 (ep := e46) rfl N46_norm N46_count), ?_⟩
    have e := run14 a d kp r g0 gs ((g0 :: gs).length : Int) (envN a d kp r (gOf (g0 :: gs)) (g0 :: gs).length).lv (envN a d kp r (gOf (g0 :: gs)) (g0 :: gs).length).st (envN a d kp r (gOf (g0 :: gs)) (g0 :: gs).length).lv (envN a d kp r (gOf (g0 :: gs)) (g0 :: gs).length).fr (envN a d kp r (gOf (g0 :: gs)) (g0 :: gs).length).g ((outs a d kp r (gOf (g0 :: gs)) (g0 :: gs).length).map int64) m
    rw [← hm] at e
    refine Eq.trans rfl (e.trans ?_)
    simp only [U, Z, same_self, sameSt_self, sameV_ints, cond_true]
    have e2 : allS (dropA ((outs a d kp r (gOf (g0 :: gs)) (g0 :: gs).length).map int64) 0) = true := by rw [dropA_eq, List.drop_zero, allS_ints]
    have e3 := fix_ints (outs a d kp r (gOf (g0 :: gs)) (g0 :: gs).length)
    rw [outs_len] at e3
    rw [decide_eq_false (by omega : ¬ (((g0 :: gs).length : Int) > 20000)), e2, e3]
    simp only [cond_false, cond_true, guardK, Bool.and_self]
    unfold ints
    rw [outs_len]
end Go.Proofs.Ythlmbnhelkbchaa
