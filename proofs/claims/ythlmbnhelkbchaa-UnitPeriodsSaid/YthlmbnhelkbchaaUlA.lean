/- UnitLows: the loop of 'listed' for a low, in closed form. -/
import Derived.Test.YthlmbnhelkbchaaUpB
import Derived.Test.YthlmbnhelkbchaaEvZ1
namespace Go.Proofs.Ythlmbnhelkbchaa
open Go.Ev
set_option maxRecDepth 100000
noncomputable def OL (S : Orc) : Orc := addF 29 (locC Try.prog S tb 29) (knowW 73 (fun a => isSo (isN3 a)) V73 (knowW 68 (fun a => isSo (is68 a)) V68 S))
abbrev MM : Int := 1099511627776
def kMl (n : Int) : Int := kept n (-1099511627776) 1099511627776
def lowP (x w last : Int) : Int := w64 (w64 (kMl x - last) * kept (kMl w) 0 65536)
def lowV (x w last : Int) : Int := kMl (w64 (last + round1 (lowP x w last)))
def blk46 (w fr told last : Int) : List (Nat × Blk) := [(16, .cells true [int64 0, int64 7, int64 3, .gr (15, 0) 2 1, .sl none 0 0 true 0, int64 fr, int64 told, int64 0, int64 0, int64 last, .sl none 0 0 true 0, int64 0, int64 0, int64 0, .bool false]),
  (15, .cells true [int64 0, int64 0]), (14, .cells true []), (3, .cells true [int64 7, int64 3, .gr (15, 0) 2 1, .sl none 0 0 true 0]), (2, .cells true [int64 7, int64 3, .sl (some (0, 0)) 2 2 true 1, .sl none 0 0 true 0]), (1, .cells true [int64 w]), (0, .cells true [int64 0, int64 0])]
def st46 (w : Int) (xs : List Int) (i fr told last : Int) (o : AV) (l : List (Nat × Blk)) : St := ⟨[.dead, .dead, .sl (some (1, 0)) 1 1 true 1, .dead, .dead, .dead, .dead, .dead, .ptr (some (16, 0)), .dead, o] ++ repA .dead 15 ++ [ints xs, int64 (xs.length : Int), int64 i] ++ repA .dead 18, mkHeap (l ++ blk46 w fr told last) 25, [], .off⟩
def El {A : Type} (n : Int) (y : Option A) : Option A := bif n == n then y else none
noncomputable def h3l {A : Type} (x lo hi : Int) (y : Option A) : Option A := bif isSo (isN3 [int64 x, int64 lo, int64 hi]) then y else none
noncomputable def h68 {A : Type} (x : Int) (y : Option A) : Option A := bif isSo (is68 [int64 x, int64 65536]) then y else none
noncomputable def step46 {A : Type} (x w last : Int) (k : Int → Option A) : Option A :=
  h3l x (-1099511627776) 1099511627776 <| h3l w (-1099511627776) 1099511627776 <|
  h3l (kMl w) 0 65536 <| El last <| El (kMl x) <| El last <| h68 (lowP x w last) <| El last <| h3l (w64 (last + round1 (lowP x w last))) (-1099511627776) 1099511627776 <| k (lowV x w last)
theorem step46_eq {A : Type} (x w last : Int) (k : Int → Option A) : step46 x w last k = k (lowV x w last) := by
  have h : ∀ (x lo hi : Int) (y : Option A), h3l x lo hi y = y := fun x lo hi y => by unfold h3l; rw [isSo_true ⟨_, _, _, rfl⟩]; rfl
  have h' : ∀ (x : Int) (y : Option A), h68 x y = y := fun x y => by unfold h68; rw [isSo_true ⟨_, rfl⟩]; rfl
  have e : ∀ (n : Int) (y : Option A), El n y = y := fun n y => by unfold El; rw [beq_self_eq_true]; rfl
  unfold step46
  simp only [h, h', e]
noncomputable def body46 {A : Type} (w : Int) (xs : List Int) (i fr told last : Int) (cs : List AV) (m : Nat) (K : Ex → St → Option A) : Option A :=
  bif decide (i < (xs.length : Int)) then
    ldI xs i fun x => step46 x w last fun v =>
    guardK (Nat.ble ((m + 1 + 1) * 8) limit && Nat.ble (m + 1 + 1) limit) <| guardK (Nat.ble (0 + (m + 1) * 1) (lenA cs)) <| guardK (allS (appA (takeA (dropA cs 0) ((m + 1) * 1)) [int64 v]) && true) <|
    K .normal (st46 w xs (IntKind.i64.wrap (i + 1)) (IntKind.i64.wrap (fr + 1)) v v (.gr (21, 0) (m + 1 + 1) 1) [(21, .cells true (appA (takeA (dropA cs 0) ((m + 1) * 1)) [int64 v]))])
  else guardK (allS cs && true) (K (.exit 0) (st46 w xs i fr told last (.gr (21, 0) (m + 1) 1) [(21, .cells true cs)]))
theorem b46 {A : Type} (w : Int) (xs : List Int) (i fr told last : Int) (cs : List AV) (m : Nat) (K : Ex → St → Option A) :
    loopBF Try.prog (OL orc0) tb 46 8 [21] 17 (st46 w xs i fr told last (.gr (21, 0) (m + 1) 1) [(21, .cells true cs)]) K = body46 w xs i fr told last cs m K := by kernel_rfl
theorem b46_0 {A : Type} (w : Int) (xs : List Int) (i fr told last : Int) (K : Ex → St → Option A) :
    loopBF Try.prog (OL orc0) tb 46 8 [21] 17 (st46 w xs i fr told last (.sl none 0 0 true 0) []) K =
    bif decide (i < (xs.length : Int)) then
      ldI xs i fun x => step46 x w last fun v => K .normal (st46 w xs (IntKind.i64.wrap (i + 1)) (IntKind.i64.wrap (fr + 1)) v v (.gr (21, 0) 1 1) [(21, .cells true [int64 v])])
    else K (.exit 0) (st46 w xs i fr told last (.sl none 0 0 true 0) []) := by kernel_rfl
/-- What a low tells from a last number on. -/
def lows (w : Int) : Int → List Int → List Int
  | _, [] => []
  | last, x :: xs => lowV x w last :: lows w (lowV x w last) xs
def lastL (w : Int) : Int → List Int → Int
  | last, [] => last
  | last, x :: xs => lastL w (lowV x w last) xs
/-- The loop, behind its first round. -/
def so46 (w : Int) (xs : List Int) (i : Nat) (last : Int) (os : List Int) : St := st46 w xs (i : Int) (i : Int) last last (.gr (21, 0) os.length 1) [(21, .cells true (os.map int64))]
theorem loop46 {w : Int} {xs : List Int} (hm : xs.length ≤ 20000) : ∀ (d i n : Nat) (last : Int) (os : List Int), i + d = xs.length → d < n → os.length = i → 0 < i →
    loopN (loopBF Try.prog (OL orc0) tb 46 8 [21] 17) n (so46 w xs i last os) pairE = some (.exit 0, so46 w xs xs.length (lastL w last (xs.drop i)) (os ++ lows w last (xs.drop i))) := by
  intro d
  induction d with
  | zero =>
    intro i n last os hi hn ho h0
    obtain ⟨n, rfl⟩ : ∃ m, n = m + 1 := ⟨n - 1, by omega⟩
    obtain ⟨m, hom⟩ : ∃ m, os.length = m + 1 := ⟨os.length - 1, by omega⟩
    have hi : i = xs.length := by omega
    subst hi
    rw [loopN_succ]
    unfold so46
    rw [hom, b46]
    unfold body46
    rw [decide_eq_false (by omega : ¬ ((xs.length : Int) < (xs.length : Int))), List.drop_eq_nil_of_le (Nat.le_refl _)]
    simp only [allS_ints, Bool.and_self, guardK, cond_true, cond_false, lastL, lows, List.append_nil, hom]
    rfl
  | succ d ih =>
    intro i n last os hi hn ho h0
    obtain ⟨n, rfl⟩ : ∃ m, n = m + 1 := ⟨n - 1, by omega⟩
    obtain ⟨m, hom⟩ : ∃ m, os.length = m + 1 := ⟨os.length - 1, by omega⟩
    have hx : i < xs.length := by omega
    have ih' := ih (i + 1) n (lowV xs[i] w last) (os ++ [lowV xs[i] w last]) (by omega) (by omega) (by simp; omega) (by omega)
    rw [loopN_succ]
    unfold so46 at ih' ⊢
    rw [hom, b46]
    unfold body46
    rw [decide_eq_true (by omega : (i : Int) < (xs.length : Int)), cond_true, ldI_eq hx, step46_eq, limit_ok (by omega), grow_ints hom, allS_ints, lenM, hom, wrapN (by omega)]
    have e : Nat.ble (0 + (m + 1) * 1) (m + 1) = true := Nat.ble_eq_true_of_le (by omega)
    simp only [e, Bool.and_self, guardK, cond_true]
    rw [List.drop_eq_getElem_cons hx]
    simp only [lastL, lows]
    rw [List.append_cons os (lowV xs[i] w last) (lows w (lowV xs[i] w last) (List.drop (i + 1) xs))]
    have e2 : (os ++ [lowV xs[i] w last]).length = m + 1 + 1 := by simp [hom]
    rw [e2] at ih'
    exact ih'
theorem first46 {A : Type} (w x : Int) (xs : List Int) (K : Ex → St → Option A) :
    loopBF Try.prog (OL orc0) tb 46 8 [21] 17 (st46 w (x :: xs) 0 0 0 0 (.sl none 0 0 true 0) []) K = K .normal (so46 w (x :: xs) 1 (lowV x w 0) [lowV x w 0]) := by
  have h0 : (0 : Int) < ((x :: xs).length : Int) := by simp only [List.length_cons]; omega
  rw [b46_0, decide_eq_true h0, cond_true]
  have hx : 0 < (x :: xs).length := by simp
  have := ldI_eq hx (fun x' => step46 x' w 0 fun v => K .normal (st46 w (x :: xs) (IntKind.i64.wrap (0 + 1)) (IntKind.i64.wrap (0 + 1)) v v (.gr (21, 0) 1 1) [(21, .cells true [int64 v])]))
  refine this.trans ?_
  rw [step46_eq]
  rfl
theorem loop46_all {w x : Int} {xs : List Int} (hm : (x :: xs).length ≤ 20000) :
    loopN (loopBF Try.prog (OL orc0) tb 46 8 [21] 17) rounds (st46 w (x :: xs) 0 0 0 0 (.sl none 0 0 true 0) []) pairE = some (.exit 0, so46 w (x :: xs) (x :: xs).length (lastL w 0 (x :: xs)) (lows w 0 (x :: xs))) := by
  obtain ⟨n, hn⟩ : ∃ n, rounds = n + 1 := ⟨99999999999999999999, rfl⟩
  have hr : rounds = 100000000000000000000 := rfl
  have hl := loop46 (w := w) hm xs.length 1 n (lowV x w 0) [lowV x w 0] (by simp only [List.length_cons]; omega) (by simp only [List.length_cons] at hm; omega) rfl (by omega)
  rw [hn, loopN_succ, first46]
  exact hl
theorem loop46_nil {w : Int} : loopN (loopBF Try.prog (OL orc0) tb 46 8 [21] 17) rounds (st46 w [] 0 0 0 0 (.sl none 0 0 true 0) []) pairE = some (.exit 0, st46 w [] 0 0 0 0 (.sl none 0 0 true 0) []) := by
  obtain ⟨n, hn⟩ : ∃ n, rounds = n + 1 := ⟨99999999999999999999, rfl⟩
  rw [hn, loopN_succ, b46_0]
  rfl
theorem OL_ok {S : Orc} (h : Ok S) : Ok (OL S) := addF_ok (fnSim_locC tbOk h 29) (natF_locC 29) (knowW_ok tbOk when73 (knowW_ok tbOk when68 h))
def N46 : Norm := ⟨[2, 6, 7, 8, 10, 26, 27, 28], []⟩
noncomputable def S15 (w : Int) (xs : List Int) (s1 : St) : Orc := knowLF Try.prog 46 8 N46 [21] 17 (st46 w xs 0 0 0 0 (.sl none 0 0 true 0) []) (.exit 0) s1 (OL orc0)
theorem count46 : Nat.ble (countL 8 e46.code) 1 = true := by kernel_rfl
theorem norm46 : loopN0 tb 46 8 = some N46 := by kernel_rfl
theorem S15_ok {w : Int} {xs : List Int} {s1 : St} (h : loopN (loopBF Try.prog (OL orc0) tb 46 8 [21] 17) rounds (st46 w xs 0 0 0 0 (.sl none 0 0 true 0) []) pairE = some (.exit 0, s1)) : Ok (S15 w xs s1) :=
  knowLF_ok tbOk (LFact.flat (OL_ok ok0) h) (OL_ok ok0) (ep := e46) rfl norm46 count46
theorem run15 (w x last : Int) (xs : List Int) (cs : List AV) (m : Nat) :
    evCall Try.prog (S15 w (x :: xs) (st46 w (x :: xs) ((x :: xs).length : Int) ((x :: xs).length : Int) last last (.gr (21, 0) (m + 1) 1) [(21, .cells true cs)])) tb 100 AV (.fn 15) [int64 w, ints (x :: xs)] (mkHeap [] 0) .off (viewK Try.prog (resOf Try.prog 15)) =
    bif decide (((x :: xs).length : Int) > 20000) then some (.tup [.fz [] 0 false 1, int64 4]) else bif sameSt (st46 w (x :: xs) 0 0 0 0 (.sl none 0 0 true 0) []) (st46 w (x :: xs) 0 0 0 0 (.sl none 0 0 true 0) []) then guardK (allS (dropA cs 0) && true) (some (.tup [.fz (fixLen ((m + 1) * 1) (dropA cs 0)) (m + 1) false 1, int64 0])) else none := by kernel_rfl
theorem run15_nil (w : Int) :
    evCall Try.prog (S15 w [] (st46 w [] 0 0 0 0 (.sl none 0 0 true 0) [])) tb 100 AV (.fn 15) [int64 w, ints []] (mkHeap [] 0) .off (viewK Try.prog (resOf Try.prog 15)) =
    bif sameSt (st46 w [] 0 0 0 0 (.sl none 0 0 true 0) []) (st46 w [] 0 0 0 0 (.sl none 0 0 true 0) []) then some (.tup [.fz [] 0 false 1, int64 0]) else none := by kernel_rfl
theorem args15 (w : Int) (xs : List Int) : vwArgs Try.prog [] none0 (parsOf Try.prog 15) [int64 w, ints xs] = [int64 w, ints xs] := by kernel_rfl
theorem lows_len (w : Int) : ∀ (xs : List Int) (last : Int), (lows w last xs).length = xs.length
  | [], _ => rfl
  | x :: xs, _ => by simp only [lows, List.length_cons, lows_len w xs]
/-- What unit.Low tells. -/
theorem low_fact {w : Int} {xs : List Int} (hm : xs.length ≤ 20000) : FFact Try.prog tb 15 [int64 w, ints xs] (.tup [ints (lows w 0 xs), int64 0]) := by
  refine ⟨args15 w xs, ?_⟩
  cases xs with
  | nil => exact ⟨_, S15_ok loop46_nil, by rw [run15_nil, sameSt_self]; rfl⟩
  | cons x xs =>
    refine ⟨_, S15_ok (loop46_all (w := w) hm), ?_⟩
    unfold so46
    have hl : (lows w 0 (x :: xs)).length = xs.length + 1 := by rw [lows_len]; rfl
    rw [hl, run15, sameSt_self, decide_eq_false (by omega : ¬ (((x :: xs).length : Int) > 20000))]
    have e := fix_ints (lows w 0 (x :: xs))
    rw [hl] at e
    have e2 : allS (dropA ((lows w 0 (x :: xs)).map int64) 0) = true := by rw [dropA_eq, List.drop_zero, allS_ints]
    rw [e, e2]
    simp only [cond_false, cond_true, guardK, Bool.and_self]
    unfold ints
    rw [hl]
end Go.Proofs.Ythlmbnhelkbchaa
