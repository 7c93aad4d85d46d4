/- What Plain tells: facts. -/
import Derived.Test.YthlmbnhelkbchaaUqD
import Derived.Test.YthlmbnhelkbchaaUaA
namespace Go.Proofs.Ythlmbnhelkbchaa
open Go.Ev
set_option maxRecDepth 100000
theorem U_eq {A : Type} (u : AV) (x : Option A) : U u x = x := by simp only [U, same_self, cond_true]
theorem C_eq {A : Type} (y : Int) (l : List Int) (h : l.length ≤ 1000000) (x : Option A) : C (y :: l) x = x := by
  have : isSo (is49 [ints (y :: l)]) = true := isSo_true ⟨y, l, rfl, h⟩
  simp only [C, this, cond_true]
theorem sameL_ints (xs : List Int) : sameL (xs.map int64) (xs.map int64) = true := by
  induction xs with
  | nil => rfl
  | cons x xs ih => simp [sameL, sameF, int64, ih]
theorem Z_eq {A : Type} (l : List Int) (x : Option A) : Z l x = x := by
  have : sameV (ints l) (ints l) = true := by simp [sameV, sameF, ints, sameL_ints]
  simp only [Z, this, cond_true]
theorem h3l_eq {A : Type} (x lo hi : Int) (y : Option A) : h3l x lo hi y = y := by unfold h3l; rw [isSo_true ⟨_, _, _, rfl⟩]; rfl
theorem gk2_eq {A : Type} (x y : Int) (z : Option A) : gk2 x y z = z := by simp only [gk2]; rw [isSo_true ⟨_, _, rfl⟩]; rfl
theorem num_b (x : Int) : -1099511627776 ≤ num x ∧ num x ≤ 1099511627776 := by
  rw [num_eq]
  obtain ⟨a, b, _⟩ := kept_b x (-1099511627776) 1099511627776 (by omega)
  exact ⟨a, b⟩
theorem gk77_eq {A : Type} (x y : Int) (z : Option A) : gk77 (num x) (num y) z = z := by
  simp only [gk77]
  rw [isSo_true ⟨_, _, rfl, (num_b x).1, (num_b x).2, (num_b y).1, (num_b y).2⟩]
  rfl
theorem into_kept (n lo hi : Int) (h : lo ≤ hi) : into n lo hi = kept n lo hi := by
  unfold into kept maxI minI
  by_cases h1 : n < lo
  · rw [decide_eq_true h1, cond_true]
    split <;> split <;> omega
  · rw [decide_eq_false h1, cond_false]
    by_cases h2 : n > hi
    · rw [decide_eq_true h2, cond_true]
      split <;> split <;> omega
    · rw [decide_eq_false h2, cond_false]
      split <;> split <;> omega
theorem unit_nowU (f : FuncId) (hp : parsOf Try.prog f = [26]) (k r : Int) (xs ys : List Int) : vwArgs Try.prog [] none0 (parsOf Try.prog f) [unitV k r xs ys] = [unitV k r xs ys] := by
  rw [hp]
  kernel_rfl
theorem SK_ok {k r : Int} {xs ys : List Int} {v : Bool} (f29 : F 29 [unitV k r xs ys] (.bool v)) (f13 : F 13 [unitV k r xs ys] (.bool v)) {S : Orc} (hS : Ok S) : Ok (SK (unitV k r xs ys) v S) :=
  knowC_ok tbOk (f29.now (unit_nowU 29 (by kernel_rfl) _ _ _ _)) (knowC_ok tbOk (f13.now (unit_nowU 13 (by kernel_rfl) _ _ _ _)) (OC_ok hS))
/-- It is no unit without memory, or not asked as it is to be. -/
def NoP (k r : Int) (xs ys zs : List Int) : Prop := ∃ e, F 37 [unitV k r xs ys, ints zs] (.tup [int64 0, .bool false, int64 e]) ∧ F 38 [unitV k r xs ys, ints zs] (.tup [int64 0, .bool false, int64 e])
/-- It is one, and tells so. -/
def YesP (k r : Int) (xs ys zs : List Int) (n : Int) : Prop := F 29 [unitV k r xs ys] (.bool true) ∧ F 37 [unitV k r xs ys, ints zs] (.tup [int64 n, .bool true, int64 0]) ∧ F 38 [unitV k r xs ys, ints zs] (.tup [int64 n, .bool true, int64 0])
theorem no_P (k r : Int) (xs ys zs : List Int) (f29 : F 29 [unitV k r xs ys] (.bool false)) (f13 : F 13 [unitV k r xs ys] (.bool false)) : NoP k r xs ys zs :=
  ⟨1, .of (SK_ok f29 f13 ok0) rfl fun h => (f37_no k r xs ys zs h).trans (U_eq _ _), .of (SK_ok f29 f13 ok0) rfl fun h => (f38_no k r xs ys zs h).trans (U_eq _ _)⟩
theorem bad_1 (r : Int) (x0 : Int) (zs : List Int) (f29 : F 29 [unitV 1 r [x0] []] (.bool true)) (f13 : F 13 [unitV 1 r [x0] []] (.bool true)) (hz : zs.length ≠ 1) : NoP 1 r [x0] [] zs := by
  have e : (!((zs.length : Int) == 1)) = true := by simp only [Bool.not_eq_true', beq_eq_false_iff_ne]; omega
  refine ⟨11, .of (SK_ok f29 f13 ok0) rfl fun h => (z37_1 r x0 zs h).trans ?_, .of (SK_ok f29 f13 ok0) rfl fun h => (z38_1 r x0 zs h).trans ?_⟩
  · simp only [U_eq, Z_eq, C_eq x0 [] (by simp), e, cond_true]
  · simp only [U_eq, e, cond_true]
theorem off_1 (r : Int) (x0 : Int) (zs : List Int) (f29 : F 29 [unitV 1 r [x0] []] (.bool true)) (f13 : F 13 [unitV 1 r [x0] []] (.bool true)) (hz : zs.length = 1) : NoP 1 r [x0] [] zs := by
  have e : (!((zs.length : Int) == 1)) = false := by simp [hz]
  refine ⟨0, .of (SK_ok f29 f13 ok0) rfl fun h => (z37_1 r x0 zs h).trans ?_, .of (SK_ok f29 f13 ok0) rfl fun h => (z38_1 r x0 zs h).trans ?_⟩
  · simp only [U_eq, Z_eq, C_eq x0 [] (by simp), e, cond_false]
  · simp only [U_eq, e, cond_false]
theorem bad_2 (r : Int) (x0 x1 : Int) (zs : List Int) (f29 : F 29 [unitV 2 r [x0, x1] []] (.bool true)) (f13 : F 13 [unitV 2 r [x0, x1] []] (.bool true)) (hz : zs.length ≠ 2) : NoP 2 r [x0, x1] [] zs := by
  have e : (!((zs.length : Int) == 2)) = true := by simp only [Bool.not_eq_true', beq_eq_false_iff_ne]; omega
  refine ⟨11, .of (SK_ok f29 f13 ok0) rfl fun h => (z37_2 r x0 x1 zs h).trans ?_, .of (SK_ok f29 f13 ok0) rfl fun h => (z38_2 r x0 x1 zs h).trans ?_⟩
  · simp only [U_eq, Z_eq, C_eq x0 [x1] (by simp), e, cond_true]
  · simp only [U_eq, e, cond_true]
theorem off_2 (r : Int) (x0 x1 : Int) (zs : List Int) (f29 : F 29 [unitV 2 r [x0, x1] []] (.bool true)) (f13 : F 13 [unitV 2 r [x0, x1] []] (.bool true)) (hz : zs.length = 2) : NoP 2 r [x0, x1] [] zs := by
  have e : (!((zs.length : Int) == 2)) = false := by simp [hz]
  refine ⟨0, .of (SK_ok f29 f13 ok0) rfl fun h => (z37_2 r x0 x1 zs h).trans ?_, .of (SK_ok f29 f13 ok0) rfl fun h => (z38_2 r x0 x1 zs h).trans ?_⟩
  · simp only [U_eq, Z_eq, C_eq x0 [x1] (by simp), e, cond_false]
  · simp only [U_eq, e, cond_false]
theorem bad_3 (r : Int) (x0 : Int) (zs : List Int) (f29 : F 29 [unitV 3 r [x0] []] (.bool true)) (f13 : F 13 [unitV 3 r [x0] []] (.bool true)) (hz : zs.length ≠ 1) : NoP 3 r [x0] [] zs := by
  have e : (!((zs.length : Int) == 1)) = true := by simp only [Bool.not_eq_true', beq_eq_false_iff_ne]; omega
  refine ⟨11, .of (SK_ok f29 f13 ok0) rfl fun h => (z37_3 r x0 zs h).trans ?_, .of (SK_ok f29 f13 ok0) rfl fun h => (z38_3 r x0 zs h).trans ?_⟩
  · simp only [U_eq, Z_eq, C_eq x0 [] (by simp), e, cond_true]
  · simp only [U_eq, e, cond_true]
theorem off_3 (r : Int) (x0 : Int) (zs : List Int) (f29 : F 29 [unitV 3 r [x0] []] (.bool true)) (f13 : F 13 [unitV 3 r [x0] []] (.bool true)) (hz : zs.length = 1) : NoP 3 r [x0] [] zs := by
  have e : (!((zs.length : Int) == 1)) = false := by simp [hz]
  refine ⟨0, .of (SK_ok f29 f13 ok0) rfl fun h => (z37_3 r x0 zs h).trans ?_, .of (SK_ok f29 f13 ok0) rfl fun h => (z38_3 r x0 zs h).trans ?_⟩
  · simp only [U_eq, Z_eq, C_eq x0 [] (by simp), e, cond_false]
  · simp only [U_eq, e, cond_false]
theorem bad_4 (r : Int) (y0 : Int) (zs : List Int) (f29 : F 29 [unitV 4 r [] [y0]] (.bool true)) (f13 : F 13 [unitV 4 r [] [y0]] (.bool true)) (hz : zs.length ≠ 0) : NoP 4 r [] [y0] zs := by
  have e : (!((zs.length : Int) == 0)) = true := by simp only [Bool.not_eq_true', beq_eq_false_iff_ne]; omega
  refine ⟨11, .of (SK_ok f29 f13 ok0) rfl fun h => (z37_4 r y0 zs h).trans ?_, .of (SK_ok f29 f13 ok0) rfl fun h => (z38_4 r y0 zs h).trans ?_⟩
  · simp only [U_eq, Z_eq, C_eq y0 [] (by simp), e, cond_true]
  · simp only [U_eq, e, cond_true]
theorem off_4 (r : Int) (y0 : Int) (zs : List Int) (f29 : F 29 [unitV 4 r [] [y0]] (.bool true)) (f13 : F 13 [unitV 4 r [] [y0]] (.bool true)) (hz : zs.length = 0) : NoP 4 r [] [y0] zs := by
  have e : (!((zs.length : Int) == 0)) = false := by simp [hz]
  refine ⟨0, .of (SK_ok f29 f13 ok0) rfl fun h => (z37_4 r y0 zs h).trans ?_, .of (SK_ok f29 f13 ok0) rfl fun h => (z38_4 r y0 zs h).trans ?_⟩
  · simp only [U_eq, Z_eq, C_eq y0 [] (by simp), e, cond_false]
  · simp only [U_eq, e, cond_false]
theorem bad_5 (r : Int) (y0 y1 y2 : Int) (zs : List Int) (f29 : F 29 [unitV 5 r [] [y0, y1, y2]] (.bool true)) (f13 : F 13 [unitV 5 r [] [y0, y1, y2]] (.bool true)) (hz : zs.length ≠ 0) : NoP 5 r [] [y0, y1, y2] zs := by
  have e : (!((zs.length : Int) == 0)) = true := by simp only [Bool.not_eq_true', beq_eq_false_iff_ne]; omega
  refine ⟨11, .of (SK_ok f29 f13 ok0) rfl fun h => (z37_5 r y0 y1 y2 zs h).trans ?_, .of (SK_ok f29 f13 ok0) rfl fun h => (z38_5 r y0 y1 y2 zs h).trans ?_⟩
  · simp only [U_eq, Z_eq, C_eq y0 [y1, y2] (by simp), e, cond_true]
  · simp only [U_eq, e, cond_true]
theorem off_5 (r : Int) (y0 y1 y2 : Int) (zs : List Int) (f29 : F 29 [unitV 5 r [] [y0, y1, y2]] (.bool true)) (f13 : F 13 [unitV 5 r [] [y0, y1, y2]] (.bool true)) (hz : zs.length = 0) : NoP 5 r [] [y0, y1, y2] zs := by
  have e : (!((zs.length : Int) == 0)) = false := by simp [hz]
  refine ⟨0, .of (SK_ok f29 f13 ok0) rfl fun h => (z37_5 r y0 y1 y2 zs h).trans ?_, .of (SK_ok f29 f13 ok0) rfl fun h => (z38_5 r y0 y1 y2 zs h).trans ?_⟩
  · simp only [U_eq, Z_eq, C_eq y0 [y1, y2] (by simp), e, cond_false]
  · simp only [U_eq, e, cond_false]
theorem bad_6 (r : Int) (x0 y0 y1 y2 y3 : Int) (zs : List Int) (f29 : F 29 [unitV 6 r [x0] [y0, y1, y2, y3]] (.bool true)) (f13 : F 13 [unitV 6 r [x0] [y0, y1, y2, y3]] (.bool true)) (hz : zs.length ≠ 1) : NoP 6 r [x0] [y0, y1, y2, y3] zs := by
  have e : (!((zs.length : Int) == 1)) = true := by simp only [Bool.not_eq_true', beq_eq_false_iff_ne]; omega
  refine ⟨11, .of (SK_ok f29 f13 ok0) rfl fun h => (z37_6 r x0 y0 y1 y2 y3 zs h).trans ?_, .of (SK_ok f29 f13 ok0) rfl fun h => (z38_6 r x0 y0 y1 y2 y3 zs h).trans ?_⟩
  · simp only [U_eq, Z_eq, C_eq x0 [] (by simp), C_eq y0 [y1, y2, y3] (by simp), e, cond_true]
  · simp only [U_eq, e, cond_true]
theorem off_6 (r : Int) (x0 y0 y1 y2 y3 : Int) (zs : List Int) (f29 : F 29 [unitV 6 r [x0] [y0, y1, y2, y3]] (.bool true)) (f13 : F 13 [unitV 6 r [x0] [y0, y1, y2, y3]] (.bool true)) (hz : zs.length = 1) : NoP 6 r [x0] [y0, y1, y2, y3] zs := by
  have e : (!((zs.length : Int) == 1)) = false := by simp [hz]
  refine ⟨0, .of (SK_ok f29 f13 ok0) rfl fun h => (z37_6 r x0 y0 y1 y2 y3 zs h).trans ?_, .of (SK_ok f29 f13 ok0) rfl fun h => (z38_6 r x0 y0 y1 y2 y3 zs h).trans ?_⟩
  · simp only [U_eq, Z_eq, C_eq x0 [] (by simp), C_eq y0 [y1, y2, y3] (by simp), e, cond_false]
  · simp only [U_eq, e, cond_false]
theorem bad_7 (r : Int) (x0 x1 : Int) (zs : List Int) (f29 : F 29 [unitV 7 r [x0, x1] []] (.bool true)) (f13 : F 13 [unitV 7 r [x0, x1] []] (.bool true)) (hz : zs.length ≠ 2) : NoP 7 r [x0, x1] [] zs := by
  have e : (!((zs.length : Int) == 2)) = true := by simp only [Bool.not_eq_true', beq_eq_false_iff_ne]; omega
  refine ⟨11, .of (SK_ok f29 f13 ok0) rfl fun h => (z37_7 r x0 x1 zs h).trans ?_, .of (SK_ok f29 f13 ok0) rfl fun h => (z38_7 r x0 x1 zs h).trans ?_⟩
  · simp only [U_eq, Z_eq, C_eq x0 [x1] (by simp), e, cond_true]
  · simp only [U_eq, e, cond_true]
theorem off_7 (r : Int) (x0 x1 : Int) (zs : List Int) (f29 : F 29 [unitV 7 r [x0, x1] []] (.bool true)) (f13 : F 13 [unitV 7 r [x0, x1] []] (.bool true)) (hz : zs.length = 2) : NoP 7 r [x0, x1] [] zs := by
  have e : (!((zs.length : Int) == 2)) = false := by simp [hz]
  refine ⟨0, .of (SK_ok f29 f13 ok0) rfl fun h => (z37_7 r x0 x1 zs h).trans ?_, .of (SK_ok f29 f13 ok0) rfl fun h => (z38_7 r x0 x1 zs h).trans ?_⟩
  · simp only [U_eq, Z_eq, C_eq x0 [x1] (by simp), e, cond_false]
  · simp only [U_eq, e, cond_false]
theorem bad_8 (r : Int) (x0 x1 : Int) (zs : List Int) (f29 : F 29 [unitV 8 r [x0, x1] []] (.bool true)) (f13 : F 13 [unitV 8 r [x0, x1] []] (.bool true)) (hz : zs.length ≠ 2) : NoP 8 r [x0, x1] [] zs := by
  have e : (!((zs.length : Int) == 2)) = true := by simp only [Bool.not_eq_true', beq_eq_false_iff_ne]; omega
  refine ⟨11, .of (stopAt_ok (SK_ok f29 f13 ok0)) rfl fun h => (z37_8 r x0 x1 zs h).trans ?_, .of (stopAt_ok (SK_ok f29 f13 ok0)) rfl fun h => (z38_8 r x0 x1 zs h).trans ?_⟩
  · simp only [U_eq, Z_eq, C_eq x0 [x1] (by simp), e, cond_true]
  · simp only [U_eq, e, cond_true]
theorem yes_8 (r : Int) (x0 x1 : Int) (p q : Int) (f29 : F 29 [unitV 8 r [x0, x1] []] (.bool true)) (f13 : F 13 [unitV 8 r [x0, x1] []] (.bool true)) : YesP 8 r [x0, x1] [] [p, q] (kMl (w64 (kMl p + kMl q))) := by
  refine ⟨f29, .of (SK_ok f29 f13 (OA_ok ok0)) rfl fun h => (p37_8 r x0 x1 p q h).trans ?_, .of (SK_ok f29 f13 (OB_ok ok0)) rfl fun h => (p38_8 r x0 x1 p q h).trans ?_⟩
  · simp only [U_eq, Z_eq, C_eq x0 [x1] (by simp), h3l_eq]
  · simp only [U_eq, h1_eq, num_eq]
theorem bad_9 (r : Int) (x0 x1 : Int) (zs : List Int) (f29 : F 29 [unitV 9 r [x0, x1] []] (.bool true)) (f13 : F 13 [unitV 9 r [x0, x1] []] (.bool true)) (hz : zs.length ≠ 2) : NoP 9 r [x0, x1] [] zs := by
  have e : (!((zs.length : Int) == 2)) = true := by simp only [Bool.not_eq_true', beq_eq_false_iff_ne]; omega
  refine ⟨11, .of (stopAt_ok (SK_ok f29 f13 ok0)) rfl fun h => (z37_9 r x0 x1 zs h).trans ?_, .of (stopAt_ok (SK_ok f29 f13 ok0)) rfl fun h => (z38_9 r x0 x1 zs h).trans ?_⟩
  · simp only [U_eq, Z_eq, C_eq x0 [x1] (by simp), e, cond_true]
  · simp only [U_eq, e, cond_true]
theorem yes_9 (r : Int) (x0 x1 : Int) (p q : Int) (f29 : F 29 [unitV 9 r [x0, x1] []] (.bool true)) (f13 : F 13 [unitV 9 r [x0, x1] []] (.bool true)) : YesP 9 r [x0, x1] [] [p, q] (prodI (kMl p) (kMl q)) := by
  refine ⟨f29, .of (SK_ok f29 f13 (OA_ok ok0)) rfl fun h => (p37_9 r x0 x1 p q h).trans ?_, .of (SK_ok f29 f13 (OB_ok ok0)) rfl fun h => (p38_9 r x0 x1 p q h).trans ?_⟩
  · simp only [U_eq, Z_eq, C_eq x0 [x1] (by simp), h3l_eq, gk2_eq]
  · simp only [U_eq, h1_eq, gk77_eq]
    rw [← num_eq p, ← num_eq q, prod_law (num_b p).1 (num_b p).2 (num_b q).1 (num_b q).2]
theorem bad_10 (r : Int) (x0 x1 : Int) (zs : List Int) (f29 : F 29 [unitV 10 r [x0, x1] []] (.bool true)) (f13 : F 13 [unitV 10 r [x0, x1] []] (.bool true)) (hz : zs.length ≠ 2) : NoP 10 r [x0, x1] [] zs := by
  have e : (!((zs.length : Int) == 2)) = true := by simp only [Bool.not_eq_true', beq_eq_false_iff_ne]; omega
  refine ⟨11, .of (stopAt_ok (SK_ok f29 f13 ok0)) rfl fun h => (z37_10 r x0 x1 zs h).trans ?_, .of (stopAt_ok (SK_ok f29 f13 ok0)) rfl fun h => (z38_10 r x0 x1 zs h).trans ?_⟩
  · simp only [U_eq, Z_eq, C_eq x0 [x1] (by simp), e, cond_true]
  · simp only [U_eq, e, cond_true]
theorem yes_10 (r : Int) (x0 x1 : Int) (p q : Int) (f29 : F 29 [unitV 10 r [x0, x1] []] (.bool true)) (f13 : F 13 [unitV 10 r [x0, x1] []] (.bool true)) : YesP 10 r [x0, x1] [] [p, q] (kept (kMl p) (w64 (0 - maxI (kMl q) 0)) (maxI (kMl q) 0)) := by
  refine ⟨f29, .of (SK_ok f29 f13 (OA_ok ok0)) rfl fun h => (p37_10 r x0 x1 p q h).trans ?_, .of (SK_ok f29 f13 (OB_ok ok0)) rfl fun h => (p38_10 r x0 x1 p q h).trans ?_⟩
  · simp only [U_eq, Z_eq, C_eq x0 [x1] (by simp), h3l_eq]
  · simp only [U_eq, h1_eq, h3l_eq]
    obtain ⟨b0, b1⟩ := num_b q
    have hm0 : 0 ≤ maxI (num q) 0 := by unfold maxI; split <;> omega
    have hm1 : maxI (num q) 0 ≤ 1099511627776 := by unfold maxI; split <;> omega
    have hw : w64 (0 - maxI (num q) 0) ≤ maxI (num q) 0 := by unfold w64; rw [IntKind.wrap_i64]; omega
    rw [into_kept _ _ _ hw, num_eq p, num_eq q]
theorem bad_11 (r : Int) (x0 y0 : Int) (zs : List Int) (hm : mkD y0 = true) (f29 : F 29 [unitV 11 r [x0] [y0]] (.bool true)) (f13 : F 13 [unitV 11 r [x0] [y0]] (.bool true)) (hz : zs.length ≠ 1) : NoP 11 r [x0] [y0] zs := by
  have e : (!((zs.length : Int) == 1)) = true := by simp only [Bool.not_eq_true', beq_eq_false_iff_ne]; omega
  refine ⟨11, .of (SK_ok f29 f13 ok0) rfl fun h => (z37_11 r x0 y0 zs h).trans ?_, .of (SK_ok f29 f13 ok0) rfl fun h => (z38_11 r x0 y0 zs h).trans ?_⟩
  · simp only [U_eq, Z_eq, C_eq x0 [] (by simp), C_eq y0 [] (by simp), hm, guardK, e, cond_true]
  · simp only [U_eq, e, cond_true]
theorem off_11 (r : Int) (x0 y0 : Int) (zs : List Int) (hm : mkD y0 = true) (f29 : F 29 [unitV 11 r [x0] [y0]] (.bool true)) (f13 : F 13 [unitV 11 r [x0] [y0]] (.bool true)) (hz : zs.length = 1) : NoP 11 r [x0] [y0] zs := by
  have e : (!((zs.length : Int) == 1)) = false := by simp [hz]
  refine ⟨0, .of (SK_ok f29 f13 ok0) rfl fun h => (z37_11 r x0 y0 zs h).trans ?_, .of (SK_ok f29 f13 ok0) rfl fun h => (z38_11 r x0 y0 zs h).trans ?_⟩
  · simp only [U_eq, Z_eq, C_eq x0 [] (by simp), C_eq y0 [] (by simp), hm, guardK, e, cond_true, cond_false]
  · simp only [U_eq, e, cond_false]
theorem bad_12 (r : Int) (y0 : Int) (zs : List Int) (f29 : F 29 [unitV 12 r [] [y0]] (.bool true)) (f13 : F 13 [unitV 12 r [] [y0]] (.bool true)) (hz : zs.length ≠ 1) : NoP 12 r [] [y0] zs := by
  have e : (!((zs.length : Int) == 1)) = true := by simp only [Bool.not_eq_true', beq_eq_false_iff_ne]; omega
  refine ⟨11, .of (stopAt_ok (SK_ok f29 f13 ok0)) rfl fun h => (z37_12 r y0 zs h).trans ?_, .of (stopAt_ok (SK_ok f29 f13 ok0)) rfl fun h => (z38_12 r y0 zs h).trans ?_⟩
  · simp only [U_eq, Z_eq, C_eq y0 [] (by simp), e, cond_true]
  · simp only [U_eq, e, cond_true]
theorem yes_12 (r : Int) (y0 : Int) (p : Int) (f29 : F 29 [unitV 12 r [] [y0]] (.bool true)) (f13 : F 13 [unitV 12 r [] [y0]] (.bool true)) : YesP 12 r [] [y0] [p] (kMl p) := by
  refine ⟨f29, .of (SK_ok f29 f13 (OA_ok ok0)) rfl fun h => (p37_12 r y0 p h).trans ?_, .of (SK_ok f29 f13 (OB_ok ok0)) rfl fun h => (p38_12 r y0 p h).trans ?_⟩
  · simp only [U_eq, Z_eq, C_eq y0 [] (by simp), h3l_eq]
  · simp only [U_eq, h1_eq, num_eq]
theorem bad_13 (r : Int) (x0 y0 : Int) (zs : List Int) (f29 : F 29 [unitV 13 r [x0] [y0]] (.bool true)) (f13 : F 13 [unitV 13 r [x0] [y0]] (.bool true)) (hz : zs.length ≠ 1) : NoP 13 r [x0] [y0] zs := by
  have e : (!((zs.length : Int) == 1)) = true := by simp only [Bool.not_eq_true', beq_eq_false_iff_ne]; omega
  refine ⟨11, .of (stopAt_ok (SK_ok f29 f13 ok0)) rfl fun h => (z37_13 r x0 y0 zs h).trans ?_, .of (stopAt_ok (SK_ok f29 f13 ok0)) rfl fun h => (z38_13 r x0 y0 zs h).trans ?_⟩
  · simp only [U_eq, Z_eq, C_eq x0 [] (by simp), C_eq y0 [] (by simp), e, cond_true]
  · simp only [U_eq, e, cond_true]
theorem yes_13 (r : Int) (x0 y0 : Int) (p : Int) (f29 : F 29 [unitV 13 r [x0] [y0]] (.bool true)) (f13 : F 13 [unitV 13 r [x0] [y0]] (.bool true)) : YesP 13 r [x0] [y0] [p] (kMl p) := by
  refine ⟨f29, .of (SK_ok f29 f13 (OA_ok ok0)) rfl fun h => (p37_13 r x0 y0 p h).trans ?_, .of (SK_ok f29 f13 (OB_ok ok0)) rfl fun h => (p38_13 r x0 y0 p h).trans ?_⟩
  · simp only [U_eq, Z_eq, C_eq x0 [] (by simp), C_eq y0 [] (by simp), h3l_eq]
  · simp only [U_eq, h1_eq, num_eq]
theorem bad_14 (r : Int) (y0 : Int) (zs : List Int) (f29 : F 29 [unitV 14 r [] [y0]] (.bool true)) (f13 : F 13 [unitV 14 r [] [y0]] (.bool true)) (hz : zs.length ≠ 1) : NoP 14 r [] [y0] zs := by
  have e : (!((zs.length : Int) == 1)) = true := by simp only [Bool.not_eq_true', beq_eq_false_iff_ne]; omega
  refine ⟨11, .of (stopAt_ok (SK_ok f29 f13 ok0)) rfl fun h => (z37_14 r y0 zs h).trans ?_, .of (stopAt_ok (SK_ok f29 f13 ok0)) rfl fun h => (z38_14 r y0 zs h).trans ?_⟩
  · simp only [U_eq, Z_eq, C_eq y0 [] (by simp), e, cond_true]
  · simp only [U_eq, e, cond_true]
theorem yes_14 (r : Int) (y0 : Int) (p : Int) (f29 : F 29 [unitV 14 r [] [y0]] (.bool true)) (f13 : F 13 [unitV 14 r [] [y0]] (.bool true)) : YesP 14 r [] [y0] [p] (kMl p) := by
  refine ⟨f29, .of (SK_ok f29 f13 (OA_ok ok0)) rfl fun h => (p37_14 r y0 p h).trans ?_, .of (SK_ok f29 f13 (OB_ok ok0)) rfl fun h => (p38_14 r y0 p h).trans ?_⟩
  · simp only [U_eq, Z_eq, C_eq y0 [] (by simp), h3l_eq]
  · simp only [U_eq, h1_eq, num_eq]
theorem bad_15 (r : Int) (y0 : Int) (zs : List Int) (f29 : F 29 [unitV 15 r [] [y0]] (.bool true)) (f13 : F 13 [unitV 15 r [] [y0]] (.bool true)) (hz : zs.length ≠ 0) : NoP 15 r [] [y0] zs := by
  have e : (!((zs.length : Int) == 0)) = true := by simp only [Bool.not_eq_true', beq_eq_false_iff_ne]; omega
  refine ⟨11, .of (stopAt_ok (SK_ok f29 f13 ok0)) rfl fun h => (z37_15 r y0 zs h).trans ?_, .of (stopAt_ok (SK_ok f29 f13 ok0)) rfl fun h => (z38_15 r y0 zs h).trans ?_⟩
  · simp only [U_eq, Z_eq, C_eq y0 [] (by simp), e, cond_true]
  · simp only [U_eq, e, cond_true]
theorem yes_15 (r : Int) (y0 : Int) (f29 : F 29 [unitV 15 r [] [y0]] (.bool true)) (f13 : F 13 [unitV 15 r [] [y0]] (.bool true)) : YesP 15 r [] [y0] [] (y0) := by
  refine ⟨f29, .of (SK_ok f29 f13 (OA_ok ok0)) rfl fun h => (p37_15 r y0 h).trans ?_, .of (SK_ok f29 f13 (OB_ok ok0)) rfl fun h => (p38_15 r y0 h).trans ?_⟩
  · simp only [U_eq, Z_eq, C_eq y0 [] (by simp)]
  · simp only [U_eq]
end Go.Proofs.Ythlmbnhelkbchaa
