/- UnitPlain: the law's runs. -/
import Derived.Test.YthlmbnhelkbchaaUqE
namespace Go.Proofs.Ythlmbnhelkbchaa
open Go.Ev
set_option maxRecDepth 100000
noncomputable abbrev D (a : List AV) (x : Option Bool) : Option Bool := bif same a a then x else none
noncomputable def SA (u : AV) (zs : List Int) (v : AV) (S : Orc) : Orc := know 12 [] (.bool true) (know 37 [u, ints zs] v (know 38 [u, ints zs] v S))
theorem runA (k r : Int) (xs ys zs ws : List Int) (e : Int) : evCall Try.prog (SA (unitV k r xs ys) zs (.tup [int64 0, .bool false, int64 e]) orc0) tb 100 Bool (.fn 9) [unitV k r xs ys, ints zs, ints ws] ⟨fun _ => none, 0⟩ .off done = (
    D [] <| bif decide ((xs.length : Int) > 10) then some true else bif decide ((ys.length : Int) > 10) then some true else bif decide ((zs.length : Int) > 500) then some true else bif decide ((ws.length : Int) > 500) then some true else
    D [unitV k r xs ys, ints zs] <| D [unitV k r xs ys, ints zs] <| bif !(e == e) then some false else some true) := by kernel_rfl
theorem law_no {k r : Int} {xs ys zs : List Int} (ws : List Int) (hn : NoP k r xs ys zs) : ∃ S, Ok S ∧ evCall Try.prog S tb 100 Bool (.fn 9) [unitV k r xs ys, ints zs, ints ws] ⟨fun _ => none, 0⟩ .off done = some true := by
  obtain ⟨e, h1, h2⟩ := hn
  refine ⟨_, know_ok tbOk awake_fact (know_ok tbOk h1 (know_ok tbOk h2 ok0)), (runA k r xs ys zs ws e).trans ?_⟩
  simp only [D, same_self, cond_true, beq_self_eq_true, Bool.not_true, cond_false]
  cases decide ((xs.length : Int) > 10) <;> cases decide ((ys.length : Int) > 10) <;> cases decide ((zs.length : Int) > 500) <;> cases decide ((ws.length : Int) > 500) <;> rfl
noncomputable def SB (u : AV) (zs : List Int) (n : Int) : Orc := SA u zs (.tup [int64 n, .bool true, int64 0]) (knowC Try.prog 29 [u] (.bool true) (OC (OA orc0)))
theorem SB_ok {k r : Int} {xs ys zs : List Int} {n : Int} (h : YesP k r xs ys zs n) : Ok (SB (unitV k r xs ys) zs n) :=
  know_ok tbOk awake_fact (know_ok tbOk h.2.1 (know_ok tbOk h.2.2 (knowC_ok tbOk (h.1.now (unit_nowU 29 (by kernel_rfl) _ _ _ _)) (OC_ok (OA_ok ok0)))))
theorem rB_8_s0 (r : Int) (x0 x1 : Int) (p q : Int) : evCall Try.prog (SB (unitV 8 r [x0, x1] []) [p, q] (kMl (w64 (kMl p + kMl q)))) tb 100 Bool (.fn 9) [unitV 8 r [x0, x1] [], ints [p, q], ints ([] : List Int)] ⟨fun _ => none, 0⟩ .off done = (
    D [] <| D [(unitV 8 r [x0, x1] []), ints [p, q]] <| D [(unitV 8 r [x0, x1] []), ints [p, q]] <| bif !((kMl (w64 (kMl p + kMl q))) == (kMl (w64 (kMl p + kMl q)))) then some false else
    U (unitV 8 r [x0, x1] []) <| C [x0, x1] <| Z [] <| gk3 p <| gk3 q <| gk3 (w64 (kMl p + kMl q)) <| bif (kMl (w64 (kMl p + kMl q))) == (kMl (w64 (kMl p + kMl q))) then some true else some false) := by kernel_rfl
theorem rB_8_s1 (r : Int) (x0 x1 : Int) (p q : Int) (w0 : Int) : evCall Try.prog (SB (unitV 8 r [x0, x1] []) [p, q] (kMl (w64 (kMl p + kMl q)))) tb 100 Bool (.fn 9) [unitV 8 r [x0, x1] [], ints [p, q], ints [w0]] ⟨fun _ => none, 0⟩ .off done = (
    D [] <| D [(unitV 8 r [x0, x1] []), ints [p, q]] <| D [(unitV 8 r [x0, x1] []), ints [p, q]] <| bif !((kMl (w64 (kMl p + kMl q))) == (kMl (w64 (kMl p + kMl q)))) then some false else
    U (unitV 8 r [x0, x1] []) <| C [x0, x1] <| Z [] <| gk3 p <| gk3 q <| gk3 (w64 (kMl p + kMl q)) <| bif (kMl (w64 (kMl p + kMl q))) == (kMl (w64 (kMl p + kMl q))) then some true else some false) := by kernel_rfl
theorem rB_8_s2 (r : Int) (x0 x1 : Int) (p q : Int) (w0 w1 : Int) : evCall Try.prog (SB (unitV 8 r [x0, x1] []) [p, q] (kMl (w64 (kMl p + kMl q)))) tb 100 Bool (.fn 9) [unitV 8 r [x0, x1] [], ints [p, q], ints [w0, w1]] ⟨fun _ => none, 0⟩ .off done = (
    D [] <| D [(unitV 8 r [x0, x1] []), ints [p, q]] <| D [(unitV 8 r [x0, x1] []), ints [p, q]] <| bif !((kMl (w64 (kMl p + kMl q))) == (kMl (w64 (kMl p + kMl q)))) then some false else
    U (unitV 8 r [x0, x1] []) <| C [x0, x1] <| Z [] <| gk3 w0 <| gk3 w1 <| gk3 (w64 (kMl w0 + kMl w1)) <| gk3 p <| gk3 q <| gk3 (w64 (kMl p + kMl q)) <| bif (kMl (w64 (kMl p + kMl q))) == (kMl (w64 (kMl p + kMl q))) then some true else some false) := by kernel_rfl
theorem rB_8_t (r : Int) (x0 x1 : Int) (p q : Int) (w0 w1 w2 : Int) (t : List Int) : evCall Try.prog (SB (unitV 8 r [x0, x1] []) [p, q] (kMl (w64 (kMl p + kMl q)))) tb 100 Bool (.fn 9) [unitV 8 r [x0, x1] [], ints [p, q], ints (w0 :: w1 :: w2 :: t)] ⟨fun _ => none, 0⟩ .off done = (
    D [] <| bif decide (((w0 :: w1 :: w2 :: t).length : Int) > 500) then some true else D [(unitV 8 r [x0, x1] []), ints [p, q]] <| D [(unitV 8 r [x0, x1] []), ints [p, q]] <| bif !((kMl (w64 (kMl p + kMl q))) == (kMl (w64 (kMl p + kMl q)))) then some false else
    U (unitV 8 r [x0, x1] []) <| C [x0, x1] <| Z [] <| gk3 p <| gk3 q <| gk3 (w64 (kMl p + kMl q)) <| bif (kMl (w64 (kMl p + kMl q))) == (kMl (w64 (kMl p + kMl q))) then some true else some false) := by kernel_rfl
theorem law_8 (r : Int) (x0 x1 : Int) (p q : Int) (ws : List Int) (h : YesP 8 r [x0, x1] [] [p, q] (kMl (w64 (kMl p + kMl q)))) : ∃ S, Ok S ∧ evCall Try.prog S tb 100 Bool (.fn 9) [unitV 8 r [x0, x1] [], ints [p, q], ints ws] ⟨fun _ => none, 0⟩ .off done = some true := by
  refine ⟨_, SB_ok h, ?_⟩
  rcases ws with _ | ⟨w0, _ | ⟨w1, _ | ⟨w2, t⟩⟩⟩
  · refine (rB_8_s0 r x0 x1 p q).trans ?_
    simp only [D, same_self, U_eq, Z_eq, C_eq x0 [x1] (by simp), h3l_eq, cond_true, beq_self_eq_true, Bool.not_true, cond_false]
  · refine (rB_8_s1 r x0 x1 p q w0).trans ?_
    simp only [D, same_self, U_eq, Z_eq, C_eq x0 [x1] (by simp), h3l_eq, cond_true, beq_self_eq_true, Bool.not_true, cond_false]
  · refine (rB_8_s2 r x0 x1 p q w0 w1).trans ?_
    simp only [D, same_self, U_eq, Z_eq, C_eq x0 [x1] (by simp), h3l_eq, cond_true, beq_self_eq_true, Bool.not_true, cond_false]
  · refine (rB_8_t r x0 x1 p q w0 w1 w2 t).trans ?_
    simp only [D, same_self, U_eq, Z_eq, C_eq x0 [x1] (by simp), h3l_eq, cond_true, beq_self_eq_true, Bool.not_true, cond_false]
    cases decide (((w0 :: w1 :: w2 :: t).length : Int) > 500) <;> rfl
theorem rB_9_s0 (r : Int) (x0 x1 : Int) (p q : Int) : evCall Try.prog (SB (unitV 9 r [x0, x1] []) [p, q] (prodI (kMl p) (kMl q))) tb 100 Bool (.fn 9) [unitV 9 r [x0, x1] [], ints [p, q], ints ([] : List Int)] ⟨fun _ => none, 0⟩ .off done = (
    D [] <| D [(unitV 9 r [x0, x1] []), ints [p, q]] <| D [(unitV 9 r [x0, x1] []), ints [p, q]] <| bif !((prodI (kMl p) (kMl q)) == (prodI (kMl p) (kMl q))) then some false else
    U (unitV 9 r [x0, x1] []) <| C [x0, x1] <| Z [] <| gk3 p <| gk3 q <| gk2 (kMl p) (kMl q) <| bif (prodI (kMl p) (kMl q)) == (prodI (kMl p) (kMl q)) then some true else some false) := by kernel_rfl
theorem rB_9_s1 (r : Int) (x0 x1 : Int) (p q : Int) (w0 : Int) : evCall Try.prog (SB (unitV 9 r [x0, x1] []) [p, q] (prodI (kMl p) (kMl q))) tb 100 Bool (.fn 9) [unitV 9 r [x0, x1] [], ints [p, q], ints [w0]] ⟨fun _ => none, 0⟩ .off done = (
    D [] <| D [(unitV 9 r [x0, x1] []), ints [p, q]] <| D [(unitV 9 r [x0, x1] []), ints [p, q]] <| bif !((prodI (kMl p) (kMl q)) == (prodI (kMl p) (kMl q))) then some false else
    U (unitV 9 r [x0, x1] []) <| C [x0, x1] <| Z [] <| gk3 p <| gk3 q <| gk2 (kMl p) (kMl q) <| bif (prodI (kMl p) (kMl q)) == (prodI (kMl p) (kMl q)) then some true else some false) := by kernel_rfl
theorem rB_9_s2 (r : Int) (x0 x1 : Int) (p q : Int) (w0 w1 : Int) : evCall Try.prog (SB (unitV 9 r [x0, x1] []) [p, q] (prodI (kMl p) (kMl q))) tb 100 Bool (.fn 9) [unitV 9 r [x0, x1] [], ints [p, q], ints [w0, w1]] ⟨fun _ => none, 0⟩ .off done = (
    D [] <| D [(unitV 9 r [x0, x1] []), ints [p, q]] <| D [(unitV 9 r [x0, x1] []), ints [p, q]] <| bif !((prodI (kMl p) (kMl q)) == (prodI (kMl p) (kMl q))) then some false else
    U (unitV 9 r [x0, x1] []) <| C [x0, x1] <| Z [] <| gk3 w0 <| gk3 w1 <| gk2 (kMl w0) (kMl w1) <| gk3 p <| gk3 q <| gk2 (kMl p) (kMl q) <| bif (prodI (kMl p) (kMl q)) == (prodI (kMl p) (kMl q)) then some true else some false) := by kernel_rfl
theorem rB_9_t (r : Int) (x0 x1 : Int) (p q : Int) (w0 w1 w2 : Int) (t : List Int) : evCall Try.prog (SB (unitV 9 r [x0, x1] []) [p, q] (prodI (kMl p) (kMl q))) tb 100 Bool (.fn 9) [unitV 9 r [x0, x1] [], ints [p, q], ints (w0 :: w1 :: w2 :: t)] ⟨fun _ => none, 0⟩ .off done = (
    D [] <| bif decide (((w0 :: w1 :: w2 :: t).length : Int) > 500) then some true else D [(unitV 9 r [x0, x1] []), ints [p, q]] <| D [(unitV 9 r [x0, x1] []), ints [p, q]] <| bif !((prodI (kMl p) (kMl q)) == (prodI (kMl p) (kMl q))) then some false else
    U (unitV 9 r [x0, x1] []) <| C [x0, x1] <| Z [] <| gk3 p <| gk3 q <| gk2 (kMl p) (kMl q) <| bif (prodI (kMl p) (kMl q)) == (prodI (kMl p) (kMl q)) then some true else some false) := by kernel_rfl
theorem law_9 (r : Int) (x0 x1 : Int) (p q : Int) (ws : List Int) (h : YesP 9 r [x0, x1] [] [p, q] (prodI (kMl p) (kMl q))) : ∃ S, Ok S ∧ evCall Try.prog S tb 100 Bool (.fn 9) [unitV 9 r [x0, x1] [], ints [p, q], ints ws] ⟨fun _ => none, 0⟩ .off done = some true := by
  refine ⟨_, SB_ok h, ?_⟩
  rcases ws with _ | ⟨w0, _ | ⟨w1, _ | ⟨w2, t⟩⟩⟩
  · refine (rB_9_s0 r x0 x1 p q).trans ?_
    simp only [D, same_self, U_eq, Z_eq, C_eq x0 [x1] (by simp), h3l_eq, gk2_eq, cond_true, beq_self_eq_true, Bool.not_true, cond_false]
  · refine (rB_9_s1 r x0 x1 p q w0).trans ?_
    simp only [D, same_self, U_eq, Z_eq, C_eq x0 [x1] (by simp), h3l_eq, gk2_eq, cond_true, beq_self_eq_true, Bool.not_true, cond_false]
  · refine (rB_9_s2 r x0 x1 p q w0 w1).trans ?_
    simp only [D, same_self, U_eq, Z_eq, C_eq x0 [x1] (by simp), h3l_eq, gk2_eq, cond_true, beq_self_eq_true, Bool.not_true, cond_false]
  · refine (rB_9_t r x0 x1 p q w0 w1 w2 t).trans ?_
    simp only [D, same_self, U_eq, Z_eq, C_eq x0 [x1] (by simp), h3l_eq, gk2_eq, cond_true, beq_self_eq_true, Bool.not_true, cond_false]
    cases decide (((w0 :: w1 :: w2 :: t).length : Int) > 500) <;> rfl
theorem rB_10_s0 (r : Int) (x0 x1 : Int) (p q : Int) : evCall Try.prog (SB (unitV 10 r [x0, x1] []) [p, q] (kept (kMl p) (w64 (0 - maxI (kMl q) 0)) (maxI (kMl q) 0))) tb 100 Bool (.fn 9) [unitV 10 r [x0, x1] [], ints [p, q], ints ([] : List Int)] ⟨fun _ => none, 0⟩ .off done = (
    D [] <| D [(unitV 10 r [x0, x1] []), ints [p, q]] <| D [(unitV 10 r [x0, x1] []), ints [p, q]] <| bif !((kept (kMl p) (w64 (0 - maxI (kMl q) 0)) (maxI (kMl q) 0)) == (kept (kMl p) (w64 (0 - maxI (kMl q) 0)) (maxI (kMl q) 0))) then some false else
    U (unitV 10 r [x0, x1] []) <| C [x0, x1] <| Z [] <| gk3 p <| gk3 q <| h3l (kMl p) (w64 (0 - maxI (kMl q) 0)) (maxI (kMl q) 0) <| bif (kept (kMl p) (w64 (0 - maxI (kMl q) 0)) (maxI (kMl q) 0)) == (kept (kMl p) (w64 (0 - maxI (kMl q) 0)) (maxI (kMl q) 0)) then some true else some false) := by kernel_rfl
theorem rB_10_s1 (r : Int) (x0 x1 : Int) (p q : Int) (w0 : Int) : evCall Try.prog (SB (unitV 10 r [x0, x1] []) [p, q] (kept (kMl p) (w64 (0 - maxI (kMl q) 0)) (maxI (kMl q) 0))) tb 100 Bool (.fn 9) [unitV 10 r [x0, x1] [], ints [p, q], ints [w0]] ⟨fun _ => none, 0⟩ .off done = (
    D [] <| D [(unitV 10 r [x0, x1] []), ints [p, q]] <| D [(unitV 10 r [x0, x1] []), ints [p, q]] <| bif !((kept (kMl p) (w64 (0 - maxI (kMl q) 0)) (maxI (kMl q) 0)) == (kept (kMl p) (w64 (0 - maxI (kMl q) 0)) (maxI (kMl q) 0))) then some false else
    U (unitV 10 r [x0, x1] []) <| C [x0, x1] <| Z [] <| gk3 p <| gk3 q <| h3l (kMl p) (w64 (0 - maxI (kMl q) 0)) (maxI (kMl q) 0) <| bif (kept (kMl p) (w64 (0 - maxI (kMl q) 0)) (maxI (kMl q) 0)) == (kept (kMl p) (w64 (0 - maxI (kMl q) 0)) (maxI (kMl q) 0)) then some true else some false) := by kernel_rfl
theorem rB_10_s2 (r : Int) (x0 x1 : Int) (p q : Int) (w0 w1 : Int) : evCall Try.prog (SB (unitV 10 r [x0, x1] []) [p, q] (kept (kMl p) (w64 (0 - maxI (kMl q) 0)) (maxI (kMl q) 0))) tb 100 Bool (.fn 9) [unitV 10 r [x0, x1] [], ints [p, q], ints [w0, w1]] ⟨fun _ => none, 0⟩ .off done = (
    D [] <| D [(unitV 10 r [x0, x1] []), ints [p, q]] <| D [(unitV 10 r [x0, x1] []), ints [p, q]] <| bif !((kept (kMl p) (w64 (0 - maxI (kMl q) 0)) (maxI (kMl q) 0)) == (kept (kMl p) (w64 (0 - maxI (kMl q) 0)) (maxI (kMl q) 0))) then some false else
    U (unitV 10 r [x0, x1] []) <| C [x0, x1] <| Z [] <| gk3 w0 <| gk3 w1 <| h3l (kMl w0) (w64 (0 - maxI (kMl w1) 0)) (maxI (kMl w1) 0) <| gk3 p <| gk3 q <| h3l (kMl p) (w64 (0 - maxI (kMl q) 0)) (maxI (kMl q) 0) <| bif (kept (kMl p) (w64 (0 - maxI (kMl q) 0)) (maxI (kMl q) 0)) == (kept (kMl p) (w64 (0 - maxI (kMl q) 0)) (maxI (kMl q) 0)) then some true else some false) := by kernel_rfl
theorem rB_10_t (r : Int) (x0 x1 : Int) (p q : Int) (w0 w1 w2 : Int) (t : List Int) : evCall Try.prog (SB (unitV 10 r [x0, x1] []) [p, q] (kept (kMl p) (w64 (0 - maxI (kMl q) 0)) (maxI (kMl q) 0))) tb 100 Bool (.fn 9) [unitV 10 r [x0, x1] [], ints [p, q], ints (w0 :: w1 :: w2 :: t)] ⟨fun _ => none, 0⟩ .off done = (
    D [] <| bif decide (((w0 :: w1 :: w2 :: t).length : Int) > 500) then some true else D [(unitV 10 r [x0, x1] []), ints [p, q]] <| D [(unitV 10 r [x0, x1] []), ints [p, q]] <| bif !((kept (kMl p) (w64 (0 - maxI (kMl q) 0)) (maxI (kMl q) 0)) == (kept (kMl p) (w64 (0 - maxI (kMl q) 0)) (maxI (kMl q) 0))) then some false else
    U (unitV 10 r [x0, x1] []) <| C [x0, x1] <| Z [] <| gk3 p <| gk3 q <| h3l (kMl p) (w64 (0 - maxI (kMl q) 0)) (maxI (kMl q) 0) <| bif (kept (kMl p) (w64 (0 - maxI (kMl q) 0)) (maxI (kMl q) 0)) == (kept (kMl p) (w64 (0 - maxI (kMl q) 0)) (maxI (kMl q) 0)) then some true else some false) := by kernel_rfl
theorem law_10 (r : Int) (x0 x1 : Int) (p q : Int) (ws : List Int) (h : YesP 10 r [x0, x1] [] [p, q] (kept (kMl p) (w64 (0 - maxI (kMl q) 0)) (maxI (kMl q) 0))) : ∃ S, Ok S ∧ evCall Try.prog S tb 100 Bool (.fn 9) [unitV 10 r [x0, x1] [], ints [p, q], ints ws] ⟨fun _ => none, 0⟩ .off done = some true := by
  refine ⟨_, SB_ok h, ?_⟩
  rcases ws with _ | ⟨w0, _ | ⟨w1, _ | ⟨w2, t⟩⟩⟩
  · refine (rB_10_s0 r x0 x1 p q).trans ?_
    simp only [D, same_self, U_eq, Z_eq, C_eq x0 [x1] (by simp), h3l_eq, cond_true, beq_self_eq_true, Bool.not_true, cond_false]
  · refine (rB_10_s1 r x0 x1 p q w0).trans ?_
    simp only [D, same_self, U_eq, Z_eq, C_eq x0 [x1] (by simp), h3l_eq, cond_true, beq_self_eq_true, Bool.not_true, cond_false]
  · refine (rB_10_s2 r x0 x1 p q w0 w1).trans ?_
    simp only [D, same_self, U_eq, Z_eq, C_eq x0 [x1] (by simp), h3l_eq, cond_true, beq_self_eq_true, Bool.not_true, cond_false]
  · refine (rB_10_t r x0 x1 p q w0 w1 w2 t).trans ?_
    simp only [D, same_self, U_eq, Z_eq, C_eq x0 [x1] (by simp), h3l_eq, cond_true, beq_self_eq_true, Bool.not_true, cond_false]
    cases decide (((w0 :: w1 :: w2 :: t).length : Int) > 500) <;> rfl
theorem rB_12_s0 (r : Int) (y0 : Int) (p : Int) : evCall Try.prog (SB (unitV 12 r [] [y0]) [p] (kMl p)) tb 100 Bool (.fn 9) [unitV 12 r [] [y0], ints [p], ints ([] : List Int)] ⟨fun _ => none, 0⟩ .off done = (
    D [] <| D [(unitV 12 r [] [y0]), ints [p]] <| D [(unitV 12 r [] [y0]), ints [p]] <| bif !((kMl p) == (kMl p)) then some false else
    U (unitV 12 r [] [y0]) <| Z [y0] <| C [y0] <| gk3 p <| bif (kMl p) == (kMl p) then some true else some false) := by kernel_rfl
theorem rB_12_s1 (r : Int) (y0 : Int) (p : Int) (w0 : Int) : evCall Try.prog (SB (unitV 12 r [] [y0]) [p] (kMl p)) tb 100 Bool (.fn 9) [unitV 12 r [] [y0], ints [p], ints [w0]] ⟨fun _ => none, 0⟩ .off done = (
    D [] <| D [(unitV 12 r [] [y0]), ints [p]] <| D [(unitV 12 r [] [y0]), ints [p]] <| bif !((kMl p) == (kMl p)) then some false else
    U (unitV 12 r [] [y0]) <| Z [y0] <| C [y0] <| gk3 w0 <| gk3 p <| bif (kMl p) == (kMl p) then some true else some false) := by kernel_rfl
theorem rB_12_t (r : Int) (y0 : Int) (p : Int) (w0 w1 : Int) (t : List Int) : evCall Try.prog (SB (unitV 12 r [] [y0]) [p] (kMl p)) tb 100 Bool (.fn 9) [unitV 12 r [] [y0], ints [p], ints (w0 :: w1 :: t)] ⟨fun _ => none, 0⟩ .off done = (
    D [] <| bif decide (((w0 :: w1 :: t).length : Int) > 500) then some true else D [(unitV 12 r [] [y0]), ints [p]] <| D [(unitV 12 r [] [y0]), ints [p]] <| bif !((kMl p) == (kMl p)) then some false else
    U (unitV 12 r [] [y0]) <| Z [y0] <| C [y0] <| gk3 p <| bif (kMl p) == (kMl p) then some true else some false) := by kernel_rfl
theorem law_12 (r : Int) (y0 : Int) (p : Int) (ws : List Int) (h : YesP 12 r [] [y0] [p] (kMl p)) : ∃ S, Ok S ∧ evCall Try.prog S tb 100 Bool (.fn 9) [unitV 12 r [] [y0], ints [p], ints ws] ⟨fun _ => none, 0⟩ .off done = some true := by
  refine ⟨_, SB_ok h, ?_⟩
  rcases ws with _ | ⟨w0, _ | ⟨w1, t⟩⟩
  · refine (rB_12_s0 r y0 p).trans ?_
    simp only [D, same_self, U_eq, Z_eq, C_eq y0 [] (by simp), h3l_eq, cond_true, beq_self_eq_true, Bool.not_true, cond_false]
  · refine (rB_12_s1 r y0 p w0).trans ?_
    simp only [D, same_self, U_eq, Z_eq, C_eq y0 [] (by simp), h3l_eq, cond_true, beq_self_eq_true, Bool.not_true, cond_false]
  · refine (rB_12_t r y0 p w0 w1 t).trans ?_
    simp only [D, same_self, U_eq, Z_eq, C_eq y0 [] (by simp), h3l_eq, cond_true, beq_self_eq_true, Bool.not_true, cond_false]
    cases decide (((w0 :: w1 :: t).length : Int) > 500) <;> rfl
theorem rB_13_s0 (r : Int) (x0 y0 : Int) (p : Int) : evCall Try.prog (SB (unitV 13 r [x0] [y0]) [p] (kMl p)) tb 100 Bool (.fn 9) [unitV 13 r [x0] [y0], ints [p], ints ([] : List Int)] ⟨fun _ => none, 0⟩ .off done = (
    D [] <| D [(unitV 13 r [x0] [y0]), ints [p]] <| D [(unitV 13 r [x0] [y0]), ints [p]] <| bif !((kMl p) == (kMl p)) then some false else
    U (unitV 13 r [x0] [y0]) <| C [x0] <| Z [y0] <| C [y0] <| gk3 p <| bif (kMl p) == (kMl p) then some true else some false) := by kernel_rfl
theorem rB_13_s1 (r : Int) (x0 y0 : Int) (p : Int) (w0 : Int) : evCall Try.prog (SB (unitV 13 r [x0] [y0]) [p] (kMl p)) tb 100 Bool (.fn 9) [unitV 13 r [x0] [y0], ints [p], ints [w0]] ⟨fun _ => none, 0⟩ .off done = (
    D [] <| D [(unitV 13 r [x0] [y0]), ints [p]] <| D [(unitV 13 r [x0] [y0]), ints [p]] <| bif !((kMl p) == (kMl p)) then some false else
    U (unitV 13 r [x0] [y0]) <| C [x0] <| Z [y0] <| C [y0] <| gk3 w0 <| gk3 p <| bif (kMl p) == (kMl p) then some true else some false) := by kernel_rfl
theorem rB_13_t (r : Int) (x0 y0 : Int) (p : Int) (w0 w1 : Int) (t : List Int) : evCall Try.prog (SB (unitV 13 r [x0] [y0]) [p] (kMl p)) tb 100 Bool (.fn 9) [unitV 13 r [x0] [y0], ints [p], ints (w0 :: w1 :: t)] ⟨fun _ => none, 0⟩ .off done = (
    D [] <| bif decide (((w0 :: w1 :: t).length : Int) > 500) then some true else D [(unitV 13 r [x0] [y0]), ints [p]] <| D [(unitV 13 r [x0] [y0]), ints [p]] <| bif !((kMl p) == (kMl p)) then some false else
    U (unitV 13 r [x0] [y0]) <| C [x0] <| Z [y0] <| C [y0] <| gk3 p <| bif (kMl p) == (kMl p) then some true else some false) := by kernel_rfl
theorem law_13 (r : Int) (x0 y0 : Int) (p : Int) (ws : List Int) (h : YesP 13 r [x0] [y0] [p] (kMl p)) : ∃ S, Ok S ∧ evCall Try.prog S tb 100 Bool (.fn 9) [unitV 13 r [x0] [y0], ints [p], ints ws] ⟨fun _ => none, 0⟩ .off done = some true := by
  refine ⟨_, SB_ok h, ?_⟩
  rcases ws with _ | ⟨w0, _ | ⟨w1, t⟩⟩
  · refine (rB_13_s0 r x0 y0 p).trans ?_
    simp only [D, same_self, U_eq, Z_eq, C_eq x0 [] (by simp), C_eq y0 [] (by simp), h3l_eq, cond_true, beq_self_eq_true, Bool.not_true, cond_false]
  · refine (rB_13_s1 r x0 y0 p w0).trans ?_
    simp only [D, same_self, U_eq, Z_eq, C_eq x0 [] (by simp), C_eq y0 [] (by simp), h3l_eq, cond_true, beq_self_eq_true, Bool.not_true, cond_false]
  · refine (rB_13_t r x0 y0 p w0 w1 t).trans ?_
    simp only [D, same_self, U_eq, Z_eq, C_eq x0 [] (by simp), C_eq y0 [] (by simp), h3l_eq, cond_true, beq_self_eq_true, Bool.not_true, cond_false]
    cases decide (((w0 :: w1 :: t).length : Int) > 500) <;> rfl
theorem rB_14_s0 (r : Int) (y0 : Int) (p : Int) : evCall Try.prog (SB (unitV 14 r [] [y0]) [p] (kMl p)) tb 100 Bool (.fn 9) [unitV 14 r [] [y0], ints [p], ints ([] : List Int)] ⟨fun _ => none, 0⟩ .off done = (
    D [] <| D [(unitV 14 r [] [y0]), ints [p]] <| D [(unitV 14 r [] [y0]), ints [p]] <| bif !((kMl p) == (kMl p)) then some false else
    U (unitV 14 r [] [y0]) <| Z [y0] <| C [y0] <| gk3 p <| bif (kMl p) == (kMl p) then some true else some false) := by kernel_rfl
theorem rB_14_s1 (r : Int) (y0 : Int) (p : Int) (w0 : Int) : evCall Try.prog (SB (unitV 14 r [] [y0]) [p] (kMl p)) tb 100 Bool (.fn 9) [unitV 14 r [] [y0], ints [p], ints [w0]] ⟨fun _ => none, 0⟩ .off done = (
    D [] <| D [(unitV 14 r [] [y0]), ints [p]] <| D [(unitV 14 r [] [y0]), ints [p]] <| bif !((kMl p) == (kMl p)) then some false else
    U (unitV 14 r [] [y0]) <| Z [y0] <| C [y0] <| gk3 w0 <| gk3 p <| bif (kMl p) == (kMl p) then some true else some false) := by kernel_rfl
theorem rB_14_t (r : Int) (y0 : Int) (p : Int) (w0 w1 : Int) (t : List Int) : evCall Try.prog (SB (unitV 14 r [] [y0]) [p] (kMl p)) tb 100 Bool (.fn 9) [unitV 14 r [] [y0], ints [p], ints (w0 :: w1 :: t)] ⟨fun _ => none, 0⟩ .off done = (
    D [] <| bif decide (((w0 :: w1 :: t).length : Int) > 500) then some true else D [(unitV 14 r [] [y0]), ints [p]] <| D [(unitV 14 r [] [y0]), ints [p]] <| bif !((kMl p) == (kMl p)) then some false else
    U (unitV 14 r [] [y0]) <| Z [y0] <| C [y0] <| gk3 p <| bif (kMl p) == (kMl p) then some true else some false) := by kernel_rfl
theorem law_14 (r : Int) (y0 : Int) (p : Int) (ws : List Int) (h : YesP 14 r [] [y0] [p] (kMl p)) : ∃ S, Ok S ∧ evCall Try.prog S tb 100 Bool (.fn 9) [unitV 14 r [] [y0], ints [p], ints ws] ⟨fun _ => none, 0⟩ .off done = some true := by
  refine ⟨_, SB_ok h, ?_⟩
  rcases ws with _ | ⟨w0, _ | ⟨w1, t⟩⟩
  · refine (rB_14_s0 r y0 p).trans ?_
    simp only [D, same_self, U_eq, Z_eq, C_eq y0 [] (by simp), h3l_eq, cond_true, beq_self_eq_true, Bool.not_true, cond_false]
  · refine (rB_14_s1 r y0 p w0).trans ?_
    simp only [D, same_self, U_eq, Z_eq, C_eq y0 [] (by simp), h3l_eq, cond_true, beq_self_eq_true, Bool.not_true, cond_false]
  · refine (rB_14_t r y0 p w0 w1 t).trans ?_
    simp only [D, same_self, U_eq, Z_eq, C_eq y0 [] (by simp), h3l_eq, cond_true, beq_self_eq_true, Bool.not_true, cond_false]
    cases decide (((w0 :: w1 :: t).length : Int) > 500) <;> rfl
theorem rB_15_s0 (r : Int) (y0 : Int) : evCall Try.prog (SB (unitV 15 r [] [y0]) ([] : List Int) (y0)) tb 100 Bool (.fn 9) [unitV 15 r [] [y0], ints ([] : List Int), ints ([] : List Int)] ⟨fun _ => none, 0⟩ .off done = (
    D [] <| D [(unitV 15 r [] [y0]), ints ([] : List Int)] <| D [(unitV 15 r [] [y0]), ints ([] : List Int)] <| bif !((y0) == (y0)) then some false else
    U (unitV 15 r [] [y0]) <| Z [y0] <| C [y0] <| bif (y0) == (y0) then some true else some false) := by kernel_rfl
theorem rB_15_t (r : Int) (y0 : Int) (w0 : Int) (t : List Int) : evCall Try.prog (SB (unitV 15 r [] [y0]) ([] : List Int) (y0)) tb 100 Bool (.fn 9) [unitV 15 r [] [y0], ints ([] : List Int), ints (w0 :: t)] ⟨fun _ => none, 0⟩ .off done = (
    D [] <| bif decide (((w0 :: t).length : Int) > 500) then some true else D [(unitV 15 r [] [y0]), ints ([] : List Int)] <| D [(unitV 15 r [] [y0]), ints ([] : List Int)] <| bif !((y0) == (y0)) then some false else
    U (unitV 15 r [] [y0]) <| Z [y0] <| C [y0] <| bif (y0) == (y0) then some true else some false) := by kernel_rfl
theorem law_15 (r : Int) (y0 : Int) (ws : List Int) (h : YesP 15 r [] [y0] ([] : List Int) (y0)) : ∃ S, Ok S ∧ evCall Try.prog S tb 100 Bool (.fn 9) [unitV 15 r [] [y0], ints ([] : List Int), ints ws] ⟨fun _ => none, 0⟩ .off done = some true := by
  refine ⟨_, SB_ok h, ?_⟩
  rcases ws with _ | ⟨w0, t⟩
  · refine (rB_15_s0 r y0).trans ?_
    simp only [D, same_self, U_eq, Z_eq, C_eq y0 [] (by simp), cond_true, beq_self_eq_true, Bool.not_true, cond_false]
  · refine (rB_15_t r y0 w0 t).trans ?_
    simp only [D, same_self, U_eq, Z_eq, C_eq y0 [] (by simp), cond_true, beq_self_eq_true, Bool.not_true, cond_false]
    cases decide (((w0 :: t).length : Int) > 500) <;> rfl
end Go.Proofs.Ythlmbnhelkbchaa
