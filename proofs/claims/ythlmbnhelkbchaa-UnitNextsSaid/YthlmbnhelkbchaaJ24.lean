/- The document's Run of a delay: a round of its loop. -/
import Derived.Test.YthlmbnhelkbchaaJ23
import Derived.Test.YthlmbnhelkbchaaJ19
namespace Go.Proofs.Ythlmbnhelkbchaa
open Go.Ev
set_option maxRecDepth 100000
def cellsRd (r u0 y0 : Int) (o : Rs) (pv : AV) : List AV := [int64 11, int64 r, ints [u0], ints [y0], int64 o.frame, int64 o.held, int64 o.phase, int64 o.n, int64 o.stage, .bool o.gate, int64 o.fall, pv]
def st34d (r u0 y0 : Int) (n : Int) (ls : List (List Int)) (i : Int) (o : Rs) (pv out : AV) (l : List (Nat × Blk)) : St := ⟨[.dead, int64 n, lists ls, .ptr (some (0, 0)), .dead, .dead, .ptr (some (1, 0)), .dead, .dead, .dead, out, int64 i] ++ repA .dead 65,
  mkHeap (l ++ [(1, zero12), (0, .cells true (cellsRd r u0 y0 o pv))]) 10, [], .off⟩
section
variable {A : Type}
def pushL (p : Int) (ps : List Int) (x : Int) : List AV := appA (takeA (dropA ((p :: ps).map int64) (1 * 1)) (ps.length * 1)) [int64 (num x)]
def pushV (p : Int) (ps : List Int) (x : Int) : AV := .fz (fixLen ((ps.length + 1) * 1) (dropA (pushL p ps x) 0)) (ps.length + 1) false 1
noncomputable def stepR11 (p : Int) (ps : List Int) (o : Rs) (x : Int) (f : AV → Rs → Int → Option A) : Option A :=
  ldI (p :: ps) 0 fun v => guardK (Nat.ble (ps.length + 1) (ps.length + 1)) <| guardK (Nat.ble (ps.length + 1) (ps.length + 1)) <|
  guardK (Nat.ble ((ps.length + 1) * 8) limit && Nat.ble (ps.length + 1) limit && Nat.beq (ps.length + 1) (ps.length + 1) && true) <| f (pushV p ps x) o v
noncomputable def bodyRd (n i r : Int) (o : Rs) (xs : List Int) (yes : Int → Option A) (no ex : Option A) : Option A := bif decide (i < n) then ldI xs i fun x => dueRT r o.frame (yes x) no else ex
noncomputable def yesR0 (r u0 y0 n : Int) (ls : List (List Int)) (i : Int) (p : Int) (ps : List Int) (o : Rs) (K : Ex → St → Option A) (x : Int) : Option A :=
  stepR11 p ps o x fun pv o' v => E v <| guardK (allS (pushL p ps x) && true && true) <| K .normal (st34d r u0 y0 n ls (IntKind.i64.wrap (i + 1)) (fwdR (heldR o' v)) pv (.gr (8, 0) 1 1) [(8, .cells true [int64 v])])
noncomputable def noR0 (r u0 y0 n : Int) (ls : List (List Int)) (i : Int) (p : Int) (ps : List Int) (o : Rs) (K : Ex → St → Option A) : Option A :=
  E o.held <| K .normal (st34d r u0 y0 n ls (IntKind.i64.wrap (i + 1)) (fwdR o) (ints (p :: ps)) (.gr (8, 0) 1 1) [(8, .cells true [int64 o.held])])
noncomputable def yesRG (r u0 y0 n : Int) (ls : List (List Int)) (i : Int) (p : Int) (ps : List Int) (o : Rs) (cs : List AV) (q : Nat) (K : Ex → St → Option A) (x : Int) : Option A :=
  stepR11 p ps o x fun pv o' v => E v <| guardK (Nat.ble ((q + 1 + 1) * 8) limit && Nat.ble (q + 1 + 1) limit) <| guardK (Nat.ble (0 + (q + 1) * 1) (lenA cs)) <|
    guardK (allS (pushL p ps x) && true && (allS (appA (takeA (dropA cs 0) ((q + 1) * 1)) [int64 v]) && true)) <|
    K .normal (st34d r u0 y0 n ls (IntKind.i64.wrap (i + 1)) (fwdR (heldR o' v)) pv (.gr (8, 0) (q + 1 + 1) 1) [(8, .cells true (appA (takeA (dropA cs 0) ((q + 1) * 1)) [int64 v]))])
noncomputable def noRG (r u0 y0 n : Int) (ls : List (List Int)) (i : Int) (p : Int) (ps : List Int) (o : Rs) (cs : List AV) (q : Nat) (K : Ex → St → Option A) : Option A :=
  E o.held <| guardK (Nat.ble ((q + 1 + 1) * 8) limit && Nat.ble (q + 1 + 1) limit) <| guardK (Nat.ble (0 + (q + 1) * 1) (lenA cs)) <|
    guardK (allS (appA (takeA (dropA cs 0) ((q + 1) * 1)) [int64 o.held]) && true) <|
    K .normal (st34d r u0 y0 n ls (IntKind.i64.wrap (i + 1)) (fwdR o) (ints (p :: ps)) (.gr (8, 0) (q + 1 + 1) 1) [(8, .cells true (appA (takeA (dropA cs 0) ((q + 1) * 1)) [int64 o.held]))])
end
theorem b34d {A : Type} (r u0 y0 n i p : Int) (ps : List Int) (o : Rs) (xs : List Int) (K : Ex → St → Option A) : loopBG Try.prog (OT orc0) tb 34 12 ⟨[8], [0], [31]⟩ 2 (st34d r u0 y0 n [xs] i o (ints (p :: ps)) (.sl none 0 0 true 0) []) K =
    bodyRd n i r o xs (yesR0 r u0 y0 n [xs] i p ps o K) (noR0 r u0 y0 n [xs] i p ps o K) (K (.exit 2) (st34d r u0 y0 n [xs] i o (ints (p :: ps)) (.sl none 0 0 true 0) [])) := by kernel_rfl
theorem g34d {A : Type} (r u0 y0 n i p : Int) (ps : List Int) (o : Rs) (xs : List Int) (cs : List AV) (q : Nat) (K : Ex → St → Option A) : loopBG Try.prog (OT orc0) tb 34 12 ⟨[8], [0], [31]⟩ 2 (st34d r u0 y0 n [xs] i o (ints (p :: ps)) (.gr (8, 0) (q + 1) 1) [(8, .cells true cs)]) K =
    bodyRd n i r o xs (yesRG r u0 y0 n [xs] i p ps o cs q K) (noRG r u0 y0 n [xs] i p ps o cs q K) (guardK (allS cs && true) (K (.exit 2) (st34d r u0 y0 n [xs] i o (ints (p :: ps)) (.gr (8, 0) (q + 1) 1) [(8, .cells true cs)]))) := by kernel_rfl
end Go.Proofs.Ythlmbnhelkbchaa
/- The document's Run: the rounds, kind by kind. Printed by utgen.py. -/
namespace Go.Proofs.Ythlmbnhelkbchaa
open Go.Ev
set_option maxRecDepth 100000
theorem b34_1 {A : Type} (r u0 n i : Int) (o : Rs) (xs : List Int) (K : Ex → St → Option A) : B34 (OT orc0) 1 r [u0] [] n [xs] i o K = bodyR n i r o (ldI xs i) (stepR1 r u0 o) (tailR0 1 r [u0] [] n [xs] i K) (exR0 1 r [u0] [] n [xs] i o K) := by kernel_rfl
theorem g34_1 {A : Type} (r u0 n i : Int) (o : Rs) (xs : List Int) (cs : List AV) (q : Nat) (K : Ex → St → Option A) : G34 (OT orc0) 1 r [u0] [] n [xs] i o cs q K = bodyR n i r o (ldI xs i) (stepR1 r u0 o) (tailRG 1 r [u0] [] n [xs] i cs q K) (exRG 1 r [u0] [] n [xs] i o cs q K) := by kernel_rfl
theorem b34_2 {A : Type} (r u0 u1 n i : Int) (o : Rs) (xs ys : List Int) (K : Ex → St → Option A) : B34 (OT orc0) 2 r [u0, u1] [] n [xs, ys] i o K = bodyR n i r o (in2R xs ys i) (stepR2 r u0 u1 o) (tailR0 2 r [u0, u1] [] n [xs, ys] i K) (exR0 2 r [u0, u1] [] n [xs, ys] i o K) := by kernel_rfl
theorem g34_2 {A : Type} (r u0 u1 n i : Int) (o : Rs) (xs ys : List Int) (cs : List AV) (q : Nat) (K : Ex → St → Option A) : G34 (OT orc0) 2 r [u0, u1] [] n [xs, ys] i o cs q K = bodyR n i r o (in2R xs ys i) (stepR2 r u0 u1 o) (tailRG 2 r [u0, u1] [] n [xs, ys] i cs q K) (exRG 2 r [u0, u1] [] n [xs, ys] i o cs q K) := by kernel_rfl
theorem b34_3 {A : Type} (r u0 n i : Int) (o : Rs) (xs : List Int) (K : Ex → St → Option A) : B34 (OT orc0) 3 r [u0] [] n [xs] i o K = bodyR n i r o (ldI xs i) (stepR3 r u0 o) (tailR0 3 r [u0] [] n [xs] i K) (exR0 3 r [u0] [] n [xs] i o K) := by kernel_rfl
theorem g34_3 {A : Type} (r u0 n i : Int) (o : Rs) (xs : List Int) (cs : List AV) (q : Nat) (K : Ex → St → Option A) : G34 (OT orc0) 3 r [u0] [] n [xs] i o cs q K = bodyR n i r o (ldI xs i) (stepR3 r u0 o) (tailRG 3 r [u0] [] n [xs] i cs q K) (exRG 3 r [u0] [] n [xs] i o cs q K) := by kernel_rfl
theorem b34_4 {A : Type} (r y0 n i : Int) (o : Rs) (K : Ex → St → Option A) : B34 (OT orc0) 4 r [] [y0] n [] i o K = bodyR n i r o no0R (stepR4 r y0 o) (tailR0 4 r [] [y0] n [] i K) (exR0 4 r [] [y0] n [] i o K) := by kernel_rfl
theorem g34_4 {A : Type} (r y0 n i : Int) (o : Rs) (cs : List AV) (q : Nat) (K : Ex → St → Option A) : G34 (OT orc0) 4 r [] [y0] n [] i o cs q K = bodyR n i r o no0R (stepR4 r y0 o) (tailRG 4 r [] [y0] n [] i cs q K) (exRG 4 r [] [y0] n [] i o cs q K) := by kernel_rfl
theorem b34_5 {A : Type} (r y0 y1 y2 n i : Int) (o : Rs) (K : Ex → St → Option A) : B34 (OTh orc0) 5 r [] [y0, y1, y2] n [] i o K = bodyR n i r o no0R (stepR5 r y0 y1 y2 o) (tailR0 5 r [] [y0, y1, y2] n [] i K) (exR0 5 r [] [y0, y1, y2] n [] i o K) := by kernel_rfl
theorem g34_5 {A : Type} (r y0 y1 y2 n i : Int) (o : Rs) (cs : List AV) (q : Nat) (K : Ex → St → Option A) : G34 (OTh orc0) 5 r [] [y0, y1, y2] n [] i o cs q K = bodyR n i r o no0R (stepR5 r y0 y1 y2 o) (tailRG 5 r [] [y0, y1, y2] n [] i cs q K) (exRG 5 r [] [y0, y1, y2] n [] i o cs q K) := by kernel_rfl
theorem b34_6 {A : Type} (r u0 y0 y1 y2 y3 n i : Int) (o : Rs) (xs : List Int) (K : Ex → St → Option A) : B34 (OT6 orc0) 6 r [u0] [y0, y1, y2, y3] n [xs] i o K = bodyR n i r o (ldI xs i) (stepR6 r u0 y0 y1 y2 y3 o) (tailR0 6 r [u0] [y0, y1, y2, y3] n [xs] i K) (exR0 6 r [u0] [y0, y1, y2, y3] n [xs] i o K) := by kernel_rfl
theorem g34_6 {A : Type} (r u0 y0 y1 y2 y3 n i : Int) (o : Rs) (xs : List Int) (cs : List AV) (q : Nat) (K : Ex → St → Option A) : G34 (OT6 orc0) 6 r [u0] [y0, y1, y2, y3] n [xs] i o cs q K = bodyR n i r o (ldI xs i) (stepR6 r u0 y0 y1 y2 y3 o) (tailRG 6 r [u0] [y0, y1, y2, y3] n [xs] i cs q K) (exRG 6 r [u0] [y0, y1, y2, y3] n [xs] i o cs q K) := by kernel_rfl
theorem b34_7 {A : Type} (r u0 u1 n i : Int) (o : Rs) (xs ys : List Int) (K : Ex → St → Option A) : B34 (OTl orc0) 7 r [u0, u1] [] n [xs, ys] i o K = bodyR n i r o (in2R xs ys i) (stepR7 r u0 u1 o) (tailR0 7 r [u0, u1] [] n [xs, ys] i K) (exR0 7 r [u0, u1] [] n [xs, ys] i o K) := by kernel_rfl
theorem g34_7 {A : Type} (r u0 u1 n i : Int) (o : Rs) (xs ys : List Int) (cs : List AV) (q : Nat) (K : Ex → St → Option A) : G34 (OTl orc0) 7 r [u0, u1] [] n [xs, ys] i o cs q K = bodyR n i r o (in2R xs ys i) (stepR7 r u0 u1 o) (tailRG 7 r [u0, u1] [] n [xs, ys] i cs q K) (exRG 7 r [u0, u1] [] n [xs, ys] i o cs q K) := by kernel_rfl
theorem b34_8 {A : Type} (r u0 u1 n i : Int) (o : Rs) (xs ys : List Int) (K : Ex → St → Option A) : B34 (OT orc0) 8 r [u0, u1] [] n [xs, ys] i o K = bodyR n i r o (in2R xs ys i) (stepR8 r u0 u1 o) (tailR0 8 r [u0, u1] [] n [xs, ys] i K) (exR0 8 r [u0, u1] [] n [xs, ys] i o K) := by kernel_rfl
theorem g34_8 {A : Type} (r u0 u1 n i : Int) (o : Rs) (xs ys : List Int) (cs : List AV) (q : Nat) (K : Ex → St → Option A) : G34 (OT orc0) 8 r [u0, u1] [] n [xs, ys] i o cs q K = bodyR n i r o (in2R xs ys i) (stepR8 r u0 u1 o) (tailRG 8 r [u0, u1] [] n [xs, ys] i cs q K) (exRG 8 r [u0, u1] [] n [xs, ys] i o cs q K) := by kernel_rfl
theorem b34_9 {A : Type} (r u0 u1 n i : Int) (o : Rs) (xs ys : List Int) (K : Ex → St → Option A) : B34 (OTg orc0) 9 r [u0, u1] [] n [xs, ys] i o K = bodyR n i r o (in2R xs ys i) (stepR9 r u0 u1 o) (tailR0 9 r [u0, u1] [] n [xs, ys] i K) (exR0 9 r [u0, u1] [] n [xs, ys] i o K) := by kernel_rfl
theorem g34_9 {A : Type} (r u0 u1 n i : Int) (o : Rs) (xs ys : List Int) (cs : List AV) (q : Nat) (K : Ex → St → Option A) : G34 (OTg orc0) 9 r [u0, u1] [] n [xs, ys] i o cs q K = bodyR n i r o (in2R xs ys i) (stepR9 r u0 u1 o) (tailRG 9 r [u0, u1] [] n [xs, ys] i cs q K) (exRG 9 r [u0, u1] [] n [xs, ys] i o cs q K) := by kernel_rfl
theorem b34_10 {A : Type} (r u0 u1 n i : Int) (o : Rs) (xs ys : List Int) (K : Ex → St → Option A) : B34 (OT orc0) 10 r [u0, u1] [] n [xs, ys] i o K = bodyR n i r o (in2R xs ys i) (stepR10 r u0 u1 o) (tailR0 10 r [u0, u1] [] n [xs, ys] i K) (exR0 10 r [u0, u1] [] n [xs, ys] i o K) := by kernel_rfl
theorem g34_10 {A : Type} (r u0 u1 n i : Int) (o : Rs) (xs ys : List Int) (cs : List AV) (q : Nat) (K : Ex → St → Option A) : G34 (OT orc0) 10 r [u0, u1] [] n [xs, ys] i o cs q K = bodyR n i r o (in2R xs ys i) (stepR10 r u0 u1 o) (tailRG 10 r [u0, u1] [] n [xs, ys] i cs q K) (exRG 10 r [u0, u1] [] n [xs, ys] i o cs q K) := by kernel_rfl
theorem b34_12 {A : Type} (r y0 n i : Int) (o : Rs) (xs : List Int) (K : Ex → St → Option A) : B34 (OT orc0) 12 r [] [y0] n [xs] i o K = bodyR n i r o (ldI xs i) (stepR12 r y0 o) (tailR0 12 r [] [y0] n [xs] i K) (exR0 12 r [] [y0] n [xs] i o K) := by kernel_rfl
theorem g34_12 {A : Type} (r y0 n i : Int) (o : Rs) (xs : List Int) (cs : List AV) (q : Nat) (K : Ex → St → Option A) : G34 (OT orc0) 12 r [] [y0] n [xs] i o cs q K = bodyR n i r o (ldI xs i) (stepR12 r y0 o) (tailRG 12 r [] [y0] n [xs] i cs q K) (exRG 12 r [] [y0] n [xs] i o cs q K) := by kernel_rfl
theorem b34_13 {A : Type} (r u0 y0 n i : Int) (o : Rs) (xs : List Int) (K : Ex → St → Option A) : B34 (OT orc0) 13 r [u0] [y0] n [xs] i o K = bodyR n i r o (ldI xs i) (stepR13 r u0 y0 o) (tailR0 13 r [u0] [y0] n [xs] i K) (exR0 13 r [u0] [y0] n [xs] i o K) := by kernel_rfl
theorem g34_13 {A : Type} (r u0 y0 n i : Int) (o : Rs) (xs : List Int) (cs : List AV) (q : Nat) (K : Ex → St → Option A) : G34 (OT orc0) 13 r [u0] [y0] n [xs] i o cs q K = bodyR n i r o (ldI xs i) (stepR13 r u0 y0 o) (tailRG 13 r [u0] [y0] n [xs] i cs q K) (exRG 13 r [u0] [y0] n [xs] i o cs q K) := by kernel_rfl
theorem b34_14 {A : Type} (r y0 n i : Int) (o : Rs) (xs : List Int) (K : Ex → St → Option A) : B34 (OT orc0) 14 r [] [y0] n [xs] i o K = bodyR n i r o (ldI xs i) (stepR14 r y0 o) (tailR0 14 r [] [y0] n [xs] i K) (exR0 14 r [] [y0] n [xs] i o K) := by kernel_rfl
theorem g34_14 {A : Type} (r y0 n i : Int) (o : Rs) (xs : List Int) (cs : List AV) (q : Nat) (K : Ex → St → Option A) : G34 (OT orc0) 14 r [] [y0] n [xs] i o cs q K = bodyR n i r o (ldI xs i) (stepR14 r y0 o) (tailRG 14 r [] [y0] n [xs] i cs q K) (exRG 14 r [] [y0] n [xs] i o cs q K) := by kernel_rfl
theorem b34_15 {A : Type} (r y0 n i : Int) (o : Rs) (K : Ex → St → Option A) : B34 (OT orc0) 15 r [] [y0] n [] i o K = bodyR n i r o no0R (stepR15 r y0 o) (tailR0 15 r [] [y0] n [] i K) (exR0 15 r [] [y0] n [] i o K) := by kernel_rfl
theorem g34_15 {A : Type} (r y0 n i : Int) (o : Rs) (cs : List AV) (q : Nat) (K : Ex → St → Option A) : G34 (OT orc0) 15 r [] [y0] n [] i o cs q K = bodyR n i r o no0R (stepR15 r y0 o) (tailRG 15 r [] [y0] n [] i cs q K) (exRG 15 r [] [y0] n [] i o cs q K) := by kernel_rfl
end Go.Proofs.Ythlmbnhelkbchaa
/- The document's Run, whatever the kind. -/
namespace Go.Proofs.Ythlmbnhelkbchaa
open Go.Ev
set_option maxRecDepth 100000
def dueR (r fr : Int) : Bool := if r = 3 then true else if r = 2 then decide (fr.tmod 64 = 0) || decide (fr = 0) else decide (fr = 0)
theorem beq_dc (x y : Int) : (x == y) = decide (x = y) := by rw [Bool.eq_iff_iff]; simp
theorem dueRT_eq {A : Type} (r fr : Int) (x y : Option A) : dueRT r fr x y = bif dueR r fr then x else y := by
  unfold dueRT dueR
  simp only [beq_dc]
  by_cases h1 : r = 3
  · rw [decide_eq_true h1, if_pos h1]; rfl
  rw [decide_eq_false h1, if_neg h1]
  by_cases h2 : r = 2
  · rw [decide_eq_true h2, if_pos h2]
    cases decide (fr.tmod 64 = 0) <;> cases decide (fr = 0) <;> rfl
  rw [decide_eq_false h2, if_neg h2]; rfl
abbrev StepF := Nat → Rs → Rs × Int
def sayR (p : Rs × Int) : Rs := heldR p.1 p.2
def onR (r : Int) (F : StepF) (i : Nat) (o : Rs) : Rs := fwdR (bif dueR r o.frame then sayR (F i o) else o)
def runR (r : Int) (F : StepF) : Nat → Nat → Rs → Rs × List Int
  | _, 0, o => (o, [])
  | i, d + 1, o => ((runR r F (i + 1) d (onR r F i o)).1, (onR r F i o).held :: (runR r F (i + 1) d (onR r F i o)).2)
theorem runR_len (r : Int) (F : StepF) : ∀ (d i : Nat) (o : Rs), (runR r F i d o).2.length = d
  | 0, _, _ => rfl
  | d + 1, i, o => by simp only [runR, List.length_cons, runR_len r F d]
theorem bodyR_in {A X : Type} {n i r : Int} {o : Rs} {inp : (X → Option A) → Option A} {step : X → (Rs → Int → Option A) → Option A} {tl : Rs → Option A} {ex : Option A} (hi : i < n) (x : X) (p : Rs × Int) (hx : ∀ f, inp f = f x) (hs : ∀ f, step x f = f p.1 p.2) :
    bodyR n i r o inp step tl ex = tl (bif dueR r o.frame then sayR p else o) := by
  unfold bodyR
  rw [decide_eq_true hi, cond_true, hx, dueRT_eq, hs]
  cases dueR r o.frame <;> rfl
theorem bodyR_out {A X : Type} {n i r : Int} {o : Rs} {inp : (X → Option A) → Option A} {step : X → (Rs → Int → Option A) → Option A} {tl : Rs → Option A} {ex : Option A} (hi : ¬ i < n) : bodyR n i r o inp step tl ex = ex := by
  unfold bodyR
  rw [decide_eq_false hi, cond_false]
abbrev flR : Flat := ⟨[8], [], []⟩
noncomputable abbrev B34f {A : Type} (Fl : Flat) (S : Orc) (k r : Int) (ui ua : List Int) (n : Int) (ls : List (List Int)) (i : Int) (o : Rs) (K : Ex → St → Option A) : Option A := loopBG Try.prog S tb 34 12 Fl 2 (st34 k r ui ua n ls i o (.sl none 0 0 true 0) []) K
noncomputable abbrev G34f {A : Type} (Fl : Flat) (S : Orc) (k r : Int) (ui ua : List Int) (n : Int) (ls : List (List Int)) (i : Int) (o : Rs) (cs : List AV) (q : Nat) (K : Ex → St → Option A) : Option A := loopBG Try.prog S tb 34 12 Fl 2 (st34 k r ui ua n ls i o (.gr (8, 0) (q + 1) 1) [(8, .cells true cs)]) K
section
variable {Fl : Flat} {k r : Int} {ui ua : List Int} {ls : List (List Int)} {S : Orc} {F : StepF} {inv : Nat → Rs → Prop} {n : Nat}
structure RoundR (Fl : Flat) (k r : Int) (ui ua : List Int) (ls : List (List Int)) (S : Orc) (F : StepF) (inv : Nat → Rs → Prop) (n : Nat) : Prop where
  b : ∀ {A : Type} (i : Nat) (o : Rs) (K : Ex → St → Option A), inv i o → i < n → B34f Fl S k r ui ua n ls i o K = tailR0 k r ui ua n ls i K (bif dueR r o.frame then sayR (F i o) else o)
  g : ∀ {A : Type} (i : Nat) (o : Rs) (cs : List AV) (q : Nat) (K : Ex → St → Option A), inv i o → i < n → G34f Fl S k r ui ua n ls i o cs q K = tailRG k r ui ua n ls i cs q K (bif dueR r o.frame then sayR (F i o) else o)
  b' : ∀ {A : Type} (o : Rs) (K : Ex → St → Option A), inv n o → B34f Fl S k r ui ua n ls n o K = exR0 k r ui ua n ls n o K
  g' : ∀ {A : Type} (o : Rs) (cs : List AV) (q : Nat) (K : Ex → St → Option A), inv n o → G34f Fl S k r ui ua n ls n o cs q K = exRG k r ui ua n ls n o cs q K
  inv : ∀ i o, i < n → inv i o → inv (i + 1) (onR r F i o)
noncomputable abbrev so34 (k r : Int) (ui ua : List Int) (n : Nat) (ls : List (List Int)) (i : Nat) (o : Rs) (os : List Int) : St := st34 k r ui ua n ls (i : Int) o (.gr (8, 0) os.length 1) [(8, .cells true (os.map int64))]
theorem loop34 (R : RoundR Fl k r ui ua ls S F inv n) (hm : n ≤ 1000000) : ∀ (d i N : Nat) (o : Rs) (os : List Int), i + d = n → d < N → os.length = i → 0 < i → inv i o →
    loopN (loopBG Try.prog S tb 34 12 Fl 2) N (so34 k r ui ua n ls i o os) pairE = some (.exit 2, so34 k r ui ua n ls n (runR r F i d o).1 (os ++ (runR r F i d o).2)) := by
  intro d
  induction d with
  | zero =>
    intro i N o os hi hn ho h0 hv
    obtain ⟨N, rfl⟩ : ∃ m, N = m + 1 := ⟨N - 1, by omega⟩
    obtain ⟨m, hom⟩ : ∃ m, os.length = m + 1 := ⟨os.length - 1, by omega⟩
    have hi : i = n := by omega
    subst hi
    rw [loopN_succ]
    unfold so34
    rw [hom]
    refine (R.g' o _ m _ hv).trans ?_
    unfold exRG
    simp only [allS_ints, Bool.and_self, guardK, cond_true, runR, List.append_nil, hom]
    rfl
  | succ d ih =>
    intro i N o os hi hn ho h0 hv
    obtain ⟨N, rfl⟩ : ∃ m, N = m + 1 := ⟨N - 1, by omega⟩
    obtain ⟨m, hom⟩ : ∃ m, os.length = m + 1 := ⟨os.length - 1, by omega⟩
    have ih' := ih (i + 1) N (onR r F i o) (os ++ [(onR r F i o).held]) (by omega) (by omega) (by simp; omega) (by omega) (R.inv i o (by omega) hv)
    rw [loopN_succ]
    unfold so34 at ih' ⊢
    rw [hom]
    refine (R.g i o _ m _ hv (by omega)).trans ?_
    unfold tailRG
    rw [E_eq, limit_ok (by omega), grow_ints hom, allS_ints, lenM, hom, wrapN (by omega)]
    have e : Nat.ble (0 + (m + 1) * 1) (m + 1) = true := Nat.ble_eq_true_of_le (by omega)
    simp only [e, Bool.and_self, guardK, cond_true]
    have e2 : (os ++ [(onR r F i o).held]).length = m + 1 + 1 := by simp [hom]
    simp only [runR]
    rw [List.append_cons os (onR r F i o).held]
    rw [e2] at ih'
    exact ih'
theorem loop34_all (R : RoundR Fl k r ui ua ls S F inv n) (hm : n ≤ 1000000) {o : Rs} (hv : inv 0 o) (h0 : 0 < n) :
    loopN (loopBG Try.prog S tb 34 12 Fl 2) rounds (st34 k r ui ua n ls 0 o (.sl none 0 0 true 0) []) pairE = some (.exit 2, so34 k r ui ua n ls n (runR r F 0 n o).1 (runR r F 0 n o).2) := by
  obtain ⟨N, hN⟩ : ∃ n, rounds = n + 1 := ⟨99999999999999999999, rfl⟩
  have hr : rounds = 100000000000000000000 := rfl
  obtain ⟨d, rfl⟩ : ∃ d, n = d + 1 := ⟨n - 1, by omega⟩
  have hl := loop34 R hm d 1 N (onR r F 0 o) [(onR r F 0 o).held] (by omega) (by omega) rfl (by omega) (R.inv 0 o h0 hv)
  rw [hN, loopN_succ]
  refine (R.b 0 o _ hv h0).trans ?_
  unfold tailR0
  rw [E_eq]
  exact hl
theorem loop34_nil (R : RoundR Fl k r ui ua ls S F inv 0) {o : Rs} (hv : inv 0 o) :
    loopN (loopBG Try.prog S tb 34 12 Fl 2) rounds (st34 k r ui ua (0 : Nat) ls 0 o (.sl none 0 0 true 0) []) pairE = some (.exit 2, st34 k r ui ua (0 : Nat) ls 0 o (.sl none 0 0 true 0) []) := by
  obtain ⟨N, hN⟩ : ∃ n, rounds = n + 1 := ⟨99999999999999999999, rfl⟩
  rw [hN, loopN_succ]
  exact (R.b' o _ hv).trans rfl
end
def N34 : Norm := ⟨[1, 2, 3, 6, 7, 8, 10, 11], []⟩
theorem count34 : Nat.ble (countL 12 e34.code) 1 = true := by kernel_rfl
theorem norm34 : loopN0 tb 34 12 = some N34 := by kernel_rfl
noncomputable def S34 (Fl : Flat) (k r : Int) (ui ua : List Int) (n : Int) (ls : List (List Int)) (o : Rs) (s1 : St) (S : Orc) : Orc := knowLG Try.prog 34 12 N34 Fl 2 (st34 k r ui ua n ls 0 o (.sl none 0 0 true 0) []) (.exit 2) s1 S
abbrev argR (k r : Int) (ui ua : List Int) (o : Rs) (n : Int) (ls : List (List Int)) : List AV := [.agg (cellsR k r ui ua o), int64 n, lists ls]
noncomputable abbrev run34 (S : Orc) (k r : Int) (ui ua : List Int) (o : Rs) (n : Int) (ls : List (List Int)) : Option AV := evCall Try.prog S tb 100 AV (.fn 34) (argR k r ui ua o n ls) (mkHeap [] 0) .off (viewK Try.prog (resOf Try.prog 34))
abbrev resR (k r : Int) (ui ua : List Int) (o : Rs) (os : AV) (e : Int) : AV := .tup [.agg (cellsR k r ui ua o), os, int64 e]
def rangeRT {A : Type} (n : Int) (bad good : Option A) : Option A := bif decide (n < 0) then bad else bif decide (n > 4096) then bad else good
def sizeRT {A : Type} (n : Int) (bad good : Option A) : List (List Int) → Option A
  | [] => good
  | l :: ls => bif !((l.length : Int) == n) then bad else sizeRT n bad good ls
noncomputable def goRT {A : Type} (k r : Int) (ui ua : List Int) (n : Int) (ls : List (List Int)) (o : Rs) (good : Option A) : Option A := bif sameSt (st34 k r ui ua n ls 0 o (.sl none 0 0 true 0) []) (st34 k r ui ua n ls 0 o (.sl none 0 0 true 0) []) then good else none
structure RunsR (Fl : Flat) (k r : Int) (ui ua : List Int) (ls : List (List Int)) (S : Orc) : Prop where
  g : ∀ (n i : Int) (o o' : Rs) (cs : List AV) (q : Nat), run34 (S34 Fl k r ui ua n ls o (st34 k r ui ua n ls i o' (.gr (8, 0) (q + 1) 1) [(8, .cells true cs)]) S) k r ui ua o n ls =
    rangeRT n (some (resR k r ui ua o (ints []) 7)) (sizeRT n (some (resR k r ui ua o (ints []) 11)) (goRT k r ui ua n ls o (guardK (allS (dropA cs 0) && true) (some (resR k r ui ua o' (.fz (fixLen ((q + 1) * 1) (dropA cs 0)) (q + 1) false 1) 0)))) ls)
  n : ∀ (n i : Int) (o o' : Rs), run34 (S34 Fl k r ui ua n ls o (st34 k r ui ua n ls i o' (.sl none 0 0 true 0) []) S) k r ui ua o n ls =
    rangeRT n (some (resR k r ui ua o (ints []) 7)) (sizeRT n (some (resR k r ui ua o (ints []) 11)) (goRT k r ui ua n ls o (some (resR k r ui ua o' (ints []) 0))) ls)
  a : ∀ (n : Int) (o : Rs), vwArgs Try.prog [] none0 (parsOf Try.prog 34) (argR k r ui ua o n ls) = argR k r ui ua o n ls
theorem rangeRT_ok {A : Type} {n : Nat} (h : n ≤ 4096) (x y : Option A) : rangeRT (n : Int) x y = y := by
  unfold rangeRT
  rw [decide_eq_false (by omega : ¬ (n : Int) < 0), decide_eq_false (by omega : ¬ (n : Int) > 4096)]
  rfl
theorem sizeRT_ok {A : Type} {n : Nat} (x y : Option A) : ∀ (ls : List (List Int)), (∀ l ∈ ls, l.length = n) → sizeRT (n : Int) x y ls = y
  | [], _ => rfl
  | l :: ls, h => by
    unfold sizeRT
    have e : ((l.length : Int) == (n : Int)) = true := by rw [h l List.mem_cons_self]; simp
    rw [e, sizeRT_ok x y ls fun l' hl => h l' (List.mem_cons_of_mem _ hl)]
    rfl
theorem runR_fact {Fl : Flat} {k r : Int} {ui ua : List Int} {ls : List (List Int)} {S : Orc} {F : StepF} {inv : Nat → Rs → Prop} {n : Nat} (hS : Ok S) (R : RoundR Fl k r ui ua ls S F inv n) (Q : RunsR Fl k r ui ua ls S) (hn : n ≤ 4096) (hl : ∀ l ∈ ls, l.length = n) {o : Rs} (hv : inv 0 o) :
    FFact Try.prog tb 34 (argR k r ui ua o n ls) (resR k r ui ua (runR r F 0 n o).1 (ints (runR r F 0 n o).2) 0) := by
  have go : ∀ {A : Type} (x : Option A), goRT k r ui ua (n : Int) ls o x = x := fun x => by unfold goRT; rw [sameSt_self]; rfl
  refine ⟨Q.a n o, ?_⟩
  rcases Nat.eq_zero_or_pos n with rfl | h0
  · have h := loop34_nil R hv
    refine ⟨_, knowLG_ok tbOk (N := N34) (LFact.flatG hS h) hS (ep := e34) rfl norm34 count34, (Q.n ((0 : Nat) : Int) ((0 : Nat) : Int) o o).trans ?_⟩
    rw [rangeRT_ok (by omega), sizeRT_ok _ _ ls hl, go]
    rfl
  · have h := loop34_all R (by omega) hv h0
    obtain ⟨m, hm⟩ : ∃ m, (runR r F 0 n o).2.length = m + 1 := ⟨n - 1, by rw [runR_len]; omega⟩
    unfold so34 at h
    rw [hm] at h
    refine ⟨_, knowLG_ok tbOk (N := N34) (LFact.flatG hS h) hS (ep := e34) rfl norm34 count34, (Q.g n n o _ _ m).trans ?_⟩
    rw [rangeRT_ok hn, sizeRT_ok _ _ ls hl, go]
    have e := fix_ints (runR r F 0 n o).2
    rw [hm] at e
    have e2 : allS (dropA ((runR r F 0 n o).2.map int64) 0) = true := by rw [dropA_eq, List.drop_zero, allS_ints]
    rw [e, e2]
    unfold ints
    rw [hm]
    rfl
end Go.Proofs.Ythlmbnhelkbchaa
/- UnitNumbers: the document's low. -/
namespace Go.Proofs.Ythlmbnhelkbchaa
open Go.Ev
set_option maxRecDepth 100000
noncomputable def OR (S : Orc) : Orc := knowW 16 (fun a => isSo (isN1 a)) V16 (knowW 47 (fun a => isSo (isN3 a)) V47 (knowW 77 (fun a => isSo (is77 a)) V77 S))
def st43 (w : Int) (xs : List Int) (i n : Int) (o : AV) (l : List (Nat × Blk)) : St := ⟨[int64 w, ints xs, .dead, .dead, .dead, .dead, .ptr (some (0, 0)), o, int64 i] ++ repA .dead 28, mkHeap (l ++ [(0, .cells true [int64 7, int64 0, .sl none 0 0 true 0, .sl none 0 0 true 0, int64 0, int64 0, int64 0, int64 n, int64 0, .bool false, int64 0, .sl none 0 0 true 0])]) 8, [], .off⟩
noncomputable def h77 {A : Type} (x y : Int) (k : Option A) : Option A := bif isSo (is77 [int64 x, int64 y, int64 65536]) then k else none
def lowN (x w n : Int) : Int := w64 (n + round1 (w64 (w64 (num x - n) * into (num w) 0 65536)))
noncomputable def stepR {A : Type} (x w n : Int) (k : Int → Option A) : Option A :=
  h1 x <| h1 w <| h3l (num w) 0 65536 <| El n <| El (num x) <| El n <| h77 (w64 (num x - n)) (into (num w) 0 65536) <| El n <| El (lowN x w n) <| k (lowN x w n)
noncomputable def body43 {A : Type} (w : Int) (xs : List Int) (i n : Int) (cs : List AV) (m : Nat) (K : Ex → St → Option A) : Option A :=
  bif decide (i < (xs.length : Int)) then
    ldI xs i fun x => stepR x w n fun v =>
    guardK (Nat.ble ((m + 1 + 1) * 8) limit && Nat.ble (m + 1 + 1) limit) <| guardK (Nat.ble (0 + (m + 1) * 1) (lenA cs)) <| guardK (allS (appA (takeA (dropA cs 0) ((m + 1) * 1)) [int64 v]) && true) <|
    K .normal (st43 w xs (IntKind.i64.wrap (i + 1)) v (.gr (6, 0) (m + 1 + 1) 1) [(6, .cells true (appA (takeA (dropA cs 0) ((m + 1) * 1)) [int64 v]))])
  else guardK (allS cs && true) (K (.exit 0) (st43 w xs i n (.gr (6, 0) (m + 1) 1) [(6, .cells true cs)]))
theorem b43 {A : Type} (w : Int) (xs : List Int) (i n : Int) (cs : List AV) (m : Nat) (K : Ex → St → Option A) :
    loopBF Try.prog (OR orc0) tb 43 6 [6] 1 (st43 w xs i n (.gr (6, 0) (m + 1) 1) [(6, .cells true cs)]) K = body43 w xs i n cs m K := by kernel_rfl
theorem b43_0 {A : Type} (w : Int) (xs : List Int) (i n : Int) (K : Ex → St → Option A) :
    loopBF Try.prog (OR orc0) tb 43 6 [6] 1 (st43 w xs i n (.sl none 0 0 true 0) []) K =
    bif decide (i < (xs.length : Int)) then
      ldI xs i fun x => stepR x w n fun v => K .normal (st43 w xs (IntKind.i64.wrap (i + 1)) v (.gr (6, 0) 1 1) [(6, .cells true [int64 v])])
    else K (.exit 0) (st43 w xs i n (.sl none 0 0 true 0) []) := by kernel_rfl
theorem low_raw {x w last : Int} (h1 : -1099511627776 ≤ last) (h2 : last ≤ 1099511627776) : w64 (last + round1 (lowP x w last)) = lowV x w last ∧ -1099511627776 ≤ lowV x w last ∧ lowV x w last ≤ 1099511627776 := by
  obtain ⟨a1, a2, -, -, -⟩ := kept_b x (-1099511627776) 1099511627776 (by omega)
  obtain ⟨c1, c2, c3, c4, c5⟩ := kept_b w (-1099511627776) 1099511627776 (by omega)
  obtain ⟨b1, b2, b3, b4, b5⟩ := kept_b (kMl w) 0 65536 (by omega)
  have hk : lowP x w last = (kMl x - last) * kept (kMl w) 0 65536 := by
    unfold lowP w64
    have e : IntKind.i64.wrap (kMl x - last) = kMl x - last := by
      rw [IntKind.wrap_i64]
      unfold kMl
      omega
    rw [e]
    have f1 : (kMl x - last) * kept (kMl w) 0 65536 ≤ 2199023255552 * 65536 := by
      rcases Int.le_total (kMl x - last) 0 with h | h
      · have := Int.mul_nonneg (show 0 ≤ -(kMl x - last) by omega) b1
        rw [Int.neg_mul] at this
        omega
      · exact Int.mul_le_mul (by unfold kMl; omega) b2 b1 (by omega)
    have f2 : -(2199023255552 * 65536) ≤ (kMl x - last) * kept (kMl w) 0 65536 := by
      rcases Int.le_total (kMl x - last) 0 with h | h
      · have := Int.mul_le_mul (show -(kMl x - last) ≤ 2199023255552 by unfold kMl; omega) b2 b1 (by omega)
        rw [Int.neg_mul] at this
        omega
      · have := Int.mul_nonneg h b1
        omega
    rw [IntKind.wrap_i64]
    omega
  have hd1 : -2199023255552 ≤ kMl x - last := by unfold kMl; omega
  have hd2 : kMl x - last ≤ 2199023255552 := by unfold kMl; omega
  have ha1 : -1099511627776 ≤ kMl x := a1
  have ha2 : kMl x ≤ 1099511627776 := a2
  generalize hw : kept (kMl w) 0 65536 = q at *
  generalize hx : kMl x = a at *
  -- the product lies between
  have g1 : a - last ≤ 0 → (a - last) * 65536 ≤ (a - last) * q ∧ (a - last) * q ≤ 0 := fun h => by
    have := Int.mul_le_mul_of_nonneg_left b2 (show 0 ≤ -(a - last) by omega)
    have := Int.mul_nonneg (show 0 ≤ -(a - last) by omega) b1
    rw [Int.neg_mul] at *
    rw [Int.neg_mul] at *
    omega
  have g2 : 0 ≤ a - last → 0 ≤ (a - last) * q ∧ (a - last) * q ≤ (a - last) * 65536 := fun h => ⟨Int.mul_nonneg h b1, Int.mul_le_mul_of_nonneg_left b2 h⟩
  have hb : -2199023255552 * 65536 ≤ (a - last) * q ∧ (a - last) * q ≤ 2199023255552 * 65536 := by
    rcases Int.le_total (a - last) 0 with h | h
    · have := g1 h; omega
    · have := g2 h; omega
  have hr := round1_eq (p := (a - last) * q) (by omega) (by omega)
  have hin : -1099511627776 ≤ last + round1 ((a - last) * q) ∧ last + round1 ((a - last) * q) ≤ 1099511627776 := by
    rw [hr]
    rcases Int.le_total (a - last) 0 with h | h
    · have := g1 h
      split <;> omega
    · have := g2 h
      split <;> omega
  have e : w64 (last + round1 ((a - last) * q)) = last + round1 ((a - last) * q) := by
    unfold w64
    rw [IntKind.wrap_i64]
    omega
  unfold lowV
  rw [hk, e]
  have hkk := (kept_b (last + round1 ((a - last) * q)) (-1099511627776) 1099511627776 (by omega)).2.2.2.2 hin.1 hin.2
  unfold kMl
  rw [hkk]
  exact ⟨rfl, hin.1, hin.2⟩
theorem into_eq (n lo hi : Int) (h : lo ≤ hi) : into n lo hi = kept n lo hi := by
  unfold into kept maxI minI
  by_cases h1 : n < lo
  · rw [decide_eq_true h1, cond_true]
    split <;> split <;> omega
  · rw [decide_eq_false h1, cond_false]
    by_cases h2 : n > hi
    · rw [decide_eq_true h2, cond_true]
      split <;> split <;> omega
    · rw [decide_eq_false h2, cond_false]
      split <;> split <;> omega
theorem stepR_eq {A : Type} {x w n : Int} (a1 : -1099511627776 ≤ n) (a2 : n ≤ 1099511627776) (k : Int → Option A) : stepR x w n k = k (lowV x w n) := by
  have h : ∀ (x lo hi : Int) (y : Option A), h3l x lo hi y = y := fun x lo hi y => by unfold h3l; rw [isSo_true ⟨_, _, _, rfl⟩]; rfl
  have e : ∀ (n : Int) (y : Option A), El n y = y := fun n y => by unfold El; rw [beq_self_eq_true]; rfl
  obtain ⟨b1, b2, -, -, -⟩ := kept_b x (-1099511627776) 1099511627776 (by omega)
  obtain ⟨c1, c2, -, -, -⟩ := kept_b (kMl w) 0 65536 (by omega)
  have hx : num x = kMl x := num_eq x
  have hw : num w = kMl w := num_eq w
  have hd : w64 (kMl x - n) = kMl x - n := by unfold w64; rw [IntKind.wrap_i64]; unfold kMl; omega
  have h7 : ∀ y : Option A, h77 (w64 (num x - n)) (into (num w) 0 65536) y = y := fun y => by
    unfold h77
    rw [isSo_true ⟨_, _, rfl, by rw [hx, hd]; unfold kMl; omega, by rw [hx, hd]; unfold kMl; omega, by rw [hw, into_eq _ _ _ (by omega)]; exact c1, by rw [hw, into_eq _ _ _ (by omega)]; exact c2⟩]
    rfl
  have hN : lowN x w n = lowV x w n := by
    unfold lowN
    rw [hx, hw, into_eq _ _ _ (by omega)]
    exact (low_raw (x := x) (w := w) a1 a2).1
  unfold stepR
  simp only [h1_eq, h, e, h7, hN]
def so43 (w : Int) (xs : List Int) (i : Nat) (n : Int) (os : List Int) : St := st43 w xs (i : Int) n (.gr (6, 0) os.length 1) [(6, .cells true (os.map int64))]
def N43 : Norm := ⟨[0, 1, 4, 5, 6, 7, 8], []⟩
noncomputable def S43 (w : Int) (xs : List Int) (s1 : St) : Orc := knowLF Try.prog 43 6 N43 [6] 1 (st43 w xs 0 0 (.sl none 0 0 true 0) []) (.exit 0) s1 (OR orc0)
end Go.Proofs.Ythlmbnhelkbchaa
