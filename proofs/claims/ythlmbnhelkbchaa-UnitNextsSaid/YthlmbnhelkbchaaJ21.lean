/- New of a unit, and the document's, kind by kind. Printed by uvgen.py. -/
import Derived.Test.YthlmbnhelkbchaaJ18
import Derived.Test.YthlmbnhelkbchaaJ20
namespace Go.Proofs.Ythlmbnhelkbchaa
open Go.Ev
set_option maxRecDepth 100000
noncomputable abbrev N18 (u : AV) : Orc := knowC Try.prog 29 [u] (.bool true) (OC2 orc0)
noncomputable abbrev N32 (u : AV) : Orc := knowC Try.prog 13 [u] (.bool true) orc0
noncomputable abbrev Us {A : Type} (u : AV) (x : Option A) : Option A := bif same [u] [u] then x else none
noncomputable abbrev Zs {A : Type} (l : List Int) (x : Option A) : Option A := bif sameV (ints l) (ints l) then x else none
def scN : Sc := ⟨[], [(0, [])]⟩
def rawN (k r : Int) (ui ua : List Int) (rnd : Int) : List AV := [int64 0, int64 k, int64 r, ints ui, ints ua, int64 0, int64 0, int64 0, int64 rnd, int64 0, .sl none 0 0 true 0, int64 0, int64 0, int64 0, .bool false]
noncomputable def psN : List (Option Nat × Option TypeId) := [(some 11, tyPt Try.prog 37)]
noncomputable abbrev run18 (S : Orc) (u : AV) := evCall Try.prog S tb 100 ORes (.fn 18) [u] (mkHeap [] 0) .off (objK Try.prog scN 18 0 [] [u])
noncomputable abbrev run32 (S : Orc) (u : AV) := evCall Try.prog S tb 100 AV (.fn 32) [u] (mkHeap [] 0) .off (viewK Try.prog (resOf Try.prog 32))
theorem n18_1 (r u0 : Int) : run18 (N18 (unitV 1 r [u0] [])) (unitV 1 r [u0] []) = (Us (unitV 1 r [u0] []) <| Zs [] <| some ((.tup [.ptr (some (11, 0)), int64 0], [(11, .cells true (rawN 1 r [u0] [] 0))]), psN)) := by kernel_rfl
theorem n32_1 (r u0 : Int) : run32 (N32 (unitV 1 r [u0] [])) (unitV 1 r [u0] []) = (Us (unitV 1 r [u0] []) <| some (.tup [.agg (cellsR 1 r [u0] [] ⟨0, 0, 0, 0, 0, false, 0, []⟩), int64 0])) := by kernel_rfl
theorem n18_2 (r u0 u1 : Int) : run18 (N18 (unitV 2 r [u0, u1] [])) (unitV 2 r [u0, u1] []) = (Us (unitV 2 r [u0, u1] []) <| Zs [] <| some ((.tup [.ptr (some (11, 0)), int64 0], [(11, .cells true (rawN 2 r [u0, u1] [] 0))]), psN)) := by kernel_rfl
theorem n32_2 (r u0 u1 : Int) : run32 (N32 (unitV 2 r [u0, u1] [])) (unitV 2 r [u0, u1] []) = (Us (unitV 2 r [u0, u1] []) <| some (.tup [.agg (cellsR 2 r [u0, u1] [] ⟨0, 0, 0, 0, 0, false, 0, []⟩), int64 0])) := by kernel_rfl
theorem n18_3 (r u0 : Int) : run18 (N18 (unitV 3 r [u0] [])) (unitV 3 r [u0] []) = (Us (unitV 3 r [u0] []) <| Zs [] <| some ((.tup [.ptr (some (11, 0)), int64 0], [(11, .cells true (rawN 3 r [u0] [] 0))]), psN)) := by kernel_rfl
theorem n32_3 (r u0 : Int) : run32 (N32 (unitV 3 r [u0] [])) (unitV 3 r [u0] []) = (Us (unitV 3 r [u0] []) <| some (.tup [.agg (cellsR 3 r [u0] [] ⟨0, 0, 0, 0, 0, false, 0, []⟩), int64 0])) := by kernel_rfl
theorem n18_4 (r y0 : Int) : run18 (N18 (unitV 4 r [] [y0])) (unitV 4 r [] [y0]) = (Us (unitV 4 r [] [y0]) <| Zs [y0] <| some ((.tup [.ptr (some (11, 0)), int64 0], [(11, .cells true (rawN 4 r [] [y0] y0))]), psN)) := by kernel_rfl
theorem n32_4 (r y0 : Int) : run32 (N32 (unitV 4 r [] [y0])) (unitV 4 r [] [y0]) = (Us (unitV 4 r [] [y0]) <| some (.tup [.agg (cellsR 4 r [] [y0] ⟨0, 0, 0, y0, 0, false, 0, []⟩), int64 0])) := by kernel_rfl
theorem n18_5 (r y0 y1 y2 : Int) : run18 (N18 (unitV 5 r [] [y0, y1, y2])) (unitV 5 r [] [y0, y1, y2]) = (Us (unitV 5 r [] [y0, y1, y2]) <| Zs [y0, y1, y2] <| some ((.tup [.ptr (some (11, 0)), int64 0], [(11, .cells true (rawN 5 r [] [y0, y1, y2] 0))]), psN)) := by kernel_rfl
theorem n32_5 (r y0 y1 y2 : Int) : run32 (N32 (unitV 5 r [] [y0, y1, y2])) (unitV 5 r [] [y0, y1, y2]) = (Us (unitV 5 r [] [y0, y1, y2]) <| some (.tup [.agg (cellsR 5 r [] [y0, y1, y2] ⟨0, 0, 0, 0, 0, false, 0, []⟩), int64 0])) := by kernel_rfl
theorem n18_6 (r u0 y0 y1 y2 y3 : Int) : run18 (N18 (unitV 6 r [u0] [y0, y1, y2, y3])) (unitV 6 r [u0] [y0, y1, y2, y3]) = (Us (unitV 6 r [u0] [y0, y1, y2, y3]) <| Zs [y0, y1, y2, y3] <| some ((.tup [.ptr (some (11, 0)), int64 0], [(11, .cells true (rawN 6 r [u0] [y0, y1, y2, y3] 0))]), psN)) := by kernel_rfl
theorem n32_6 (r u0 y0 y1 y2 y3 : Int) : run32 (N32 (unitV 6 r [u0] [y0, y1, y2, y3])) (unitV 6 r [u0] [y0, y1, y2, y3]) = (Us (unitV 6 r [u0] [y0, y1, y2, y3]) <| some (.tup [.agg (cellsR 6 r [u0] [y0, y1, y2, y3] ⟨0, 0, 0, 0, 0, false, 0, []⟩), int64 0])) := by kernel_rfl
theorem n18_7 (r u0 u1 : Int) : run18 (N18 (unitV 7 r [u0, u1] [])) (unitV 7 r [u0, u1] []) = (Us (unitV 7 r [u0, u1] []) <| Zs [] <| some ((.tup [.ptr (some (11, 0)), int64 0], [(11, .cells true (rawN 7 r [u0, u1] [] 0))]), psN)) := by kernel_rfl
theorem n32_7 (r u0 u1 : Int) : run32 (N32 (unitV 7 r [u0, u1] [])) (unitV 7 r [u0, u1] []) = (Us (unitV 7 r [u0, u1] []) <| some (.tup [.agg (cellsR 7 r [u0, u1] [] ⟨0, 0, 0, 0, 0, false, 0, []⟩), int64 0])) := by kernel_rfl
theorem n18_8 (r u0 u1 : Int) : run18 (N18 (unitV 8 r [u0, u1] [])) (unitV 8 r [u0, u1] []) = (Us (unitV 8 r [u0, u1] []) <| Zs [] <| some ((.tup [.ptr (some (11, 0)), int64 0], [(11, .cells true (rawN 8 r [u0, u1] [] 0))]), psN)) := by kernel_rfl
theorem n32_8 (r u0 u1 : Int) : run32 (N32 (unitV 8 r [u0, u1] [])) (unitV 8 r [u0, u1] []) = (Us (unitV 8 r [u0, u1] []) <| some (.tup [.agg (cellsR 8 r [u0, u1] [] ⟨0, 0, 0, 0, 0, false, 0, []⟩), int64 0])) := by kernel_rfl
theorem n18_9 (r u0 u1 : Int) : run18 (N18 (unitV 9 r [u0, u1] [])) (unitV 9 r [u0, u1] []) = (Us (unitV 9 r [u0, u1] []) <| Zs [] <| some ((.tup [.ptr (some (11, 0)), int64 0], [(11, .cells true (rawN 9 r [u0, u1] [] 0))]), psN)) := by kernel_rfl
theorem n32_9 (r u0 u1 : Int) : run32 (N32 (unitV 9 r [u0, u1] [])) (unitV 9 r [u0, u1] []) = (Us (unitV 9 r [u0, u1] []) <| some (.tup [.agg (cellsR 9 r [u0, u1] [] ⟨0, 0, 0, 0, 0, false, 0, []⟩), int64 0])) := by kernel_rfl
theorem n18_10 (r u0 u1 : Int) : run18 (N18 (unitV 10 r [u0, u1] [])) (unitV 10 r [u0, u1] []) = (Us (unitV 10 r [u0, u1] []) <| Zs [] <| some ((.tup [.ptr (some (11, 0)), int64 0], [(11, .cells true (rawN 10 r [u0, u1] [] 0))]), psN)) := by kernel_rfl
theorem n32_10 (r u0 u1 : Int) : run32 (N32 (unitV 10 r [u0, u1] [])) (unitV 10 r [u0, u1] []) = (Us (unitV 10 r [u0, u1] []) <| some (.tup [.agg (cellsR 10 r [u0, u1] [] ⟨0, 0, 0, 0, 0, false, 0, []⟩), int64 0])) := by kernel_rfl
theorem n18_12 (r y0 : Int) : run18 (N18 (unitV 12 r [] [y0])) (unitV 12 r [] [y0]) = (Us (unitV 12 r [] [y0]) <| Zs [y0] <| some ((.tup [.ptr (some (11, 0)), int64 0], [(11, .cells true (rawN 12 r [] [y0] 0))]), psN)) := by kernel_rfl
theorem n32_12 (r y0 : Int) : run32 (N32 (unitV 12 r [] [y0])) (unitV 12 r [] [y0]) = (Us (unitV 12 r [] [y0]) <| some (.tup [.agg (cellsR 12 r [] [y0] ⟨0, 0, 0, 0, 0, false, 0, []⟩), int64 0])) := by kernel_rfl
theorem n18_13 (r u0 y0 : Int) : run18 (N18 (unitV 13 r [u0] [y0])) (unitV 13 r [u0] [y0]) = (Us (unitV 13 r [u0] [y0]) <| Zs [y0] <| some ((.tup [.ptr (some (11, 0)), int64 0], [(11, .cells true (rawN 13 r [u0] [y0] 0))]), psN)) := by kernel_rfl
theorem n32_13 (r u0 y0 : Int) : run32 (N32 (unitV 13 r [u0] [y0])) (unitV 13 r [u0] [y0]) = (Us (unitV 13 r [u0] [y0]) <| some (.tup [.agg (cellsR 13 r [u0] [y0] ⟨0, 0, 0, 0, 0, false, 0, []⟩), int64 0])) := by kernel_rfl
theorem n18_14 (r y0 : Int) : run18 (N18 (unitV 14 r [] [y0])) (unitV 14 r [] [y0]) = (Us (unitV 14 r [] [y0]) <| Zs [y0] <| some ((.tup [.ptr (some (11, 0)), int64 0], [(11, .cells true (rawN 14 r [] [y0] 0))]), psN)) := by kernel_rfl
theorem n32_14 (r y0 : Int) : run32 (N32 (unitV 14 r [] [y0])) (unitV 14 r [] [y0]) = (Us (unitV 14 r [] [y0]) <| some (.tup [.agg (cellsR 14 r [] [y0] ⟨0, 0, 0, 0, 0, false, 0, []⟩), int64 0])) := by kernel_rfl
theorem n18_15 (r y0 : Int) : run18 (N18 (unitV 15 r [] [y0])) (unitV 15 r [] [y0]) = (Us (unitV 15 r [] [y0]) <| Zs [y0] <| some ((.tup [.ptr (some (11, 0)), int64 0], [(11, .cells true (rawN 15 r [] [y0] 0))]), psN)) := by kernel_rfl
theorem n32_15 (r y0 : Int) : run32 (N32 (unitV 15 r [] [y0])) (unitV 15 r [] [y0]) = (Us (unitV 15 r [] [y0]) <| some (.tup [.agg (cellsR 15 r [] [y0] ⟨0, 0, 0, 0, 0, false, 0, []⟩), int64 0])) := by kernel_rfl
end Go.Proofs.Ythlmbnhelkbchaa
/- Run of a unit: a round of its loop, for a saw, a pulse and a triangle. -/
namespace Go.Proofs.Ythlmbnhelkbchaa
open Go.Ev
set_option maxRecDepth 100000
def fwd (o : Ob) : Ob := ⟨o.at', w64 (o.frame + 1), o.told, o.n, o.rnd, o.last, o.stage, o.level, o.frm, o.gate⟩
def dueT {A : Type} (r fr : Int) (yes no : Option A) : Option A := bif r == 1 then (bif fr == 0 then yes else no) else bif r == 2 then (bif fr.tmod 64 == 0 then yes else no) else yes
noncomputable def tail0 {A : Type} (k r : Int) (ui ua : List Int) (n : Int) (ls : List (List Int)) (i : Int) (K : Ex → St → Option A) (o : Ob) : Option A :=
  K .normal (st71 k r ui ua n ls (w64 (i + 1)) (fwd o) (.gr (14, 0) 1 1) [(14, .cells true [int64 o.told])])
noncomputable def tailG {A : Type} (k r : Int) (ui ua : List Int) (n : Int) (ls : List (List Int)) (i : Int) (cs : List AV) (m : Nat) (K : Ex → St → Option A) (o : Ob) : Option A :=
  guardK (Nat.ble ((m + 1 + 1) * 8) limit && Nat.ble (m + 1 + 1) limit) <| guardK (Nat.ble (0 + (m + 1) * 1) (lenA cs)) <| guardK (allS (appA (takeA (dropA cs 0) ((m + 1) * 1)) [int64 o.told]) && true) <|
  K .normal (st71 k r ui ua n ls (w64 (i + 1)) (fwd o) (.gr (14, 0) (m + 1 + 1) 1) [(14, .cells true (appA (takeA (dropA cs 0) ((m + 1) * 1)) [int64 o.told]))])
def body {A X : Type} (n i r : Int) (o : Ob) (inp : (X → Option A) → Option A) (step : X → (Ob → Option A) → Option A) (tl : Ob → Option A) (ex : Option A) : Option A :=
  bif decide (i < n) then inp fun x => dueT r o.frame (step x tl) (tl o) else ex
noncomputable abbrev B71 {A : Type} (k r : Int) (ui ua : List Int) (n : Int) (ls : List (List Int)) (i : Int) (o : Ob) (S : Orc) (K : Ex → St → Option A) : Option A := loopBG Try.prog S tb 71 1 ⟨[14], [], []⟩ 10 (st71 k r ui ua n ls i o (.sl none 0 0 true 0) []) K
noncomputable abbrev G71 {A : Type} (k r : Int) (ui ua : List Int) (n : Int) (ls : List (List Int)) (i : Int) (o : Ob) (cs : List AV) (m : Nat) (S : Orc) (K : Ex → St → Option A) : Option A := loopBG Try.prog S tb 71 1 ⟨[14], [], []⟩ 10 (st71 k r ui ua n ls i o (.gr (14, 0) (m + 1) 1) [(14, .cells true cs)]) K
noncomputable abbrev exit0 {A : Type} (k r : Int) (ui ua : List Int) (n : Int) (ls : List (List Int)) (i : Int) (o : Ob) (K : Ex → St → Option A) : Option A := K (.exit 0) (st71 k r ui ua n ls i o (.sl none 0 0 true 0) [])
noncomputable abbrev exitG {A : Type} (k r : Int) (ui ua : List Int) (n : Int) (ls : List (List Int)) (i : Int) (o : Ob) (cs : List AV) (m : Nat) (K : Ex → St → Option A) : Option A := guardK (allS cs && true) (K (.exit 0) (st71 k r ui ua n ls i o (.gr (14, 0) (m + 1) 1) [(14, .cells true cs)]))
def kM' (n : Int) : Int := kept n (-1099511627776) 1099511627776
def snd (n : Int) : Int := kept n (-8388607) 8388607
def phN (p x : Int) : Int := (w64 ((w64 (p + x)).tmod 4294967296 + 4294967296)).tmod 4294967296
def oscO (o : Ob) (x v : Int) : Ob := ⟨phN o.at' (kM' x), o.frame, v, o.n, o.rnd, o.last, o.stage, o.level, o.frm, o.gate⟩
def saw (p : Int) : Int := snd (w64 (w64 (p.tdiv 256) - 8388608))
def step1 {A : Type} (o : Ob) (x : Int) (tl : Ob → Option A) : Option A := tl (oscO o x (saw o.at'))
def step2 {A : Type} (o : Ob) (x y : Int) (tl : Ob → Option A) : Option A := bif decide (o.at' < w64 (kM' y * 65536)) then tl (oscO o x 8388607) else tl (oscO o x (-8388607))
def step3 {A : Type} (o : Ob) (x : Int) (tl : Ob → Option A) : Option A := bif decide (w64 (o.at'.tdiv 128) ≥ 16777216) then tl (oscO o x (snd (w64 (25165824 - w64 (o.at'.tdiv 128))))) else tl (oscO o x (snd (w64 (w64 (o.at'.tdiv 128) - 8388608))))
theorem b71_1 {A : Type} (r u0 n i : Int) (o : Ob) (xs : List Int) (K : Ex → St → Option A) : B71 1 r [u0] [] n [xs] i o (OI orc0) K = body n i r o (ldI xs i) (step1 o) (tail0 1 r [u0] [] n [xs] i K) (exit0 1 r [u0] [] n [xs] i o K) := by kernel_rfl
theorem g71_1 {A : Type} (r u0 n i : Int) (o : Ob) (xs : List Int) (cs : List AV) (m : Nat) (K : Ex → St → Option A) : G71 1 r [u0] [] n [xs] i o cs m (OI orc0) K = body n i r o (ldI xs i) (step1 o) (tailG 1 r [u0] [] n [xs] i cs m K) (exitG 1 r [u0] [] n [xs] i o cs m K) := by kernel_rfl
theorem b71_2 {A : Type} (r u0 u1 n i : Int) (o : Ob) (xs ys : List Int) (K : Ex → St → Option A) : B71 2 r [u0, u1] [] n [xs, ys] i o (OI orc0) K = body n i r o (fun f => ldI xs i fun x => ldI ys i fun y => f (x, y)) (fun p => step2 o p.1 p.2) (tail0 2 r [u0, u1] [] n [xs, ys] i K) (exit0 2 r [u0, u1] [] n [xs, ys] i o K) := by kernel_rfl
theorem g71_2 {A : Type} (r u0 u1 n i : Int) (o : Ob) (xs ys : List Int) (cs : List AV) (m : Nat) (K : Ex → St → Option A) : G71 2 r [u0, u1] [] n [xs, ys] i o cs m (OI orc0) K = body n i r o (fun f => ldI xs i fun x => ldI ys i fun y => f (x, y)) (fun p => step2 o p.1 p.2) (tailG 2 r [u0, u1] [] n [xs, ys] i cs m K) (exitG 2 r [u0, u1] [] n [xs, ys] i o cs m K) := by kernel_rfl
theorem b71_3 {A : Type} (r u0 n i : Int) (o : Ob) (xs : List Int) (K : Ex → St → Option A) : B71 3 r [u0] [] n [xs] i o (OI orc0) K = body n i r o (ldI xs i) (step3 o) (tail0 3 r [u0] [] n [xs] i K) (exit0 3 r [u0] [] n [xs] i o K) := by kernel_rfl
theorem g71_3 {A : Type} (r u0 n i : Int) (o : Ob) (xs : List Int) (cs : List AV) (m : Nat) (K : Ex → St → Option A) : G71 3 r [u0] [] n [xs] i o cs m (OI orc0) K = body n i r o (ldI xs i) (step3 o) (tailG 3 r [u0] [] n [xs] i cs m K) (exitG 3 r [u0] [] n [xs] i o cs m K) := by kernel_rfl
end Go.Proofs.Ythlmbnhelkbchaa
/- Run of a unit: its loop, whatever the kind. -/
namespace Go.Proofs.Ythlmbnhelkbchaa
open Go.Ev
set_option maxRecDepth 100000
def due (r fr : Int) : Bool := if r = 1 then decide (fr = 0) else if r = 2 then decide (fr.tmod 64 = 0) else true
theorem beq_dec (x y : Int) : (x == y) = decide (x = y) := by rw [Bool.eq_iff_iff]; simp
theorem dueT_eq {A : Type} (r fr : Int) (x y : Option A) : dueT r fr x y = bif due r fr then x else y := by
  unfold dueT due
  simp only [beq_dec]
  by_cases h1 : r = 1
  · rw [decide_eq_true h1, if_pos h1]; rfl
  rw [decide_eq_false h1, if_neg h1]
  by_cases h2 : r = 2
  · rw [decide_eq_true h2, if_pos h2]; rfl
  rw [decide_eq_false h2, if_neg h2]; rfl
def onO (r : Int) (F : Nat → Ob → Ob) (i : Nat) (o : Ob) : Ob := fwd (bif due r o.frame then F i o else o)
def runO (r : Int) (F : Nat → Ob → Ob) : Nat → Nat → Ob → Ob × List Int
  | _, 0, o => (o, [])
  | i, d + 1, o => ((runO r F (i + 1) d (onO r F i o)).1, (onO r F i o).told :: (runO r F (i + 1) d (onO r F i o)).2)
theorem runO_len (r : Int) (F : Nat → Ob → Ob) : ∀ (d i : Nat) (o : Ob), (runO r F i d o).2.length = d
  | 0, _, _ => rfl
  | d + 1, i, o => by simp only [runO, List.length_cons, runO_len r F d]
theorem runO_inv {r : Int} {F : Nat → Ob → Ob} {inv : Nat → Ob → Prop} (hi : ∀ i o, inv i o → inv (i + 1) (onO r F i o)) : ∀ (d i : Nat) (o : Ob), inv i o → inv (i + d) (runO r F i d o).1
  | 0, _, _, h => h
  | d + 1, i, o, h => by
    have := runO_inv hi d (i + 1) _ (hi i o h)
    rw [show i + 1 + d = i + (d + 1) by omega] at this
    exact this
section
variable {k r : Int} {ui ua : List Int} {ls : List (List Int)} {S : Orc} {F : Nat → Ob → Ob} {inv : Nat → Ob → Prop} {n : Nat}
structure Round (k r : Int) (ui ua : List Int) (ls : List (List Int)) (S : Orc) (F : Nat → Ob → Ob) (inv : Nat → Ob → Prop) (n : Nat) : Prop where
  b : ∀ {A : Type} (i : Nat) (o : Ob) (K : Ex → St → Option A), inv i o → i < n → B71 k r ui ua n ls i o S K = tail0 k r ui ua n ls i K (bif due r o.frame then F i o else o)
  g : ∀ {A : Type} (i : Nat) (o : Ob) (cs : List AV) (m : Nat) (K : Ex → St → Option A), inv i o → i < n → G71 k r ui ua n ls i o cs m S K = tailG k r ui ua n ls i cs m K (bif due r o.frame then F i o else o)
  b' : ∀ {A : Type} (o : Ob) (K : Ex → St → Option A), inv n o → B71 k r ui ua n ls n o S K = exit0 k r ui ua n ls n o K
  g' : ∀ {A : Type} (o : Ob) (cs : List AV) (m : Nat) (K : Ex → St → Option A), inv n o → G71 k r ui ua n ls n o cs m S K = exitG k r ui ua n ls n o cs m K
  inv : ∀ i o, i < n → inv i o → inv (i + 1) (onO r F i o)
noncomputable abbrev so71 (k r : Int) (ui ua : List Int) (n : Nat) (ls : List (List Int)) (i : Nat) (o : Ob) (os : List Int) : St := st71 k r ui ua n ls (i : Int) o (.gr (14, 0) os.length 1) [(14, .cells true (os.map int64))]
theorem loop71 (R : Round k r ui ua ls S F inv n) (hm : n ≤ 1000000) : ∀ (d i N : Nat) (o : Ob) (os : List Int), i + d = n → d < N → os.length = i → 0 < i → inv i o →
    loopN (loopBG Try.prog S tb 71 1 ⟨[14], [], []⟩ 10) N (so71 k r ui ua n ls i o os) pairE = some (.exit 0, so71 k r ui ua n ls n (runO r F i d o).1 (os ++ (runO r F i d o).2)) := by
  intro d
  induction d with
  | zero =>
    intro i N o os hi hn ho h0 hv
    obtain ⟨N, rfl⟩ : ∃ m, N = m + 1 := ⟨N - 1, by omega⟩
    obtain ⟨m, hom⟩ : ∃ m, os.length = m + 1 := ⟨os.length - 1, by omega⟩
    have hi : i = n := by omega
    subst hi
    rw [loopN_succ]
    unfold so71
    rw [hom]
    refine (R.g' o _ m _ hv).trans ?_
    unfold exitG
    simp only [allS_ints, Bool.and_self, guardK, cond_true, runO, List.append_nil, hom]
    rfl
  | succ d ih =>
    intro i N o os hi hn ho h0 hv
    obtain ⟨N, rfl⟩ : ∃ m, N = m + 1 := ⟨N - 1, by omega⟩
    obtain ⟨m, hom⟩ : ∃ m, os.length = m + 1 := ⟨os.length - 1, by omega⟩
    have ih' := ih (i + 1) N (onO r F i o) (os ++ [(onO r F i o).told]) (by omega) (by omega) (by simp; omega) (by omega) (R.inv i o (by omega) hv)
    rw [loopN_succ]
    unfold so71 at ih' ⊢
    rw [hom]
    refine (R.g i o _ m _ hv (by omega)).trans ?_
    unfold tailG
    rw [limit_ok (by omega), grow_ints hom, allS_ints, lenM, hom, show w64 ((i : Int) + 1) = ((i + 1 : Nat) : Int) from wrapN (by omega)]
    have e : Nat.ble (0 + (m + 1) * 1) (m + 1) = true := Nat.ble_eq_true_of_le (by omega)
    simp only [e, Bool.and_self, guardK, cond_true]
    have e2 : (os ++ [(onO r F i o).told]).length = m + 1 + 1 := by simp [hom]
    simp only [runO]
    rw [List.append_cons os (onO r F i o).told]
    rw [e2] at ih'
    exact ih'
theorem loop71_all (R : Round k r ui ua ls S F inv n) (hm : n ≤ 1000000) {o : Ob} (hv : inv 0 o) (h0 : 0 < n) :
    loopN (loopBG Try.prog S tb 71 1 ⟨[14], [], []⟩ 10) rounds (st71 k r ui ua n ls 0 o (.sl none 0 0 true 0) []) pairE = some (.exit 0, so71 k r ui ua n ls n (runO r F 0 n o).1 (runO r F 0 n o).2) := by
  obtain ⟨N, hN⟩ : ∃ n, rounds = n + 1 := ⟨99999999999999999999, rfl⟩
  have hr : rounds = 100000000000000000000 := rfl
  obtain ⟨d, rfl⟩ : ∃ d, n = d + 1 := ⟨n - 1, by omega⟩
  have hl := loop71 R hm d 1 N (onO r F 0 o) [(onO r F 0 o).told] (by omega) (by omega) rfl (by omega) (R.inv 0 o h0 hv)
  rw [hN, loopN_succ]
  exact (R.b 0 o _ hv h0).trans hl
theorem loop71_nil (R : Round k r ui ua ls S F inv 0) {o : Ob} (hv : inv 0 o) :
    loopN (loopBG Try.prog S tb 71 1 ⟨[14], [], []⟩ 10) rounds (st71 k r ui ua (0 : Nat) ls 0 o (.sl none 0 0 true 0) []) pairE = some (.exit 0, st71 k r ui ua (0 : Nat) ls 0 o (.sl none 0 0 true 0) []) := by
  obtain ⟨N, hN⟩ : ∃ n, rounds = n + 1 := ⟨99999999999999999999, rfl⟩
  rw [hN, loopN_succ]
  exact (R.b' o _ hv).trans rfl
end
end Go.Proofs.Ythlmbnhelkbchaa
/- Run of a unit: what it tells, for a saw, a pulse and a triangle. -/
namespace Go.Proofs.Ythlmbnhelkbchaa
open Go.Ev
set_option maxRecDepth 100000
def scU : Sc := ⟨[(0, [])], []⟩
noncomputable def psU : List (Option Nat × Option TypeId) := [(some 0, tyPt Try.prog 37)]
abbrev objU (k r : Int) (ui ua : List Int) (o : Ob) : List (Nat × Blk) := [(0, .cells true (cellsU k r ui ua o))]
abbrev objU2 (k r : Int) (ui ua : List Int) (o : Ob) : List (Nat × Blk) := [(0, .cells true (cellsU k r ui ua o)), (0, .cells true (cellsU k r ui ua o))]
def N71 : Norm := ⟨[0, 2, 7, 8], [(0, [1000, 6, 0]), (0, [1000, 3, 0, 10])]⟩
theorem count71 : Nat.ble (countL 1 e71.code) 1 = true := by kernel_rfl
theorem norm71 : (loopN0 tb 71 1) = some N71 := by kernel_rfl

noncomputable abbrev rU (k r : Int) (ui ua : List Int) (v : AV) (o : Ob) : Option ((AV × List (Nat × Blk)) × List (Option Nat × Option TypeId)) := some ((v, objU2 k r ui ua o), psU)
abbrev argU (n : Int) (ls : List (List Int)) : List AV := [.ptr (some (0, 0)), int64 n, lists ls]
noncomputable abbrev run19 (S : Orc) (k r : Int) (ui ua : List Int) (o : Ob) (n : Int) (ls : List (List Int)) := evCall Try.prog S tb 100 ((AV × List (Nat × Blk)) × List (Option Nat × Option TypeId)) (.fn 19) (argU n ls) (mkHeap (objU k r ui ua o) 1) .off (objK Try.prog scU 19 1 [] (argU n ls))
noncomputable def S71 (k r : Int) (ui ua : List Int) (n : Int) (ls : List (List Int)) (o : Ob) (s1 : St) (S : Orc) : Orc := knowLG Try.prog 71 1 N71 ⟨[14], [], []⟩ 10 (st71 k r ui ua n ls 0 o (.sl none 0 0 true 0) []) (.exit 0) s1 S
abbrev errU (e : Int) : AV := .tup [ints [], int64 e]
def rangeT {A : Type} (n : Int) (bad good : Option A) : Option A := bif decide (n ≥ 0) then bif !decide (n ≤ 4096) then bad else good else bad
def sizeT {A : Type} (n : Int) (bad good : Option A) : List (List Int) → Option A
  | [] => good
  | l :: ls => bif !((l.length : Int) == n) then bad else sizeT n bad good ls
noncomputable def goT {A : Type} (k r : Int) (ui ua : List Int) (n : Int) (ls : List (List Int)) (o : Ob) (good : Option A) : Option A := bif sameSt (st71 k r ui ua n ls 0 o (.sl none 0 0 true 0) []) (st71 k r ui ua n ls 0 o (.sl none 0 0 true 0) []) then good else none
end Go.Proofs.Ythlmbnhelkbchaa
/- Run of a unit, told of once for all; saws, pulses and triangles. -/
namespace Go.Proofs.Ythlmbnhelkbchaa
open Go.Ev
set_option maxRecDepth 100000
theorem body_in {A X : Type} {n i r : Int} {o : Ob} {inp : (X → Option A) → Option A} {step : X → (Ob → Option A) → Option A} {tl : Ob → Option A} {ex : Option A} (hi : i < n) (x : X) (o' : Ob) (hx : ∀ f, inp f = f x) (hs : step x tl = tl o') :
    body n i r o inp step tl ex = tl (bif due r o.frame then o' else o) := by
  unfold body
  rw [decide_eq_true hi, cond_true, hx, dueT_eq, hs]
  cases due r o.frame <;> rfl
theorem body_out {A X : Type} {n i r : Int} {o : Ob} {inp : (X → Option A) → Option A} {step : X → (Ob → Option A) → Option A} {tl : Ob → Option A} {ex : Option A} (hi : ¬ i < n) : body n i r o inp step tl ex = ex := by
  unfold body
  rw [decide_eq_false hi, cond_false]
theorem ldI_get {A : Type} {xs : List Int} {i : Nat} (h : i < xs.length) (k : Int → Option A) : ldI xs (i : Int) k = k (xs.getD i 0) := by
  rw [ldI_eq h]
  simp [List.getD, h]
theorem rangeT_ok {A : Type} {n : Nat} (h : n ≤ 4096) (x y : Option A) : rangeT (n : Int) x y = y := by
  unfold rangeT
  rw [decide_eq_true (by omega : (n : Int) ≥ 0), decide_eq_true (by omega : (n : Int) ≤ 4096)]
  rfl
theorem sizeT_ok {A : Type} {n : Nat} (x y : Option A) : ∀ (ls : List (List Int)), (∀ l ∈ ls, l.length = n) → sizeT (n : Int) x y ls = y
  | [], _ => rfl
  | l :: ls, h => by
    unfold sizeT
    have e : ((l.length : Int) == (n : Int)) = true := by rw [h l List.mem_cons_self]; simp
    rw [e, sizeT_ok x y ls fun l' hl => h l' (List.mem_cons_of_mem _ hl)]
    rfl
structure Runs (k r : Int) (ui ua : List Int) (ls : List (List Int)) (S : Orc) : Prop where
  g : ∀ (n i : Int) (o o' : Ob) (cs : List AV) (m : Nat), run19 (S71 k r ui ua n ls o (st71 k r ui ua n ls i o' (.gr (14, 0) (m + 1) 1) [(14, .cells true cs)]) S) k r ui ua o n ls =
    rangeT n (rU k r ui ua (errU 7) o) (sizeT n (rU k r ui ua (errU 11) o) (goT k r ui ua n ls o (guardK (allS (dropA cs 0) && true) (rU k r ui ua (.tup [.fz (fixLen ((m + 1) * 1) (dropA cs 0)) (m + 1) false 1, int64 0]) o'))) ls)
  n : ∀ (n i : Int) (o o' : Ob), run19 (S71 k r ui ua n ls o (st71 k r ui ua n ls i o' (.sl none 0 0 true 0) []) S) k r ui ua o n ls =
    rangeT n (rU k r ui ua (errU 7) o) (sizeT n (rU k r ui ua (errU 11) o) (goT k r ui ua n ls o (rU k r ui ua (errU 0) o')) ls)
theorem run_fact {k r : Int} {ui ua : List Int} {ls : List (List Int)} {S : Orc} {F : Nat → Ob → Ob} {inv : Nat → Ob → Prop} {n : Nat} (hS : Ok S) (R : Round k r ui ua ls S F inv n) (Q : Runs k r ui ua ls S) (hn : n ≤ 4096) (hl : ∀ l ∈ ls, l.length = n) {o : Ob} (hv : inv 0 o) :
    OFact Try.prog tb scU 19 1 [] (argU n ls) (objU k r ui ua o) (.tup [ints (runO r F 0 n o).2, int64 0]) (objU2 k r ui ua (runO r F 0 n o).1) psU := by
  have go : ∀ {A : Type} (x : Option A), goT k r ui ua (n : Int) ls o x = x := fun x => by unfold goT; rw [sameSt_self]; rfl
  rcases Nat.eq_zero_or_pos n with rfl | h0
  · have h := loop71_nil R hv
    refine ⟨_, knowLG_ok tbOk (N := N71) (LFact.flatG hS h) hS (ep := e71) rfl norm71 count71, (Q.n ((0 : Nat) : Int) ((0 : Nat) : Int) o o).trans ?_⟩
    rw [rangeT_ok (by omega), sizeT_ok _ _ ls hl, go]
    rfl
  · have h := loop71_all R (by omega) hv h0
    obtain ⟨m, hm⟩ : ∃ m, (runO r F 0 n o).2.length = m + 1 := ⟨n - 1, by rw [runO_len]; omega⟩
    unfold so71 at h
    rw [hm] at h
    refine ⟨_, knowLG_ok tbOk (N := N71) (LFact.flatG hS h) hS (ep := e71) rfl norm71 count71, (Q.g n n o _ _ m).trans ?_⟩
    rw [rangeT_ok hn, sizeT_ok _ _ ls hl, go]
    have e := fix_ints (runO r F 0 n o).2
    rw [hm] at e
    have e2 : allS (dropA ((runO r F 0 n o).2.map int64) 0) = true := by rw [dropA_eq, List.drop_zero, allS_ints]
    rw [e, e2]
    unfold ints
    rw [hm]
    rfl
def F1 (xs : List Int) (i : Nat) (o : Ob) : Ob := oscO o (xs.getD i 0) (saw o.at')
def pul (p y : Int) : Int := if p < w64 (kM' y * 65536) then 8388607 else -8388607
def F2 (xs ys : List Int) (i : Nat) (o : Ob) : Ob := oscO o (xs.getD i 0) (pul o.at' (ys.getD i 0))
def tri (p : Int) : Int := if w64 (p.tdiv 128) ≥ 16777216 then snd (w64 (25165824 - w64 (p.tdiv 128))) else snd (w64 (w64 (p.tdiv 128) - 8388608))
def F3 (xs : List Int) (i : Nat) (o : Ob) : Ob := oscO o (xs.getD i 0) (tri o.at')
theorem step2_eq {A : Type} (o : Ob) (x y : Int) (tl : Ob → Option A) : step2 o x y tl = tl (oscO o x (pul o.at' y)) := by
  unfold step2 pul
  by_cases h : o.at' < w64 (kM' y * 65536)
  · rw [decide_eq_true h, if_pos h]; rfl
  · rw [decide_eq_false h, if_neg h]; rfl
theorem step3_eq {A : Type} (o : Ob) (x : Int) (tl : Ob → Option A) : step3 o x tl = tl (oscO o x (tri o.at')) := by
  unfold step3 tri
  by_cases h : w64 (o.at'.tdiv 128) ≥ 16777216
  · rw [decide_eq_true h, if_pos h]; rfl
  · rw [decide_eq_false h, if_neg h]; rfl
theorem round1' {r u0 : Int} {xs : List Int} {n : Nat} (hx : xs.length = n) : Round 1 r [u0] [] [xs] (OI orc0) (F1 xs) (fun _ _ => True) n where
  b i o K _ hi := (b71_1 r u0 n i o xs K).trans (body_in (by omega) _ (F1 xs i o) (fun f => ldI_get (by omega) f) rfl)
  g i o cs m K _ hi := (g71_1 r u0 n i o xs cs m K).trans (body_in (by omega) _ (F1 xs i o) (fun f => ldI_get (by omega) f) rfl)
  b' o K _ := (b71_1 r u0 n n o xs K).trans (body_out (by omega))
  g' o cs m K _ := (g71_1 r u0 n n o xs cs m K).trans (body_out (by omega))
  inv _ _ _ _ := trivial
theorem round2' {r u0 u1 : Int} {xs ys : List Int} {n : Nat} (hx : xs.length = n) (hy : ys.length = n) : Round 2 r [u0, u1] [] [xs, ys] (OI orc0) (F2 xs ys) (fun _ _ => True) n where
  b i o K _ hi := (b71_2 r u0 u1 n i o xs ys K).trans (body_in (by omega) (xs.getD i 0, ys.getD i 0) (F2 xs ys i o) (fun f => (ldI_get (by omega) _).trans (ldI_get (by omega) _)) (step2_eq _ _ _ _))
  g i o cs m K _ hi := (g71_2 r u0 u1 n i o xs ys cs m K).trans (body_in (by omega) (xs.getD i 0, ys.getD i 0) (F2 xs ys i o) (fun f => (ldI_get (by omega) _).trans (ldI_get (by omega) _)) (step2_eq _ _ _ _))
  b' o K _ := (b71_2 r u0 u1 n n o xs ys K).trans (body_out (by omega))
  g' o cs m K _ := (g71_2 r u0 u1 n n o xs ys cs m K).trans (body_out (by omega))
  inv _ _ _ _ := trivial
theorem round3' {r u0 : Int} {xs : List Int} {n : Nat} (hx : xs.length = n) : Round 3 r [u0] [] [xs] (OI orc0) (F3 xs) (fun _ _ => True) n where
  b i o K _ hi := (b71_3 r u0 n i o xs K).trans (body_in (by omega) _ (F3 xs i o) (fun f => ldI_get (by omega) f) (step3_eq _ _ _))
  g i o cs m K _ hi := (g71_3 r u0 n i o xs cs m K).trans (body_in (by omega) _ (F3 xs i o) (fun f => ldI_get (by omega) f) (step3_eq _ _ _))
  b' o K _ := (b71_3 r u0 n n o xs K).trans (body_out (by omega))
  g' o cs m K _ := (g71_3 r u0 n n o xs cs m K).trans (body_out (by omega))
  inv _ _ _ _ := trivial
theorem runs1 (r u0 : Int) (xs : List Int) : Runs 1 r [u0] [] [xs] (OI orc0) := ⟨fun n i o o' cs m => by kernel_rfl, fun n i o o' => by kernel_rfl⟩
theorem runs2 (r u0 u1 : Int) (xs ys : List Int) : Runs 2 r [u0, u1] [] [xs, ys] (OI orc0) := ⟨fun n i o o' cs m => by kernel_rfl, fun n i o o' => by kernel_rfl⟩
theorem runs3 (r u0 : Int) (xs : List Int) : Runs 3 r [u0] [] [xs] (OI orc0) := ⟨fun n i o o' cs m => by kernel_rfl, fun n i o o' => by kernel_rfl⟩
end Go.Proofs.Ythlmbnhelkbchaa
/- Run of a delay: a round of its loop. -/
namespace Go.Proofs.Ythlmbnhelkbchaa
open Go.Ev
set_option maxRecDepth 100000
def cellsD (r u0 y0 : Int) (o : Ob) (lv : AV) : List AV := [int64 o.at', int64 11, int64 r, ints [u0], ints [y0], int64 o.frame, int64 o.told, int64 o.n, int64 o.rnd, int64 o.last, lv, int64 o.stage, int64 o.level, int64 o.frm, .bool o.gate]
noncomputable def rec71d (n : Int) (ls : List (List Int)) : Blk := match rangeC e19.code with
  | some (ps, a, b) => .loop ⟨.ready, none, 19, [.dead, .dead, lists ls, .ptr (some (2, 0)), .ptr (some (3, 0)), .dead, .ptr (some (4, 0)), .ptr (some (5, 0))] ++ repA .dead 21 ++ [int64 n, lists ls, .fn 71 [] [.ptr (some (8, 0)), .ptr (some (9, 0))]] ++ repA .dead 22, ps, a, b, 10⟩
  | none => .dfr false
noncomputable def st71d (r u0 y0 : Int) (n : Int) (ls : List (List Int)) (i : Int) (o : Ob) (lv out : AV) (l tl : List (Nat × Blk)) : St := ⟨[.yield 11, .dead, .ptr (some (9, 0)), .dead, .dead, .dead, .dead, int64 n, int64 i] ++ repA .dead 28,
  mkHeap (l ++ [(11, rec71d n ls), (10, .dfr true), (9, .cells true [lists ls]), (8, .cells true [int64 n]), (5, .cells true [int64 0]), (4, .cells true [out]), (3, .cells true [int64 n]), (2, .cells true [.ptr (some (0, 0))])] ++ tl ++ [(0, .cells true (cellsD r u0 y0 o lv))]) 18, [], .off⟩
noncomputable abbrev stB (r u0 y0 : Int) (n : Int) (ls : List (List Int)) (i : Int) (o : Ob) (N : Nat) (L : List AV) (out : AV) (l : List (Nat × Blk)) : St := st71d r u0 y0 n ls i o (.gr (1, 0) N 1) out l [(1, .cells true L)]
noncomputable abbrev stC (r u0 y0 : Int) (n : Int) (ls : List (List Int)) (i : Int) (o : Ob) (N : Nat) (L : List AV) (out : AV) (l : List (Nat × Blk)) : St := st71d r u0 y0 n ls i o (.gr (17, 0) N 1) out ((17, .cells true L) :: l) []
def bls52 : List (Nat × Blk) → List (Nat × Blk)
  | [(_, b1), (_, b0)] => [(0, b0), (1, b1), (1, b1), (0, b0)]
  | l => l
noncomputable def psD (b : Nat) : List (Option Nat × Option TypeId) := [(some 0, tyPt Try.prog 37), (some b, some 3)]
def scD : Sc := ⟨[(0, [10])], []⟩
abbrev objD (r u0 y0 : Int) (o : Ob) (N : Nat) (L : List AV) : List (Nat × Blk) := [(1, .cells true L), (0, .cells true (cellsD r u0 y0 o (.gr (1, 0) N 1)))]
def G52 (a : List AV) (l : List (Nat × Blk)) : Prop := ∃ r u0 y0 o N L, a = [.ptr (some (0, 0))] ∧ l = objD r u0 y0 o N L ∧ allS L = true
noncomputable def V52 (_ : List AV) (l : List (Nat × Blk)) : ORes := ((int64 1, bls52 l), psD 1)
theorem run52 (r u0 y0 : Int) (o : Ob) (N : Nat) (L : List AV) : evCall Try.prog orc0 tb 100 ORes (.fn 52) [.ptr (some (0, 0))] (mkHeap (objD r u0 y0 o N L) 2) .off (objK Try.prog scD 52 2 [1] [.ptr (some (0, 0))]) =
    guardK (allS L && (allS L && true) && true) (some ((int64 1, bls52 (objD r u0 y0 o N L)), psD 1)) := by kernel_rfl
theorem when52 (a : List AV) (l : List (Nat × Blk)) (h : G52 a l) : OFact Try.prog tb scD 52 2 [1] a l (V52 a l).1.1 (V52 a l).1.2 (V52 a l).2 := by
  obtain ⟨r, u0, y0, o, N, L, rfl, rfl, hL⟩ := h
  refine ⟨orc0, ok0, (run52 r u0 y0 o N L).trans ?_⟩
  rw [hL]
  rfl
noncomputable def OId (S : Orc) : Orc := knowOW Try.prog scD 52 2 [1] [1] G52 V52 S
theorem OId_ok {S : Orc} (h : Ok S) : Ok (OId S) := knowOW_ok tbOk when52 h
def ldA {A : Type} (gs : List AV) (N : Nat) (i : Int) (k : Int → Option A) : Option A :=
  guardK (decide (0 ≤ i) && decide (i < (N : Int))) <| guardK (Nat.blt (0 + i.toNat * 1) (lenA gs)) <| guardK (isIntK .i64 (nth gs (0 + i.toNat * 1))) <| k (intOf (nth gs (0 + i.toNat * 1)))
def saidO (o : Ob) (v : Int) : Ob := ⟨o.at', o.frame, v, o.n, o.rnd, o.last, o.stage, o.level, o.frm, o.gate⟩
section
variable {A : Type}
noncomputable def tD0 (r u0 y0 n : Int) (ls : List (List Int)) (i : Int) (N : Nat) (K : Ex → St → Option A) (own : Bool) (L : List AV) (o : Ob) : Option A :=
  guardK (bif own then allS L && true else allS L && true) <| K .normal (bif own then stC r u0 y0 n ls (w64 (i + 1)) (fwd o) N L (.gr (16, 0) 1 1) [(16, .cells true [int64 o.told])] else stB r u0 y0 n ls (w64 (i + 1)) (fwd o) N L (.gr (16, 0) 1 1) [(16, .cells true [int64 o.told])])
noncomputable def tDG (r u0 y0 n : Int) (ls : List (List Int)) (i : Int) (N : Nat) (cs : List AV) (m : Nat) (K : Ex → St → Option A) (own : Bool) (L : List AV) (o : Ob) : Option A :=
  guardK (Nat.ble ((m + 1 + 1) * 8) limit && Nat.ble (m + 1 + 1) limit) <| guardK (Nat.ble (0 + (m + 1) * 1) (lenA cs)) <|
  guardK (bif own then allS L && (allS (appA (takeA (dropA cs 0) ((m + 1) * 1)) [int64 o.told]) && true) else allS (appA (takeA (dropA cs 0) ((m + 1) * 1)) [int64 o.told]) && (allS L && true)) <|
  K .normal (bif own then stC r u0 y0 n ls (w64 (i + 1)) (fwd o) N L (.gr (16, 0) (m + 1 + 1) 1) [(16, .cells true (appA (takeA (dropA cs 0) ((m + 1) * 1)) [int64 o.told]))] else stB r u0 y0 n ls (w64 (i + 1)) (fwd o) N L (.gr (16, 0) (m + 1 + 1) 1) [(16, .cells true (appA (takeA (dropA cs 0) ((m + 1) * 1)) [int64 o.told]))])
noncomputable def exD0 (r u0 y0 n : Int) (ls : List (List Int)) (i : Int) (N : Nat) (K : Ex → St → Option A) (own : Bool) (L : List AV) (o : Ob) : Option A :=
  guardK (allS L && true) (K (.exit 0) (bif own then stC r u0 y0 n ls i o N L (.sl none 0 0 true 0) [] else stB r u0 y0 n ls i o N L (.sl none 0 0 true 0) []))
noncomputable def exDG (r u0 y0 n : Int) (ls : List (List Int)) (i : Int) (N : Nat) (cs : List AV) (m : Nat) (K : Ex → St → Option A) (own : Bool) (L : List AV) (o : Ob) : Option A :=
  guardK (bif own then allS L && (allS cs && true) else allS cs && (allS L && true)) (K (.exit 0) (bif own then stC r u0 y0 n ls i o N L (.gr (16, 0) (m + 1) 1) [(16, .cells true cs)] else stB r u0 y0 n ls i o N L (.gr (16, 0) (m + 1) 1) [(16, .cells true cs)]))
def newL (L : List AV) (M : Nat) (x : Int) : List AV := appA (takeA (dropA L (0 + 1 * 1)) ((M + 1) * 1)) [int64 (kM' x)]
noncomputable def stepD (L : List AV) (M : Nat) (o : Ob) (x : Int) (f : List AV → Ob → Option A) : Option A :=
  ldA L (M + 2) 0 fun v => guardK (Nat.ble (M + 2) (M + 2)) <| guardK (Nat.ble ((M + 1 + 1) * 8) limit && Nat.ble (M + 1 + 1) limit) <| guardK (Nat.ble (0 + 1 * 1 + (M + 1) * 1) (lenA L)) <| f (newL L M x) (saidO o v)
noncomputable def stepD1 (L : List AV) (o : Ob) (x : Int) (f : List AV → Ob → Option A) : Option A := ldA L 1 0 fun v => f [int64 (kM' x)] (saidO o v)
noncomputable def bodyD (n i r : Int) (o : Ob) (xs : List Int) (yes : Int → Option A) (no ex : Option A) : Option A := bif decide (i < n) then ldI xs i fun x => dueT r o.frame (yes x) no else ex
end
noncomputable abbrev D71 {A : Type} (st : St) (K : Ex → St → Option A) : Option A := loopBG Try.prog (OId orc0) tb 71 1 ⟨[16, 17, 1], [], []⟩ 12 st K
theorem bB0 {A : Type} (r u0 y0 n i : Int) (o : Ob) (xs : List Int) (M : Nat) (L : List AV) (K : Ex → St → Option A) : D71 (stB r u0 y0 n [xs] i o (M + 2) L (.sl none 0 0 true 0) []) K =
    bodyD n i r o xs (fun x => stepD L M o x (tD0 r u0 y0 n [xs] i (M + 2) K true)) (tD0 r u0 y0 n [xs] i (M + 2) K false L o) (exD0 r u0 y0 n [xs] i (M + 2) K false L o) := by kernel_rfl
theorem bB0G {A : Type} (r u0 y0 n i : Int) (o : Ob) (xs : List Int) (M : Nat) (L : List AV) (cs : List AV) (m : Nat) (K : Ex → St → Option A) : D71 (stB r u0 y0 n [xs] i o (M + 2) L (.gr (16, 0) (m + 1) 1) [(16, .cells true cs)]) K =
    bodyD n i r o xs (fun x => stepD L M o x (tDG r u0 y0 n [xs] i (M + 2) cs m K true)) (tDG r u0 y0 n [xs] i (M + 2) cs m K false L o) (exDG r u0 y0 n [xs] i (M + 2) cs m K false L o) := by kernel_rfl
theorem bC0 {A : Type} (r u0 y0 n i : Int) (o : Ob) (xs : List Int) (M : Nat) (L : List AV) (K : Ex → St → Option A) : D71 (stC r u0 y0 n [xs] i o (M + 2) L (.sl none 0 0 true 0) []) K =
    bodyD n i r o xs (fun x => stepD L M o x (tD0 r u0 y0 n [xs] i (M + 2) K true)) (tD0 r u0 y0 n [xs] i (M + 2) K true L o) (exD0 r u0 y0 n [xs] i (M + 2) K true L o) := by kernel_rfl
theorem bC0G {A : Type} (r u0 y0 n i : Int) (o : Ob) (xs : List Int) (M : Nat) (L : List AV) (cs : List AV) (m : Nat) (K : Ex → St → Option A) : D71 (stC r u0 y0 n [xs] i o (M + 2) L (.gr (16, 0) (m + 1) 1) [(16, .cells true cs)]) K =
    bodyD n i r o xs (fun x => stepD L M o x (tDG r u0 y0 n [xs] i (M + 2) cs m K true)) (tDG r u0 y0 n [xs] i (M + 2) cs m K true L o) (exDG r u0 y0 n [xs] i (M + 2) cs m K true L o) := by kernel_rfl
theorem bB1 {A : Type} (r u0 y0 n i : Int) (o : Ob) (xs : List Int) (L : List AV) (K : Ex → St → Option A) : D71 (stB r u0 y0 n [xs] i o 1 L (.sl none 0 0 true 0) []) K =
    bodyD n i r o xs (fun x => stepD1 L o x (tD0 r u0 y0 n [xs] i 1 K true)) (tD0 r u0 y0 n [xs] i 1 K false L o) (exD0 r u0 y0 n [xs] i 1 K false L o) := by kernel_rfl
theorem bB1G {A : Type} (r u0 y0 n i : Int) (o : Ob) (xs : List Int) (L : List AV) (cs : List AV) (m : Nat) (K : Ex → St → Option A) : D71 (stB r u0 y0 n [xs] i o 1 L (.gr (16, 0) (m + 1) 1) [(16, .cells true cs)]) K =
    bodyD n i r o xs (fun x => stepD1 L o x (tDG r u0 y0 n [xs] i 1 cs m K true)) (tDG r u0 y0 n [xs] i 1 cs m K false L o) (exDG r u0 y0 n [xs] i 1 cs m K false L o) := by kernel_rfl
theorem bC1 {A : Type} (r u0 y0 n i : Int) (o : Ob) (xs : List Int) (L : List AV) (K : Ex → St → Option A) : D71 (stC r u0 y0 n [xs] i o 1 L (.sl none 0 0 true 0) []) K =
    bodyD n i r o xs (fun x => stepD1 L o x (tD0 r u0 y0 n [xs] i 1 K true)) (tD0 r u0 y0 n [xs] i 1 K true L o) (exD0 r u0 y0 n [xs] i 1 K true L o) := by kernel_rfl
theorem bC1G {A : Type} (r u0 y0 n i : Int) (o : Ob) (xs : List Int) (L : List AV) (cs : List AV) (m : Nat) (K : Ex → St → Option A) : D71 (stC r u0 y0 n [xs] i o 1 L (.gr (16, 0) (m + 1) 1) [(16, .cells true cs)]) K =
    bodyD n i r o xs (fun x => stepD1 L o x (tDG r u0 y0 n [xs] i 1 cs m K true)) (tDG r u0 y0 n [xs] i 1 cs m K true L o) (exDG r u0 y0 n [xs] i 1 cs m K true L o) := by kernel_rfl
end Go.Proofs.Ythlmbnhelkbchaa
