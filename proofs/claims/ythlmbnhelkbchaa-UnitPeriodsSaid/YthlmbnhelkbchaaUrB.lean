/- Run of a unit: a round of its loop, for a saw, a pulse and a triangle. -/
import Derived.Test.YthlmbnhelkbchaaUrA
namespace Go.Proofs.Ythlmbnhelkbchaa
open Go.Ev
set_option maxRecDepth 100000
def fwd (o : Ob) : Ob := ⟨o.at', w64 (o.frame + 1), o.told, o.n, o.rnd, o.last, o.stage, o.level, o.frm, o.gate⟩
def dueT {A : Type} (r fr : Int) (yes no : Option A) : Option A := bif r == 1 then (bif fr == 0 then yes else no) else bif r == 2 then (bif fr.tmod 64 == 0 then yes else no) else yes
noncomputable def tail0 {A : Type} (k r : Int) (ui ua : List Int) (n : Int) (ls : List (List Int)) (i : Int) (K : Ex → St → Option A) (o : Ob) : Option A :=
  K .normal (st71 k r ui ua n ls (w64 (i + 1)) (fwd o) (.gr (14, 0) 1 1) [(14, .cells true [int64 o.told])])
noncomputable def tailG {A : Type} (k r : Int) (ui ua : List Int) (n : Int) (ls : List (List Int)) (i : Int) (cs : List AV) (m : Nat) (K : Ex → St → Option A) (o : Ob) : Option A :=
  guardK (Nat.ble ((m + 1 + 1) * 8) limit && Nat.ble (m + 1 + 1) limit) <| guardK (Nat.ble (0 + (m + 1) * 1) (lenA cs)) <| guardK (allS (appA (takeA (dropA cs 0) ((m + 1) * 1)) [int64 o.told]) && true) <|
  K .normal (st71 k r ui ua n ls (w64 (i + 1)) (fwd o) (.gr (14, 0) (m + 1 + 1) 1) [(14, .cells true (appA (takeA (dropA cs 0) ((m + 1) * 1)) [int64 o.told]))])
def body {A X : Type} (n i r : Int) (o : Ob) (inp : (X → Option A) → Option A) (step : X → (Ob → Option A) → Option A) (tl : Ob → Option A) (ex : Option A) : Option A :=
  bif decide (i < n) then inp fun x => dueT r o.frame (step x tl) (tl o) else ex
noncomputable abbrev B71 {A : Type} (k r : Int) (ui ua : List Int) (n : Int) (ls : List (List Int)) (i : Int) (o : Ob) (S : Orc) (K : Ex → St → Option A) : Option A := loopBG Try.prog S tb 71 1 ⟨[14], [], []⟩ 10 (st71 k r ui ua n ls i o (.sl none 0 0 true 0) []) K
noncomputable abbrev G71 {A : Type} (k r : Int) (ui ua : List Int) (n : Int) (ls : List (List Int)) (i : Int) (o : Ob) (cs : List AV) (m : Nat) (S : Orc) (K : Ex → St → Option A) : Option A := loopBG Try.prog S tb 71 1 ⟨[14], [], []⟩ 10 (st71 k r ui ua n ls i o (.gr (14, 0) (m + 1) 1) [(14, .cells true cs)]) K
noncomputable abbrev exit0 {A : Type} (k r : Int) (ui ua : List Int) (n : Int) (ls : List (List Int)) (i : Int) (o : Ob) (K : Ex → St → Option A) : Option A := K (.exit 0) (st71 k r ui ua n ls i o (.sl none 0 0 true 0) [])
noncomputable abbrev exitG {A : Type} (k r : Int) (ui ua : List Int) (n : Int) (ls : List (List Int)) (i : Int) (o : Ob) (cs : List AV) (m : Nat) (K : Ex → St → Option A) : Option A := guardK (allS cs && true) (K (.exit 0) (st71 k r ui ua n ls i o (.gr (14, 0) (m + 1) 1) [(14, .cells true cs)]))
def kM' (n : Int) : Int := kept n (-1099511627776) 1099511627776
def snd (n : Int) : Int := kept n (-8388607) 8388607
def phN (p x : Int) : Int := (w64 ((w64 (p + x)).tmod 4294967296 + 4294967296)).tmod 4294967296
/-- A number told, behind a phase. -/
def oscO (o : Ob) (x v : Int) : Ob := ⟨phN o.at' (kM' x), o.frame, v, o.n, o.rnd, o.last, o.stage, o.level, o.frm, o.gate⟩
def saw (p : Int) : Int := snd (w64 (w64 (p.tdiv 256) - 8388608))
def step1 {A : Type} (o : Ob) (x : Int) (tl : Ob → Option A) : Option A := tl (oscO o x (saw o.at'))
def step2 {A : Type} (o : Ob) (x y : Int) (tl : Ob → Option A) : Option A := bif decide (o.at' < w64 (kM' y * 65536)) then tl (oscO o x 8388607) else tl (oscO o x (-8388607))
def step3 {A : Type} (o : Ob) (x : Int) (tl : Ob → Option A) : Option A := bif decide (w64 (o.at'.tdiv 128) ≥ 16777216) then tl (oscO o x (snd (w64 (25165824 - w64 (o.at'.tdiv 128))))) else tl (oscO o x (snd (w64 (w64 (o.at'.tdiv 128) - 8388608))))
theorem b71_1 {A : Type} (r u0 n i : Int) (o : Ob) (xs : List Int) (K : Ex → St → Option A) : B71 1 r [u0] [] n [xs] i o (OI orc0) K = body n i r o (ldI xs i) (step1 o) (tail0 1 r [u0] [] n [xs] i K) (exit0 1 r [u0] [] n [xs] i o K) := by kernel_rfl
theorem g71_1 {A : Type} (r u0 n i : Int) (o : Ob) (xs : List Int) (cs : List AV) (m : Nat) (K : Ex → St → Option A) : G71 1 r [u0] [] n [xs] i o cs m (OI orc0) K = body n i r o (ldI xs i) (step1 o) (tailG 1 r [u0] [] n [xs] i cs m K) (exitG 1 r [u0] [] n [xs] i o cs m K) := by kernel_rfl
theorem b71_2 {A : Type} (r u0 u1 n i : Int) (o : Ob) (xs ys : List Int) (K : Ex → St → Option A) : B71 2 r [u0, u1] [] n [xs, ys] i o (OI orc0) K = body n i r o (fun f => ldI xs i fun x => ldI ys i fun y => f (x, y)) (fun p => step2 o p.1 p.2) (tail0 2 r [u0, u1] [] n [xs, ys] i K) (exit0 2 r [u0, u1] [] n [xs, ys] i o K) := by kernel_rfl
theorem g71_2 {A : Type} (r u0 u1 n i : Int) (o : Ob) (xs ys : List Int) (cs : List AV) (m : Nat) (K : Ex → St → Option A) : G71 2 r [u0, u1] [] n [xs, ys] i o cs m (OI orc0) K = body n i r o (fun f => ldI xs i fun x => ldI ys i fun y => f (x, y)) (fun p => step2 o p.1 p.2) (tailG 2 r [u0, u1] [] n [xs, ys] i cs m K) (exitG 2 r [u0, u1] [] n [xs, ys] i o cs m K) := by kernel_rfl
theorem b71_3 {A : Type} (r u0 n i : Int) (o : Ob) (xs : List Int) (K : Ex → St → Option A) : B71 3 r [u0] [] n [xs] i o (OI orc0) K = body n i r o (ldI xs i) (step3 o) (tail0 3 r [u0] [] n [xs] i K) (exit0 3 r [u0] [] n [xs] i o K) := by kernel_rfl
theorem g71_3 {A : Type} (r u0 n i : Int) (o : Ob) (xs : List Int) (cs : List AV) (m : Nat) (K : Ex → St → Option A) : G71 3 r [u0] [] n [xs] i o cs m (OI orc0) K = body n i r o (ldI xs i) (step3 o) (tailG 3 r [u0] [] n [xs] i cs m K) (exitG 3 r [u0] [] n [xs] i o cs m K) := by kernel_rfl
end Go.Proofs.Ythlmbnhelkbchaa
