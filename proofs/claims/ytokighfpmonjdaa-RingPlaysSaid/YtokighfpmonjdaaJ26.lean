/- RingPlays: turns, where the ring lies as at first. -/
import Derived.Test.YtokighfpmonjdaaJ24
namespace Go.Proofs.Ytokighfpmonjdaa
open Go.Ev
set_option maxRecDepth 100000
theorem tA7 {A : Type} (l : List Act) (i : Int) (s0 : Rf) (m : Nat) (g : Rg) (fs : List (List Int)) (s : Rf) (n : Int) (x : AV) (K : Ex → St → Option A) : CALL (stC l i (hA s0 m g (rowsL fs) s true) (7) n (rowA x)) (K18 K) = kt7 m g fs s (toPA l i s0 m K) n := by kernel_rfl
theorem tA8 {A : Type} (l : List Act) (i : Int) (s0 : Rf) (m : Nat) (g : Rg) (fs : List (List Int)) (s : Rf) (n : Int) (x : AV) (K : Ex → St → Option A) : CALL (stC l i (hA s0 m g (rowsL fs) s true) (8) n (rowA x)) (K18 K) = kt8 m g fs s (toPA l i s0 m K) a15w (rowA x) := by kernel_rfl
theorem tA9 {A : Type} (l : List Act) (i : Int) (s0 : Rf) (m : Nat) (g : Rg) (fs : List (List Int)) (s : Rf) (n : Int) (x : AV) (K : Ex → St → Option A) : CALL (stC l i (hA s0 m g (rowsL fs) s true) (9) n (rowA x)) (K18 K) = kt9 m g fs s (toPA l i s0 m K) n := by kernel_rfl
theorem tA10 {A : Type} (l : List Act) (i : Int) (s0 : Rf) (m : Nat) (g : Rg) (fs : List (List Int)) (s : Rf) (n : Int) (x : AV) (K : Ex → St → Option A) : CALL (stC l i (hA s0 m g (rowsL fs) s true) (10) n (rowA x)) (K18 K) = kt10 m g fs s (toPA l i s0 m K) n := by kernel_rfl
theorem tA11 {A : Type} (l : List Act) (i : Int) (s0 : Rf) (m : Nat) (g : Rg) (fs : List (List Int)) (s : Rf) (n : Int) (x : AV) (K : Ex → St → Option A) : CALL (stC l i (hA s0 m g (rowsL fs) s true) (11) n (rowA x)) (K18 K) = kt11 m g fs s (cpA l i s0 m g fs s K) := by kernel_rfl
theorem tAp {A : Type} (l : List Act) (i : Int) (s0 : Rf) (m : Nat) (g : Rg) (fs : List (List Int)) (s : Rf) (n : Int) (x : AV) (j : Nat) (K : Ex → St → Option A) : CALL (stC l i (hA s0 m g (rowsL fs) s true) (Int.ofNat (j + 12)) n (rowA x)) (K18 K) = askT g s (toPA l i s0 m K g fs s true) := by kernel_rfl
theorem tAn {A : Type} (l : List Act) (i : Int) (s0 : Rf) (m : Nat) (g : Rg) (fs : List (List Int)) (s : Rf) (n : Int) (x : AV) (j : Nat) (K : Ex → St → Option A) : CALL (stC l i (hA s0 m g (rowsL fs) s true) (Int.negSucc j) n (rowA x)) (K18 K) = askT g s (toPA l i s0 m K g fs s true) := by kernel_rfl
end Go.Proofs.Ytokighfpmonjdaa
