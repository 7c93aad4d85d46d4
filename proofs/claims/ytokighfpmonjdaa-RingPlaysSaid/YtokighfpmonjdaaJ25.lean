/- RingPlays: turns, where the ring lies as at first. -/
import Derived.Test.YtokighfpmonjdaaJ24
namespace Go.Proofs.Ytokighfpmonjdaa
open Go.Ev
set_option maxRecDepth 100000
theorem tA0 {A : Type} (l : List Act) (i : Int) (s0 : Rf) (m : Nat) (g : Rg) (fs : List (List Int)) (s : Rf) (n : Int) (x : AV) (K : Ex → St → Option A) : CALL (stC l i (hA s0 m g (rowsL fs) s true) (0) n (rowA x)) (K18 K) = kt0 m g fs s (toPA l i s0 m K) := by kernel_rfl
theorem tA1 {A : Type} (l : List Act) (i : Int) (s0 : Rf) (m : Nat) (g : Rg) (fs : List (List Int)) (s : Rf) (n : Int) (x : AV) (K : Ex → St → Option A) : CALL (stC l i (hA s0 m g (rowsL fs) s true) (1) n (rowA x)) (K18 K) = kt1 m g fs s (toPA l i s0 m K) n := by kernel_rfl
theorem tA2 {A : Type} (l : List Act) (i : Int) (s0 : Rf) (m : Nat) (g : Rg) (fs : List (List Int)) (s : Rf) (n : Int) (x : AV) (K : Ex → St → Option A) : CALL (stC l i (hA s0 m g (rowsL fs) s true) (2) n (rowA x)) (K18 K) = kt2 m g fs s (toPA l i s0 m K) a18w n (rowA x) := by kernel_rfl
theorem tA3 {A : Type} (l : List Act) (i : Int) (s0 : Rf) (m : Nat) (g : Rg) (fs : List (List Int)) (s : Rf) (n : Int) (x : AV) (K : Ex → St → Option A) : CALL (stC l i (hA s0 m g (rowsL fs) s true) (3) n (rowA x)) (K18 K) = kt3 m g fs s (toPA l i s0 m K) n := by kernel_rfl
theorem tA4 {A : Type} (l : List Act) (i : Int) (s0 : Rf) (m : Nat) (g : Rg) (fs : List (List Int)) (s : Rf) (n : Int) (x : AV) (K : Ex → St → Option A) : CALL (stC l i (hA s0 m g (rowsL fs) s true) (4) n (rowA x)) (K18 K) = kt4 m g fs s (toPA l i s0 m K) := by kernel_rfl
theorem tA5 {A : Type} (l : List Act) (i : Int) (s0 : Rf) (m : Nat) (g : Rg) (fs : List (List Int)) (s : Rf) (n : Int) (x : AV) (K : Ex → St → Option A) : CALL (stC l i (hA s0 m g (rowsL fs) s true) (5) n (rowA x)) (K18 K) = kt5 m g fs s (toPA l i s0 m K) n := by kernel_rfl
theorem tA6 {A : Type} (l : List Act) (i : Int) (s0 : Rf) (m : Nat) (g : Rg) (fs : List (List Int)) (s : Rf) (n : Int) (x : AV) (K : Ex → St → Option A) : CALL (stC l i (hA s0 m g (rowsL fs) s true) (6) n (rowA x)) (K18 K) = kt6 m g fs s (toPA l i s0 m K) n := by kernel_rfl
end Go.Proofs.Ytokighfpmonjdaa
