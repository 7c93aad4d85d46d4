/- RingPlays: turns, where the ring lies behind a copy. -/
import Derived.Test.YtokighfpmonjdaaJ24
namespace Go.Proofs.Ytokighfpmonjdaa
open Go.Ev
set_option maxRecDepth 100000
theorem tB0 {A : Type} (l : List Act) (i : Int) (s0 : Rf) (m : Nat) (g0 : Rg) (fs0 : List (List Int)) (g : Rg) (fs : List (List Int)) (s : Rf) (n : Int) (x : AV) (K : Ex → St → Option A) : CALL (stC l i (hB s0 m g0 (rowsL fs0) g (m + 1) (rowsL fs) s true) (0) n (rowA x)) (K18 K) = kt0 m g fs s (toPB l i s0 m g0 fs0 K) := by kernel_rfl
theorem tB1 {A : Type} (l : List Act) (i : Int) (s0 : Rf) (m : Nat) (g0 : Rg) (fs0 : List (List Int)) (g : Rg) (fs : List (List Int)) (s : Rf) (n : Int) (x : AV) (K : Ex → St → Option A) : CALL (stC l i (hB s0 m g0 (rowsL fs0) g (m + 1) (rowsL fs) s true) (1) n (rowA x)) (K18 K) = kt1 m g fs s (toPB l i s0 m g0 fs0 K) n := by kernel_rfl
theorem tB2 {A : Type} (l : List Act) (i : Int) (s0 : Rf) (m : Nat) (g0 : Rg) (fs0 : List (List Int)) (g : Rg) (fs : List (List Int)) (s : Rf) (n : Int) (x : AV) (K : Ex → St → Option A) : CALL (stC l i (hB s0 m g0 (rowsL fs0) g (m + 1) (rowsL fs) s true) (2) n (rowA x)) (K18 K) = kt2 m g fs s (toPB l i s0 m g0 fs0 K) a18x n (rowA x) := by kernel_rfl
theorem tB3 {A : Type} (l : List Act) (i : Int) (s0 : Rf) (m : Nat) (g0 : Rg) (fs0 : List (List Int)) (g : Rg) (fs : List (List Int)) (s : Rf) (n : Int) (x : AV) (K : Ex → St → Option A) : CALL (stC l i (hB s0 m g0 (rowsL fs0) g (m + 1) (rowsL fs) s true) (3) n (rowA x)) (K18 K) = kt3 m g fs s (toPB l i s0 m g0 fs0 K) n := by kernel_rfl
theorem tB4 {A : Type} (l : List Act) (i : Int) (s0 : Rf) (m : Nat) (g0 : Rg) (fs0 : List (List Int)) (g : Rg) (fs : List (List Int)) (s : Rf) (n : Int) (x : AV) (K : Ex → St → Option A) : CALL (stC l i (hB s0 m g0 (rowsL fs0) g (m + 1) (rowsL fs) s true) (4) n (rowA x)) (K18 K) = kt4 m g fs s (toPB l i s0 m g0 fs0 K) := by kernel_rfl
theorem tB5 {A : Type} (l : List Act) (i : Int) (s0 : Rf) (m : Nat) (g0 : Rg) (fs0 : List (List Int)) (g : Rg) (fs : List (List Int)) (s : Rf) (n : Int) (x : AV) (K : Ex → St → Option A) : CALL (stC l i (hB s0 m g0 (rowsL fs0) g (m + 1) (rowsL fs) s true) (5) n (rowA x)) (K18 K) = kt5 m g fs s (toPB l i s0 m g0 fs0 K) n := by kernel_rfl
theorem tB6 {A : Type} (l : List Act) (i : Int) (s0 : Rf) (m : Nat) (g0 : Rg) (fs0 : List (List Int)) (g : Rg) (fs : List (List Int)) (s : Rf) (n : Int) (x : AV) (K : Ex → St → Option A) : CALL (stC l i (hB s0 m g0 (rowsL fs0) g (m + 1) (rowsL fs) s true) (6) n (rowA x)) (K18 K) = kt6 m g fs s (toPB l i s0 m g0 fs0 K) n := by kernel_rfl
end Go.Proofs.Ytokighfpmonjdaa
