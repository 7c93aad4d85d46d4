/- UnitPeriods: the law's loops. -/
import Derived.Test.YthlmbnhelkbchaaUrF
namespace Go.Proofs.Ythlmbnhelkbchaa
open Go.Ev
set_option maxRecDepth 100000
/-- Lists, frozen where the loop is left. -/
noncomputable def frz (k : Nat) (φ : List (Nat × Nat)) (h : Heap) (cs : List AV) (N : Nat) : AV := .fz (fixLen (N * 1) (mapCyc (vw Try.prog φ h true (k + 1)) [] [] (dropA cs 0))) N false 1
theorem frz_eq {k : Nat} {φ : List (Nat × Nat)} {h : Heap} {xs : List Int} {N : Nat} (hx : xs.length = N) : frz k φ h (xs.map int64) N = ints xs := by
  subst hx
  unfold frz
  rw [mapCyc_simple (k := k) _ _ _ (by rw [dropA_eq, List.drop_zero, allS_ints]), fix_ints]
  rfl
def unitC (k : Int) (ui : AV) : Blk := .cells true [int64 k, int64 3, ui, .sl none 0 0 true 0]
def h15 (k : Int) (N : Nat) (cs : List AV) : Heap := mkHeap [(8, .cells true [.sl (some (7, 0)) N N true 1]), (7, .cells true cs), (6, unitC k (.sl (some (5, 0)) 1 1 true 1)), (5, .cells true [int64 0])] 19
def st15 (k s w n i : Int) (N : Nat) (cs : List AV) : St := ⟨[int64 s, int64 w, .dead, .dead, .dead, int64 n, .dead, int64 k, .ptr (some (6, 0)), .sl (some (8, 0)) 1 1 true 1, int64 i] ++ repA .dead 113, h15 k N cs, [], .off⟩
def ex15 (k s w n i : Int) (r : AV) : St := ⟨[int64 s, int64 w, .dead, .dead, .dead, int64 n, .dead, int64 k, .ptr (some (6, 0)), .fz [r] 1 false 1, int64 i] ++ repA .dead 113, mkHeap [(6, unitC k (ints [0]))] 17, [], .off⟩
noncomputable def body15 {A : Type} (k s w n i : Int) (N : Nat) (cs : List AV) (K : Ex → St → Option A) : Option A :=
  bif decide (i < w64 (2 * n)) then
    guardK (decide (0 ≤ i) && decide (i < (N : Int))) <| guardK (Nat.ble (0 + i.toNat * 1 + 1) (lenA cs)) <|
    guardK (allS (splice cs (0 + i.toNat * 1) [int64 s]) && true) <| K .normal (st15 k s w n (w64 (i + 1)) N (splice cs (0 + i.toNat * 1) [int64 s]))
  else K (.exit 2) (ex15 k s w n i (frz 5 [(6, 6)] (h15 k N cs) cs N))
theorem b15_1 {A : Type} (s w n i : Int) (N : Nat) (cs : List AV) (K : Ex → St → Option A) : loopBF Try.prog orc0 tb 5 15 [7] 9 (st15 1 s w n i N cs) K = body15 1 s w n i N cs K := by kernel_rfl
theorem b15_3 {A : Type} (s w n i : Int) (N : Nat) (cs : List AV) (K : Ex → St → Option A) : loopBF Try.prog orc0 tb 5 15 [7] 9 (st15 3 s w n i N cs) K = body15 3 s w n i N cs K := by kernel_rfl
def h15p (N : Nat) (cs ds : List AV) : Heap := mkHeap [(12, .cells true [.sl (some (7, 0)) N N true 1, .sl (some (10, 0)) N N true 1]), (11, .cells true [.sl (some (10, 0)) N N true 1]), (10, .cells true ds), (9, .cells true [int64 0, int64 0]), (8, .cells true [.sl (some (7, 0)) N N true 1]), (7, .cells true cs), (6, unitC 2 (.sl (some (9, 0)) 2 2 true 1)), (5, .cells true [int64 0])] 23
def st15p (s w n i : Int) (N : Nat) (cs ds : List AV) : St := ⟨[int64 s, int64 w, .dead, .dead, .dead, int64 n, .dead, int64 2, .ptr (some (6, 0)), .gr (12, 0) 2 1, int64 i] ++ repA .dead 113, h15p N cs ds, [], .off⟩
def ex15p (s w n i : Int) (r q r7 q7 : AV) : St := ⟨[int64 s, int64 w, .dead, .dead, .dead, int64 n, .dead, int64 2, .ptr (some (6, 0)), .fz [r, q] 2 false 1, int64 i] ++ repA .dead 113, mkHeap [(11, .cells true [q7]), (8, .cells true [r7]), (6, unitC 2 (ints [0, 0])), (5, .cells true [int64 0])] 21, [], .off⟩
noncomputable def body15p {A : Type} (s w n i : Int) (N : Nat) (cs ds : List AV) (K : Ex → St → Option A) : Option A :=
  bif decide (i < w64 (2 * n)) then
    guardK (decide (0 ≤ i) && decide (i < (N : Int))) <| guardK (Nat.ble (0 + i.toNat * 1 + 1) (lenA cs)) <|
    guardK (decide (0 ≤ i) && decide (i < (N : Int))) <| guardK (Nat.ble (0 + i.toNat * 1 + 1) (lenA ds)) <|
    guardK (allS (splice ds (0 + i.toNat * 1) [int64 w]) && (allS (splice cs (0 + i.toNat * 1) [int64 s]) && true)) <| K .normal (st15p s w n (w64 (i + 1)) N (splice cs (0 + i.toNat * 1) [int64 s]) (splice ds (0 + i.toNat * 1) [int64 w]))
  else K (.exit 2) (ex15p s w n i (frz 5 [(11, 11), (8, 8), (6, 6), (5, 5)] (h15p N cs ds) cs N) (frz 5 [(11, 11), (8, 8), (6, 6), (5, 5)] (h15p N cs ds) ds N) (frz 6 [(11, 11), (8, 8), (6, 6), (5, 5)] (h15p N cs ds) cs N) (frz 6 [(11, 11), (8, 8), (6, 6), (5, 5)] (h15p N cs ds) ds N))
theorem b15_2 {A : Type} (s w n i : Int) (N : Nat) (cs ds : List AV) (K : Ex → St → Option A) : loopBF Try.prog orc0 tb 5 15 [7, 10] 13 (st15p s w n i N cs ds) K = body15p s w n i N cs ds K := by kernel_rfl
end Go.Proofs.Ythlmbnhelkbchaa
