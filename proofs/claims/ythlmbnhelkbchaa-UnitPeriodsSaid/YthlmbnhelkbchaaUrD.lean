/- Run of a unit: what it tells, for a saw, a pulse and a triangle. -/
import Derived.Test.YthlmbnhelkbchaaUrC
namespace Go.Proofs.Ythlmbnhelkbchaa
open Go.Ev
set_option maxRecDepth 100000
def scU : Sc := ⟨[(0, [])], []⟩
noncomputable def psU : List (Option Nat × Option TypeId) := [(some 0, tyPt Try.prog 37)]
abbrev objU (k r : Int) (ui ua : List Int) (o : Ob) : List (Nat × Blk) := [(0, .cells true (cellsU k r ui ua o))]
abbrev objU2 (k r : Int) (ui ua : List Int) (o : Ob) : List (Nat × Blk) := [(0, .cells true (cellsU k r ui ua o)), (0, .cells true (cellsU k r ui ua o))]
def N71 : Norm := ⟨[0, 2, 7, 8], [(0, [1000, 6, 0])]⟩
theorem count71 : Nat.ble (countL 1 e71.code) 1 = true := by kernel_rfl
theorem norm71 : (loopN0 tb 71 1) = some N71 := by kernel_rfl

noncomputable abbrev rU (k r : Int) (ui ua : List Int) (v : AV) (o : Ob) : Option ((AV × List (Nat × Blk)) × List (Option Nat × Option TypeId)) := some ((v, objU2 k r ui ua o), psU)
abbrev argU (n : Int) (ls : List (List Int)) : List AV := [.ptr (some (0, 0)), int64 n, lists ls]
noncomputable abbrev run19 (S : Orc) (k r : Int) (ui ua : List Int) (o : Ob) (n : Int) (ls : List (List Int)) := evCall Try.prog S tb 100 ((AV × List (Nat × Blk)) × List (Option Nat × Option TypeId)) (.fn 19) (argU n ls) (mkHeap (objU k r ui ua o) 1) .off (objK Try.prog scU 19 1 [] (argU n ls))
noncomputable def S71 (k r : Int) (ui ua : List Int) (n : Int) (ls : List (List Int)) (o : Ob) (s1 : St) (S : Orc) : Orc := knowLG Try.prog 71 1 N71 ⟨[14], [], []⟩ 10 (st71 k r ui ua n ls 0 o (.sl none 0 0 true 0) []) (.exit 0) s1 S
abbrev errU (e : Int) : AV := .tup [ints [], int64 e]
/-- What stands ahead of the loop. -/
def rangeT {A : Type} (n : Int) (bad good : Option A) : Option A := bif decide (n ≥ 0) then bif !decide (n ≤ 4096) then bad else good else bad
def sizeT {A : Type} (n : Int) (bad good : Option A) : List (List Int) → Option A
  | [] => good
  | l :: ls => bif !((l.length : Int) == n) then bad else sizeT n bad good ls
noncomputable def goT {A : Type} (k r : Int) (ui ua : List Int) (n : Int) (ls : List (List Int)) (o : Ob) (good : Option A) : Option A := bif sameSt (st71 k r ui ua n ls 0 o (.sl none 0 0 true 0) []) (st71 k r ui ua n ls 0 o (.sl none 0 0 true 0) []) then good else none
end Go.Proofs.Ythlmbnhelkbchaa
