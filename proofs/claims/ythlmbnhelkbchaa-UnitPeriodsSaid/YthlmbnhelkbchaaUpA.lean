/- Numbers of units: what the small functions of numbers tell, in closed form. -/
import Derived.Test.YthlmbnhelkbchaaUkA
namespace Go.Proofs.Ythlmbnhelkbchaa
open Go.Ev
set_option maxRecDepth 100000
/-- The numbers of a list of arguments. -/
def ar (a : List AV) (i : Nat) : Int := intOf (nth a i)
def isN1 (a : List AV) : Prop := ∃ x, a = [int64 x]
def isN2 (a : List AV) : Prop := ∃ x y, a = [int64 x, int64 y]
def isN3 (a : List AV) : Prop := ∃ x y z, a = [int64 x, int64 y, int64 z]
/-- kept -/
def kept (n lo hi : Int) : Int := maxI lo (minI hi n)
def V73 (a : List AV) : AV := int64 (kept (ar a 0) (ar a 1) (ar a 2))
theorem run73 (n lo hi : Int) (h : Heap) : evCall Try.prog orc0 tb 100 AV (.fn 73) (vwArgs Try.prog [] h (parsOf Try.prog 73) [int64 n, int64 lo, int64 hi]) (mkHeap [] 0) .off rv = some (int64 (kept n lo hi)) := by kernel_rfl
theorem when73 (a : List AV) (h : isSo (isN3 a) = true) : F 73 a (V73 a) := by
  obtain ⟨x, y, z, rfl⟩ := isSo_iff.1 h
  exact .of ok0 rfl fun h => run73 x y z h
/-- Into -/
def into (n lo hi : Int) : Int := bif decide (n < lo) then lo else bif decide (n > hi) then hi else n
def V47 (a : List AV) : AV := int64 (into (ar a 0) (ar a 1) (ar a 2))
theorem run47 (n lo hi : Int) (h : Heap) : evCall Try.prog orc0 tb 100 AV (.fn 47) (vwArgs Try.prog [] h (parsOf Try.prog 47) [int64 n, int64 lo, int64 hi]) (mkHeap [] 0) .off rv =
    bif decide (n < lo) then some (int64 lo) else bif decide (n > hi) then some (int64 hi) else some (int64 n) := by kernel_rfl
theorem when47 (a : List AV) (h : isSo (isN3 a) = true) : F 47 a (V47 a) := by
  obtain ⟨x, y, z, rfl⟩ := isSo_iff.1 h
  refine .of ok0 rfl fun h => (run47 x y z h).trans ?_
  show _ = some (int64 (into x y z))
  unfold into
  cases decide (x < y) <;> cases decide (x > z) <;> rfl
/-- Number -/
def num (n : Int) : Int := into n (-1099511627776) 1099511627776
def V16 (a : List AV) : AV := int64 (num (ar a 0))
noncomputable def O47 (S : Orc) : Orc := knowW 47 (fun a => isSo (isN3 a)) V47 S
theorem O47_ok {S : Orc} (h : Ok S) : Ok (O47 S) := knowW_ok tbOk when47 h
theorem run16 (n : Int) (h : Heap) : evCall Try.prog (O47 orc0) tb 100 AV (.fn 16) (vwArgs Try.prog [] h (parsOf Try.prog 16) [int64 n]) (mkHeap [] 0) .off rv =
    bif isSo (isN3 [int64 n, int64 (-1099511627776), int64 1099511627776]) then some (int64 (num n)) else none := by kernel_rfl
theorem when16 (a : List AV) (h : isSo (isN1 a) = true) : F 16 a (V16 a) := by
  obtain ⟨x, rfl⟩ := isSo_iff.1 h
  refine .of (O47_ok ok0) rfl fun h => (run16 x h).trans ?_
  rw [isSo_true ⟨_, _, _, rfl⟩]
  rfl
/-- size, sign -/
def sizeI (n : Int) : Int := maxI n (IntKind.i64.wrap (0 - n))
def signI (n : Int) : Int := bif decide (n < 0) then -1 else 1
def V104 (a : List AV) : AV := int64 (sizeI (ar a 0))
def V105 (a : List AV) : AV := int64 (signI (ar a 0))
theorem run104 (n : Int) (h : Heap) : evCall Try.prog orc0 tb 100 AV (.fn 104) (vwArgs Try.prog [] h (parsOf Try.prog 104) [int64 n]) (mkHeap [] 0) .off rv = some (int64 (sizeI n)) := by kernel_rfl
theorem when104 (a : List AV) (h : isSo (isN1 a) = true) : F 104 a (V104 a) := by
  obtain ⟨x, rfl⟩ := isSo_iff.1 h
  exact .of ok0 rfl fun h => run104 x h
theorem run105 (n : Int) (h : Heap) : evCall Try.prog orc0 tb 100 AV (.fn 105) (vwArgs Try.prog [] h (parsOf Try.prog 105) [int64 n]) (mkHeap [] 0) .off rv = bif decide (n < 0) then some (int64 (-1)) else some (int64 1) := by kernel_rfl
theorem when105 (a : List AV) (h : isSo (isN1 a) = true) : F 105 a (V105 a) := by
  obtain ⟨x, rfl⟩ := isSo_iff.1 h
  refine .of ok0 rfl fun h => (run105 x h).trans ?_
  show _ = some (int64 (signI x))
  unfold signI
  cases decide (x < 0) <;> rfl
/-- rounded, by One -/
def round1 (a : Int) : Int := bif decide (a < 0) then IntKind.i64.wrap (0 - (IntKind.i64.wrap ((IntKind.i64.wrap (IntKind.i64.wrap (0 - a) + 32768)).tdiv 65536))) else IntKind.i64.wrap ((IntKind.i64.wrap (a + 32768)).tdiv 65536)
def V68 (a : List AV) : AV := int64 (round1 (ar a 0))
def is68 (a : List AV) : Prop := ∃ x, a = [int64 x, int64 65536]
theorem run68 (n : Int) (h : Heap) : evCall Try.prog orc0 tb 100 AV (.fn 68) (vwArgs Try.prog [] h (parsOf Try.prog 68) [int64 n, int64 65536]) (mkHeap [] 0) .off rv =
    bif decide (n < 0) then some (int64 (IntKind.i64.wrap (0 - (IntKind.i64.wrap ((IntKind.i64.wrap (IntKind.i64.wrap (0 - n) + 32768)).tdiv 65536))))) else some (int64 (IntKind.i64.wrap ((IntKind.i64.wrap (n + 32768)).tdiv 65536))) := by kernel_rfl
theorem when68 (a : List AV) (h : isSo (is68 a) = true) : F 68 a (V68 a) := by
  obtain ⟨x, rfl⟩ := isSo_iff.1 h
  refine .of ok0 rfl fun h => (run68 x h).trans ?_
  show _ = some (int64 (round1 x))
  unfold round1
  cases decide (x < 0) <;> rfl
end Go.Proofs.Ythlmbnhelkbchaa
