/- The law's own example: awake. -/
import Derived.Test.YthlmbnhelkbchaaUkA
namespace Go.Proofs.Ythlmbnhelkbchaa
open Go.Ev
set_option maxRecDepth 100000
theorem awake_run (h : Heap) : evCall Try.prog orc0 tb 100 AV (.fn 12) (vwArgs Try.prog [] h (parsOf Try.prog 12) []) (mkHeap [] 0) .off rv = some (.bool true) := by kernel_rfl
theorem awake_fact : F 12 [] (.bool true) := .of ok0 rfl awake_run
end Go.Proofs.Ythlmbnhelkbchaa
