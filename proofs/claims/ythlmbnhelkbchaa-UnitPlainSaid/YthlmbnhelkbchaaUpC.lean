/- magnitude, Mul64, in closed form. -/
import Derived.Test.YthlmbnhelkbchaaUpA
namespace Go.Proofs.Ythlmbnhelkbchaa
open Go.Ev
set_option maxRecDepth 100000
abbrev u64 (n : Int) : AV := .int .u64 n
abbrev wu (n : Int) : Int := IntKind.u64.wrap n
def magI (n : Int) : Int := bif decide (n < 0) then wu (IntKind.i64.wrap (0 - n)) else wu n
theorem run100 (n : Int) (h : Heap) : evCall Try.prog orc0 tb 100 AV (.fn 100) (vwArgs Try.prog [] h (parsOf Try.prog 100) [int64 n]) (mkHeap [] 0) .off rv =
    bif decide (n < 0) then some (u64 (wu (IntKind.i64.wrap (0 - n)))) else some (u64 (wu n)) := by kernel_rfl
def lo32 (a : Int) : Int := wu ((BitVec.ofInt 64 a &&& BitVec.ofInt 64 4294967295).toNat : Int)
def hi32 (a : Int) : Int := a.fdiv (2 ^ 32)
def mulT (x y : Int) : Int := wu (wu (hi32 x * lo32 y) + hi32 (wu (lo32 x * lo32 y)))
def mulHi (x y : Int) : Int := wu (wu (wu (hi32 x * hi32 y) + hi32 (mulT x y)) + hi32 (wu (lo32 (mulT x y) + wu (lo32 x * hi32 y))))
theorem run99 (x y : Int) (h : Heap) : evCall Try.prog orc0 tb 100 AV (.fn 99) (vwArgs Try.prog [] h (parsOf Try.prog 99) [u64 x, u64 y]) (mkHeap [] 0) .off rv = some (.tup [u64 (mulHi x y), u64 (wu (x * y))]) := by kernel_rfl
end Go.Proofs.Ythlmbnhelkbchaa
