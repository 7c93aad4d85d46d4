/- Run of a unit: the state at the head of its loop. -/
import Derived.Test.YthlmbnhelkbchaaEvZ2
import Derived.Test.YthlmbnhelkbchaaUwA
namespace Go.Proofs.Ythlmbnhelkbchaa
open Go.Ev
set_option maxRecDepth 100000
/-- What a unit holds. -/
structure Ob where
  at' : Int
  frame : Int
  told : Int
  n : Int
  rnd : Int
  last : Int
  stage : Int
  level : Int
  frm : Int
  gate : Bool
abbrev lists (ls : List (List Int)) : AV := .fz (ls.map ints) ls.length false 1
def cellsU (k r : Int) (ui ua : List Int) (o : Ob) : List AV := [int64 o.at', int64 k, int64 r, ints ui, ints ua, int64 o.frame, int64 o.told, int64 o.n, int64 o.rnd, int64 o.last, ints [], int64 o.stage, int64 o.level, int64 o.frm, .bool o.gate]
def rangeC : Code → Option (List Tmp × Code × Code)
  | .seq a b => (match rangeC a with
    | some x => some x
    | none => rangeC b)
  | .cond _ a b => (match rangeC a with
    | some x => some x
    | none => rangeC b)
  | .block _ b => rangeC b
  | .rangeFunc _ ps a b => some (ps.toList, a, b)
  | _ => none
noncomputable def rec71 (n : Int) (ls : List (List Int)) : Blk := match rangeC e19.code with
  | some (ps, a, b) => .loop ⟨.ready, none, 19, [.dead, .dead, lists ls, .ptr (some (1, 0)), .ptr (some (2, 0)), .dead, .ptr (some (3, 0)), .ptr (some (4, 0))] ++ repA .dead 21 ++ [int64 n, lists ls, .fn 71 [] [.ptr (some (6, 0)), .ptr (some (7, 0))]] ++ repA .dead 22, ps, a, b, 8⟩
  | none => .dfr false
noncomputable def st71 (k r : Int) (ui ua : List Int) (n : Int) (ls : List (List Int)) (i : Int) (o : Ob) (out : AV) (l : List (Nat × Blk)) : St := ⟨[.yield 9, .dead, .ptr (some (7, 0)), .dead, .dead, .dead, .dead, int64 n, int64 i] ++ repA .dead 28,
  mkHeap (l ++ [(9, rec71 n ls), (8, .dfr true), (7, .cells true [lists ls]), (6, .cells true [int64 n]), (4, .cells true [int64 0]), (3, .cells true [out]), (2, .cells true [int64 n]), (1, .cells true [.ptr (some (0, 0))]), (0, .cells true (cellsU k r ui ua o))]) 15, [], .off⟩
noncomputable def OI (S : Orc) : Orc := addF 52 (locF Try.prog orc0 tb ⟨[(0, [])], []⟩ 52) S
theorem OI_ok {S : Orc} (h : Ok S) : Ok (OI S) := addF_ok (fnSim_loc tbOk ok0 _ 52) (natF_loc _ 52) h
end Go.Proofs.Ythlmbnhelkbchaa
