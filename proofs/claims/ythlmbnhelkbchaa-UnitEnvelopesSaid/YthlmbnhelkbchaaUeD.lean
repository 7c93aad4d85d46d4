/- UnitEnvelopes: the loop of 'listed' for an envelope. -/
import Derived.Test.YthlmbnhelkbchaaUeC
namespace Go.Proofs.Ythlmbnhelkbchaa
open Go.Ev
set_option maxRecDepth 100000
def blkE (a d kp r : Int) (gs : List AV) (fr told : Int) (st lv from' : Int) (g : Bool) : List (Nat × Blk) := [(25, .cells true [int64 0, int64 6, int64 3, .gr (22, 0) 1 1, .gr (24, 0) 4 1, int64 fr, int64 told, int64 0, int64 0, int64 0, .sl none 0 0 true 0, int64 st, int64 lv, int64 from', .bool g]),
  (24, .cells true [int64 a, int64 d, int64 kp, int64 r]), (23, .cells true []), (22, .cells true [int64 0]), (21, .cells true []), (10, .cells true [int64 6, int64 3, .gr (22, 0) 1 1, .gr (24, 0) 4 1]), (9, .cells true [int64 6, int64 3, .sl (some (7, 0)) 1 1 true 1, ints [a, d, kp, r]]), (8, .cells true [int64 6, int64 3, .sl (some (7, 0)) 1 1 true 1, ints [a, d, kp, r]]), (7, .cells true [int64 0]), (1, .cells true gs), (0, .cells true [int64 0])]
def stE (a d kp r : Int) (N : Nat) (gs : List AV) (i fr told st lv from' : Int) (g : Bool) (o : AV) (l : List (Nat × Blk)) : St :=
  ⟨[.dead, .dead, .sl none 0 0 true 0, .dead, .dead, .dead, .dead, .dead, .ptr (some (25, 0)), .dead, o] ++ repA .dead 15 ++ [.sl (some (1, 0)) N N true 1, int64 (N : Int), int64 i] ++ repA .dead 18, mkHeap (l ++ blkE a d kp r gs fr told st lv from' g) 34, [], .off⟩
def ldB {A : Type} (gs : List AV) (N : Nat) (i : Int) (k : Int → Option A) : Option A :=
  guardK (decide (0 ≤ i) && decide (i < (N : Int))) <| guardK (Nat.blt (0 + i.toNat * 1) (lenA gs)) <| guardK (isIntK .i64 (nth gs (0 + i.toNat * 1))) <| k (intOf (nth gs (0 + i.toNat * 1)))
noncomputable def bodyE {A : Type} (a d kp r : Int) (N : Nat) (gs : List AV) (i fr told st lv from' : Int) (g : Bool) (cs : List AV) (m : Nat) (K : Ex → St → Option A) : Option A :=
  bif decide (i < (N : Int)) then
    ldB gs N i fun x => h3 x (-1099511627776) 1099511627776 <|
    envT a d kp r (decide (kM x > 0)) g st lv from' fun st lv from' =>
    guardK (Nat.ble ((m + 1 + 1) * 8) limit && Nat.ble (m + 1 + 1) limit) <| guardK (Nat.ble (0 + (m + 1) * 1) (lenA cs)) <| guardK (allS (appA (takeA (dropA cs 0) ((m + 1) * 1)) [int64 lv]) && (allS gs && true)) <|
    K .normal (stE a d kp r N gs (IntKind.i64.wrap (i + 1)) (IntKind.i64.wrap (fr + 1)) lv st lv from' (decide (kM x > 0)) (.gr (30, 0) (m + 1 + 1) 1) [(30, .cells true (appA (takeA (dropA cs 0) ((m + 1) * 1)) [int64 lv]))])
  else guardK (allS cs && (allS gs && true)) (K (.exit 0) (stE a d kp r N gs i fr told st lv from' g (.gr (30, 0) (m + 1) 1) [(30, .cells true cs)]))
theorem bE {A : Type} (a d kp r : Int) (N : Nat) (gs : List AV) (i fr told st lv from' : Int) (g : Bool) (cs : List AV) (m : Nat) (K : Ex → St → Option A) :
    loopBF Try.prog (OE orc0) tb 46 8 [30, 1] 26 (stE a d kp r N gs i fr told st lv from' g (.gr (30, 0) (m + 1) 1) [(30, .cells true cs)]) K = bodyE a d kp r N gs i fr told st lv from' g cs m K := by kernel_rfl
noncomputable def bodyE0 {A : Type} (a d kp r : Int) (N : Nat) (gs : List AV) (i fr told st lv from' : Int) (g : Bool) (K : Ex → St → Option A) : Option A :=
  bif decide (i < (N : Int)) then
    ldB gs N i fun x => h3 x (-1099511627776) 1099511627776 <|
    envT a d kp r (decide (kM x > 0)) g st lv from' fun st lv from' => guardK (allS gs && true) <|
    K .normal (stE a d kp r N gs (IntKind.i64.wrap (i + 1)) (IntKind.i64.wrap (fr + 1)) lv st lv from' (decide (kM x > 0)) (.gr (30, 0) 1 1) [(30, .cells true [int64 lv])])
  else guardK (allS gs && true) (K (.exit 0) (stE a d kp r N gs i fr told st lv from' g (.sl none 0 0 true 0) []))
theorem bE0 {A : Type} (a d kp r : Int) (N : Nat) (gs : List AV) (i fr told st lv from' : Int) (g : Bool) (K : Ex → St → Option A) :
    loopBF Try.prog (OE orc0) tb 46 8 [30, 1] 26 (stE a d kp r N gs i fr told st lv from' g (.sl none 0 0 true 0) []) K = bodyE0 a d kp r N gs i fr told st lv from' g K := by kernel_rfl
end Go.Proofs.Ythlmbnhelkbchaa
