/- UnitNumbers: unit.Envelope. -/
import Derived.Test.YthlmbnhelkbchaaUeB
namespace Go.Proofs.Ythlmbnhelkbchaa
open Go.Ev
set_option maxRecDepth 100000
def blkU (a d kp r : Int) (fr told : Int) (st lv from' : Int) (g : Bool) : List (Nat × Blk) := [(18, .cells true [int64 0, int64 6, int64 3, .gr (15, 0) 1 1, .gr (17, 0) 4 1, int64 fr, int64 told, int64 0, int64 0, int64 0, .sl none 0 0 true 0, int64 st, int64 lv, int64 from', .bool g]),
  (17, .cells true [int64 a, int64 d, int64 kp, int64 r]), (16, .cells true []), (15, .cells true [int64 0]), (14, .cells true []), (3, .cells true [int64 6, int64 3, .gr (15, 0) 1 1, .gr (17, 0) 4 1]), (2, .cells true [int64 6, int64 3, .sl (some (0, 0)) 1 1 true 1, ints [a, d, kp, r]]), (1, .cells true [int64 6, int64 3, .sl (some (0, 0)) 1 1 true 1, ints [a, d, kp, r]]), (0, .cells true [int64 0])]
def stU (a d kp r : Int) (gs : List Int) (i fr told st lv from' : Int) (g : Bool) (o : AV) (l : List (Nat × Blk)) : St :=
  ⟨[.dead, .dead, .sl none 0 0 true 0, .dead, .dead, .dead, .dead, .dead, .ptr (some (18, 0)), .dead, o] ++ repA .dead 15 ++ [ints gs, int64 (gs.length : Int), int64 i] ++ repA .dead 18, mkHeap (l ++ blkU a d kp r fr told st lv from' g) 27, [], .off⟩
noncomputable def bodyU {A : Type} (a d kp r : Int) (gs : List Int) (i fr told st lv from' : Int) (g : Bool) (cs : List AV) (m : Nat) (K : Ex → St → Option A) : Option A :=
  bif decide (i < (gs.length : Int)) then
    ldI gs i fun x => h3 x (-1099511627776) 1099511627776 <|
    envT a d kp r (decide (kM x > 0)) g st lv from' fun st lv from' =>
    guardK (Nat.ble ((m + 1 + 1) * 8) limit && Nat.ble (m + 1 + 1) limit) <| guardK (Nat.ble (0 + (m + 1) * 1) (lenA cs)) <| guardK (allS (appA (takeA (dropA cs 0) ((m + 1) * 1)) [int64 lv]) && true) <|
    K .normal (stU a d kp r gs (IntKind.i64.wrap (i + 1)) (IntKind.i64.wrap (fr + 1)) lv st lv from' (decide (kM x > 0)) (.gr (23, 0) (m + 1 + 1) 1) [(23, .cells true (appA (takeA (dropA cs 0) ((m + 1) * 1)) [int64 lv]))])
  else guardK (allS cs && true) (K (.exit 0) (stU a d kp r gs i fr told st lv from' g (.gr (23, 0) (m + 1) 1) [(23, .cells true cs)]))
theorem bU {A : Type} (a d kp r : Int) (gs : List Int) (i fr told st lv from' : Int) (g : Bool) (cs : List AV) (m : Nat) (K : Ex → St → Option A) :
    loopBF Try.prog (OE orc0) tb 46 8 [23] 19 (stU a d kp r gs i fr told st lv from' g (.gr (23, 0) (m + 1) 1) [(23, .cells true cs)]) K = bodyU a d kp r gs i fr told st lv from' g cs m K := by kernel_rfl
noncomputable def bodyU0 {A : Type} (a d kp r : Int) (gs : List Int) (i fr told st lv from' : Int) (g : Bool) (K : Ex → St → Option A) : Option A :=
  bif decide (i < (gs.length : Int)) then
    ldI gs i fun x => h3 x (-1099511627776) 1099511627776 <|
    envT a d kp r (decide (kM x > 0)) g st lv from' fun st lv from' =>
    K .normal (stU a d kp r gs (IntKind.i64.wrap (i + 1)) (IntKind.i64.wrap (fr + 1)) lv st lv from' (decide (kM x > 0)) (.gr (23, 0) 1 1) [(23, .cells true [int64 lv])])
  else K (.exit 0) (stU a d kp r gs i fr told st lv from' g (.sl none 0 0 true 0) [])
theorem bU0 {A : Type} (a d kp r : Int) (gs : List Int) (i fr told st lv from' : Int) (g : Bool) (K : Ex → St → Option A) :
    loopBF Try.prog (OE orc0) tb 46 8 [23] 19 (stU a d kp r gs i fr told st lv from' g (.sl none 0 0 true 0) []) K = bodyU0 a d kp r gs i fr told st lv from' g K := by kernel_rfl
end Go.Proofs.Ythlmbnhelkbchaa
