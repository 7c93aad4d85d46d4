/- UnitNumbers: the document's Envelope. -/
import Derived.Test.YthlmbnhelkbchaaUeB
namespace Go.Proofs.Ythlmbnhelkbchaa
open Go.Ev
set_option maxRecDepth 100000
theorem run78 (x n : Int) (h : Heap) : evCall Try.prog orc0 tb 100 AV (.fn 78) (vwArgs Try.prog [] h (parsOf Try.prog 78) [int64 x, int64 n]) (mkHeap [] 0) .off rv =
    bif n == 0 then none else some (int64 (upI x n)) := by kernel_rfl
theorem when78 (a : List AV) (h : isSo (is103 a) = true) : F 78 a (V103 a) := by
  obtain ⟨x, n, rfl, hn⟩ := isSo_iff.1 h
  refine .of ok0 rfl fun h => (run78 x n h).trans ?_
  have e : (n == 0) = false := by simp only [beq_eq_false_iff_ne]; omega
  rw [e]; rfl
noncomputable def O78 (S : Orc) : Orc := knowW 78 (fun a => isSo (is103 a)) V103 S
theorem O78_ok {S : Orc} (h : Ok S) : Ok (O78 S) := knowW_ok tbOk when78 h
def st42 (a d kp r : Int) (gs : List Int) (i : Int) (st lv fl : Int) (g : Bool) (o : AV) (l : List (Nat × Blk)) : St :=
  ⟨[.dead, ints gs, .dead, .dead, .dead, .dead, .ptr (some (4, 0)), .dead, o, int64 i] ++ repA .dead 32, mkHeap (l ++ [(4, .cells true [int64 6, int64 3, .sl (some (0, 0)) 1 1 true 1, ints [a, d, kp, r], int64 0, int64 0, int64 0, int64 lv, int64 st, .bool g, int64 fl, .sl none 0 0 true 0]),
    (3, .cells true [int64 6, int64 3, .sl (some (0, 0)) 1 1 true 1, ints [a, d, kp, r], int64 0, int64 0, int64 0, int64 0, int64 0, .bool false, int64 0, .sl none 0 0 true 0]), (2, .cells true [int64 6, int64 3, .sl (some (0, 0)) 1 1 true 1, ints [a, d, kp, r], int64 0, int64 0, int64 0, int64 0, int64 0, .bool false, int64 0, .sl none 0 0 true 0]),
    (1, .cells true [int64 6, int64 3, .sl (some (0, 0)) 1 1 true 1, ints [a, d, kp, r]]), (0, .cells true [int64 0])]) 11, [], .off⟩
noncomputable def swR {A : Type} (a d kp : Int) (st lv fl : Int) (k : Int → Int → Option A) : Option A :=
  bif st == 1 then hU 65536 a <| E lv <| bif minI (w64 (lv + upI 65536 a)) 65536 == 65536 then k 2 (minI (w64 (lv + upI 65536 a)) 65536) else k st (minI (w64 (lv + upI 65536 a)) 65536)
  else bif st == 2 then hU (w64 (65536 - kp)) d <| E lv <| E kp <| bif maxI (w64 (lv - upI (w64 (65536 - kp)) d)) kp == kp then k 3 (maxI (w64 (lv - upI (w64 (65536 - kp)) d)) kp) else k st (maxI (w64 (lv - upI (w64 (65536 - kp)) d)) kp)
  else bif st == 3 then k st kp
  else bif st == 4 then k st (maxI (w64 (lv - fl)) 0)
  else k st lv
noncomputable def envR {A : Type} (a d kp r : Int) (o g : Bool) (st lv fl : Int) (k : Int → Int → Int → Option A) : Option A :=
  let p (s : Int) : Option A := bif !o then bif g then hU lv r <| swR a d kp 4 lv (upI lv r) fun x l => k x l (upI lv r) else swR a d kp s lv fl fun x l => k x l fl else swR a d kp s lv fl fun x l => k x l fl
  bif o then bif !g then p 1 else p st else p st
noncomputable def body42 {A : Type} (a d kp r : Int) (gs : List Int) (i : Int) (st lv fl : Int) (g : Bool) (cs : List AV) (m : Nat) (K : Ex → St → Option A) : Option A :=
  bif decide (i < (gs.length : Int)) then
    ldI gs i fun x =>
    envR a d kp r (decide (x > 0)) g st lv fl fun st lv fl =>
    guardK (Nat.ble ((m + 1 + 1) * 8) limit && Nat.ble (m + 1 + 1) limit) <| guardK (Nat.ble (0 + (m + 1) * 1) (lenA cs)) <| guardK (allS (appA (takeA (dropA cs 0) ((m + 1) * 1)) [int64 lv]) && true) <|
    K .normal (st42 a d kp r gs (IntKind.i64.wrap (i + 1)) st lv fl (decide (x > 0)) (.gr (9, 0) (m + 1 + 1) 1) [(9, .cells true (appA (takeA (dropA cs 0) ((m + 1) * 1)) [int64 lv]))])
  else guardK (allS cs && true) (K (.exit 0) (st42 a d kp r gs i st lv fl g (.gr (9, 0) (m + 1) 1) [(9, .cells true cs)]))
theorem b42 {A : Type} (a d kp r : Int) (gs : List Int) (i : Int) (st lv fl : Int) (g : Bool) (cs : List AV) (m : Nat) (K : Ex → St → Option A) :
    loopBF Try.prog (O78 orc0) tb 42 8 [9] 5 (st42 a d kp r gs i st lv fl g (.gr (9, 0) (m + 1) 1) [(9, .cells true cs)]) K = body42 a d kp r gs i st lv fl g cs m K := by kernel_rfl
theorem b42_0 {A : Type} (a d kp r : Int) (gs : List Int) (i : Int) (st lv fl : Int) (g : Bool) (K : Ex → St → Option A) :
    loopBF Try.prog (O78 orc0) tb 42 8 [9] 5 (st42 a d kp r gs i st lv fl g (.sl none 0 0 true 0) []) K =
    bif decide (i < (gs.length : Int)) then
      ldI gs i fun x => envR a d kp r (decide (x > 0)) g st lv fl fun st lv fl => K .normal (st42 a d kp r gs (IntKind.i64.wrap (i + 1)) st lv fl (decide (x > 0)) (.gr (9, 0) 1 1) [(9, .cells true [int64 lv])])
    else K (.exit 0) (st42 a d kp r gs i st lv fl g (.sl none 0 0 true 0) []) := by kernel_rfl
end Go.Proofs.Ythlmbnhelkbchaa
