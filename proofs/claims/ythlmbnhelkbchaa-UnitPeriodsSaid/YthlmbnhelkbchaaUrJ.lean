/- UnitPeriods: the law's loops, told of; its run. -/
import Derived.Test.YthlmbnhelkbchaaUrH
import Derived.Test.YthlmbnhelkbchaaUrI
import Derived.Test.YthlmbnhelkbchaaUrG
namespace Go.Proofs.Ythlmbnhelkbchaa
open Go.Ev
set_option maxRecDepth 100000
def o00 : Ob := ⟨0, 0, 0, 0, 0, 0, 0, 0, 0, false⟩
def st27 (s w n : Int) (o : Ob) (os : List Int) (k : Int) : St := ⟨[int64 s, int64 w, .dead, .dead, .dead, int64 n, .dead, int64 1, .dead, .dead, .dead, .dead, .dead, ints os, int64 k] ++ repA .dead 109, mkHeap [(17, .cells true (cellsU 1 3 [0] [] o)), (6, unitC 1 (ints [0]))] 45, [], .off⟩
theorem b27 {A : Type} (s w n : Int) (o : Ob) (os : List Int) (k : Int) (K : Ex → St → Option A) : loopB Try.prog (stopAt 5 [30] orc0) tb 5 27 38 (st27 s w n o os k) K =
    bif decide (k < n) then ldI os k fun x => ldI os 0 fun y => bif x == y then none else K .normal (st27 s w n o os (w64 (k + 1))) else K (.exit 4) (st27 s w n o os k) := by kernel_rfl
def N15 : Norm := ⟨[0, 1, 4, 5, 7, 8, 9, 10], [(9, [3000]), (8, [3000])]⟩
def N27 : Norm := ⟨[0, 1, 4, 5, 7, 13, 14], []⟩
theorem norm15 : loopN0 tb 5 15 = some N15 := by kernel_rfl
theorem norm27 : loopN0 tb 5 27 = some N27 := by kernel_rfl
theorem count15 : Nat.ble (countL 15 e5.code) 1 = true := by kernel_rfl
theorem count27 : Nat.ble (countL 27 e5.code) 1 = true := by kernel_rfl
abbrev zs (N : Nat) : List AV := repL [int64 0] N
/-- What is told to the law's run: the loops, by their kinds. -/
noncomputable def L15 (s w n : Int) (N : Nat) (i : Int) (xs ys : List Int) : LoopF :=
  orL (tmpIs 7 1) (atLF Try.prog N15 [7] 9 (st15 1 s w n 0 N (zs N)) (.exit 2) (ex15 1 s w n i (ints xs)))
  (orL (tmpIs 7 2) (atLF Try.prog N15 [7, 10] 13 (st15p s w n 0 N (zs N) (zs N)) (.exit 2) (ex15p s w n i (ints xs) (ints ys) (ints xs) (ints ys)))
  (atLF Try.prog N15 [7] 9 (st15 3 s w n 0 N (zs N)) (.exit 2) (ex15 3 s w n i (ints xs))))
noncomputable def L27 (s w n : Int) (o : Ob) (os : List Int) : LoopF := orL (tmpIs 7 1) (atL Try.prog N27 38 (st27 s w n o os 1) (.exit 4) (st27 s w n o os n)) (loopRun Try.prog orc0 tb 5 27)
noncomputable def S5 (sl : List Nat) (s w n : Int) (N : Nat) (i : Int) (xs ys : List Int) (o : Ob) (os : List Int) : Orc :=
  know 12 [] (.bool true) (know 17 [int64 s] (.tup [int64 n, int64 0]) (O20 (O19 (ONw (addL 5 15 (L15 s w n N i xs ys) (addL 5 27 (L27 s w n o os) (stopAt 5 sl orc0)))))))
/-- What is asked of what Run told. -/
noncomputable def askT {A : Type} (n : Int) (os : List Int) (go : Option A) : Option A :=
  bif !((os.length : Int) == w64 (2 * n)) then none else
  guardK (decide (0 ≤ n)) <| guardK (Nat.ble n.toNat os.length) <| guardK (decide (0 ≤ n)) <| guardK (Nat.ble os.length os.length) <| guardK (Nat.ble n.toNat os.length) <|
  bif isSo (is20 [.fz (takeA (dropA (os.map int64) (0 * 1)) ((n.toNat - 0) * 1)) (n.toNat - 0) false 1, .fz (takeA (dropA (os.map int64) (n.toNat * 1)) ((os.length - n.toNat) * 1)) (os.length - n.toNat) false 1]) then
    bif !(decide (rowOf (.fz (takeA (dropA (os.map int64) (0 * 1)) ((n.toNat - 0) * 1)) (n.toNat - 0) false 1) = rowOf (.fz (takeA (dropA (os.map int64) (n.toNat * 1)) ((os.length - n.toNat) * 1)) (os.length - n.toNat) false 1))) then none else go
  else none
abbrev a19 (m : Int) (ls : List (List Int)) : List AV := argU m ls
noncomputable def callT {A : Type} (k n : Int) (ui : List Int) (ls : List (List Int)) (go : Ob → List Int → Option A) : Option A :=
  bif isSo (G19 (argU (w64 (2 * n)) ls) (objU k 3 ui [] o00)) then go (res19 (argU (w64 (2 * n)) ls) (cellsU k 3 ui [] o00)).1 (res19 (argU (w64 (2 * n)) ls) (cellsU k 3 ui [] o00)).2 else none
abbrev mkD (n : Int) : Bool := decide (0 ≤ n) && decide (n ≤ n) && decide (n ≤ (limit : Int)) && decide ((8 : Int) * n ≤ (limit : Int))
noncomputable def kind1 {A : Type} (s w n : Int) (o : Ob) (os : List Int) (xs : List Int) (go : Option A) : Option A :=
  guardK (mkD (w64 (2 * n))) <| guardK (allS (zs (w64 (2 * n)).toNat) && true) <| bif sameSt (st15 1 s w n 0 (w64 (2 * n)).toNat (zs (w64 (2 * n)).toNat)) (st15 1 s w n 0 (w64 (2 * n)).toNat (zs (w64 (2 * n)).toNat)) then
    callT 1 n [0] [xs] fun o1 os1 => askT n os1 <| bif sameSt (st27 s w n o1 os1 1) (st27 s w n o os 1) then go else none
  else none
noncomputable def kind3 {A : Type} (s w n : Int) (xs : List Int) (go : Option A) : Option A :=
  guardK (mkD (w64 (2 * n))) <| guardK (allS (zs (w64 (2 * n)).toNat) && true) <| bif sameSt (st15 3 s w n 0 (w64 (2 * n)).toNat (zs (w64 (2 * n)).toNat)) (st15 3 s w n 0 (w64 (2 * n)).toNat (zs (w64 (2 * n)).toNat)) then
    callT 3 n [0] [xs] fun _ os1 => askT n os1 <| go
  else none
noncomputable def kind2 {A : Type} (s w n : Int) (xs ys : List Int) (go : Option A) : Option A :=
  guardK (mkD (w64 (2 * n))) <| guardK (mkD (w64 (2 * n))) <| guardK (allS (zs (w64 (2 * n)).toNat) && (allS (zs (w64 (2 * n)).toNat) && true)) <| bif sameSt (st15p s w n 0 (w64 (2 * n)).toNat (zs (w64 (2 * n)).toNat) (zs (w64 (2 * n)).toNat)) (st15p s w n 0 (w64 (2 * n)).toNat (zs (w64 (2 * n)).toNat) (zs (w64 (2 * n)).toNat)) then
    callT 2 n [0, 0] [xs, ys] fun _ os1 => askT n os1 <| go
  else none
theorem p_run (s w n : Int) (i : Int) (xs ys : List Int) (o : Ob) (os : List Int) :
    evCall Try.prog (S5 [22, 25, 30] s w n (w64 (2 * n)).toNat i xs ys o os) tb 100 Bool (.fn 5) [int64 s, int64 w] ⟨fun _ => none, 0⟩ .off done =
    bif same [] [] then bif same [int64 s] [int64 s] then bif decide (n > 1000) then some true else bif decide (s < 0) then some true else
      kind1 s w n o os xs <| kind2 s w n xs ys <| kind3 s w n xs <| some true
    else none else none := by kernel_rfl
/-- Where there is no period, or a long one. -/
theorem p_run0 (s w n e : Int) : evCall Try.prog (know 12 [] (.bool true) (know 17 [int64 s] (.tup [int64 n, int64 e]) (stopAt 5 [6] orc0))) tb 100 Bool (.fn 5) [int64 s, int64 w] ⟨fun _ => none, 0⟩ .off done =
    bif same [] [] then bif same [int64 s] [int64 s] then bif !(e == 0) then some true else bif decide (n > 1000) then some true else bif decide (s < 0) then some true else none
    else none else none := by kernel_rfl
end Go.Proofs.Ythlmbnhelkbchaa
