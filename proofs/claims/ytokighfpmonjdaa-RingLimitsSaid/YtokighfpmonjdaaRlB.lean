/- RingLimits: the loops of ring.Play. -/
import Derived.Test.YtokighfpmonjdaaRlA
import Derived.Test.YtokighfpmonjdaaEvZ4
namespace Go.Proofs.Ytokighfpmonjdaa
open Go.Ev
set_option maxRecDepth 100000
abbrev f81 : AV := .fn 81 [] []
theorem run80 (h : Heap) : evCall Try.prog orc0 tb 100 AV (.fn 80) (vwArgs Try.prog [] h (parsOf Try.prog 80) [ints [1], f81]) (mkHeap [] 0) .off rv = some (.bool false) := by kernel_rfl
theorem when80 (a : List AV) (h : isSo (a = [ints [1], f81]) = true) : Fact Try.prog tb 80 a (.bool false) := by
  have := isSo_iff.1 h
  subst this
  exact ⟨rfl, orc0, ok0, run80⟩
noncomputable def OB (S : Orc) : Orc := knowW 80 (fun a => isSo (a = [ints [1], f81])) (fun _ => .bool false) S
theorem OB_ok {S : Orc} (h : Ok S) : Ok (OB S) := knowW_ok tbOk when80 h
abbrev shapeB : Blk := .cells true [int64 1, .sl none 0 0 true 0, int64 0, int64 0, .bool false, int64 0, int64 0, int64 0, int64 0, .bool false, int64 0, int64 0]
abbrev ringB : Blk := .cells true [int64 1, .gr (3, 0) 4 1, int64 0, int64 0, .bool false, int64 0, int64 0, int64 0, int64 0, .bool false, int64 0, int64 0]
abbrev framesB : Blk := .cells true [ints [0], ints [0], ints [0], ints [0]]
abbrev hp : List (Nat × Blk) := [(3, framesB), (2, ringB), (1, .cells true [.ptr (some (0, 0))]), (0, shapeB)]
def st79 (xs : List (List Int)) (i : Int) : St := ⟨[rows xs, .fn 67 [] [.ptr (some (1, 0))], .dead, .dead, .dead, .dead, .dead, int64 (xs.length : Int), int64 i] ++ repA .dead 10, mkHeap hp 10, [], .off⟩
def rowAt (xs : List (List Int)) (i : Nat) : AV := .fz (fzC (nth (xs.map ints) i)) (fzL (nth (xs.map ints) i)) (fzE (nth (xs.map ints) i)) (fzS (nth (xs.map ints) i))
noncomputable def body79 {A : Type} (xs : List (List Int)) (i : Int) (K : Ex → St → Option A) : Option A :=
  bif decide (i < (xs.length : Int)) then
    guardK (decide (0 ≤ i) && decide (i < (xs.length : Int))) <| guardK (Nat.blt (i.toNat * 1) (lenA (xs.map ints))) <| guardK (isFzN (nth (xs.map ints) (i.toNat * 1))) <|
    bif ((fzL (nth (xs.map ints) (i.toNat * 1)) : Nat) : Int) == 1 then bif isSo ([rowAt xs (i.toNat * 1), f81] = [ints [1], f81]) then K .normal (st79 xs (IntKind.i64.wrap (i + 1))) else none else none
  else K (.exit 0) (st79 xs i)
theorem b79 {A : Type} (xs : List (List Int)) (i : Int) (K : Ex → St → Option A) : loopB Try.prog (stopAt 79 [5] (OB orc0)) tb 79 2 4 (st79 xs i) K = body79 xs i K := by kernel_rfl
abbrev stp (zs : List AV) (N : Nat) : AV := .fz zs N false 3
def st88 (zs : List AV) (N : Nat) (i : Int) : St := ⟨[stp zs N, .fn 69 [] [], .dead, .dead, .dead, .dead, .dead, int64 (N : Int), int64 i] ++ repA .dead 10, mkHeap hp 15, [], .off⟩
/-- One turn is read. -/
def turn {A : Type} (zs : List AV) (N : Nat) (i : Int) (f : Int → Int → Int → Option A) : Option A :=
  guardK (decide (0 ≤ i) && decide (i < (N : Int))) <| guardK (Nat.ble (i.toNat * 3 + 3) (lenA zs)) <|
  guardK (isIntK .i64 (nth zs (i.toNat * 3)) && (isIntK .i64 (nth zs (i.toNat * 3 + 1)) && (isIntK .i64 (nth zs (i.toNat * 3 + 1 + 1)) && true))) <|
  f (intOf (nth zs (i.toNat * 3))) (intOf (nth zs (i.toNat * 3 + 1))) (intOf (nth zs (i.toNat * 3 + 1 + 1)))
def body88 {A : Type} (zs : List AV) (N : Nat) (i : Int) (K : Ex → St → Option A) : Option A :=
  bif decide (i < (N : Int)) then turn zs N i fun w k n =>
    bif decide (w < 0) then none else bif decide (w > 1) then none else bif decide (k < 0) then none else bif decide (k ≥ 4) then none else
    bif k == 1 then bif decide (n < 0) then none else K .normal (st88 zs N (IntKind.i64.wrap (i + 1))) else K .normal (st88 zs N (IntKind.i64.wrap (i + 1)))
  else K (.exit 0) (st88 zs N i)
theorem b88 {A : Type} (zs : List AV) (N : Nat) (i : Int) (K : Ex → St → Option A) : loopB Try.prog (stopAt 88 [5] orc0) tb 88 2 10 (st88 zs N i) K = body88 zs N i K := by kernel_rfl
abbrev fnsB : Blk := .cells true [.fn 70 [] [], .fn 71 [] [], .fn 72 [] [], .fn 73 [] [], .fn 74 [] [], .fn 75 [] [], .fn 76 [] [], .fn 77 [] []]
def st12 (xs : List (List Int)) (zs : List AV) (N : Nat) (i : Int) : St := ⟨repA .dead 14 ++ [.ptr (some (2, 0)), .ptr (some (15, 0)), .ptr (some (16, 0))] ++ repA .dead 39 ++ [stp zs N, int64 (N : Int), int64 i] ++ repA .dead 31,
  mkHeap ((16, fnsB) :: (15, .cells true [.ptr (some (2, 0)), rows xs, .sl none 0 0 true 0, .sl none 0 0 true 0, .sl none 0 0 true 0]) :: hp) 26, [], .off⟩
def body12 {A : Type} (xs : List (List Int)) (zs : List AV) (N : Nat) (i : Int) (K : Ex → St → Option A) : Option A :=
  bif decide (i < (N : Int)) then turn zs N i fun w k _ =>
    guardK (decide (0 ≤ w) && decide (w < 2)) <| bif w == 0 then
      guardK (decide (0 ≤ k) && decide (k < 4)) <| bif k == 0 then K .normal (st12 xs zs N (IntKind.i64.wrap (i + 1))) else bif k == 1 then none else bif k == 2 then none else bif k == 3 then none else none
    else bif w == 1 then guardK (decide (0 ≤ k) && decide (k < 4)) <| bif k == 0 then none else bif k == 1 then none else bif k == 2 then none else bif k == 3 then none else none else none
  else K (.exit 1) (st12 xs zs N i)
noncomputable def OS (S : Orc) : Orc := stopAt 71 [0] (stopAt 72 [0] (stopAt 73 [0] (stopAt 74 [0] (stopAt 75 [0] (stopAt 76 [0] (stopAt 77 [0] S))))))
theorem b12 {A : Type} (xs : List (List Int)) (zs : List AV) (N : Nat) (i : Int) (K : Ex → St → Option A) : loopB Try.prog (OS orc0) tb 32 12 17 (st12 xs zs N i) K = body12 xs zs N i K := by kernel_rfl
end Go.Proofs.Ytokighfpmonjdaa
