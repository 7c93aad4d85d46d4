/- UnitNexts: the law's loops. -/
import Derived.Test.YthlmbnhelkbchaaJ29
import Derived.Test.YthlmbnhelkbchaaJ28
import Derived.Test.YthlmbnhelkbchaaEvZ5
import Derived.Test.YthlmbnhelkbchaaEvZ4
namespace Go.Proofs.Ythlmbnhelkbchaa
open Go.Ev
set_option maxRecDepth 100000
def N812 : Norm := ⟨[1, 2, 6, 7, 9, 11, 12, 13], [(12, [3000])]⟩
theorem norm812 : loopN0 tb 8 12 = some N812 := by kernel_rfl
theorem count812 : Nat.ble (countL 12 e8.code) 1 = true := by kernel_rfl
def N820 : Norm := ⟨[1, 6, 7, 9, 12, 16], [(7, [10])]⟩
theorem norm820 : loopN0 tb 8 20 = some N820 := by kernel_rfl
theorem count820 : Nat.ble (countL 20 e8.code) 1 = true := by kernel_rfl
def st12 (k r : Int) (ui ua : List Int) (ls : List (List Int)) (rnd first : Int) (m : Nat) (i : Int) (zc : List AV) : St := ⟨[.dead, lists ls, int64 first, .dead, .dead, .dead, .dead, .ptr (some (1, 0)), .dead, .ptr (some (2, 0)), .dead, int64 (m : Int), .sl (some (3, 0)) m m true 1, int64 i] ++ repA .dead 140,
  mkHeap [(3, .cells true zc), (2, .cells true (cellsR k r ui ua (rs0 rnd))), (1, .cells true (cellsU k r ui ua (ob0 rnd))), (0, .cells true [int64 k, int64 r, ints ui, ints ua])] 13, [], .off⟩
def st15 (k r : Int) (ui ua : List Int) (ls : List (List Int)) (rnd first : Int) (m : Nat) (zl : List (List Int)) : St := ⟨[.dead, lists ls, int64 first, .dead, .dead, .dead, .dead, .ptr (some (1, 0)), .dead, .ptr (some (2, 0)), .dead, int64 (m : Int), lists zl, int64 (m : Int)] ++ repA .dead 140,
  mkHeap [(2, .cells true (cellsR k r ui ua (rs0 rnd))), (1, .cells true (cellsU k r ui ua (ob0 rnd))), (0, .cells true [int64 k, int64 r, ints ui, ints ua])] 12, [], .off⟩
noncomputable abbrev B812 {A : Type} (st : St) (K : Ex → St → Option A) : Option A := loopB Try.prog orc0 tb 8 12 4 st K
abbrev nilS : AV := .sl none 0 0 true 0
def stN (k r : Int) (ui ua : List Int) (ls : List (List Int)) (zc : AV) (i : Int) (o : Ob) (s : Rs) : St := ⟨[.dead, lists ls, .dead, .dead, .dead, .dead, .dead, .ptr (some (1, 0)), .dead, .ptr (some (2, 0)), .dead, .dead, zc, .dead, .dead, .dead, int64 i] ++ repA .dead 137,
  mkHeap [(2, .cells true (cellsR k r ui ua s)), (1, .cells true (cellsU k r ui ua o)), (0, .cells true [int64 k, int64 r, ints ui, ints ua])] 20, [], .off⟩
abbrev rowAt (ls : List (List Int)) (i : Int) : AV := nth (ls.map ints) (i.toNat * 1)
def rowG {A : Type} (ls : List (List Int)) (i : Int) (x : Option A) : Option A := guardK (decide (0 ≤ i) && decide (i < (ls.length : Int))) <| guardK (Nat.blt (i.toNat * 1) (lenA (ls.map ints))) <| guardK (isFzN (rowAt ls i)) x
abbrev rowF (x : AV) : AV := .fz (fzC x) (fzL x) (fzE x) (fzS x)
noncomputable abbrev a21 (ls : List (List Int)) (i : Int) : List AV := vwArgs Try.prog [(1, 0)] none0 (parsOf Try.prog 21) [.ptr (some (1, 0)), rowF (rowAt ls i)]
theorem ar21 (row : List Int) : vwArgs Try.prog [(1, 0)] none0 (parsOf Try.prog 21) [.ptr (some (1, 0)), ints row] = arg21 row := by kernel_rfl
abbrev a35 (k r : Int) (ui ua : List Int) (s : Rs) (ls : List (List Int)) (i : Int) : List AV := [.agg (cellsR k r ui ua s), rowF (rowAt ls i)]
noncomputable def round8 {A : Type} (k r : Int) (ui ua : List Int) (m : Nat) (Fk : List (List Int) → Nat → Ob → Ob) (Hk : List (List Int) → StepF) (CK : Nat → Nat → Ob → Rs → Prop) (ls : List (List Int)) (zc : AV) (i : Int) (o : Ob) (s : Rs) (K : Ex → St → Option A) : Option A :=
  let p := vX m Fk (a21 ls i) (objU k r ui ua o)
  let q := vN m Hk (a35 k r ui ua s ls i)
  bif decide (i < (ls.length : Int)) then rowG ls i <| bif isSo (GX k r ui ua (a21 ls i) (objU k r ui ua o)) then rowG ls i <| bif isSo (G35 k r ui ua CK (a35 k r ui ua s ls i)) then
    bif !(p.2.1 == q.2.1) then none else bif !(p.2.2 == q.2.2) then none else E q.1.frame <| bif !(p.1.frame == q.1.frame) then none else K .normal (stN k r ui ua ls zc (w64 (i + 1)) p.1 q.1)
  else none else none else K (.exit 2) (stN k r ui ua ls zc i o s)
theorem b820 {A : Type} (k r : Int) (ui ua : List Int) (m : Nat) (Fk : List (List Int) → Nat → Ob → Ob) (Hk : List (List Int) → StepF) (CK : Nat → Nat → Ob → Rs → Prop) (ls : List (List Int)) (zc : List AV) (zn : Nat) (i : Int) (o : Ob) (s : Rs) (K : Ex → St → Option A) :
    loopB Try.prog (S8 k r ui ua m Fk Hk CK (stopAt 8 [25] orc0)) tb 8 20 13 (stN k r ui ua ls (.fz zc zn false 1) i o s) K = round8 k r ui ua m Fk Hk CK ls (.fz zc zn false 1) i o s K := by kernel_rfl
noncomputable def SN (k r : Int) (ui ua : List Int) (m : Nat) (Fk : List (List Int) → Nat → Ob → Ob) (Hk : List (List Int) → StepF) (CK : Nat → Nat → Ob → Rs → Prop) (rnd : Int) (zl z7 : List (List Int)) (t0 t1 u0 u1 : St) (S : Orc) : Orc :=
  S18y k r ui ua rnd <| know 33 [int64 k] (int64 (m : Int)) <| S8 k r ui ua m Fk Hk CK <| knowF 36 [lists zl, int64 70] (lists z7) <| knowL Try.prog 8 12 N812 4 t0 (.exit 0) t1 <| knowL Try.prog 8 20 N820 13 u0 (.exit 2) u1 S
noncomputable def good8 (k r : Int) (ui ua : List Int) (m : Nat) (Fk : List (List Int) → Nat → Ob → Ob) (Hk : List (List Int) → StepF) (CK : Nat → Nat → Ob → Rs → Prop) (rnd : Int) (ls zl z7 : List (List Int)) (first : Int) (t0 t0' u0 : St) (o' : Ob) (s' : Rs) : Option Bool :=
  let p := rU' (rfOf r Fk) (argU first zl) (objU k r ui ua (ob0 rnd))
  let q := vR r Hk (argR k r ui ua (rs0 rnd) first zl)
  let p2 := rU' (rfOf r Fk) (argU 70 z7) (objU k r ui ua o')
  let q2 := vR r Hk (argR k r ui ua s' 70 z7)
  bif same [int64 k] [int64 k] then bif sameSt t0' t0 then bif isSo (GU k r ui ua m (argU first zl) (objU k r ui ua (ob0 rnd))) then bif isSo (G34n k r ui ua m CK (argR k r ui ua (rs0 rnd) first zl)) then
    bif sameSt (stN k r ui ua ls (lists zl) 0 p.1 q.1) u0 then bif same [lists zl, int64 70] [lists zl, int64 70] then bif isSo (GU k r ui ua m (argU 70 z7) (objU k r ui ua o')) then bif same [lists zl, int64 70] [lists zl, int64 70] then bif sameV (.agg (cellsR k r ui ua s')) (.agg (cellsR k r ui ua s')) then bif isSo (G34n k r ui ua m CK (argR k r ui ua s' 70 z7)) then
      bif isSo (is20 [ints p2.2, ints q2.2]) then bif decide (rowOf (ints p2.2) = rowOf (ints q2.2)) then some true else some false else none
    else none else none else none else none else none else none
  else none else none else none else none
end Go.Proofs.Ythlmbnhelkbchaa
/- UnitRuns, a delay: New and Copy told of; the law's loop. -/
namespace Go.Proofs.Ythlmbnhelkbchaa
open Go.Ev
set_option maxRecDepth 100000
theorem repL_zero' : ∀ n : Nat, repL [int64 0] n = (List.replicate n (0 : Int)).map int64
  | 0 => rfl
  | n + 1 => by
    rw [List.replicate_succ, List.map_cons, ← repL_zero' n]
    rfl
abbrev zs (N : Nat) : List Int := List.replicate N 0
theorem wkL_ints (L : List Int) : wkL (L.map int64) = L.map int64 := by
  rw [wkL_eq, List.map_map]
  rfl
/-! ### Copy -/
def scKd : Sc := ⟨[(0, [10])], [(0, [10])]⟩
noncomputable def psKd : List (Option Nat × Option TypeId) := [(some 0, tyPt Try.prog 37), (some 1, some 3), (some 2, tyPt Try.prog 37), (some 4, some 3)]
def cpL (M : Nat) (L : List AV) : List AV := appA [] (takeA (dropA L 0) ((M + 1) * 1))
noncomputable def resKd (r u0 y0 : Int) (o : Ob) (N N' : Nat) (L L' : List AV) : ORes := ((.ptr (some (2, 0)), [(0, .cells true (cellsD r u0 y0 o (.gr (1, 0) N 1))), (1, .cells true L), (2, .cells true (cellsD r u0 y0 o (.gr (4, 0) N' 1))), (4, .cells true L'), (1, .cells true L), (0, .cells true (cellsD r u0 y0 o (.gr (1, 0) N 1)))]), psKd)
theorem run23d (r u0 y0 : Int) (o : Ob) (M : Nat) (L : List AV) : evCall Try.prog orc0 tb 100 ORes (.fn 23) [.ptr (some (0, 0))] (mkHeap (objD r u0 y0 o (M + 1) L) 2) .off (objK Try.prog scKd 23 2 [1, 4] [.ptr (some (0, 0))]) =
    (guardK (Nat.ble (0 + (M + 1) * 1) (lenA L)) <| guardK (Nat.ble ((0 + (M + 1)) * 8) limit && Nat.ble (0 + (M + 1)) limit) <| guardK (allS L && (allS (cpL M L) && (allS L && true)) && true) <| some (resKd r u0 y0 o (M + 1) (0 + (M + 1)) L (cpL M L))) := by kernel_rfl
theorem copyD (r u0 y0 : Int) (o : Ob) {N : Nat} {L : List Int} (hN : 1 ≤ N) (hN' : N ≤ 100000) (hL : L.length = N) : OFact Try.prog tb scKd 23 2 [1, 4] [.ptr (some (0, 0))] (objD r u0 y0 o N (L.map int64)) (resKd r u0 y0 o N N (L.map int64) (L.map int64)).1.1 (resKd r u0 y0 o N N (L.map int64) (L.map int64)).1.2 (resKd r u0 y0 o N N (L.map int64) (L.map int64)).2 := by
  obtain ⟨M, rfl⟩ : ∃ M, N = M + 1 := ⟨N - 1, by omega⟩
  refine ⟨orc0, ok0, (run23d r u0 y0 o M (L.map int64)).trans ?_⟩
  have e : cpL M (L.map int64) = L.map int64 := by
    unfold cpL
    rw [takeA_eq, dropA_eq, List.drop_zero, Nat.mul_one, List.take_of_length_le (by simp [hL])]
    rfl
  rw [e, lenM, hL, allS_ints, Nat.zero_add, limit_ok (by omega), Nat.ble_eq_true_of_le (show (M + 1) * 1 ≤ M + 1 by omega)]
  unfold resKd
  rw [Nat.zero_add]
  rfl
def GKd (a : List AV) (l : List (Nat × Blk)) : Prop := ∃ (r u0 y0 : Int) (o : Ob) (N : Nat) (L : List Int), a = [.ptr (some (0, 0))] ∧ l = objD r u0 y0 o N (L.map int64) ∧ 1 ≤ N ∧ N ≤ 100000 ∧ L.length = N
def blk1 : List (Nat × Blk) → Blk
  | (_, b) :: _ => b
  | _ => .dfr false
def put10 (vs : List AV) : List AV := [nth vs 0, nth vs 1, nth vs 2, nth vs 3, nth vs 4, nth vs 5, nth vs 6, nth vs 7, nth vs 8, nth vs 9, .gr (4, 0) (lenV (nth vs 10)) 1, nth vs 11, nth vs 12, nth vs 13, nth vs 14]
noncomputable def VKd (_ : List AV) (l : List (Nat × Blk)) : ORes := ((.ptr (some (2, 0)), [(0, .cells true (objOf2 l)), (1, blk1 l), (2, .cells true (put10 (objOf2 l))), (4, blk1 l), (1, blk1 l), (0, .cells true (objOf2 l))]), psKd)
theorem whenKd (a : List AV) (l : List (Nat × Blk)) (h : GKd a l) : OFact Try.prog tb scKd 23 2 [1, 4] a l (VKd a l).1.1 (VKd a l).1.2 (VKd a l).2 := by
  obtain ⟨r, u0, y0, o, N, L, rfl, rfl, h1, h2, h3⟩ := h
  exact copyD r u0 y0 o h1 h2 h3
noncomputable def OKd (S : Orc) : Orc := knowOW Try.prog scKd 23 2 [1] [1, 4] GKd VKd S
theorem OKd_ok {S : Orc} (h : Ok S) : Ok (OKd S) := knowOW_ok tbOk whenKd h
/-! ### New -/
theorem mkN_ok {N : Nat} (h : N ≤ 100000) : mkN (N : Int) = true := by
  have : (limit : Int) = 140737488355328 := rfl
  simp only [mkN, Bool.and_eq_true, decide_eq_true_eq]
  omega
theorem n18d {r u0 : Int} {N : Nat} (hN : 1 ≤ N) (hN' : N ≤ 100000) (h29 : F 29 [unitV 11 r [u0] [(N : Int)]] (.bool true)) : OFact Try.prog tb scNd 18 0 [12] [unitV 11 r [u0] [(N : Int)]] [] (.tup [.ptr (some (11, 0)), int64 0])
    [(11, .cells true (cellsD r u0 N (ob0 0) (.sl (some (12, 0)) N N true 1))), (12, .cells true ((zs N).map int64))] psNd := by
  refine ⟨N18 (unitV 11 r [u0] [(N : Int)]), N18_ok h29, (n18_11 r u0 N).trans ?_⟩
  rw [Us_eq, Zs_eq, mkN_ok hN', show (N : Int).toNat = N by omega, repL_zero', allS_ints]
  rfl
theorem n32d {r u0 : Int} {N : Nat} (hN' : N ≤ 100000) (h13 : F 13 [unitV 11 r [u0] [(N : Int)]] (.bool true)) : FFact Try.prog tb 32 [unitV 11 r [u0] [(N : Int)]]
    (.tup [.agg (cellsR 11 r [u0] [(N : Int)] ⟨0, 0, 0, 0, 0, false, 0, zs N⟩), int64 0]) := by
  refine ⟨unit_nowV 32 (by kernel_rfl) _ _ _ _, _, N32_ok h13, (n32_11 r u0 N).trans ?_⟩
  have e := fix_ints (zs N)
  rw [List.length_replicate] at e
  rw [Us_eq, mkN_ok hN', show (N : Int).toNat = N by omega, repL_zero', e, dropA_eq, List.drop_zero, allS_ints]
  unfold cellsR cellsRd ints
  rw [List.length_replicate]
  rfl
end Go.Proofs.Ythlmbnhelkbchaa
/- UnitNexts: lists of zeros, of each length. Printed by uxzgen.py. -/
namespace Go.Proofs.Ythlmbnhelkbchaa
open Go.Ev
set_option maxRecDepth 100000
theorem z12_0 (k r : Int) (ui ua : List Int) (rnd : Int) (ls : List (List Int)) (first : Int) : loopN B812 rounds (st12 k r ui ua ls rnd first 0 0 []) pairE = some (.exit 0, st15 k r ui ua ls rnd first 0 []) := by kernel_rfl
theorem z12_1 (k r : Int) (ui ua : List Int) (rnd : Int) (ls : List (List Int)) (n : Nat) (h : n ≤ 100) : loopN B812 rounds (st12 k r ui ua ls rnd (n : Int) 1 0 [nilS]) pairE = some (.exit 0, st15 k r ui ua ls rnd (n : Int) 1 [zs n]) := match n, h with
  | 0, _ => by kernel_rfl
  | 1, _ => by kernel_rfl
  | 2, _ => by kernel_rfl
  | 3, _ => by kernel_rfl
  | 4, _ => by kernel_rfl
  | 5, _ => by kernel_rfl
  | 6, _ => by kernel_rfl
  | 7, _ => by kernel_rfl
  | 8, _ => by kernel_rfl
  | 9, _ => by kernel_rfl
  | 10, _ => by kernel_rfl
  | 11, _ => by kernel_rfl
  | 12, _ => by kernel_rfl
  | 13, _ => by kernel_rfl
  | 14, _ => by kernel_rfl
  | 15, _ => by kernel_rfl
  | 16, _ => by kernel_rfl
  | 17, _ => by kernel_rfl
  | 18, _ => by kernel_rfl
  | 19, _ => by kernel_rfl
  | 20, _ => by kernel_rfl
  | 21, _ => by kernel_rfl
  | 22, _ => by kernel_rfl
  | 23, _ => by kernel_rfl
  | 24, _ => by kernel_rfl
  | 25, _ => by kernel_rfl
  | 26, _ => by kernel_rfl
  | 27, _ => by kernel_rfl
  | 28, _ => by kernel_rfl
  | 29, _ => by kernel_rfl
  | 30, _ => by kernel_rfl
  | 31, _ => by kernel_rfl
  | 32, _ => by kernel_rfl
  | 33, _ => by kernel_rfl
  | 34, _ => by kernel_rfl
  | 35, _ => by kernel_rfl
  | 36, _ => by kernel_rfl
  | 37, _ => by kernel_rfl
  | 38, _ => by kernel_rfl
  | 39, _ => by kernel_rfl
  | 40, _ => by kernel_rfl
  | 41, _ => by kernel_rfl
  | 42, _ => by kernel_rfl
  | 43, _ => by kernel_rfl
  | 44, _ => by kernel_rfl
  | 45, _ => by kernel_rfl
  | 46, _ => by kernel_rfl
  | 47, _ => by kernel_rfl
  | 48, _ => by kernel_rfl
  | 49, _ => by kernel_rfl
  | 50, _ => by kernel_rfl
  | 51, _ => by kernel_rfl
  | 52, _ => by kernel_rfl
  | 53, _ => by kernel_rfl
  | 54, _ => by kernel_rfl
  | 55, _ => by kernel_rfl
  | 56, _ => by kernel_rfl
  | 57, _ => by kernel_rfl
  | 58, _ => by kernel_rfl
  | 59, _ => by kernel_rfl
  | 60, _ => by kernel_rfl
  | 61, _ => by kernel_rfl
  | 62, _ => by kernel_rfl
  | 63, _ => by kernel_rfl
  | 64, _ => by kernel_rfl
  | 65, _ => by kernel_rfl
  | 66, _ => by kernel_rfl
  | 67, _ => by kernel_rfl
  | 68, _ => by kernel_rfl
  | 69, _ => by kernel_rfl
  | 70, _ => by kernel_rfl
  | 71, _ => by kernel_rfl
  | 72, _ => by kernel_rfl
  | 73, _ => by kernel_rfl
  | 74, _ => by kernel_rfl
  | 75, _ => by kernel_rfl
  | 76, _ => by kernel_rfl
  | 77, _ => by kernel_rfl
  | 78, _ => by kernel_rfl
  | 79, _ => by kernel_rfl
  | 80, _ => by kernel_rfl
  | 81, _ => by kernel_rfl
  | 82, _ => by kernel_rfl
  | 83, _ => by kernel_rfl
  | 84, _ => by kernel_rfl
  | 85, _ => by kernel_rfl
  | 86, _ => by kernel_rfl
  | 87, _ => by kernel_rfl
  | 88, _ => by kernel_rfl
  | 89, _ => by kernel_rfl
  | 90, _ => by kernel_rfl
  | 91, _ => by kernel_rfl
  | 92, _ => by kernel_rfl
  | 93, _ => by kernel_rfl
  | 94, _ => by kernel_rfl
  | 95, _ => by kernel_rfl
  | 96, _ => by kernel_rfl
  | 97, _ => by kernel_rfl
  | 98, _ => by kernel_rfl
  | 99, _ => by kernel_rfl
  | 100, _ => by kernel_rfl
  | n + 101, h => absurd h (by omega)
theorem z12_2 (k r : Int) (ui ua : List Int) (rnd : Int) (ls : List (List Int)) (n : Nat) (h : n ≤ 100) : loopN B812 rounds (st12 k r ui ua ls rnd (n : Int) 2 0 [nilS, nilS]) pairE = some (.exit 0, st15 k r ui ua ls rnd (n : Int) 2 [zs n, zs n]) := match n, h with
  | 0, _ => by kernel_rfl
  | 1, _ => by kernel_rfl
  | 2, _ => by kernel_rfl
  | 3, _ => by kernel_rfl
  | 4, _ => by kernel_rfl
  | 5, _ => by kernel_rfl
  | 6, _ => by kernel_rfl
  | 7, _ => by kernel_rfl
  | 8, _ => by kernel_rfl
  | 9, _ => by kernel_rfl
  | 10, _ => by kernel_rfl
  | 11, _ => by kernel_rfl
  | 12, _ => by kernel_rfl
  | 13, _ => by kernel_rfl
  | 14, _ => by kernel_rfl
  | 15, _ => by kernel_rfl
  | 16, _ => by kernel_rfl
  | 17, _ => by kernel_rfl
  | 18, _ => by kernel_rfl
  | 19, _ => by kernel_rfl
  | 20, _ => by kernel_rfl
  | 21, _ => by kernel_rfl
  | 22, _ => by kernel_rfl
  | 23, _ => by kernel_rfl
  | 24, _ => by kernel_rfl
  | 25, _ => by kernel_rfl
  | 26, _ => by kernel_rfl
  | 27, _ => by kernel_rfl
  | 28, _ => by kernel_rfl
  | 29, _ => by kernel_rfl
  | 30, _ => by kernel_rfl
  | 31, _ => by kernel_rfl
  | 32, _ => by kernel_rfl
  | 33, _ => by kernel_rfl
  | 34, _ => by kernel_rfl
  | 35, _ => by kernel_rfl
  | 36, _ => by kernel_rfl
  | 37, _ => by kernel_rfl
  | 38, _ => by kernel_rfl
  | 39, _ => by kernel_rfl
  | 40, _ => by kernel_rfl
  | 41, _ => by kernel_rfl
  | 42, _ => by kernel_rfl
  | 43, _ => by kernel_rfl
  | 44, _ => by kernel_rfl
  | 45, _ => by kernel_rfl
  | 46, _ => by kernel_rfl
  | 47, _ => by kernel_rfl
  | 48, _ => by kernel_rfl
  | 49, _ => by kernel_rfl
  | 50, _ => by kernel_rfl
  | 51, _ => by kernel_rfl
  | 52, _ => by kernel_rfl
  | 53, _ => by kernel_rfl
  | 54, _ => by kernel_rfl
  | 55, _ => by kernel_rfl
  | 56, _ => by kernel_rfl
  | 57, _ => by kernel_rfl
  | 58, _ => by kernel_rfl
  | 59, _ => by kernel_rfl
  | 60, _ => by kernel_rfl
  | 61, _ => by kernel_rfl
  | 62, _ => by kernel_rfl
  | 63, _ => by kernel_rfl
  | 64, _ => by kernel_rfl
  | 65, _ => by kernel_rfl
  | 66, _ => by kernel_rfl
  | 67, _ => by kernel_rfl
  | 68, _ => by kernel_rfl
  | 69, _ => by kernel_rfl
  | 70, _ => by kernel_rfl
  | 71, _ => by kernel_rfl
  | 72, _ => by kernel_rfl
  | 73, _ => by kernel_rfl
  | 74, _ => by kernel_rfl
  | 75, _ => by kernel_rfl
  | 76, _ => by kernel_rfl
  | 77, _ => by kernel_rfl
  | 78, _ => by kernel_rfl
  | 79, _ => by kernel_rfl
  | 80, _ => by kernel_rfl
  | 81, _ => by kernel_rfl
  | 82, _ => by kernel_rfl
  | 83, _ => by kernel_rfl
  | 84, _ => by kernel_rfl
  | 85, _ => by kernel_rfl
  | 86, _ => by kernel_rfl
  | 87, _ => by kernel_rfl
  | 88, _ => by kernel_rfl
  | 89, _ => by kernel_rfl
  | 90, _ => by kernel_rfl
  | 91, _ => by kernel_rfl
  | 92, _ => by kernel_rfl
  | 93, _ => by kernel_rfl
  | 94, _ => by kernel_rfl
  | 95, _ => by kernel_rfl
  | 96, _ => by kernel_rfl
  | 97, _ => by kernel_rfl
  | 98, _ => by kernel_rfl
  | 99, _ => by kernel_rfl
  | 100, _ => by kernel_rfl
  | n + 101, h => absurd h (by omega)
end Go.Proofs.Ythlmbnhelkbchaa
/- UnitNexts: the law's run. -/
namespace Go.Proofs.Ythlmbnhelkbchaa
open Go.Ev
set_option maxRecDepth 100000
theorem l8_0 (k r : Int) (ui ua : List Int) (Fk : List (List Int) → Nat → Ob → Ob) (Hk : List (List Int) → StepF) (CK : Nat → Nat → Ob → Rs → Prop) (rnd : Int) (ls zl z7 : List (List Int)) (first : Int) (t0 u0 : St) (i' : Int) (o' : Ob) (s' : Rs) :
    run8 (SL10 (unitV k r ui ua) ls false (SN k r ui ua 0 Fk Hk CK rnd zl z7 t0 (st15 k r ui ua ls rnd first 0 zl) u0 (stN k r ui ua ls (lists zl) i' o' s') (stopAt 8 [17] orc0))) (unitV k r ui ua) ls first =
    pre8 (unitV k r ui ua) ls first (new10 (unitV k r ui ua) <| good8 k r ui ua 0 Fk Hk CK rnd ls zl z7 first t0 (st12 k r ui ua ls rnd first 0 0 []) u0 o' s') := by kernel_rfl
theorem l8_1 (k r : Int) (ui ua : List Int) (Fk : List (List Int) → Nat → Ob → Ob) (Hk : List (List Int) → StepF) (CK : Nat → Nat → Ob → Rs → Prop) (rnd : Int) (ls zl z7 : List (List Int)) (first : Int) (t0 u0 : St) (i' : Int) (o' : Ob) (s' : Rs) :
    run8 (SL10 (unitV k r ui ua) ls false (SN k r ui ua 1 Fk Hk CK rnd zl z7 t0 (st15 k r ui ua ls rnd first 1 zl) u0 (stN k r ui ua ls (lists zl) i' o' s') (stopAt 8 [17] orc0))) (unitV k r ui ua) ls first =
    pre8 (unitV k r ui ua) ls first (new10 (unitV k r ui ua) <| good8 k r ui ua 1 Fk Hk CK rnd ls zl z7 first t0 (st12 k r ui ua ls rnd first 1 0 [nilS]) u0 o' s') := by kernel_rfl
theorem l8_2 (k r : Int) (ui ua : List Int) (Fk : List (List Int) → Nat → Ob → Ob) (Hk : List (List Int) → StepF) (CK : Nat → Nat → Ob → Rs → Prop) (rnd : Int) (ls zl z7 : List (List Int)) (first : Int) (t0 u0 : St) (i' : Int) (o' : Ob) (s' : Rs) :
    run8 (SL10 (unitV k r ui ua) ls false (SN k r ui ua 2 Fk Hk CK rnd zl z7 t0 (st15 k r ui ua ls rnd first 2 zl) u0 (stN k r ui ua ls (lists zl) i' o' s') (stopAt 8 [17] orc0))) (unitV k r ui ua) ls first =
    pre8 (unitV k r ui ua) ls first (new10 (unitV k r ui ua) <| good8 k r ui ua 2 Fk Hk CK rnd ls zl z7 first t0 (st12 k r ui ua ls rnd first 2 0 [nilS, nilS]) u0 o' s') := by kernel_rfl
end Go.Proofs.Ythlmbnhelkbchaa
/- UnitNexts: the law, for a kind (but a delay). -/
namespace Go.Proofs.Ythlmbnhelkbchaa
open Go.Ev
set_option maxRecDepth 100000
theorem g36_0 : evCall Try.prog orc0 tb 100 AV (.fn 36) [lists [], int64 70] (mkHeap [] 0) .off (nviewK Try.prog (resOf Try.prog 36)) = some (lists []) := by kernel_rfl
theorem g36_1 (a : List Int) : evCall Try.prog orc0 tb 100 AV (.fn 36) [lists [a], int64 70] (mkHeap [] 0) .off (nviewK Try.prog (resOf Try.prog 36)) = some (lists [zs 70]) := by kernel_rfl
theorem g36_2 (a b : List Int) : evCall Try.prog orc0 tb 100 AV (.fn 36) [lists [a, b], int64 70] (mkHeap [] 0) .off (nviewK Try.prog (resOf Try.prog 36)) = some (lists [zs 70, zs 70]) := by kernel_rfl
theorem ar36 (zl : List (List Int)) : vwArgs Try.prog [] none0 (parsOf Try.prog 36) [lists zl, int64 70] = [lists zl, int64 70] := by kernel_rfl
section
variable {k r rnd : Int} {ui ua : List Int} {m : Nat} {Fk : List (List Int) → Nat → Ob → Ob} {Hk : List (List Int) → StepF} {CK : Nat → Nat → Ob → Rs → Prop}
theorem vX_eq (row : List Int) (o : Ob) : vX m Fk (arg21 row) (objU k r ui ua o) = nxU m Fk row o := by
  unfold vX
  show nxU m Fk (rowOf (ints row)) o = _
  rw [rowOf_ints]
theorem vN_eq (row : List Int) (s : Rs) : vN m Hk (arg35 k r ui ua s row) = nxS m Hk row s := by
  unfold vN
  show nxS m Hk (rowOf (ints row)) (rsOf (cellsR k r ui ua s)) = _
  rw [rowOf_ints, rsOf_cells]
theorem vR_eq (n : Nat) (ls : List (List Int)) (s : Rs) : vR r Hk (argR k r ui ua s n ls) = runR r (Hk ls) 0 n s := by
  unfold vR
  show runR r (Hk (rowsOf (lists ls))) 0 (intOf (int64 (n : Int))).toNat (rsOf (cellsR k r ui ua s)) = _
  rw [rowsOf_lists, rsOf_cells]
  rfl
theorem S8_ok (N : KindN k r ui ua m rnd Fk Hk CK) {S : Orc} (hS : Ok S) : Ok (S8 k r ui ua m Fk Hk CK S) := by
  refine knowOW_ok tbOk (fun a l h => ?_) (knowOW_ok tbOk (fun a l h => ?_) (knowFW_ok (fun a h => ?_) (knowFW_ok (fun a h => ?_) (O20_ok hS))))
  · obtain ⟨n, ls, o, rfl, rfl, h1, h2, h3⟩ := h
    have e : VU (rfOf r Fk) (argU n ls) (objU k r ui ua o) = ((.tup [ints (runO r (Fk ls) 0 n o).2, int64 0], objU2 k r ui ua (runO r (Fk ls) 0 n o).1), psU) := by
      unfold VU
      rw [rU_rf]
      rfl
    rw [e]
    exact N.u.rnI n ls o h3 h1 h2
  · obtain ⟨row, o, rfl, rfl⟩ := h
    unfold VX
    rw [vX_eq]
    unfold nxU
    by_cases hm : row.length = m
    · rw [if_pos hm]
      exact N.nx row o hm
    · rw [if_neg hm]
      exact N.nxE row o hm
  · obtain ⟨c, row, o, s, rfl, hc, hC⟩ := isSo_iff.1 h
    unfold V35
    rw [vN_eq]
    unfold nxS
    by_cases hm : row.length = m
    · rw [if_pos hm]
      exact N.nr c row o s hc hm hC
    · rw [if_neg hm]
      exact N.nrE row s hm
  · obtain ⟨c, n, ls, o, s, rfl, hc, hm, hl, hC⟩ := isSo_iff.1 h
    unfold V34
    rw [vR_eq]
    exact N.run c n ls o s hc hm hl hC
theorem nx_same (N : KindN k r ui ua m rnd Fk Hk CK) {c : Nat} {o : Ob} {s : Rs} (row : List Int) (hc : c + 1 ≤ 1000) (h : Same (CK c) 0 o s) :
    (nxU m Fk row o).2.1 = (nxS m Hk row s).2.1 ∧ (nxU m Fk row o).2.2 = (nxS m Hk row s).2.2 ∧ (nxU m Fk row o).1.frame = (nxS m Hk row s).1.frame ∧ ∃ c', c' ≤ c + 1 ∧ Same (CK c') 0 (nxU m Fk row o).1 (nxS m Hk row s).1 := by
  unfold nxU nxS
  by_cases hm : row.length = m
  rotate_left
  · rw [if_neg hm, if_neg hm]
    exact ⟨rfl, rfl, h.f, c, by omega, h⟩
  rw [if_pos hm, if_pos hm]
  have hl : (ones row).length = m := by rw [List.length_map, hm]
  have A := N.al c 1 (ones row) (by omega) hl
  have h0 := A.set 0 o s (w64 (o.frame + 1)) o.told s.frame s.held h.c
  obtain ⟨h1, h2, h3, h4⟩ := A.step 0 (fwd o) s (by omega) h0
  have h5 := N.sh c 1 _ _ h1
  have h6 := (N.al (c + 1) 0 (ones row) (by omega) hl).set 0 _ _ (Fk (ones row) 0 (fwd o)).frame (Fk (ones row) 0 (fwd o)).told (w64 ((Hk (ones row) 0 s).1.frame + 1)) (Hk (ones row) 0 s).2 h5
  have hf : (Fk (ones row) 0 (fwd o)).frame = w64 ((Hk (ones row) 0 s).1.frame + 1) := by
    rw [h3, h4, ← h.f]
    rfl
  exact ⟨h2, rfl, hf, c + 1, by omega, h6, hf, h2⟩
theorem round8_eq (N : KindN k r ui ua m rnd Fk Hk CK) {A : Type} {ls : List (List Int)} {i c : Nat} {o : Ob} {s : Rs} {zc : AV} (h : i < ls.length) (hm : ls.length ≤ 10) (hc : c + 1 ≤ 1000) (hs : Same (CK c) 0 o s) (K : Ex → St → Option A) :
    round8 k r ui ua m Fk Hk CK ls zc (i : Int) o s K = K .normal (stN k r ui ua ls zc ((i + 1 : Nat) : Int) (nxU m Fk ls[i] o).1 (nxS m Hk ls[i] s).1) := by
  have h3 : (i : Int).toNat * 1 = i := by omega
  have h5 : Nat.blt i ls.length = true := Nat.ble_eq_true_of_le h
  have hr : rowAt ls (i : Int) = ints ls[i] := by unfold rowAt; rw [h3, nthM ints ls i h]
  have hF : isFzN (ints ls[i]) = true := rfl
  have rg : ∀ x : Option A, rowG ls (i : Int) x = x := fun x => by
    unfold rowG
    rw [hr, hF, h3, lenM, h5, decide_eq_true (Int.natCast_nonneg i), decide_eq_true (by omega : (i : Int) < (ls.length : Int))]
    rfl
  have e21 : a21 ls (i : Int) = arg21 ls[i] := by
    show vwArgs Try.prog [(1, 0)] none0 (parsOf Try.prog 21) [.ptr (some (1, 0)), rowF (rowAt ls (i : Int))] = _
    rw [hr]
    exact ar21 ls[i]
  have e35 : a35 k r ui ua s ls (i : Int) = arg35 k r ui ua s ls[i] := by
    show [_, rowF (rowAt ls (i : Int))] = _
    rw [hr]
    rfl
  obtain ⟨n1, n2, n3, -⟩ := nx_same N ls[i] hc hs
  unfold round8
  simp only
  rw [rg, rg, e21, e35, vX_eq, vN_eq, isSo_true ⟨_, _, rfl, rfl⟩, isSo_true ⟨c, _, o, _, rfl, by omega, hs.c⟩, E_eq, n1, n2, n3, decide_eq_true (by omega : (i : Int) < (ls.length : Int)), show w64 ((i : Int) + 1) = ((i + 1 : Nat) : Int) from by unfold w64; rw [IntKind.wrap_i64]; omega]
  simp only [cond_true, cond_false, Bool.not_true, beq_self_eq_true]
theorem loop8 (N : KindN k r ui ua m rnd Fk Hk CK) {ls : List (List Int)} {zc : List AV} {zn : Nat} (hm : ls.length ≤ 10) : ∀ (d i Q c : Nat) (o : Ob) (s : Rs), i + d = ls.length → d < Q → c + d ≤ 900 → Same (CK c) 0 o s →
    ∃ (c' : Nat) (i' : Int) (o' : Ob) (s' : Rs), c' ≤ c + d ∧ Same (CK c') 0 o' s' ∧ loopN (loopB Try.prog (S8 k r ui ua m Fk Hk CK (stopAt 8 [25] orc0)) tb 8 20 13) Q (stN k r ui ua ls (.fz zc zn false 1) (i : Int) o s) pairE = some (.exit 2, stN k r ui ua ls (.fz zc zn false 1) i' o' s') := by
  intro d
  induction d with
  | zero =>
    intro i Q c o s hi hQ hc hs
    obtain ⟨Q, rfl⟩ : ∃ q, Q = q + 1 := ⟨Q - 1, by omega⟩
    refine ⟨c, (i : Int), o, s, by omega, hs, ?_⟩
    rw [loopN_succ, b820]
    unfold round8
    rw [decide_eq_false (by omega : ¬ (i : Int) < (ls.length : Int))]
    rfl
  | succ d ih =>
    intro i Q c o s hi hQ hc hs
    obtain ⟨Q, rfl⟩ : ∃ q, Q = q + 1 := ⟨Q - 1, by omega⟩
    have h : i < ls.length := by omega
    obtain ⟨-, -, -, c1, hc1, hs1⟩ := nx_same N ls[i] (by omega) hs
    obtain ⟨c', i', o', s', a1, a2, a3⟩ := ih (i + 1) Q c1 _ _ (by omega) (by omega) (by omega) hs1
    refine ⟨c', i', o', s', by omega, a2, ?_⟩
    rw [loopN_succ, b820, round8_eq N h hm (by omega) hs]
    exact a3
theorem pre8_true (u : AV) (ls : List (List Int)) (first : Int) : pre8 u ls first (some true) = some true := by
  unfold pre8
  rw [same_self, same_self]
  cases decide (first < 0) <;> cases decide (first > 100) <;> rfl
theorem pre8_out {u : AV} {ls : List (List Int)} {first : Int} (h : first < 0 ∨ first > 100) (x : Option Bool) : pre8 u ls first x = some true := by
  unfold pre8
  rw [same_self, same_self]
  rcases h with h | h
  · rw [decide_eq_true h]; rfl
  · rw [decide_eq_false (by omega : ¬ first < 0), decide_eq_true h]; rfl
theorem pre8_in (u : AV) (ls : List (List Int)) (first : Int) {x : Option Bool} (h : x = some true) : pre8 u ls first x = some true := by rw [h]; exact pre8_true u ls first
theorem longB_len {xs ys : List Int} {ls : List (List Int)} (h : longB xs ys ls = false) : ls.length ≤ 10 := by
  unfold longB at h
  simp only [Bool.or_eq_false_iff, decide_eq_false_iff_not] at h
  omega
theorem law_mid (N : KindN k r ui ua m rnd Fk Hk CK) {ls zl z7 : List (List Int)} {n : Nat} (hn : n ≤ 100) (hls : ls.length ≤ 10) (z1 : zl.length = m) (z2 : ∀ l ∈ zl, l.length = n) (z3 : z7.length = m) (z4 : ∀ l ∈ z7, l.length = 70)
    (t0 : St) (h12 : LFact Try.prog tb 8 12 4 t0 (.exit 0) (st15 k r ui ua ls rnd (n : Int) m zl)) (h36 : NFact Try.prog tb 36 [lists zl, int64 70] (lists z7))
    (hl8 : ∀ (u0 : St) (i' : Int) (o' : Ob) (s' : Rs), run8 (SL10 (unitV k r ui ua) ls false (SN k r ui ua m Fk Hk CK rnd zl z7 t0 (st15 k r ui ua ls rnd (n : Int) m zl) u0 (stN k r ui ua ls (lists zl) i' o' s') (stopAt 8 [17] orc0))) (unitV k r ui ua) ls (n : Int) =
      pre8 (unitV k r ui ua) ls (n : Int) (new10 (unitV k r ui ua) <| good8 k r ui ua m Fk Hk CK rnd ls zl z7 (n : Int) t0 t0 u0 o' s'))
    (hlong : longB ui ua ls = false) : ∃ S, Ok S ∧ run8 S (unitV k r ui ua) ls (n : Int) = some true := by
  have hr' : r = 1 ∨ r = 2 ∨ r = 3 := by have := N.hr; omega
  have hM : maxLen = 9223372036854775807 := rfl
  have hrd : rounds = 100000000000000000000 := rfl
  have c0 := N.c0
  obtain ⟨s1, s2⟩ := run_same hr' (N.al 0 n zl (by omega) z1) n 0 (ob0 rnd) (rs0 rnd) (by omega) ⟨c0, rfl, rfl⟩
  have s3 : Same (CK n) 0 (runO r (Fk zl) 0 n (ob0 rnd)).1 (runR r (Hk zl) 0 n (rs0 rnd)).1 := by
    have h := N.sh 0 (0 + n) _ _ s2.c
    rw [show 0 + (0 + n) = n by omega] at h
    exact ⟨h, s2.f, s2.t⟩
  obtain ⟨c', i', o', s', hc', hs', hloop⟩ := loop8 N (zc := zl.map ints) (zn := zl.length) hls ls.length 0 rounds n _ _ (by omega) (by omega) (by omega) s3
  have hf20 : LFact Try.prog tb 8 20 13 (stN k r ui ua ls (lists zl) 0 (runO r (Fk zl) 0 n (ob0 rnd)).1 (runR r (Hk zl) 0 n (rs0 rnd)).1) (.exit 2) (stN k r ui ua ls (lists zl) i' o' s') := ⟨_, S8_ok N (stopAt_ok ok0), hloop⟩
  obtain ⟨e1, -⟩ := run_same hr' (N.al c' 70 z7 (by omega) z3) 70 0 o' s' (by omega) hs'
  have ok : Ok (SN k r ui ua m Fk Hk CK rnd zl z7 t0 (st15 k r ui ua ls rnd (n : Int) m zl) (stN k r ui ua ls (lists zl) 0 (runO r (Fk zl) 0 n (ob0 rnd)).1 (runR r (Hk zl) 0 n (rs0 rnd)).1) (stN k r ui ua ls (lists zl) i' o' s') (stopAt 8 [17] orc0)) :=
    S18y_ok N.u (know_ok tbOk N.inp (S8_ok N (knowN_ok tbOk h36 (knowL_ok tbOk h12 (knowL_ok tbOk hf20 (stopAt_ok ok0) (ep := e8) rfl norm820 count820) (ep := e8) rfl norm812 count812))))
  refine ⟨_, SL10_ok hlong ok, (hl8 _ _ _ _).trans (pre8_in _ _ _ ?_)⟩
  have g1 : isSo (GU k r ui ua m (argU (n : Nat) zl) (objU k r ui ua (ob0 rnd))) = true := isSo_true ⟨n, zl, _, rfl, rfl, z1, z2, by omega⟩
  have g2 : isSo (G34n k r ui ua m CK (argR k r ui ua (rs0 rnd) (n : Nat) zl)) = true := isSo_true ⟨0, n, zl, _, _, rfl, by omega, z1, z2, c0⟩
  have g3 : isSo (GU k r ui ua m (argU 70 z7) (objU k r ui ua o')) = true := isSo_true ⟨70, z7, _, rfl, rfl, z3, z4, by omega⟩
  have g4 : isSo (G34n k r ui ua m CK (argR k r ui ua s' 70 z7)) = true := isSo_true ⟨c', 70, z7, _, _, rfl, by omega, z3, z4, hs'.c⟩
  have e2 : rU' (rfOf r Fk) (argU 70 z7) (objU k r ui ua o') = runO r (Fk z7) 0 70 o' := rU_rf k ui ua 70 z7 o'
  have e3 : vR r Hk (argR k r ui ua s' 70 z7) = runR r (Hk z7) 0 70 s' := vR_eq 70 z7 s'
  have hn10 : ∀ x : Option Bool, new10 (unitV k r ui ua) x = x := fun x => by unfold new10; rw [isSo_true ⟨rfl, rfl⟩, same_self]; rfl
  have hsv : sameV (.agg (cellsR k r ui ua s')) (.agg (cellsR k r ui ua s')) = true := by
    simp [cellsR, sameV, sameL, sameF, int64, ints]
    exact ⟨sameL_ints ui, sameL_ints ua, sameL_ints s'.past⟩
  unfold good8
  simp only
  rw [hn10, same_self, sameSt_self, g1, g2, rU_rf, vR_eq, sameSt_self, same_self, g3, hsv, g4, e2, e3, e1, isSo_true ⟨_, _, rfl, by rw [runR_len]; omega⟩]
  simp only [cond_true, decide_true]
end
end Go.Proofs.Ythlmbnhelkbchaa
/- UnitRuns, a delay: a round of the law's loop. -/
namespace Go.Proofs.Ythlmbnhelkbchaa
open Go.Ev
set_option maxRecDepth 100000
def rsD (N : Nat) : Rs := ⟨0, 0, 0, 0, 0, false, 0, zs N⟩
def stRd (q : Nat) (r u0 y0 fr : Int) (N : Nat) (xs : List Int) (cuts want : List Int) (o1 : Ob) (L1 : List AV) (en : Rs) (at' n : Int) (o : Ob) (L : List AV) : St := ⟨[.dead, lists [xs], int64 fr, ints cuts, .dead, .dead, .dead, .dead, .dead, .ptr (some (23, 0)), .dead, .dead, .dead, .dead, .dead, ints want, int64 at', int64 n] ++ repA .dead 191,
  mkHeap [(q, .cells true L), (23, .cells true (cellsD r u0 y0 o (.gr (q, 0) N 1))), (6, .cells true (cellsR 11 r [u0] [y0] en)), (5, .cells true L1), (3, .cells true (cellsR 11 r [u0] [y0] (rsD N))), (1, .cells true (cellsD r u0 y0 o1 (.gr (5, 0) N 1))), (0, .cells true [int64 11, int64 r, ints [u0], ints [y0]])] 34, [], .off⟩
noncomputable def N27 : Norm := match loopN0 tb 10 27 with
  | some N => N
  | none => ⟨[], []⟩
theorem norm27 : loopN0 tb 10 27 = some N27 := by kernel_rfl
theorem count27 : Nat.ble (countL 27 e10.code) 1 = true := by kernel_rfl
abbrev fl17 : Flat := ⟨[5, 24, 33], [], []⟩
noncomputable def O27 (S : Orc) : Orc := addR Try.prog tb orc0 10 27 N27 fl17 S
theorem O27_ok {S : Orc} (h : Ok S) : Ok (O27 S) := addR_ok tbOk ok0 h (ep := e10) rfl norm27 count27
noncomputable def S17d (S : Orc) : Orc := OD (OKd (O20 (O27 S)))
noncomputable abbrev gL {A : Type} (L L1 : List AV) (x : Option A) : Option A := guardK (allS L && (allS L1 && true)) x
noncomputable abbrev B17 {A : Type} (S : Orc) (st : St) (K : Ex → St → Option A) : Option A := loopBG Try.prog S tb 10 17 fl17 25 st K
noncomputable def roundTd {A : Type} (r u0 y0 fr : Int) (N : Nat) (xs : List Int) (cuts want : List Int) (o1 : Ob) (L1 : List AV) (en : Rs) (at' n : Int) (o : Ob) (L : List AV) (kk : Int) (K : Ex → St → Option A) : Option A :=
  let a : List AV := [.ptr (some (0, 0)), int64 kk, .fz [cutV xs at' (w64 (at' + kk))] 1 false 1]
  let p := sD a (objD r u0 y0 o N L)
  gL L L1 <| cutT xs at' (w64 (at' + kk)) <| gL L L1 <| gL L L1 <|
  guardK (allS L && true && true) <| bif isSo (GKd [.ptr (some (0, 0))] (objD r u0 y0 o N L)) then guardK (allS L && true && true) <| bif isSo (GD a (objD r u0 y0 o N L)) then guardK (allS L && true && true) <| bif isSo (GD a (objD r u0 y0 o N L)) then
    cutT want at' (w64 (at' + kk)) <| bif isSo (is20 [ints p.2, cutV want at' (w64 (at' + kk))]) then bif !(decide (rowOf (ints p.2) = rowOf (cutV want at' (w64 (at' + kk))))) then none else
      bif isSo (is20 [ints p.2, ints p.2]) then bif !(decide (rowOf (ints p.2) = rowOf (ints p.2))) then none else bif !(p.1.o.frame == p.1.o.frame) then none else
        guardK (allS (p.1.L.map int64) && (allS L1 && true)) <| K .normal (stRd 33 r u0 y0 fr N xs cuts want o1 L1 en (w64 (at' + kk)) (w64 (n + 1)) p.1.o (p.1.L.map int64))
      else none
    else none
  else none else none else none
theorem b17_d1 {A : Type} (r u0 y0 fr : Int) (N : Nat) (xs : List Int) (cuts want : List Int) (o1 : Ob) (L1 : List AV) (en : Rs) (at' n : Int) (o : Ob) (L : List AV) (K : Ex → St → Option A) :
    B17 (S17d (stopAt 10 [34] orc0)) (stRd 24 r u0 y0 fr N xs cuts want o1 L1 en at' n o L) K =
    bif decide (at' < fr) then lenT' fr cuts at' n (fun kk => roundTd r u0 y0 fr N xs cuts want o1 L1 en at' n o L kk K) else guardK (allS L && (allS L1 && true)) <| K (.exit 0) (stRd 24 r u0 y0 fr N xs cuts want o1 L1 en at' n o L) := by kernel_rfl
theorem b17_d2 {A : Type} (r u0 y0 fr : Int) (N : Nat) (xs : List Int) (cuts want : List Int) (o1 : Ob) (L1 : List AV) (en : Rs) (at' n : Int) (o : Ob) (L : List AV) (K : Ex → St → Option A) :
    B17 (S17d (stopAt 10 [34] orc0)) (stRd 33 r u0 y0 fr N xs cuts want o1 L1 en at' n o L) K =
    bif decide (at' < fr) then lenT' fr cuts at' n (fun kk => roundTd r u0 y0 fr N xs cuts want o1 L1 en at' n o L kk K) else guardK (allS L && (allS L1 && true)) <| K (.exit 0) (stRd 33 r u0 y0 fr N xs cuts want o1 L1 en at' n o L) := by kernel_rfl
end Go.Proofs.Ythlmbnhelkbchaa
/- UnitRuns, a delay: pieces are the whole. -/
namespace Go.Proofs.Ythlmbnhelkbchaa
open Go.Ev
set_option maxRecDepth 100000
theorem runD_split (r : Int) (xs : List Int) : ∀ (a b i : Nat) (s : Ds), runD r xs i (a + b) s = ((runD r xs (i + a) b (runD r xs i a s).1).1, (runD r xs i a s).2 ++ (runD r xs (i + a) b (runD r xs i a s).1).2)
  | 0, b, i, s => by simp [runD]
  | a + 1, b, i, s => by
    have ih := runD_split r xs a b (i + 1) (onD r xs i s)
    rw [show a + 1 + b = (a + b) + 1 by omega]
    simp only [runD]
    rw [ih, show i + 1 + a = i + (a + 1) by omega]
    rfl
theorem runD_alike {r : Int} {xs ys : List Int} : ∀ (d i j : Nat) (s t : Ds), s.o = t.o → s.L = t.L → (∀ q, q < d → xs.getD (i + q) 0 = ys.getD (j + q) 0) →
    (runD r xs i d s).1.o = (runD r ys j d t).1.o ∧ (runD r xs i d s).1.L = (runD r ys j d t).1.L ∧ (runD r xs i d s).2 = (runD r ys j d t).2
  | 0, _, _, _, _, h1, h2, _ => ⟨h1, h2, rfl⟩
  | d + 1, i, j, s, t, h1, h2, h => by
    have h0 : xs.getD i 0 = ys.getD j 0 := h 0 (by omega)
    have e : (onD r xs i s).o = (onD r ys j t).o ∧ (onD r xs i s).L = (onD r ys j t).L := by
      unfold onD
      rw [h1, h2, h0]
      cases due r t.o.frame <;> exact ⟨rfl, rfl⟩
    obtain ⟨a1, a2, a3⟩ := runD_alike (r := r) d (i + 1) (j + 1) _ _ e.1 e.2 (fun q hq => by
      have := h (q + 1) (by omega)
      rw [show i + (q + 1) = i + 1 + q by omega, show j + (q + 1) = j + 1 + q by omega] at this
      exact this)
    simp only [runD]
    rw [a3, e.1]
    exact ⟨a1, a2, rfl⟩
theorem runD_n {r : Int} {xs : List Int} {N : Nat} (hN : 1 ≤ N) : ∀ (d i : Nat) (s : Ds), s.L.length = N → (runD r xs i d s).1.L.length = N
  | 0, _, _, h => h
  | d + 1, i, _, h => runD_n hN d (i + 1) _ (onD_len hN h)
theorem runD_frame {r : Int} {xs : List Int} : ∀ (d i : Nat) (s : Ds), 0 ≤ s.o.frame → s.o.frame + d ≤ 1000000 → (runD r xs i d s).1.o.frame = s.o.frame + d
  | 0, _, _, _, _ => by simp [runD]
  | d + 1, i, s, h0, h1 => by
    have e : (onD r xs i s).o.frame = s.o.frame + 1 := by
      have : (onD r xs i s).o.frame = w64 (s.o.frame + 1) := by
        unfold onD
        cases due r s.o.frame <;> rfl
      rw [this]
      unfold w64
      rw [IntKind.wrap_i64]
      omega
    have ih := runD_frame (r := r) (xs := xs) d (i + 1) (onD r xs i s) (by omega) (by omega)
    simp only [runD]
    rw [ih, e]
    omega
section
variable {r u0 : Int} {N : Nat} {xs : List Int} {fr : Nat} {cuts L1 : List Int} {o1 : Ob} {en : Rs}
abbrev dA (r : Int) (xs : List Int) (N i : Nat) : Ds × List Int := runD r xs 0 i ⟨false, ob0 0, zs N⟩
abbrev stA (q : Nat) (r u0 : Int) (N : Nat) (xs : List Int) (fr : Nat) (cuts L1 : List Int) (o1 : Ob) (en : Rs) (at' : Nat) (n : Int) : St :=
  stRd q r u0 N fr N xs cuts (dA r xs N fr).2 o1 (L1.map int64) en at' n (dA r xs N at').1.o ((dA r xs N at').1.L.map int64)
theorem loop17_d {A : Type} {q : Nat} (hq : q = 24 ∨ q = 33) (r u0 y0 fr : Int) (N : Nat) (xs : List Int) (cuts want : List Int) (o1 : Ob) (L1 : List AV) (en : Rs) (at' n : Int) (o : Ob) (L : List AV) (K : Ex → St → Option A) :
    B17 (S17d (stopAt 10 [34] orc0)) (stRd q r u0 y0 fr N xs cuts want o1 L1 en at' n o L) K =
    bif decide (at' < fr) then lenT' fr cuts at' n (fun kk => roundTd r u0 y0 fr N xs cuts want o1 L1 en at' n o L kk K) else guardK (allS L && (allS L1 && true)) <| K (.exit 0) (stRd q r u0 y0 fr N xs cuts want o1 L1 en at' n o L) := by
  rcases hq with rfl | rfl
  · exact b17_d1 ..
  · exact b17_d2 ..
theorem round17d {q : Nat} (hq : q = 24 ∨ q = 33) (hN : 1 ≤ N) (hN' : N ≤ 100000) (hl : xs.length = fr) (hf : fr ≤ 4096) {at' n : Nat} (hlt : at' < fr) (hn : n ≤ 100000) : ∃ kk : Nat, at' + kk ≤ fr ∧ (100 < n → kk = fr - at') ∧ ∀ K : Ex → St → Option (Ex × St),
      B17 (S17d (stopAt 10 [34] orc0)) (stA q r u0 N xs fr cuts L1 o1 en at' (n : Int)) K = K .normal (stA 33 r u0 N xs fr cuts L1 o1 en (at' + kk) ((n + 1 : Nat) : Int)) := by
  obtain ⟨kk, h1, h2, h3⟩ := lenT_some (A := Ex × St) (n := n) (cuts := cuts) hlt hf
  refine ⟨kk, h1, h2, fun K => ?_⟩
  rw [loop17_d hq, decide_eq_true (by omega : (at' : Int) < (fr : Int)), cond_true, h3]
  have ew : w64 ((at' : Int) + (kk : Int)) = ((at' + kk : Nat) : Int) := by unfold w64; rw [IntKind.wrap_i64]; omega
  have en1 : w64 ((n : Int) + 1) = ((n + 1 : Nat) : Int) := by unfold w64; rw [IntKind.wrap_i64]; omega
  have hlen : at' + kk ≤ xs.length := by omega
  have hargs : ([.ptr (some (0, 0)), int64 (kk : Int), .fz [cutV xs (at' : Int) ((at' + kk : Nat) : Int)] 1 false 1] : List AV) = argU (kk : Nat) [cutL xs at' kk] := by
    rw [cutV_eq hlen]
    rfl
  have hsp : dA r xs N (at' + kk) = ((runD r xs at' kk (dA r xs N at').1).1, (dA r xs N at').2 ++ (runD r xs at' kk (dA r xs N at').1).2) := by
    have h := runD_split r xs at' kk 0 ⟨false, ob0 0, zs N⟩
    rw [Nat.zero_add] at h
    exact h
  have hsp2 : dA r xs N fr = ((runD r xs (at' + kk) (fr - (at' + kk)) (dA r xs N (at' + kk)).1).1, (dA r xs N (at' + kk)).2 ++ (runD r xs (at' + kk) (fr - (at' + kk)) (dA r xs N (at' + kk)).1).2) := by
    have h := runD_split r xs (at' + kk) (fr - (at' + kk)) 0 ⟨false, ob0 0, zs N⟩
    rw [show at' + kk + (fr - (at' + kk)) = fr by omega, Nat.zero_add] at h
    exact h
  have hLn : (dA r xs N at').1.L.length = N := runD_n hN _ _ _ (by simp)
  obtain ⟨g1, g2, g3⟩ := runD_alike (r := r) (xs := cutL xs at' kk) (ys := xs) kk 0 at' ⟨false, (dA r xs N at').1.o, (dA r xs N at').1.L⟩ (dA r xs N at').1 rfl rfl (fun q hq => cutL_get xs at' kk q hq)
  have hwant : cutL (dA r xs N fr).2 at' kk = (runD r (cutL xs at' kk) 0 kk ⟨false, (dA r xs N at').1.o, (dA r xs N at').1.L⟩).2 := by
    rw [g3]
    unfold cutL
    rw [hsp2, hsp]
    simp only
    rw [List.append_assoc, List.drop_append_of_le_length (by rw [runD_len]; omega), List.drop_eq_nil_of_le (by rw [runD_len]; omega), List.nil_append, List.take_append_of_le_length (by rw [runD_len]; omega), List.take_of_length_le (by rw [runD_len]; omega)]
  have hwl : at' + kk ≤ (dA r xs N fr).2.length := by rw [runD_len]; exact h1
  have hM : maxLen = 9223372036854775807 := rfl
  have hG : isSo (GD (argU (kk : Nat) [cutL xs at' kk]) (objD r u0 N (dA r xs N at').1.o N ((dA r xs N at').1.L.map int64))) = true := isSo_true ⟨r, u0, N, _, N, _, _, kk, rfl, rfl, hN, hN', hLn, by
    unfold cutL
    rw [List.length_take, List.length_drop]
    omega, by omega⟩
  have hGK : isSo (GKd [.ptr (some (0, 0))] (objD r u0 N (dA r xs N at').1.o N ((dA r xs N at').1.L.map int64))) = true := isSo_true ⟨r, u0, N, _, N, _, rfl, rfl, hN, hN', hLn⟩
  have e1 : (runD r (cutL xs at' kk) 0 kk ⟨false, (dA r xs N at').1.o, (dA r xs N at').1.L⟩).1.o = (dA r xs N (at' + kk)).1.o := by rw [g1, hsp]
  have e2 : (runD r (cutL xs at' kk) 0 kk ⟨false, (dA r xs N at').1.o, (dA r xs N at').1.L⟩).1.L = (dA r xs N (at' + kk)).1.L := by rw [g2, hsp]
  unfold roundTd
  simp only
  rw [ew, hargs, sD_eq, hGK, hG, cutT_eq hlen, cutT_eq hwl, cutV_eq hwl, hwant, isSo_true ⟨_, _, rfl, by rw [runD_len]; omega⟩, en1, e1, e2]
  simp only [gL, allS_ints, guardK, Bool.and_true, cond_true, cond_false, decide_true, Bool.not_true, beq_self_eq_true]
end
end Go.Proofs.Ythlmbnhelkbchaa
