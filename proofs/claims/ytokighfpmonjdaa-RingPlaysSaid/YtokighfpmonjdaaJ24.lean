/- RingPlays: a turn of the law's loop. -/
import Derived.Test.YtokighfpmonjdaaJ23
namespace Go.Proofs.Ytokighfpmonjdaa
open Go.Ev
set_option maxRecDepth 100000
abbrev rbN : Bool → Nat
  | true => 0
  | false => 8
abbrev fbN : Bool → Nat
  | true => 1
  | false => 9
def cellsP (b : Bool) (s : Rf) (q : Bool) : List AV := .ptr (some (rbN b, 0)) :: ([int64 s.n, int64 s.ch, int64 s.fi, int64 s.w, int64 s.r, int64 s.se, int64 s.lo, int64 s.cl, int64 s.ta, rows s.cs] ++ [.bool q])
abbrev hpA (g : Rg) (m : Nat) (L : List AV) : List (Nat × Blk) := [(1, .cells true L), (0, .cells true (cellsG g (.gr (1, 0) (m + 1) 1)))]
abbrev hpB (g : Rg) (N : Nat) (L : List AV) : List (Nat × Blk) := [(9, .cells true L), (8, .cells true (cellsG g (.gr (9, 0) N 1)))]
def stPA (l : List Act) (i : Int) (s0 : Rf) (m : Nat) (g : Rg) (L : List AV) (s : Rf) (q : Bool) : St := ⟨[.dead, .dead, .dead, acV l] ++ repA .dead 17 ++ [.ptr (some (3, 0)), int64 i] ++ repA .dead 102, mkHeap ([(3, .cells true (cellsP true s q)), (2, .cells true (cellsF s0))] ++ hpA g m L) 10, [], .off⟩
def stPB (l : List Act) (i : Int) (s0 : Rf) (m : Nat) (g0 : Rg) (L0 : List AV) (g : Rg) (N : Nat) (L : List AV) (s : Rf) (q : Bool) : St := ⟨[.dead, .dead, .dead, acV l] ++ repA .dead 17 ++ [.ptr (some (3, 0)), int64 i] ++ repA .dead 102, mkHeap (hpB g N L ++ [(3, .cells true (cellsP false s q)), (2, .cells true (cellsF s0))] ++ hpA g0 m L0) 10, [], .off⟩
def actT {A : Type} (l : List Act) (i : Int) (f : Int → Int → AV → Option A) : Option A :=
  guardK (decide (0 ≤ i) && decide (i < (l.length : Int))) <| guardK (Nat.ble (i.toNat * 3 + 3) (lenA (flatAc l))) <|
  guardK (isIntK .i64 (nth (flatAc l) (i.toNat * 3)) && (isIntK .i64 (nth (flatAc l) (i.toNat * 3 + 1)) && (isFzN (nth (flatAc l) (i.toNat * 3 + 1 + 1)) && true))) <|
  f (intOf (nth (flatAc l) (i.toNat * 3))) (intOf (nth (flatAc l) (i.toNat * 3 + 1))) (rowA (nth (flatAc l) (i.toNat * 3 + 1 + 1)))
noncomputable def askT {A : Type} (g : Rg) (s : Rf) (x : Option A) : Option A := bif isSo (G65 [aggF s]) then bif g.wo == cntF (rfOf (aggF s)) (rfOf (aggF s)).w then bif g.ro == cntF (rfOf (aggF s)) (rfOf (aggF s)).r then bif g.wv == cntF (rfOf (aggF s)) (rfOf (aggF s)).se then bif g.rv == cntF (rfOf (aggF s)) (rfOf (aggF s)).lo then bif g.wc == maxI 0 s.cl then bif !(g.rc == maxI 0 s.ta) then none else x else none else none else none else none else none else none
noncomputable abbrev BP {A : Type} (S : Orc) (st : St) (K : Ex → St → Option A) : Option A := loopBG Try.prog S tb 5 15 ⟨[1, 9], [], []⟩ 4 st K
/-! ### The turns -/
section
variable {A : Type} (m : Nat) (g : Rg) (fs : List (List Int)) (s : Rf) (to : Rg → List (List Int) → Rf → Bool → Option A) (a18 : Int → AV → List AV) (a15 : AV → List AV) (cp : Option A)
noncomputable def kt0 : Option A := flG fs <| bif isSo (G16 [pG] (ob g (m + 1) fs)) then bif isSo (G53 [aggF s]) then bif roomG (m + 1) (seeG g) == roomF (seeF (rfOf (aggF s))) then askT (seeG g) (seeF (rfOf (aggF s))) (to (seeG g) (fsOf (ob g (m + 1) fs)) (seeF (rfOf (aggF s))) true) else none else none else none
noncomputable def kt1 (n : Int) : Option A := flG fs <| bif isSo (G17 [pG, int64 n] (ob g (m + 1) fs)) then bif isSo (G55 [aggF s, int64 n]) then bif (claimS (m + 1) g n).2.1 == (claF (rfOf (aggF s)) n).2.1 then (bif !((claimS (m + 1) g n).2.2 == (claF (rfOf (aggF s)) n).2.2) then none else askT (claimS (m + 1) g n).1 (claF (rfOf (aggF s)) n).1 (to (claimS (m + 1) g n).1 (fsOf (ob g (m + 1) fs)) (claF (rfOf (aggF s)) n).1 ((claimS (m + 1) g n).2.2 == (claF (rfOf (aggF s)) n).2.2))) else none else none else none
noncomputable def kt2 (n : Int) (fr : AV) : Option A := bif decide ((fzL fr : Int) > 0) then guardK (Nat.beq (fzS fr) 1 && decide ((0 : Int) ≤ 0) && decide ((0 : Int) < (fzL fr : Int))) <| guardK (Nat.blt (0 * 1) (lenA (fzC fr))) <| guardK (isFzN (nth (fzC fr) (0 * 1))) <| bif isSo (G56n [aggF s, int64 n, rowA (nth (fzC fr) (0 * 1))]) then flG fs <| bif isSo (G18 (a18 n (rowA (nth (fzC fr) (0 * 1)))) (ob g (m + 1) fs)) then bif !(putE g (intOf (nth (a18 n (rowA (nth (fzC fr) (0 * 1)))) 1)) (rowOf (nth (a18 n (rowA (nth (fzC fr) (0 * 1)))) 2)) == putFE (rfOf (aggF s)) n (rowOf (rowA (nth (fzC fr) (0 * 1))))) then none else askT g (putF (rfOf (aggF s)) n (rowOf (rowA (nth (fzC fr) (0 * 1))))) (to g (putL g (intOf (nth (a18 n (rowA (nth (fzC fr) (0 * 1)))) 1)) (rowOf (nth (a18 n (rowA (nth (fzC fr) (0 * 1)))) 2)) (fsOf (ob g (m + 1) fs))) (putF (rfOf (aggF s)) n (rowOf (rowA (nth (fzC fr) (0 * 1))))) (putE g (intOf (nth (a18 n (rowA (nth (fzC fr) (0 * 1)))) 1)) (rowOf (nth (a18 n (rowA (nth (fzC fr) (0 * 1)))) 2)) == putFE (rfOf (aggF s)) n (rowOf (rowA (nth (fzC fr) (0 * 1)))))) else none else none else bif isSo (G56n [aggF s, int64 n, nilL]) then flG fs <| bif isSo (G18 ([pG, int64 n, ints []]) (ob g (m + 1) fs)) then bif !(putE g (intOf (nth ([pG, int64 n, ints []]) 1)) (rowOf (nth ([pG, int64 n, ints []]) 2)) == putFE (rfOf (aggF s)) n (rowOf (nilL))) then none else askT g (putF (rfOf (aggF s)) n (rowOf (nilL))) (to g (putL g (intOf (nth ([pG, int64 n, ints []]) 1)) (rowOf (nth ([pG, int64 n, ints []]) 2)) (fsOf (ob g (m + 1) fs))) (putF (rfOf (aggF s)) n (rowOf (nilL))) (putE g (intOf (nth ([pG, int64 n, ints []]) 1)) (rowOf (nth ([pG, int64 n, ints []]) 2)) == putFE (rfOf (aggF s)) n (rowOf (nilL)))) else none else none
noncomputable def kt3 (n : Int) : Option A := bif isSo (G57 [aggF s, int64 n]) then flG fs <| bif isSo (G19 [pG, int64 n] (ob g (m + 1) fs)) then bif !((commS g n).2 == (comF (rfOf (aggF s)) n).2) then none else askT (commS g n).1 (comF (rfOf (aggF s)) n).1 (to (commS g n).1 (fsOf (ob g (m + 1) fs)) (comF (rfOf (aggF s)) n).1 ((commS g n).2 == (comF (rfOf (aggF s)) n).2)) else none else none
noncomputable def kt4 : Option A := flG fs <| bif isSo (G21 [pG] (ob g (m + 1) fs)) then bif isSo (G58 [aggF s]) then bif fillG (lookG g) == fillF (lookF (rfOf (aggF s))) then askT (lookG g) (lookF (rfOf (aggF s))) (to (lookG g) (fsOf (ob g (m + 1) fs)) (lookF (rfOf (aggF s))) true) else none else none else none
noncomputable def kt5 (n : Int) : Option A := flG fs <| bif isSo (G22 [pG, int64 n] (ob g (m + 1) fs)) then bif isSo (G59 [aggF s, int64 n]) then bif (takeS g n).2.1 == (takF (rfOf (aggF s)) n).2.1 then (bif !((takeS g n).2.2 == (takF (rfOf (aggF s)) n).2.2) then none else askT (takeS g n).1 (takF (rfOf (aggF s)) n).1 (to (takeS g n).1 (fsOf (ob g (m + 1) fs)) (takF (rfOf (aggF s)) n).1 ((takeS g n).2.2 == (takF (rfOf (aggF s)) n).2.2))) else none else none else none
noncomputable def kt6 (n : Int) : Option A := flG fs <| bif isSo (G24 [pG, int64 n] (ob g (m + 1) fs)) then bif isSo (G60 [aggF s, int64 n]) then bif isSo (G25n [ints (getL g n (fsOf (ob g (m + 1) fs))), ints (getRF (rfOf (aggF s)) n)]) then bif !(wErr g.rop g.rc n == getEF (rfOf (aggF s)) n) then none else askT g s (to g (fsOf (ob g (m + 1) fs)) s (wErr g.rop g.rc n == getEF (rfOf (aggF s)) n)) else none else none else none
noncomputable def kt7 (n : Int) : Option A := bif isSo (G61 [aggF s, int64 n]) then flG fs <| bif isSo (G26 [pG, int64 n] (ob g (m + 1) fs)) then bif !((doneS g n).2 == (donF (rfOf (aggF s)) n).2) then none else askT (doneS g n).1 (donF (rfOf (aggF s)) n).1 (to (doneS g n).1 (fsOf (ob g (m + 1) fs)) (donF (rfOf (aggF s)) n).1 ((doneS g n).2 == (donF (rfOf (aggF s)) n).2)) else none else none
noncomputable def kt8 (fr : AV) : Option A := flG fs <| bif isSo (G15 (a15 fr) (ob g (m + 1) fs)) then bif isSo (G62 [aggF s, fr]) then bif (w15 (a15 fr) (ob g (m + 1) fs)).2.1 == (w62 [aggF s, fr]).2.1 then (bif !((w15 (a15 fr) (ob g (m + 1) fs)).2.2 == (w62 [aggF s, fr]).2.2) then none else askT (w15 (a15 fr) (ob g (m + 1) fs)).1.1 (w62 [aggF s, fr]).1 (to (w15 (a15 fr) (ob g (m + 1) fs)).1.1 (w15 (a15 fr) (ob g (m + 1) fs)).1.2 (w62 [aggF s, fr]).1 ((w15 (a15 fr) (ob g (m + 1) fs)).2.2 == (w62 [aggF s, fr]).2.2))) else none else none else none
noncomputable def kt9 (n : Int) : Option A := flG fs <| bif isSo (G20 [pG, int64 n] (ob g (m + 1) fs)) then bif isSo (G63 [aggF s, int64 n]) then bif isSo (G23n [rows (r20 [pG, int64 n] (ob g (m + 1) fs)).2.1, rows (r63 [aggF s, int64 n]).2.1]) then bif !((r20 [pG, int64 n] (ob g (m + 1) fs)).2.2 == (r63 [aggF s, int64 n]).2.2) then none else askT (r20 [pG, int64 n] (ob g (m + 1) fs)).1 (r63 [aggF s, int64 n]).1 (to (r20 [pG, int64 n] (ob g (m + 1) fs)).1 (fsOf (ob g (m + 1) fs)) (r63 [aggF s, int64 n]).1 ((r20 [pG, int64 n] (ob g (m + 1) fs)).2.2 == (r63 [aggF s, int64 n]).2.2)) else none else none else none
noncomputable def kt10 (n : Int) : Option A := flG fs <| bif isSo (G20 [pG, int64 n] (ob g (m + 1) fs)) then bif isSo (G63 [aggF s, int64 n]) then bif ((r20 [pG, int64 n] (ob g (m + 1) fs)).2.1.length : Int) == ((r63 [aggF s, int64 n]).2.1.length : Int) then (bif !((r20 [pG, int64 n] (ob g (m + 1) fs)).2.2 == (r63 [aggF s, int64 n]).2.2) then none else askT (r20 [pG, int64 n] (ob g (m + 1) fs)).1 (r63 [aggF s, int64 n]).1 (to (r20 [pG, int64 n] (ob g (m + 1) fs)).1 (fsOf (ob g (m + 1) fs)) (r63 [aggF s, int64 n]).1 ((r20 [pG, int64 n] (ob g (m + 1) fs)).2.2 == (r63 [aggF s, int64 n]).2.2))) else none else none else none
noncomputable def kt11 : Option A := guardK (Nat.ble (m + 1) (m + 1)) <| guardK (Nat.ble (m + 1) (m + 1)) <| guardK (Nat.ble (0 + (m + 1) * 1) (lenA (rowsL fs))) <| guardK (Nat.ble ((0 + (m + 1)) * 24) limit && Nat.ble (0 + (m + 1)) limit) <| flG fs <| bif isSo (G15 [pG, rows []] (ob g (m + 1) fs)) then askT g s cp else none
noncomputable def treeP (k n : Int) (fr : AV) : Option A := bif k == 0 then (kt0 m g fs s to) else bif k == 1 then (kt1 m g fs s to n) else bif k == 2 then (kt2 m g fs s to a18 n fr) else bif k == 3 then (kt3 m g fs s to n) else bif k == 4 then (kt4 m g fs s to) else bif k == 5 then (kt5 m g fs s to n) else bif k == 6 then (kt6 m g fs s to n) else bif k == 7 then (kt7 m g fs s to n) else bif k == 8 then (kt8 m g fs s to a15 fr) else bif k == 9 then (kt9 m g fs s to n) else bif k == 10 then (kt10 m g fs s to n) else bif k == 11 then (kt11 m g fs s cp) else askT g s (to g fs s true)
end
noncomputable abbrev SP : Orc := OP (stopAt 5 [19] orc0)
abbrev L9 (m : Nat) (fs : List (List Int)) : List AV := takeA (dropA (rowsL fs) 0) ((m + 1) * 1)
noncomputable abbrev a18x (n : Int) (x : AV) : List AV := vwArgs Try.prog [(9, 1), (8, 0)] none0 (parsOf Try.prog 18) [.ptr (some (8, 0)), int64 n, rowF x]
noncomputable abbrev a15w (x : AV) : List AV := vwArgs Try.prog [(1, 1), (0, 0)] none0 (parsOf Try.prog 15) [pG, x]
noncomputable abbrev a15x (x : AV) : List AV := vwArgs Try.prog [(9, 1), (8, 0)] none0 (parsOf Try.prog 15) [.ptr (some (8, 0)), x]
noncomputable abbrev wNil (g : Rg) (m : Nat) (fs : List (List Int)) : (Rg × List (List Int)) × Int × Int := w15 [pG, rows []] (ob g (m + 1) fs)
noncomputable def toPA {A : Type} (l : List Act) (i : Int) (s0 : Rf) (m : Nat) (K : Ex → St → Option A) (g' : Rg) (fs' : List (List Int)) (s' : Rf) (q : Bool) : Option A := guardK (allS (rowsL fs') && true) <| K .normal (stPA l (w64 (i + 1)) s0 m g' (rowsL fs') s' q)
noncomputable def toPB {A : Type} (l : List Act) (i : Int) (s0 : Rf) (m : Nat) (g0 : Rg) (fs0 : List (List Int)) (K : Ex → St → Option A) (g' : Rg) (fs' : List (List Int)) (s' : Rf) (q : Bool) : Option A := guardK (allS (rowsL fs') && (allS (rowsL fs0) && true)) <| K .normal (stPB l (w64 (i + 1)) s0 m g0 (rowsL fs0) g' (m + 1) (rowsL fs') s' q)
noncomputable def cpA {A : Type} (l : List Act) (i : Int) (s0 : Rf) (m : Nat) (g : Rg) (fs : List (List Int)) (s : Rf) (K : Ex → St → Option A) : Option A := guardK (allS (L9 m fs) && (allS (rowsL (wNil g m fs).1.2) && true)) <| K .normal (stPB l (w64 (i + 1)) s0 m (wNil g m fs).1.1 (rowsL (wNil g m fs).1.2) g (0 + (m + 1)) (L9 m fs) s true)
noncomputable def cpB {A : Type} (l : List Act) (i : Int) (s0 : Rf) (m : Nat) (g0 : Rg) (fs0 : List (List Int)) (g : Rg) (fs : List (List Int)) (s : Rf) (K : Ex → St → Option A) : Option A := guardK (allS (L9 m fs) && (allS (rowsL fs0) && true)) <| K .normal (stPB l (w64 (i + 1)) s0 m g0 (rowsL fs0) g (0 + (m + 1)) (L9 m fs) s true)
end Go.Proofs.Ytokighfpmonjdaa
/- RingPlays: the law's loop, its code cut where a turn is done. -/
namespace Go.Proofs.Ytokighfpmonjdaa
open Go.Ev
set_option maxRecDepth 100000
def subC : List Nat → Code → Code
  | [], c => c
  | 0 :: l, .seq a _ => subC l a
  | _ :: l, .seq _ b => subC l b
  | 0 :: l, .cond _ a _ => subC l a
  | _ :: l, .cond _ _ b => subC l b
  | _ :: l, .block _ b => subC l b
  | _ :: l, .loop b => subC l b
  | _, c => c
noncomputable def L15 : Code := (loopC 15 e5.code).getD .skip
noncomputable abbrev EC {A : Type} (c : Code) (st : St) (K : Ex → St → Option A) : Option A := evCode Try.prog (e5.plan.stops (SP.s 5)) (evCall Try.prog SP tb 100) (butL 15 (SP.l 5)) 5 none c st K
def N15p : Norm := ⟨[3, 8, 21, 22], [(21, [1000, 0]), (21, [1000, 0, 1])]⟩
theorem norm15p : loopN0 tb 5 15 = some N15p := by kernel_rfl
theorem count15p : Nat.ble (countL 15 e5.code) 1 = true := by kernel_rfl
theorem tb5 : tb 5 = some e5 := by kernel_rfl
noncomputable def opsOf : Code → Array Oper
  | .region _ ops _ => ops
  | _ => #[]
noncomputable def R17 : Code := subC [1, 0, 0, 0] L15
theorem code15 : loopC 15 e5.code = some (.seq (subC [0] L15) (.seq (.block 1 (.seq R17 (subC [1, 0, 0, 1] L15))) (subC [1, 1] L15))) := by kernel_rfl
abbrev tm5 (l : List Act) (i : Int) (r : List AV) : List AV := [.dead, .dead, .dead, acV l] ++ repA .dead 17 ++ [.ptr (some (3, 0)), int64 i] ++ r
def stH (l : List Act) (i : Int) (h : Heap) : St := ⟨tm5 l i (repA .dead 102), h, [], .off⟩
def stI (l : List Act) (i : Int) (h : Heap) : St := ⟨tm5 l i (repA .dead 79 ++ [int64 i, acV l, int64 (l.length : Int), .bool (decide (i < (l.length : Int)))] ++ repA .dead 19), h, [], .off⟩
def stC (l : List Act) (i : Int) (h : Heap) (k n : Int) (fr : AV) : St := ⟨tm5 l i (repA .dead 85 ++ [.ptr (some (3, 0)), acV l, int64 i, .fp (flatAc l) (i.toNat * 3), .agg [int64 k, int64 n, fr]] ++ repA .dead 12), h, [], .off⟩
section
variable {A : Type}
def gLP (P : Program) (N : Norm) (F : Flat) (n0 : Nat) (K : Ex → St → Option A) : Ex → St → Option A := fun e s => match e with
  | .pan v => K (.pan v) s
  | e => normKG P (N.on e) F n0 s fun s => K e s
noncomputable abbrev lpK (K : Ex → St → Option A) : Ex → St → Option A := gLP Try.prog N15p ⟨[1, 9], [], []⟩ 4 K
end
section
variable (P : Program) (pl : Plan) (call : CallP) (lo : Nat → Option LoopF) (f : FuncId) {A : Type}
def gK1 (r : Code) (K : Ex → St → Option A) : Ex → St → Option A := fun e st' => match e with
  | .normal => evCode P pl call lo f none r st' K
  | e => K e st'
def gKB (i : Nat) (K : Ex → St → Option A) : Ex → St → Option A := fun e st' => match e with
  | .exit j => bif Nat.beq j i then K .normal st' else K (.exit j) st'
  | e => K e st'
end
section
variable {A : Type}
noncomputable abbrev K18 (K : Ex → St → Option A) : Ex → St → Option A := gK1 Try.prog (e5.plan.stops (SP.s 5)) (evCall Try.prog SP tb 100) (butL 15 (SP.l 5)) 5 (subC [1, 0, 0, 1] L15) (gKB 1 (gK1 Try.prog (e5.plan.stops (SP.s 5)) (evCall Try.prog SP tb 100) (butL 15 (SP.l 5)) 5 (subC [1, 1] L15) (lpK K)))
noncomputable def CALL (st : St) (K : Ex → St → Option A) : Option A := seqOps Try.prog (evCall Try.prog SP tb 100 A) none (opsOf R17) ((opsOf R17).toList.drop 5) st (fun st' => K .normal st') (fun v st' => K (.pan v) st')
end
theorem cutH {A : Type} (l : List Act) (i : Int) (h : Heap) (K : Ex → St → Option A) : EC (subC [0] L15) (stH l i h) K = (bif decide (i < (l.length : Int)) then K .normal (stI l i h) else K (.exit 0) (stI l i h)) := by kernel_rfl
theorem cutC {A : Type} (l : List Act) (i : Int) (h : Heap) (K : Ex → St → Option A) : EC R17 (stI l i h) K = actT l i fun k n fr => CALL (stC l i h k n fr) K := by kernel_rfl
theorem loopBG_code {P : Program} {S : Orc} {tb : FuncId → Option FnP} {f : FuncId} {id : Nat} {F : Flat} {n0 : Nat} {A : Type} {st : St} {K : Ex → St → Option A} {e : FnP} {c : Code} {N : Norm} (he : tb f = some e) (hc : loopC id e.code = some c) (hN : loopN0 tb f id = some N) :
    loopBG P S tb f id F n0 st K = evCode P (e.plan.stops (S.s f)) (evCall P S tb 100) (butL id (S.l f)) f none c st (gLP P N F n0 K) := by
  unfold loopN0 at hN
  rw [he] at hN
  simp only at hN
  unfold loopBG
  rw [he]
  simp only
  rw [hc, hN]
  rfl
theorem code_cut {P : Program} {pl : Plan} {call : CallP} {lo : Nat → Option LoopF} {f : FuncId} {A : Type} {a b : Code} {st : St} {K : Ex → St → Option A} : evCode P pl call lo f none (.seq a b) st K = evCode P pl call lo f none a st (gK1 P pl call lo f b K) := rfl
theorem code_blk {P : Program} {pl : Plan} {call : CallP} {lo : Nat → Option LoopF} {f : FuncId} {A : Type} {b : Code} {i : Nat} {st : St} {K : Ex → St → Option A} : evCode P pl call lo f none (.block i b) st K = evCode P pl call lo f none b st (gKB i K) := rfl
theorem gK1_n {P : Program} {pl : Plan} {call : CallP} {lo : Nat → Option LoopF} {f : FuncId} {A : Type} {r : Code} {st : St} {K : Ex → St → Option A} : gK1 P pl call lo f r K .normal st = evCode P pl call lo f none r st K := rfl
theorem gK1_e {P : Program} {pl : Plan} {call : CallP} {lo : Nat → Option LoopF} {f : FuncId} {A : Type} {r : Code} {st : St} {K : Ex → St → Option A} {j : Nat} : gK1 P pl call lo f r K (.exit j) st = K (.exit j) st := rfl
theorem cut15 {A : Type} (l : List Act) (i : Int) (h : Heap) (K : Ex → St → Option A) : BP SP (stH l i h) K = (bif decide (i < (l.length : Int)) then actT l i fun k n fr => CALL (stC l i h k n fr) (K18 K) else lpK K (.exit 0) (stI l i h)) := by
  refine (loopBG_code tb5 code15 norm15p).trans ?_
  refine code_cut.trans ?_
  refine (cutH l i h _).trans ?_
  rw [gK1_n, gK1_e, code_cut, code_blk, code_cut]
  have e := cutC l i h (K18 K)
  unfold EC at e
  rw [e]
def hA (s0 : Rf) (m : Nat) (g : Rg) (L : List AV) (s : Rf) (q : Bool) : Heap := mkHeap ([(3, .cells true (cellsP true s q)), (2, .cells true (cellsF s0))] ++ hpA g m L) 10
def hB (s0 : Rf) (m : Nat) (g0 : Rg) (L0 : List AV) (g : Rg) (N : Nat) (L : List AV) (s : Rf) (q : Bool) : Heap := mkHeap (hpB g N L ++ [(3, .cells true (cellsP false s q)), (2, .cells true (cellsF s0))] ++ hpA g0 m L0) 10
theorem leftA {A : Type} (l : List Act) (i : Int) (s0 : Rf) (m : Nat) (g : Rg) (fs : List (List Int)) (s : Rf) (K : Ex → St → Option A) : lpK K (.exit 0) (stI l i (hA s0 m g (rowsL fs) s true)) = guardK (allS (rowsL fs) && true) (K (.exit 0) (stPA l i s0 m g (rowsL fs) s true)) := by kernel_rfl
theorem leftB {A : Type} (l : List Act) (i : Int) (s0 : Rf) (m : Nat) (g0 : Rg) (fs0 : List (List Int)) (g : Rg) (fs : List (List Int)) (s : Rf) (K : Ex → St → Option A) : lpK K (.exit 0) (stI l i (hB s0 m g0 (rowsL fs0) g (m + 1) (rowsL fs) s true)) = guardK (allS (rowsL fs) && (allS (rowsL fs0) && true)) (K (.exit 0) (stPB l i s0 m g0 (rowsL fs0) g (m + 1) (rowsL fs) s true)) := by kernel_rfl
end Go.Proofs.Ytokighfpmonjdaa
