/- A ring: what is done with it, but Put, Get, Write and Read. -/
import Derived.Test.YtokighfpmonjdaaBase
import Derived.Test.YtokighfpmonjdaaEvZ3
import Derived.Test.YtokighfpmonjdaaEvZ5
namespace Go.Proofs.Ytokighfpmonjdaa
open Go.Ev
set_option maxRecDepth 100000
abbrev w64 (n : Int) : Int := IntKind.i64.wrap n
structure Rg where
  ch : Int
  wo : Int
  wv : Int
  wop : Bool
  wc : Int
  wa : Int
  ro : Int
  rv : Int
  rop : Bool
  rc : Int
  ra : Int
def cellsG (g : Rg) (fv : AV) : List AV := [int64 g.ch, fv, int64 g.wo, int64 g.wv, .bool g.wop, int64 g.wc, int64 g.wa, int64 g.ro, int64 g.rv, .bool g.rop, int64 g.rc, int64 g.ra]
abbrev objG (g : Rg) (N : Nat) (L : List AV) : List (Nat × Blk) := [(1, .cells true L), (0, .cells true (cellsG g (.gr (1, 0) N 1)))]
abbrev grabG (g : Rg) (N : Nat) (L : List AV) : List (Nat × Blk) := [(0, .cells true (cellsG g (.gr (1, 0) N 1))), (1, .cells true L), (1, .cells true L), (0, .cells true (cellsG g (.gr (1, 0) N 1)))]
def scG : Sc := ⟨[(0, [1])], []⟩
noncomputable def psG : List (Option Nat × Option TypeId) := [(some 0, tyPt Try.prog 30), (some 1, some 33)]
noncomputable abbrev runG (S : Orc) (f : FuncId) (a : List AV) (g : Rg) (N : Nat) (L : List AV) : Option ORes := evCall Try.prog S tb 100 ORes (.fn f) a (mkHeap (objG g N L) 2) .off (objK Try.prog scG f 2 [1] a)
noncomputable def okG (g : Rg) (N : Nat) (L : List AV) (v : AV) : Option ORes := guardK (allS L && (allS L && true) && true) (some ((v, grabG g N L), psG))
abbrev pG : AV := .ptr (some (0, 0))
def aprt (a b : Int) : Int := (w64 (w64 (a - b) + 65536)).tmod 65536
def roomG (N : Nat) (g : Rg) : Int := w64 ((N : Int) - aprt g.wo g.wv)
def fillG (g : Rg) : Int := aprt g.rv g.ro
abbrev two' (a b : Int) : AV := .tup [int64 a, int64 b]
def E {A : Type} (v : Int) (x : Option A) : Option A := bif v == v then x else none
def seeG (g : Rg) : Rg := { g with wv := g.ro }
def lookG (g : Rg) : Rg := { g with rv := g.wo }
def ZG {A : Type} (N : Nat) (x : Option A) : Option A := bif sameV (.gr (1, 0) N 1) (.gr (1, 0) N 1) then x else none
theorem see_run (g : Rg) (N : Nat) (L : List AV) : runG orc0 16 [pG] g N L = ZG N (okG (seeG g) N L (two' (roomG N (seeG g)) 0)) := by kernel_rfl
theorem look_run (g : Rg) (N : Nat) (L : List AV) : runG orc0 21 [pG] g N L = okG (lookG g) N L (two' (fillG (lookG g)) 0) := by kernel_rfl
def claimG (N : Nat) (g : Rg) (n : Int) : Rg := { g with wop := true, wc := minI n (roomG N g), wa := 0 }
def takeG (g : Rg) (n : Int) : Rg := { g with rop := true, rc := minI n (fillG g), ra := 0 }
def commG (g : Rg) (n : Int) : Rg := { g with wo := (w64 (g.wo + n)).tmod 65536, wop := false, wc := 0 }
def doneG (g : Rg) (n : Int) : Rg := { g with ro := (w64 (g.ro + n)).tmod 65536, rop := false, rc := 0 }
theorem claim_run (g : Rg) (N : Nat) (L : List AV) (n : Int) : runG orc0 17 [pG, int64 n] g N L = ZG N (bif decide (n < 0) then okG g N L (two' 0 7) else bif g.wop then okG g N L (two' 0 9) else okG (claimG N g n) N L (two' (minI n (roomG N g)) 0)) := by kernel_rfl
theorem take_run (g : Rg) (N : Nat) (L : List AV) (n : Int) : runG orc0 22 [pG, int64 n] g N L = (bif decide (n < 0) then okG g N L (two' 0 7) else bif g.rop then okG g N L (two' 0 9) else okG (takeG g n) N L (two' (minI n (fillG g)) 0)) := by kernel_rfl
theorem comm_run (g : Rg) (N : Nat) (L : List AV) (n : Int) : runG orc0 19 [pG, int64 n] g N L = (bif decide (n < 0) then okG g N L (int64 7) else bif !g.wop then okG g N L (int64 9) else bif decide (n > g.wc) then okG g N L (int64 7) else okG (commG g n) N L (int64 0)) := by kernel_rfl
theorem done_run (g : Rg) (N : Nat) (L : List AV) (n : Int) : runG orc0 26 [pG, int64 n] g N L = (bif decide (n < 0) then okG g N L (int64 7) else bif !g.rop then okG g N L (int64 9) else bif decide (n > g.rc) then okG g N L (int64 7) else okG (doneG g n) N L (int64 0)) := by kernel_rfl
end Go.Proofs.Ytokighfpmonjdaa
/- A ring: whether a frame is right, and a frame cloned. -/
namespace Go.Proofs.Ytokighfpmonjdaa
open Go.Ev
set_option maxRecDepth 100000
abbrev F (f : FuncId) (args : List AV) (v : AV) : Prop := Fact Try.prog tb f args v
theorem F.of {S : Orc} (hS : Ok S) {f : FuncId} {args : List AV} {v : AV} (hv : scalarV v = true) (h : ∀ h, evCall Try.prog S tb 100 AV (.fn f) (vwArgs Try.prog [] h (parsOf Try.prog f) args) (mkHeap [] 0) .off rv = some v) : F f args v := ⟨hv, S, hS, h⟩
abbrev f81 : AV := .fn 81 [] []
def st91 (xs : List Int) (i : Int) : St := ⟨[ints xs, f81, .dead, .dead, .dead, .dead, .dead, int64 (xs.length : Int), int64 i] ++ repA .dead 10, mkHeap [] 5, [], .off⟩
def rt91 (i : Int) : St := ⟨[.dead, .dead, .dead, .dead, int64 i] ++ repA .dead 14, mkHeap [] 5, [], .off⟩
def N91 : Norm := ⟨[0, 1, 4, 7, 8], []⟩
theorem norm91 : loopN0 tb 91 2 = some N91 := by kernel_rfl
theorem count91 : Nat.ble (countL 2 e91.code) 1 = true := by kernel_rfl
def body91 {A : Type} (xs : List Int) (i : Int) (K : Ex → St → Option A) : Option A :=
  bif decide (i < (xs.length : Int)) then ldI xs i fun x => bif decide (x < -8388607) then K .ret (rt91 i) else bif decide (x > 8388607) then K .ret (rt91 i) else K .normal (st91 xs (w64 (i + 1))) else K (.exit 0) (st91 xs i)
theorem b91 {A : Type} (xs : List Int) (i : Int) (K : Ex → St → Option A) : loopB Try.prog orc0 tb 91 2 0 (st91 xs i) K = body91 xs i K := by kernel_rfl
theorem run80_f (xs : List Int) (i : Int) (h : Heap) : evCall Try.prog (knowL Try.prog 91 2 N91 0 (st91 xs 0) (.exit 0) (st91 xs i) orc0) tb 100 AV (.fn 80) (vwArgs Try.prog [] h (parsOf Try.prog 80) [ints xs, f81]) (mkHeap [] 0) .off rv = bif sameSt (st91 xs 0) (st91 xs 0) then some (.bool false) else none := by kernel_rfl
theorem run80_t (xs : List Int) (i : Int) (h : Heap) : evCall Try.prog (knowL Try.prog 91 2 N91 0 (st91 xs 0) .ret (rt91 i) orc0) tb 100 AV (.fn 80) (vwArgs Try.prog [] h (parsOf Try.prog 80) [ints xs, f81]) (mkHeap [] 0) .off rv = bif sameSt (st91 xs 0) (st91 xs 0) then some (.bool (decide (i ≥ 0))) else none := by kernel_rfl
def off1 (x : Int) : Bool := decide (x < -8388607) || decide (x > 8388607)
def badR (xs : List Int) : Bool := xs.any off1
theorem ldI_get {A : Type} {l : List Int} {i : Nat} (h : i < l.length) (k : Int → Option A) : ldI l (i : Int) k = k (l.getD i 0) := by
  rw [ldI_eq h]
  simp [List.getD, h]
theorem loop91 {xs : List Int} (hl : xs.length ≤ maxLen) : ∀ (d i n : Nat), i + d = xs.length → d < n →
    (badR (xs.drop i) = false → loopN (loopB Try.prog orc0 tb 91 2 0) n (st91 xs (i : Int)) pairE = some (.exit 0, st91 xs (xs.length : Int))) ∧
    (badR (xs.drop i) = true → ∃ j : Nat, loopN (loopB Try.prog orc0 tb 91 2 0) n (st91 xs (i : Int)) pairE = some (.ret, rt91 (j : Int))) := by
  have hM : maxLen = 9223372036854775807 := rfl
  intro d
  induction d with
  | zero =>
    intro i n hi hn
    obtain ⟨n, rfl⟩ : ∃ m, n = m + 1 := ⟨n - 1, by omega⟩
    have hi : i = xs.length := by omega
    subst hi
    rw [loopN_succ, b91, List.drop_eq_nil_of_le (Nat.le_refl _)]
    unfold body91
    rw [decide_eq_false (by omega : ¬ ((xs.length : Int) < (xs.length : Int)))]
    exact ⟨fun _ => rfl, fun h => by cases h⟩
  | succ d ih =>
    intro i n hi hn
    obtain ⟨n, rfl⟩ : ∃ m, n = m + 1 := ⟨n - 1, by omega⟩
    have h : i < xs.length := by omega
    obtain ⟨ih1, ih2⟩ := ih (i + 1) n (by omega) (by omega)
    have ew : w64 ((i : Int) + 1) = ((i + 1 : Nat) : Int) := by unfold w64; rw [IntKind.wrap_i64]; omega
    have eg : xs.getD i 0 = xs[i] := by simp [List.getD, h]
    rw [loopN_succ, b91, List.drop_eq_getElem_cons h]
    unfold body91
    rw [decide_eq_true (by omega : (i : Int) < (xs.length : Int)), cond_true, ldI_get h, eg, ew]
    unfold badR at ih1 ih2 ⊢
    rw [List.any_cons]
    unfold off1
    cases h1 : decide (xs[i] < -8388607) with
    | true => exact ⟨fun h => by simp at h, fun _ => ⟨i, rfl⟩⟩
    | false =>
      cases h2 : decide (xs[i] > 8388607) with
      | true => exact ⟨fun h => by simp at h, fun _ => ⟨i, rfl⟩⟩
      | false => exact ⟨fun h => ih1 h, fun h => ih2 h⟩
theorem fact80 {xs : List Int} (hl : xs.length ≤ maxLen) : Fact Try.prog tb 80 [ints xs, f81] (.bool (badR xs)) := by
  have hr : rounds = 100000000000000000000 := rfl
  have hM : maxLen = 9223372036854775807 := rfl
  obtain ⟨l1, l2⟩ := loop91 hl xs.length 0 rounds (by omega) (by omega)
  rw [List.drop_zero] at l1 l2
  cases hb : badR xs with
  | false => exact F.of (knowL_ok tbOk ⟨orc0, ok0, l1 hb⟩ ok0 (ep := e91) rfl norm91 count91) rfl fun h => (run80_f xs _ h).trans (by rw [sameSt_self]; rfl)
  | true =>
    obtain ⟨j, hj⟩ := l2 hb
    exact F.of (knowL_ok tbOk ⟨orc0, ok0, hj⟩ ok0 (ep := e91) rfl norm91 count91) rfl fun h => (run80_t xs _ h).trans (by rw [sameSt_self, decide_eq_true (by omega : (j : Int) ≥ 0)]; rfl)
def is80 (a : List AV) : Prop := ∃ xs, a = [ints xs, f81] ∧ xs.length ≤ maxLen
def rowOf : AV → List Int
  | .fz cs _ _ _ => cs.map intOf
  | _ => []
theorem rowOf_ints (xs : List Int) : rowOf (ints xs) = xs := by
  show (xs.map int64).map intOf = xs
  rw [List.map_map]
  exact List.map_id'' (fun _ => rfl) xs
def V80 (a : List AV) : AV := .bool (badR (rowOf (nth a 0)))
theorem when80 (a : List AV) (h : isSo (is80 a) = true) : F 80 a (V80 a) := by
  obtain ⟨xs, rfl, hl⟩ := isSo_iff.1 h
  have := fact80 hl
  unfold V80
  show F 80 _ (.bool (badR (rowOf (ints xs))))
  rw [rowOf_ints]
  exact this
noncomputable def OB (S : Orc) : Orc := knowW 80 (fun a => isSo (is80 a)) V80 S
theorem OB_ok {S : Orc} (h : Ok S) : Ok (OB S) := knowW_ok tbOk when80 h
/-! ### A frame cloned -/
theorem run46 (x : Int) (xs : List Int) : evCall Try.prog orc0 tb 100 AV (.fn 46) [ints (x :: xs)] (mkHeap [] 0) .off (viewK Try.prog (resOf Try.prog 46)) = (
    guardK (Nat.ble ((0 + (x :: xs).length) * 8) limit && Nat.ble (0 + (x :: xs).length) limit) <| guardK (allS (dropA ((x :: xs).map int64) 0)) <| some (.fz (fixLen ((0 + (x :: xs).length) * 1) (dropA ((x :: xs).map int64) 0)) (0 + (x :: xs).length) false 1)) := by kernel_rfl
theorem args46 (xs : List Int) : vwArgs Try.prog [] none0 (parsOf Try.prog 46) [ints xs] = [ints xs] := by kernel_rfl
def is46 (a : List AV) : Prop := ∃ x xs, a = [ints (x :: xs)] ∧ xs.length ≤ 1000000
theorem when46 (a : List AV) (h : isSo (is46 a) = true) : FFact Try.prog tb 46 a (sameF1 a) := by
  obtain ⟨x, xs, rfl, hl⟩ := isSo_iff.1 h
  refine ⟨args46 _, orc0, ok0, (run46 x xs).trans ?_⟩
  have e1 : limit = 140737488355328 := rfl
  have e2 : (Nat.ble ((0 + (x :: xs).length) * 8) limit && Nat.ble (0 + (x :: xs).length) limit) = true := by
    rw [Bool.and_eq_true]
    simp only [List.length_cons]
    exact ⟨Nat.ble_eq_true_of_le (by omega), Nat.ble_eq_true_of_le (by omega)⟩
  have e3 : allS (dropA ((x :: xs).map int64) 0) = true := by rw [dropA_eq, List.drop_zero, allS_ints]
  rw [e2, e3, Nat.zero_add, fix_ints]
  rfl
noncomputable def OC (S : Orc) : Orc := addF 46 (cloneO 1 fun a => isSo (is46 a)) S
def sameV1 (a : List AV) : AV := .fz (fzC (nth a 0)) (fzL (nth a 0)) false (fzS (nth a 0))
theorem when46' (a : List AV) (h : isSo (is46 a) = true) : FFact Try.prog tb 46 a (sameV1 a) := by
  have := when46 a h
  obtain ⟨x, xs, rfl, -⟩ := isSo_iff.1 h
  exact this
noncomputable def OC1 (S : Orc) : Orc := addF 46 (whenO (fun a => isSo (is46 a)) sameV1) S
theorem OC1_ok {S : Orc} (h : Ok S) : Ok (OC1 S) := addF_ok (fnSim_whenF tbOk when46') natF_when h
end Go.Proofs.Ytokighfpmonjdaa
/- A ring: Put and Get. -/
namespace Go.Proofs.Ytokighfpmonjdaa
open Go.Ev
set_option maxRecDepth 100000
abbrev gWT (g : Rg) (b : Bool) : Rg := ⟨g.ch, g.wo, g.wv, b, g.wc, g.wa, g.ro, g.rv, g.rop, g.rc, g.ra⟩
abbrev gRT (g : Rg) (b : Bool) : Rg := ⟨g.ch, g.wo, g.wv, g.wop, g.wc, g.wa, g.ro, g.rv, b, g.rc, g.ra⟩
def plcW (g : Rg) (N : Nat) (i : Int) : Int := (w64 (g.wo + i)).tmod (N : Int)
def plcR (g : Rg) (N : Nat) (i : Int) : Int := (w64 (g.ro + i)).tmod (N : Int)
def inG {A : Type} (k : Int) (N : Nat) (L : List AV) (x : Option A) : Option A := guardK (decide (0 ≤ k) && decide (k < (N : Int))) <| guardK (Nat.blt (0 + k.toNat * 1) (lenA L)) x
noncomputable def validT (g : Rg) (N : Nat) (L : List AV) (f : List Int) (ok : Option ORes) : Option ORes :=
  bif (f.length : Int) == g.ch then bif isSo (is80 [ints f, f81]) then bif !(!(badR (rowOf (ints f)))) then okG g N L (int64 1) else ok else none else okG g N L (int64 1)
theorem put_runF (g : Rg) (N : Nat) (L : List AV) (i : Int) (f : List Int) : runG (stopAt 18 [6] (OB orc0)) 18 [pG, int64 i, ints f] (gWT g false) N L =
    validT (gWT g false) N L f (bif decide (i < 0) then okG (gWT g false) N L (int64 7) else okG (gWT g false) N L (int64 9)) := by kernel_rfl
theorem put_runT (g : Rg) (N : Nat) (L : List AV) (i : Int) (f : List Int) : runG (OB (OC1 orc0)) 18 [pG, int64 i, ints f] (gWT g true) N L =
    validT (gWT g true) N L f (bif decide (i < 0) then okG (gWT g true) N L (int64 7) else bif decide (i ≥ g.wc) then okG (gWT g true) N L (int64 7) else
      bif ((N : Int) == 0) then none else ZG N <| bif isSo (is46 [ints f]) then ZG N <| inG (plcW g N i) N L <| okG (gWT g true) N (setL L (0 + (plcW g N i).toNat * 1) (ints f)) (int64 0) else none) := by kernel_rfl
theorem get_runF (g : Rg) (N : Nat) (L : List AV) (i : Int) : runG (stopAt 24 [6] orc0) 24 [pG, int64 i] (gRT g false) N L =
    (bif decide (i < 0) then okG (gRT g false) N L (.tup [ints [], int64 7]) else okG (gRT g false) N L (.tup [ints [], int64 9])) := by kernel_rfl
abbrev cellAt (L : List AV) (k : Int) : AV := nth L (0 + k.toNat * 1)
theorem get_runT (g : Rg) (N : Nat) (L : List AV) (i : Int) : runG (OC1 orc0) 24 [pG, int64 i] (gRT g true) N L =
    (bif decide (i < 0) then okG (gRT g true) N L (.tup [ints [], int64 7]) else bif decide (i ≥ g.rc) then okG (gRT g true) N L (.tup [ints [], int64 7]) else
      bif ((N : Int) == 0) then none else ZG N <| inG (plcR g N i) N L <| guardK (isSl (cellAt L (plcR g N i))) <| bif isSo (is46 [cellAt L (plcR g N i)]) then
        okG (gRT g true) N L (.tup [.fz (fzC (cellAt L (plcR g N i))) (fzL (cellAt L (plcR g N i))) false (fzS (cellAt L (plcR g N i))), int64 0]) else none) := by kernel_rfl
/-! ### What they tell -/
abbrev rowsL (fs : List (List Int)) : List AV := fs.map ints
structure RgOk (g : Rg) (fs : List (List Int)) : Prop where
  ch : 1 ≤ g.ch ∧ g.ch ≤ 8
  n : 1 ≤ fs.length ∧ fs.length ≤ 1024
  rows : ∀ f ∈ fs, (f.length : Int) = g.ch
  wo : 0 ≤ g.wo ∧ g.wo < 65536
  ro : 0 ≤ g.ro ∧ g.ro < 65536
  wv : 0 ≤ g.wv ∧ g.wv < 65536
  rv : 0 ≤ g.rv ∧ g.rv < 65536
  wc : g.wc ≤ 65536
  rc : g.rc ≤ 65536
theorem allS_rows : ∀ fs : List (List Int), allS (rowsL fs) = true
  | [] => rfl
  | x :: l => by
    have ih := allS_rows l
    show (calm (ints x) && allS (rowsL l)) = true
    rw [ih]
    rfl
theorem okG_some (g : Rg) (N : Nat) (fs : List (List Int)) (v : AV) : okG g N (rowsL fs) v = some ((v, grabG g N (rowsL fs)), psG) := by
  unfold okG
  rw [allS_rows]
  rfl
theorem ZG_some {A : Type} (N : Nat) (x : Option A) : ZG N x = x := by
  have : sameV (.gr (1, 0) N 1) (.gr (1, 0) N 1) = true := by simp [sameV, sameF]
  unfold ZG
  rw [this]
  rfl
theorem setL_rows (f : List Int) : ∀ (fs : List (List Int)) (k : Nat), setL (rowsL fs) k (ints f) = rowsL (fs.set k f)
  | [], _ => rfl
  | _ :: _, 0 => rfl
  | x :: l, k + 1 => by
    show ints x :: setL (rowsL l) k (ints f) = _
    rw [setL_rows f l k]
    rfl
def wErr (op : Bool) (c i : Int) : Int := if i < 0 then 7 else if op = false then 9 else if i ≥ c then 7 else 0
def putE (g : Rg) (i : Int) (f : List Int) : Int := if (f.length : Int) ≠ g.ch ∨ badR f = true then 1 else wErr g.wop g.wc i
def putL (g : Rg) (i : Int) (f : List Int) (fs : List (List Int)) : List (List Int) := if putE g i f = 0 then fs.set (plcW g fs.length i).toNat f else fs
def getL (g : Rg) (i : Int) (fs : List (List Int)) : List Int := if wErr g.rop g.rc i = 0 then fs.getD (plcR g fs.length i).toNat [] else []
theorem plc_in {o i : Int} {N : Nat} (h0 : 0 ≤ o ∧ o < 65536) (h1 : 0 ≤ i ∧ i < 65536) (hN : 1 ≤ N ∧ N ≤ 1024) : 0 ≤ (w64 (o + i)).tmod (N : Int) ∧ (w64 (o + i)).tmod (N : Int) < (N : Int) := by
  have e : w64 (o + i) = o + i := by unfold w64; rw [IntKind.wrap_i64]; omega
  rw [e, Int.tmod_eq_emod_of_nonneg (by omega)]
  exact ⟨Int.emod_nonneg _ (by omega), Int.emod_lt_of_pos _ (by omega)⟩
theorem inG_some {A : Type} {k : Int} {fs : List (List Int)} (h0 : 0 ≤ k) (h1 : k < (fs.length : Int)) (x : Option A) : inG k fs.length (rowsL fs) x = x := by
  unfold inG
  rw [decide_eq_true h0, decide_eq_true h1, lenM, show Nat.blt (0 + k.toNat * 1) fs.length = true from Nat.ble_eq_true_of_le (by omega)]
  rfl
theorem validT_bad {g : Rg} {N : Nat} {fs : List (List Int)} {f : List Int} (hf : f.length ≤ maxLen) (h : (f.length : Int) ≠ g.ch ∨ badR f = true) (ok : Option ORes) : validT g N (rowsL fs) f ok = some ((int64 1, grabG g N (rowsL fs)), psG) := by
  unfold validT
  by_cases h1 : (f.length : Int) = g.ch
  · rw [show ((f.length : Int) == g.ch) = true from by rw [h1]; exact beq_self_eq_true _, isSo_true ⟨f, rfl, hf⟩, rowOf_ints, h.resolve_left (fun h => h h1)]
    exact okG_some _ _ _ _
  · rw [show ((f.length : Int) == g.ch) = false from by rw [beq_eq_false_iff_ne]; exact h1]
    exact okG_some _ _ _ _
theorem validT_ok {g : Rg} {N : Nat} {L : List AV} {f : List Int} (hf : f.length ≤ maxLen) (h1 : (f.length : Int) = g.ch) (h2 : badR f = false) (ok : Option ORes) : validT g N L f ok = ok := by
  unfold validT
  rw [show ((f.length : Int) == g.ch) = true from by rw [h1]; exact beq_self_eq_true _, isSo_true ⟨f, rfl, hf⟩, rowOf_ints, h2]
  rfl
theorem is46_row {f : List Int} {c : Int} (h : (f.length : Int) = c) (hc : 1 ≤ c ∧ c ≤ 8) : isSo (is46 [ints f]) = true := by
  rcases f with _ | ⟨x, xs⟩
  · simp at h; omega
  · exact isSo_true ⟨x, xs, rfl, by simp at h; omega⟩
theorem nz_len {fs : List (List Int)} (h : 1 ≤ fs.length) : ((fs.length : Int) == 0) = false := by rw [beq_eq_false_iff_ne]; omega
theorem put_fact {g : Rg} {fs : List (List Int)} (h : RgOk g fs) (i : Int) {f : List Int} (hf : f.length ≤ maxLen) :
    OFact Try.prog tb scG 18 2 [1] [pG, int64 i, ints f] (objG g fs.length (rowsL fs)) (int64 (putE g i f)) (grabG g fs.length (rowsL (putL g i f fs))) psG := by
  by_cases hb : (f.length : Int) ≠ g.ch ∨ badR f = true
  · have e : putE g i f = 1 := by unfold putE; rw [if_pos hb]
    have e2 : putL g i f fs = fs := by unfold putL; rw [e, if_neg (by omega)]
    rw [e, e2]
    obtain ⟨ch, wo, wv, wop, wc, wa, ro, rv, rop, rc, ra⟩ := g
    cases wop with
    | false => exact ⟨_, stopAt_ok (OB_ok ok0), (put_runF ⟨ch, wo, wv, false, wc, wa, ro, rv, rop, rc, ra⟩ fs.length (rowsL fs) i f).trans (validT_bad hf hb _)⟩
    | true => exact ⟨_, OB_ok (OC1_ok ok0), (put_runT ⟨ch, wo, wv, true, wc, wa, ro, rv, rop, rc, ra⟩ fs.length (rowsL fs) i f).trans (validT_bad hf hb _)⟩
  · have h1 : (f.length : Int) = g.ch := Classical.not_not.1 fun h => hb (Or.inl h)
    have h2 : badR f = false := by cases hq : badR f with | false => rfl | true => exact absurd (Or.inr hq) hb
    have e : putE g i f = wErr g.wop g.wc i := by unfold putE; rw [if_neg hb]
    unfold putL
    rw [e]
    obtain ⟨hch, hn, hrows, hwo, hro, -, -, hwc, hrc⟩ := h
    obtain ⟨ch, wo, wv, wop, wc, wa, ro, rv, rop, rc, ra⟩ := g
    simp only at hch hwo hwc h1
    cases wop with
    | false =>
      refine ⟨_, stopAt_ok (OB_ok ok0), (put_runF ⟨ch, wo, wv, false, wc, wa, ro, rv, rop, rc, ra⟩ fs.length (rowsL fs) i f).trans ((validT_ok hf h1 h2 _).trans ?_)⟩
      unfold wErr
      simp only [if_true]
      by_cases hi : i < 0
      · rw [decide_eq_true hi, if_pos hi, if_neg (by omega : ¬ (7 : Int) = 0)]
        exact okG_some _ _ _ _
      · rw [decide_eq_false hi, if_neg hi, if_neg (by omega : ¬ (9 : Int) = 0)]
        exact okG_some _ _ _ _
    | true =>
      refine ⟨_, OB_ok (OC1_ok ok0), (put_runT ⟨ch, wo, wv, true, wc, wa, ro, rv, rop, rc, ra⟩ fs.length (rowsL fs) i f).trans ((validT_ok hf h1 h2 _).trans ?_)⟩
      unfold wErr
      by_cases hi : i < 0
      · rw [decide_eq_true hi, if_pos hi, if_neg (by omega : ¬ (7 : Int) = 0)]
        exact okG_some _ _ _ _
      · rw [decide_eq_false hi, if_neg hi, if_neg (by simp)]
        by_cases hc : i ≥ wc
        · rw [decide_eq_true hc, if_pos hc, if_neg (by omega : ¬ (7 : Int) = 0)]
          exact okG_some _ _ _ _
        · obtain ⟨p1, p2⟩ := plc_in (o := wo) (i := i) (N := fs.length) hwo (by omega) hn
          rw [decide_eq_false hc, if_neg hc, if_pos rfl, nz_len hn.1, ZG_some, is46_row h1 hch, ZG_some]
          simp only [cond_true, cond_false]
          refine (inG_some p1 p2 _).trans ?_
          rw [Nat.zero_add, Nat.mul_one, setL_rows]
          exact okG_some _ _ _ _
theorem get_fact {g : Rg} {fs : List (List Int)} (h : RgOk g fs) (i : Int) :
    OFact Try.prog tb scG 24 2 [1] [pG, int64 i] (objG g fs.length (rowsL fs)) (.tup [ints (getL g i fs), int64 (wErr g.rop g.rc i)]) (grabG g fs.length (rowsL fs)) psG := by
  unfold getL
  obtain ⟨hch, hn, hrows, hwo, hro, -, -, hwc, hrc⟩ := h
  obtain ⟨ch, wo, wv, wop, wc, wa, ro, rv, rop, rc, ra⟩ := g
  simp only at hch hro hrc hrows
  cases rop with
  | false =>
    refine ⟨_, stopAt_ok ok0, (get_runF ⟨ch, wo, wv, wop, wc, wa, ro, rv, false, rc, ra⟩ fs.length (rowsL fs) i).trans ?_⟩
    by_cases hi : i < 0
    · have e : wErr false rc i = 7 := by unfold wErr; rw [if_pos hi]
      rw [e, decide_eq_true hi, if_neg (by omega : ¬ (7 : Int) = 0)]
      exact okG_some _ _ _ _
    · have e : wErr false rc i = 9 := by unfold wErr; rw [if_neg hi, if_pos rfl]
      rw [e, decide_eq_false hi, if_neg (by omega : ¬ (9 : Int) = 0)]
      exact okG_some _ _ _ _
  | true =>
    refine ⟨_, OC1_ok ok0, (get_runT ⟨ch, wo, wv, wop, wc, wa, ro, rv, true, rc, ra⟩ fs.length (rowsL fs) i).trans ?_⟩
    by_cases hi : i < 0
    · have e : wErr true rc i = 7 := by unfold wErr; rw [if_pos hi]
      rw [e, decide_eq_true hi, if_neg (by omega : ¬ (7 : Int) = 0)]
      exact okG_some _ _ _ _
    · rw [decide_eq_false hi]
      by_cases hc : i ≥ rc
      · have e : wErr true rc i = 7 := by unfold wErr; rw [if_neg hi, if_neg (by simp), if_pos hc]
        rw [e, decide_eq_true hc, if_neg (by omega : ¬ (7 : Int) = 0)]
        exact okG_some _ _ _ _
      · have e : wErr true rc i = 0 := by unfold wErr; rw [if_neg hi, if_neg (by simp), if_neg hc]
        obtain ⟨p1, p2⟩ := plc_in (o := ro) (i := i) (N := fs.length) hro (by omega) hn
        rw [e, decide_eq_false hc, if_pos rfl, nz_len hn.1, ZG_some]
        simp only [cond_false]
        have hk : (plcR ⟨ch, wo, wv, wop, wc, wa, ro, rv, true, rc, ra⟩ fs.length i).toNat < fs.length := by
          show ((w64 (ro + i)).tmod (fs.length : Int)).toNat < fs.length
          omega
        have hc' : cellAt (rowsL fs) (plcR (gRT ⟨ch, wo, wv, wop, wc, wa, ro, rv, true, rc, ra⟩ true) fs.length i) = ints (fs.getD (plcR ⟨ch, wo, wv, wop, wc, wa, ro, rv, true, rc, ra⟩ fs.length i).toNat []) := by
          show nth (rowsL fs) (0 + (plcR ⟨ch, wo, wv, wop, wc, wa, ro, rv, true, rc, ra⟩ fs.length i).toNat * 1) = _
          rw [Nat.zero_add, Nat.mul_one, nthM ints fs _ hk]
          simp [List.getD, hk]
        have hrow : ((fs.getD (plcR ⟨ch, wo, wv, wop, wc, wa, ro, rv, true, rc, ra⟩ fs.length i).toNat []).length : Int) = ch := by
          have : fs.getD (plcR ⟨ch, wo, wv, wop, wc, wa, ro, rv, true, rc, ra⟩ fs.length i).toNat [] = fs[(plcR ⟨ch, wo, wv, wop, wc, wa, ro, rv, true, rc, ra⟩ fs.length i).toNat] := by simp [List.getD, hk]
          rw [this]
          exact hrows _ (List.getElem_mem hk)
        refine (inG_some p1 p2 _).trans ?_
        rw [hc', is46_row hrow hch]
        exact okG_some _ _ _ _
end Go.Proofs.Ytokighfpmonjdaa
/- A ring: oracles of what is done with it. -/
namespace Go.Proofs.Ytokighfpmonjdaa
open Go.Ev
set_option maxRecDepth 100000
def gOf (vs : List AV) : Rg := ⟨intOf (nth vs 0), intOf (nth vs 2), intOf (nth vs 3), boolOf (nth vs 4), intOf (nth vs 5), intOf (nth vs 6), intOf (nth vs 7), intOf (nth vs 8), boolOf (nth vs 9), intOf (nth vs 10), intOf (nth vs 11)⟩
def vsOf : List (Nat × Blk) → List AV
  | [_, (_, .cells _ vs)] => vs
  | _ => []
def fsOf : List (Nat × Blk) → List (List Int)
  | (_, .cells _ L) :: _ => L.map rowOf
  | _ => []
def lenG (l : List (Nat × Blk)) : Nat := match nth (vsOf l) 1 with
  | .gr _ n _ => n
  | _ => 0
theorem fsOf_obj (g : Rg) (N : Nat) (fs : List (List Int)) : fsOf (objG g N (rowsL fs)) = fs := by
  show (fs.map ints).map rowOf = fs
  rw [List.map_map]
  exact List.map_id'' (fun x => rowOf_ints x) fs
noncomputable abbrev okW (v : AV) (g : Rg) (N : Nat) (fs : List (List Int)) : ORes := ((v, grabG g N (rowsL fs)), psG)
def claimS (N : Nat) (g : Rg) (n : Int) : Rg × Int × Int := if n < 0 then (g, 0, 7) else if g.wop = true then (g, 0, 9) else (claimG N g n, minI n (roomG N g), 0)
def takeS (g : Rg) (n : Int) : Rg × Int × Int := if n < 0 then (g, 0, 7) else if g.rop = true then (g, 0, 9) else (takeG g n, minI n (fillG g), 0)
def commS (g : Rg) (n : Int) : Rg × Int := if n < 0 then (g, 7) else if g.wop = false then (g, 9) else if n > g.wc then (g, 7) else (commG g n, 0)
def doneS (g : Rg) (n : Int) : Rg × Int := if n < 0 then (g, 7) else if g.rop = false then (g, 9) else if n > g.rc then (g, 7) else (doneG g n, 0)
theorem see_fact (g : Rg) (fs : List (List Int)) : OFact Try.prog tb scG 16 2 [1] [pG] (objG g fs.length (rowsL fs)) (two' (roomG fs.length (seeG g)) 0) (grabG (seeG g) fs.length (rowsL fs)) psG :=
  ⟨_, ok0, (see_run g fs.length (rowsL fs)).trans ((ZG_some _ _).trans (okG_some _ _ _ _))⟩
theorem look_fact (g : Rg) (fs : List (List Int)) : OFact Try.prog tb scG 21 2 [1] [pG] (objG g fs.length (rowsL fs)) (two' (fillG (lookG g)) 0) (grabG (lookG g) fs.length (rowsL fs)) psG :=
  ⟨_, ok0, (look_run g fs.length (rowsL fs)).trans (okG_some _ _ _ _)⟩
theorem claim_fact (g : Rg) (fs : List (List Int)) (n : Int) : OFact Try.prog tb scG 17 2 [1] [pG, int64 n] (objG g fs.length (rowsL fs)) (two' (claimS fs.length g n).2.1 (claimS fs.length g n).2.2) (grabG (claimS fs.length g n).1 fs.length (rowsL fs)) psG := by
  refine ⟨_, ok0, (claim_run g fs.length (rowsL fs) n).trans ((ZG_some _ _).trans ?_)⟩
  unfold claimS
  by_cases h1 : n < 0
  · rw [decide_eq_true h1, if_pos h1]; exact okG_some _ _ _ _
  · rw [decide_eq_false h1, if_neg h1]
    cases h2 : g.wop with
    | true => rw [if_pos rfl]; exact okG_some _ _ _ _
    | false => rw [if_neg (by simp)]; exact okG_some _ _ _ _
theorem take_fact (g : Rg) (fs : List (List Int)) (n : Int) : OFact Try.prog tb scG 22 2 [1] [pG, int64 n] (objG g fs.length (rowsL fs)) (two' (takeS g n).2.1 (takeS g n).2.2) (grabG (takeS g n).1 fs.length (rowsL fs)) psG := by
  refine ⟨_, ok0, (take_run g fs.length (rowsL fs) n).trans ?_⟩
  unfold takeS
  by_cases h1 : n < 0
  · rw [decide_eq_true h1, if_pos h1]; exact okG_some _ _ _ _
  · rw [decide_eq_false h1, if_neg h1]
    cases h2 : g.rop with
    | true => rw [if_pos rfl]; exact okG_some _ _ _ _
    | false => rw [if_neg (by simp)]; exact okG_some _ _ _ _
theorem comm_fact (g : Rg) (fs : List (List Int)) (n : Int) : OFact Try.prog tb scG 19 2 [1] [pG, int64 n] (objG g fs.length (rowsL fs)) (int64 (commS g n).2) (grabG (commS g n).1 fs.length (rowsL fs)) psG := by
  refine ⟨_, ok0, (comm_run g fs.length (rowsL fs) n).trans ?_⟩
  unfold commS
  by_cases h1 : n < 0
  · rw [decide_eq_true h1, if_pos h1]; exact okG_some _ _ _ _
  · rw [decide_eq_false h1, if_neg h1]
    cases h2 : g.wop with
    | false => rw [if_pos rfl]; exact okG_some _ _ _ _
    | true =>
      rw [if_neg (by simp)]
      by_cases h3 : n > g.wc
      · rw [decide_eq_true h3, if_pos h3]; exact okG_some _ _ _ _
      · rw [decide_eq_false h3, if_neg h3]; exact okG_some _ _ _ _
theorem done_fact (g : Rg) (fs : List (List Int)) (n : Int) : OFact Try.prog tb scG 26 2 [1] [pG, int64 n] (objG g fs.length (rowsL fs)) (int64 (doneS g n).2) (grabG (doneS g n).1 fs.length (rowsL fs)) psG := by
  refine ⟨_, ok0, (done_run g fs.length (rowsL fs) n).trans ?_⟩
  unfold doneS
  by_cases h1 : n < 0
  · rw [decide_eq_true h1, if_pos h1]; exact okG_some _ _ _ _
  · rw [decide_eq_false h1, if_neg h1]
    cases h2 : g.rop with
    | false => rw [if_pos rfl]; exact okG_some _ _ _ _
    | true =>
      rw [if_neg (by simp)]
      by_cases h3 : n > g.rc
      · rw [decide_eq_true h3, if_pos h3]; exact okG_some _ _ _ _
      · rw [decide_eq_false h3, if_neg h3]; exact okG_some _ _ _ _
def G16 (a : List AV) (l : List (Nat × Blk)) : Prop := ∃ (g : Rg) (fs : List (List Int)), a = [pG] ∧ l = objG g fs.length (rowsL fs) ∧ RgOk g fs
noncomputable def V16 (_ : List AV) (l : List (Nat × Blk)) : ORes := okW (two' (roomG (lenG l) (seeG (gOf (vsOf l)))) 0) (seeG (gOf (vsOf l))) (lenG l) (fsOf l)
theorem when16 (a : List AV) (l : List (Nat × Blk)) (h : G16 a l) : OFact Try.prog tb scG 16 2 [1] a l (V16 a l).1.1 (V16 a l).1.2 (V16 a l).2 := by
  obtain ⟨g, fs, rfl, rfl, hg⟩ := h
  have e : V16 [pG] (objG g fs.length (rowsL fs)) = okW (two' (roomG fs.length (seeG g)) 0) (seeG g) fs.length fs := by
    unfold V16
    rw [fsOf_obj]
    rfl
  rw [e]
  exact see_fact g fs
def G21 (a : List AV) (l : List (Nat × Blk)) : Prop := ∃ (g : Rg) (fs : List (List Int)), a = [pG] ∧ l = objG g fs.length (rowsL fs) ∧ RgOk g fs
noncomputable def V21 (_ : List AV) (l : List (Nat × Blk)) : ORes := okW (two' (fillG (lookG (gOf (vsOf l)))) 0) (lookG (gOf (vsOf l))) (lenG l) (fsOf l)
theorem when21 (a : List AV) (l : List (Nat × Blk)) (h : G21 a l) : OFact Try.prog tb scG 21 2 [1] a l (V21 a l).1.1 (V21 a l).1.2 (V21 a l).2 := by
  obtain ⟨g, fs, rfl, rfl, hg⟩ := h
  have e : V21 [pG] (objG g fs.length (rowsL fs)) = okW (two' (fillG (lookG g)) 0) (lookG g) fs.length fs := by
    unfold V21
    rw [fsOf_obj]
    rfl
  rw [e]
  exact look_fact g fs
def G17 (a : List AV) (l : List (Nat × Blk)) : Prop := ∃ (g : Rg) (fs : List (List Int)) (n : Int), a = [pG, int64 n] ∧ l = objG g fs.length (rowsL fs) ∧ RgOk g fs
noncomputable def V17 (a : List AV) (l : List (Nat × Blk)) : ORes := okW (two' (claimS (lenG l) (gOf (vsOf l)) (intOf (nth a 1))).2.1 (claimS (lenG l) (gOf (vsOf l)) (intOf (nth a 1))).2.2) (claimS (lenG l) (gOf (vsOf l)) (intOf (nth a 1))).1 (lenG l) (fsOf l)
theorem when17 (a : List AV) (l : List (Nat × Blk)) (h : G17 a l) : OFact Try.prog tb scG 17 2 [1] a l (V17 a l).1.1 (V17 a l).1.2 (V17 a l).2 := by
  obtain ⟨g, fs, n, rfl, rfl, hg⟩ := h
  have e : V17 [pG, int64 n] (objG g fs.length (rowsL fs)) = okW (two' (claimS fs.length g n).2.1 (claimS fs.length g n).2.2) (claimS fs.length g n).1 fs.length fs := by
    unfold V17
    rw [fsOf_obj]
    rfl
  rw [e]
  exact claim_fact g fs n
def G22 (a : List AV) (l : List (Nat × Blk)) : Prop := ∃ (g : Rg) (fs : List (List Int)) (n : Int), a = [pG, int64 n] ∧ l = objG g fs.length (rowsL fs) ∧ RgOk g fs
noncomputable def V22 (a : List AV) (l : List (Nat × Blk)) : ORes := okW (two' (takeS (gOf (vsOf l)) (intOf (nth a 1))).2.1 (takeS (gOf (vsOf l)) (intOf (nth a 1))).2.2) (takeS (gOf (vsOf l)) (intOf (nth a 1))).1 (lenG l) (fsOf l)
theorem when22 (a : List AV) (l : List (Nat × Blk)) (h : G22 a l) : OFact Try.prog tb scG 22 2 [1] a l (V22 a l).1.1 (V22 a l).1.2 (V22 a l).2 := by
  obtain ⟨g, fs, n, rfl, rfl, hg⟩ := h
  have e : V22 [pG, int64 n] (objG g fs.length (rowsL fs)) = okW (two' (takeS g n).2.1 (takeS g n).2.2) (takeS g n).1 fs.length fs := by
    unfold V22
    rw [fsOf_obj]
    rfl
  rw [e]
  exact take_fact g fs n
def G19 (a : List AV) (l : List (Nat × Blk)) : Prop := ∃ (g : Rg) (fs : List (List Int)) (n : Int), a = [pG, int64 n] ∧ l = objG g fs.length (rowsL fs) ∧ RgOk g fs
noncomputable def V19 (a : List AV) (l : List (Nat × Blk)) : ORes := okW (int64 (commS (gOf (vsOf l)) (intOf (nth a 1))).2) (commS (gOf (vsOf l)) (intOf (nth a 1))).1 (lenG l) (fsOf l)
theorem when19 (a : List AV) (l : List (Nat × Blk)) (h : G19 a l) : OFact Try.prog tb scG 19 2 [1] a l (V19 a l).1.1 (V19 a l).1.2 (V19 a l).2 := by
  obtain ⟨g, fs, n, rfl, rfl, hg⟩ := h
  have e : V19 [pG, int64 n] (objG g fs.length (rowsL fs)) = okW (int64 (commS g n).2) (commS g n).1 fs.length fs := by
    unfold V19
    rw [fsOf_obj]
    rfl
  rw [e]
  exact comm_fact g fs n
def G26 (a : List AV) (l : List (Nat × Blk)) : Prop := ∃ (g : Rg) (fs : List (List Int)) (n : Int), a = [pG, int64 n] ∧ l = objG g fs.length (rowsL fs) ∧ RgOk g fs
noncomputable def V26 (a : List AV) (l : List (Nat × Blk)) : ORes := okW (int64 (doneS (gOf (vsOf l)) (intOf (nth a 1))).2) (doneS (gOf (vsOf l)) (intOf (nth a 1))).1 (lenG l) (fsOf l)
theorem when26 (a : List AV) (l : List (Nat × Blk)) (h : G26 a l) : OFact Try.prog tb scG 26 2 [1] a l (V26 a l).1.1 (V26 a l).1.2 (V26 a l).2 := by
  obtain ⟨g, fs, n, rfl, rfl, hg⟩ := h
  have e : V26 [pG, int64 n] (objG g fs.length (rowsL fs)) = okW (int64 (doneS g n).2) (doneS g n).1 fs.length fs := by
    unfold V26
    rw [fsOf_obj]
    rfl
  rw [e]
  exact done_fact g fs n
def G18 (a : List AV) (l : List (Nat × Blk)) : Prop := ∃ (g : Rg) (fs : List (List Int)) (n : Int) (f : List Int), a = [pG, int64 n, ints f] ∧ l = objG g fs.length (rowsL fs) ∧ RgOk g fs ∧ f.length ≤ maxLen
noncomputable def V18 (a : List AV) (l : List (Nat × Blk)) : ORes := okW (int64 (putE (gOf (vsOf l)) (intOf (nth a 1)) (rowOf (nth a 2)))) (gOf (vsOf l)) (lenG l) (putL (gOf (vsOf l)) (intOf (nth a 1)) (rowOf (nth a 2)) (fsOf l))
theorem when18 (a : List AV) (l : List (Nat × Blk)) (h : G18 a l) : OFact Try.prog tb scG 18 2 [1] a l (V18 a l).1.1 (V18 a l).1.2 (V18 a l).2 := by
  obtain ⟨g, fs, n, f, rfl, rfl, hg, hf⟩ := h
  have e : V18 [pG, int64 n, ints f] (objG g fs.length (rowsL fs)) = okW (int64 (putE g n f)) g fs.length (putL g n f fs) := by
    unfold V18
    rw [fsOf_obj]
    show okW (int64 (putE g n (rowOf (ints f)))) g fs.length (putL g n (rowOf (ints f)) fs) = _
    rw [rowOf_ints]
  rw [e]
  exact put_fact hg n hf
def G24 (a : List AV) (l : List (Nat × Blk)) : Prop := ∃ (g : Rg) (fs : List (List Int)) (n : Int), a = [pG, int64 n] ∧ l = objG g fs.length (rowsL fs) ∧ RgOk g fs
noncomputable def V24 (a : List AV) (l : List (Nat × Blk)) : ORes := okW (.tup [ints (getL (gOf (vsOf l)) (intOf (nth a 1)) (fsOf l)), int64 (wErr (gOf (vsOf l)).rop (gOf (vsOf l)).rc (intOf (nth a 1)))]) (gOf (vsOf l)) (lenG l) (fsOf l)
theorem when24 (a : List AV) (l : List (Nat × Blk)) (h : G24 a l) : OFact Try.prog tb scG 24 2 [1] a l (V24 a l).1.1 (V24 a l).1.2 (V24 a l).2 := by
  obtain ⟨g, fs, n, rfl, rfl, hg⟩ := h
  have e : V24 [pG, int64 n] (objG g fs.length (rowsL fs)) = okW (.tup [ints (getL g n fs), int64 (wErr g.rop g.rc n)]) g fs.length fs := by
    unfold V24
    rw [fsOf_obj]
    rfl
  rw [e]
  exact get_fact hg n
noncomputable def OG (S : Orc) : Orc := knowOW Try.prog scG 16 2 [1] [1] G16 V16 <| knowOW Try.prog scG 21 2 [1] [1] G21 V21 <| knowOW Try.prog scG 17 2 [1] [1] G17 V17 <| knowOW Try.prog scG 22 2 [1] [1] G22 V22 <| knowOW Try.prog scG 19 2 [1] [1] G19 V19 <| knowOW Try.prog scG 26 2 [1] [1] G26 V26 <| knowOW Try.prog scG 18 2 [1] [1] G18 V18 <| knowOW Try.prog scG 24 2 [1] [1] G24 V24 S
theorem OG_ok {S : Orc} (h : Ok S) : Ok (OG S) := (knowOW_ok tbOk when16 (knowOW_ok tbOk when21 (knowOW_ok tbOk when17 (knowOW_ok tbOk when22 (knowOW_ok tbOk when19 (knowOW_ok tbOk when26 (knowOW_ok tbOk when18 (knowOW_ok tbOk when24 h))))))))
end Go.Proofs.Ytokighfpmonjdaa
