/- UnitRuns, a delay: New and Copy told of; the law's loop. -/
import Derived.Test.YthlmbnhelkbchaaJ29
import Derived.Test.YthlmbnhelkbchaaEvZ4
namespace Go.Proofs.Ythlmbnhelkbchaa
open Go.Ev
set_option maxRecDepth 100000
theorem repL_zero' : ∀ n : Nat, repL [int64 0] n = (List.replicate n (0 : Int)).map int64
  | 0 => rfl
  | n + 1 => by
    rw [List.replicate_succ, List.map_cons, ← repL_zero' n]
    rfl
abbrev zs (N : Nat) : List Int := List.replicate N 0
theorem wkL_ints (L : List Int) : wkL (L.map int64) = L.map int64 := by
  rw [wkL_eq, List.map_map]
  rfl
/-! ### Copy -/
def scKd : Sc := ⟨[(0, [10])], [(0, [10])]⟩
noncomputable def psKd : List (Option Nat × Option TypeId) := [(some 0, tyPt Try.prog 37), (some 1, some 3), (some 2, tyPt Try.prog 37), (some 4, some 3)]
def cpL (M : Nat) (L : List AV) : List AV := appA [] (takeA (dropA L 0) ((M + 1) * 1))
noncomputable def resKd (r u0 y0 : Int) (o : Ob) (N N' : Nat) (L L' : List AV) : ORes := ((.ptr (some (2, 0)), [(0, .cells true (cellsD r u0 y0 o (.gr (1, 0) N 1))), (1, .cells true L), (2, .cells true (cellsD r u0 y0 o (.gr (4, 0) N' 1))), (4, .cells true L'), (1, .cells true L), (0, .cells true (cellsD r u0 y0 o (.gr (1, 0) N 1)))]), psKd)
theorem run23d (r u0 y0 : Int) (o : Ob) (M : Nat) (L : List AV) : evCall Try.prog orc0 tb 100 ORes (.fn 23) [.ptr (some (0, 0))] (mkHeap (objD r u0 y0 o (M + 1) L) 2) .off (objK Try.prog scKd 23 2 [1, 4] [.ptr (some (0, 0))]) =
    (guardK (Nat.ble (0 + (M + 1) * 1) (lenA L)) <| guardK (Nat.ble ((0 + (M + 1)) * 8) limit && Nat.ble (0 + (M + 1)) limit) <| guardK (allS L && (allS (cpL M L) && (allS L && true)) && true) <| some (resKd r u0 y0 o (M + 1) (0 + (M + 1)) L (cpL M L))) := by kernel_rfl
theorem copyD (r u0 y0 : Int) (o : Ob) {N : Nat} {L : List Int} (hN : 1 ≤ N) (hN' : N ≤ 100000) (hL : L.length = N) : OFact Try.prog tb scKd 23 2 [1, 4] [.ptr (some (0, 0))] (objD r u0 y0 o N (L.map int64)) (resKd r u0 y0 o N N (L.map int64) (L.map int64)).1.1 (resKd r u0 y0 o N N (L.map int64) (L.map int64)).1.2 (resKd r u0 y0 o N N (L.map int64) (L.map int64)).2 := by
  obtain ⟨M, rfl⟩ : ∃ M, N = M + 1 := ⟨N - 1, by omega⟩
  refine ⟨orc0, ok0, (run23d r u0 y0 o M (L.map int64)).trans ?_⟩
  have e : cpL M (L.map int64) = L.map int64 := by
    unfold cpL
    rw [takeA_eq, dropA_eq, List.drop_zero, Nat.mul_one, List.take_of_length_le (by simp [hL])]
    rfl
  rw [e, lenM, hL, allS_ints, Nat.zero_add, limit_ok (by omega), Nat.ble_eq_true_of_le (show (M + 1) * 1 ≤ M + 1 by omega)]
  unfold resKd
  rw [Nat.zero_add]
  rfl
def GKd (a : List AV) (l : List (Nat × Blk)) : Prop := ∃ (r u0 y0 : Int) (o : Ob) (N : Nat) (L : List Int), a = [.ptr (some (0, 0))] ∧ l = objD r u0 y0 o N (L.map int64) ∧ 1 ≤ N ∧ N ≤ 100000 ∧ L.length = N
def blk1 : List (Nat × Blk) → Blk
  | (_, b) :: _ => b
  | _ => .dfr false
def put10 (vs : List AV) : List AV := [nth vs 0, nth vs 1, nth vs 2, nth vs 3, nth vs 4, nth vs 5, nth vs 6, nth vs 7, nth vs 8, nth vs 9, .gr (4, 0) (lenV (nth vs 10)) 1, nth vs 11, nth vs 12, nth vs 13, nth vs 14]
noncomputable def VKd (_ : List AV) (l : List (Nat × Blk)) : ORes := ((.ptr (some (2, 0)), [(0, .cells true (objOf2 l)), (1, blk1 l), (2, .cells true (put10 (objOf2 l))), (4, blk1 l), (1, blk1 l), (0, .cells true (objOf2 l))]), psKd)
theorem whenKd (a : List AV) (l : List (Nat × Blk)) (h : GKd a l) : OFact Try.prog tb scKd 23 2 [1, 4] a l (VKd a l).1.1 (VKd a l).1.2 (VKd a l).2 := by
  obtain ⟨r, u0, y0, o, N, L, rfl, rfl, h1, h2, h3⟩ := h
  exact copyD r u0 y0 o h1 h2 h3
noncomputable def OKd (S : Orc) : Orc := knowOW Try.prog scKd 23 2 [1] [1, 4] GKd VKd S
theorem OKd_ok {S : Orc} (h : Ok S) : Ok (OKd S) := knowOW_ok tbOk whenKd h
/-! ### New -/
theorem mkN_ok {N : Nat} (h : N ≤ 100000) : mkN (N : Int) = true := by
  have : (limit : Int) = 140737488355328 := rfl
  simp only [mkN, Bool.and_eq_true, decide_eq_true_eq]
  omega
theorem n18d {r u0 : Int} {N : Nat} (hN : 1 ≤ N) (hN' : N ≤ 100000) (h29 : F 29 [unitV 11 r [u0] [(N : Int)]] (.bool true)) : OFact Try.prog tb scNd 18 0 [12] [unitV 11 r [u0] [(N : Int)]] [] (.tup [.ptr (some (11, 0)), int64 0])
    [(11, .cells true (cellsD r u0 N (ob0 0) (.sl (some (12, 0)) N N true 1))), (12, .cells true ((zs N).map int64))] psNd := by
  refine ⟨N18 (unitV 11 r [u0] [(N : Int)]), N18_ok h29, (n18_11 r u0 N).trans ?_⟩
  rw [Us_eq, Zs_eq, mkN_ok hN', show (N : Int).toNat = N by omega, repL_zero', allS_ints]
  rfl
theorem n32d {r u0 : Int} {N : Nat} (hN' : N ≤ 100000) (h13 : F 13 [unitV 11 r [u0] [(N : Int)]] (.bool true)) : FFact Try.prog tb 32 [unitV 11 r [u0] [(N : Int)]]
    (.tup [.agg (cellsR 11 r [u0] [(N : Int)] ⟨0, 0, 0, 0, 0, false, 0, zs N⟩), int64 0]) := by
  refine ⟨unit_nowV 32 (by kernel_rfl) _ _ _ _, _, N32_ok h13, (n32_11 r u0 N).trans ?_⟩
  have e := fix_ints (zs N)
  rw [List.length_replicate] at e
  rw [Us_eq, mkN_ok hN', show (N : Int).toNat = N by omega, repL_zero', e, dropA_eq, List.drop_zero, allS_ints]
  unfold cellsR cellsRd ints
  rw [List.length_replicate]
  rfl
end Go.Proofs.Ythlmbnhelkbchaa
/- UnitRuns, a delay: a round of the law's loop. -/
namespace Go.Proofs.Ythlmbnhelkbchaa
open Go.Ev
set_option maxRecDepth 100000
def rsD (N : Nat) : Rs := ⟨0, 0, 0, 0, 0, false, 0, zs N⟩
def stRd (q : Nat) (r u0 y0 fr : Int) (N : Nat) (xs : List Int) (cuts want : List Int) (o1 : Ob) (L1 : List AV) (en : Rs) (at' n : Int) (o : Ob) (L : List AV) : St := ⟨[.dead, lists [xs], int64 fr, ints cuts, .dead, .dead, .dead, .dead, .dead, .ptr (some (23, 0)), .dead, .dead, .dead, .dead, .dead, ints want, int64 at', int64 n] ++ repA .dead 191,
  mkHeap [(q, .cells true L), (23, .cells true (cellsD r u0 y0 o (.gr (q, 0) N 1))), (6, .cells true (cellsR 11 r [u0] [y0] en)), (5, .cells true L1), (3, .cells true (cellsR 11 r [u0] [y0] (rsD N))), (1, .cells true (cellsD r u0 y0 o1 (.gr (5, 0) N 1))), (0, .cells true [int64 11, int64 r, ints [u0], ints [y0]])] 34, [], .off⟩
noncomputable def N27 : Norm := match loopN0 tb 10 27 with
  | some N => N
  | none => ⟨[], []⟩
theorem norm27 : loopN0 tb 10 27 = some N27 := by kernel_rfl
theorem count27 : Nat.ble (countL 27 e10.code) 1 = true := by kernel_rfl
abbrev fl17 : Flat := ⟨[5, 24, 33], [], []⟩
noncomputable def O27 (S : Orc) : Orc := addR Try.prog tb orc0 10 27 N27 fl17 S
theorem O27_ok {S : Orc} (h : Ok S) : Ok (O27 S) := addR_ok tbOk ok0 h (ep := e10) rfl norm27 count27
noncomputable def S17d (S : Orc) : Orc := OD (OKd (O20 (O27 S)))
noncomputable abbrev gL {A : Type} (L L1 : List AV) (x : Option A) : Option A := guardK (allS L && (allS L1 && true)) x
noncomputable abbrev B17 {A : Type} (S : Orc) (st : St) (K : Ex → St → Option A) : Option A := loopBG Try.prog S tb 10 17 fl17 25 st K
noncomputable def roundTd {A : Type} (r u0 y0 fr : Int) (N : Nat) (xs : List Int) (cuts want : List Int) (o1 : Ob) (L1 : List AV) (en : Rs) (at' n : Int) (o : Ob) (L : List AV) (kk : Int) (K : Ex → St → Option A) : Option A :=
  let a : List AV := [.ptr (some (0, 0)), int64 kk, .fz [cutV xs at' (w64 (at' + kk))] 1 false 1]
  let p := sD a (objD r u0 y0 o N L)
  gL L L1 <| cutT xs at' (w64 (at' + kk)) <| gL L L1 <| gL L L1 <|
  guardK (allS L && true && true) <| bif isSo (GKd [.ptr (some (0, 0))] (objD r u0 y0 o N L)) then guardK (allS L && true && true) <| bif isSo (GD a (objD r u0 y0 o N L)) then guardK (allS L && true && true) <| bif isSo (GD a (objD r u0 y0 o N L)) then
    cutT want at' (w64 (at' + kk)) <| bif isSo (is20 [ints p.2, cutV want at' (w64 (at' + kk))]) then bif !(decide (rowOf (ints p.2) = rowOf (cutV want at' (w64 (at' + kk))))) then none else
      bif isSo (is20 [ints p.2, ints p.2]) then bif !(decide (rowOf (ints p.2) = rowOf (ints p.2))) then none else bif !(p.1.o.frame == p.1.o.frame) then none else
        guardK (allS (p.1.L.map int64) && (allS L1 && true)) <| K .normal (stRd 33 r u0 y0 fr N xs cuts want o1 L1 en (w64 (at' + kk)) (w64 (n + 1)) p.1.o (p.1.L.map int64))
      else none
    else none
  else none else none else none
theorem b17_d1 {A : Type} (r u0 y0 fr : Int) (N : Nat) (xs : List Int) (cuts want : List Int) (o1 : Ob) (L1 : List AV) (en : Rs) (at' n : Int) (o : Ob) (L : List AV) (K : Ex → St → Option A) :
    B17 (S17d (stopAt 10 [34] orc0)) (stRd 24 r u0 y0 fr N xs cuts want o1 L1 en at' n o L) K =
    bif decide (at' < fr) then lenT' fr cuts at' n (fun kk => roundTd r u0 y0 fr N xs cuts want o1 L1 en at' n o L kk K) else guardK (allS L && (allS L1 && true)) <| K (.exit 0) (stRd 24 r u0 y0 fr N xs cuts want o1 L1 en at' n o L) := by kernel_rfl
theorem b17_d2 {A : Type} (r u0 y0 fr : Int) (N : Nat) (xs : List Int) (cuts want : List Int) (o1 : Ob) (L1 : List AV) (en : Rs) (at' n : Int) (o : Ob) (L : List AV) (K : Ex → St → Option A) :
    B17 (S17d (stopAt 10 [34] orc0)) (stRd 33 r u0 y0 fr N xs cuts want o1 L1 en at' n o L) K =
    bif decide (at' < fr) then lenT' fr cuts at' n (fun kk => roundTd r u0 y0 fr N xs cuts want o1 L1 en at' n o L kk K) else guardK (allS L && (allS L1 && true)) <| K (.exit 0) (stRd 33 r u0 y0 fr N xs cuts want o1 L1 en at' n o L) := by kernel_rfl
end Go.Proofs.Ythlmbnhelkbchaa
/- UnitRuns, a delay: pieces are the whole. -/
namespace Go.Proofs.Ythlmbnhelkbchaa
open Go.Ev
set_option maxRecDepth 100000
theorem runD_split (r : Int) (xs : List Int) : ∀ (a b i : Nat) (s : Ds), runD r xs i (a + b) s = ((runD r xs (i + a) b (runD r xs i a s).1).1, (runD r xs i a s).2 ++ (runD r xs (i + a) b (runD r xs i a s).1).2)
  | 0, b, i, s => by simp [runD]
  | a + 1, b, i, s => by
    have ih := runD_split r xs a b (i + 1) (onD r xs i s)
    rw [show a + 1 + b = (a + b) + 1 by omega]
    simp only [runD]
    rw [ih, show i + 1 + a = i + (a + 1) by omega]
    rfl
/-- Alike but for whether the list is its own. -/
theorem runD_alike {r : Int} {xs ys : List Int} : ∀ (d i j : Nat) (s t : Ds), s.o = t.o → s.L = t.L → (∀ q, q < d → xs.getD (i + q) 0 = ys.getD (j + q) 0) →
    (runD r xs i d s).1.o = (runD r ys j d t).1.o ∧ (runD r xs i d s).1.L = (runD r ys j d t).1.L ∧ (runD r xs i d s).2 = (runD r ys j d t).2
  | 0, _, _, _, _, h1, h2, _ => ⟨h1, h2, rfl⟩
  | d + 1, i, j, s, t, h1, h2, h => by
    have h0 : xs.getD i 0 = ys.getD j 0 := h 0 (by omega)
    have e : (onD r xs i s).o = (onD r ys j t).o ∧ (onD r xs i s).L = (onD r ys j t).L := by
      unfold onD
      rw [h1, h2, h0]
      cases due r t.o.frame <;> exact ⟨rfl, rfl⟩
    obtain ⟨a1, a2, a3⟩ := runD_alike (r := r) d (i + 1) (j + 1) _ _ e.1 e.2 (fun q hq => by
      have := h (q + 1) (by omega)
      rw [show i + (q + 1) = i + 1 + q by omega, show j + (q + 1) = j + 1 + q by omega] at this
      exact this)
    simp only [runD]
    rw [a3, e.1]
    exact ⟨a1, a2, rfl⟩
theorem runD_n {r : Int} {xs : List Int} {N : Nat} (hN : 1 ≤ N) : ∀ (d i : Nat) (s : Ds), s.L.length = N → (runD r xs i d s).1.L.length = N
  | 0, _, _, h => h
  | d + 1, i, _, h => runD_n hN d (i + 1) _ (onD_len hN h)
theorem runD_frame {r : Int} {xs : List Int} : ∀ (d i : Nat) (s : Ds), 0 ≤ s.o.frame → s.o.frame + d ≤ 1000000 → (runD r xs i d s).1.o.frame = s.o.frame + d
  | 0, _, _, _, _ => by simp [runD]
  | d + 1, i, s, h0, h1 => by
    have e : (onD r xs i s).o.frame = s.o.frame + 1 := by
      have : (onD r xs i s).o.frame = w64 (s.o.frame + 1) := by
        unfold onD
        cases due r s.o.frame <;> rfl
      rw [this]
      unfold w64
      rw [IntKind.wrap_i64]
      omega
    have ih := runD_frame (r := r) (xs := xs) d (i + 1) (onD r xs i s) (by omega) (by omega)
    simp only [runD]
    rw [ih, e]
    omega
section
variable {r u0 : Int} {N : Nat} {xs : List Int} {fr : Nat} {cuts L1 : List Int} {o1 : Ob} {en : Rs}
abbrev dA (r : Int) (xs : List Int) (N i : Nat) : Ds × List Int := runD r xs 0 i ⟨false, ob0 0, zs N⟩
abbrev stA (q : Nat) (r u0 : Int) (N : Nat) (xs : List Int) (fr : Nat) (cuts L1 : List Int) (o1 : Ob) (en : Rs) (at' : Nat) (n : Int) : St :=
  stRd q r u0 N fr N xs cuts (dA r xs N fr).2 o1 (L1.map int64) en at' n (dA r xs N at').1.o ((dA r xs N at').1.L.map int64)
theorem loop17_d {A : Type} {q : Nat} (hq : q = 24 ∨ q = 33) (r u0 y0 fr : Int) (N : Nat) (xs : List Int) (cuts want : List Int) (o1 : Ob) (L1 : List AV) (en : Rs) (at' n : Int) (o : Ob) (L : List AV) (K : Ex → St → Option A) :
    B17 (S17d (stopAt 10 [34] orc0)) (stRd q r u0 y0 fr N xs cuts want o1 L1 en at' n o L) K =
    bif decide (at' < fr) then lenT' fr cuts at' n (fun kk => roundTd r u0 y0 fr N xs cuts want o1 L1 en at' n o L kk K) else guardK (allS L && (allS L1 && true)) <| K (.exit 0) (stRd q r u0 y0 fr N xs cuts want o1 L1 en at' n o L) := by
  rcases hq with rfl | rfl
  · exact b17_d1 ..
  · exact b17_d2 ..
theorem round17d {q : Nat} (hq : q = 24 ∨ q = 33) (hN : 1 ≤ N) (hN' : N ≤ 100000) (hl : xs.length = fr) (hf : fr ≤ 4096) {at' n : Nat} (hlt : at' < fr) (hn : n ≤ 100000) : ∃ kk : Nat, at' + kk ≤ fr ∧ (100 < n → kk = fr - at') ∧ ∀ K : Ex → St → Option (Ex × St),
      B17 (S17d (stopAt 10 [34] orc0)) (stA q r u0 N xs fr cuts L1 o1 en at' (n : Int)) K = K .normal (stA 33 r u0 N xs fr cuts L1 o1 en (at' + kk) ((n + 1 : Nat) : Int)) := by
  obtain ⟨kk, h1, h2, h3⟩ := lenT_some (A := Ex × St) (n := n) (cuts := cuts) hlt hf
  refine ⟨kk, h1, h2, fun K => ?_⟩
  rw [loop17_d hq, decide_eq_true (by omega : (at' : Int) < (fr : Int)), cond_true, h3]
  have ew : w64 ((at' : Int) + (kk : Int)) = ((at' + kk : Nat) : Int) := by unfold w64; rw [IntKind.wrap_i64]; omega
  have en1 : w64 ((n : Int) + 1) = ((n + 1 : Nat) : Int) := by unfold w64; rw [IntKind.wrap_i64]; omega
  have hlen : at' + kk ≤ xs.length := by omega
  have hargs : ([.ptr (some (0, 0)), int64 (kk : Int), .fz [cutV xs (at' : Int) ((at' + kk : Nat) : Int)] 1 false 1] : List AV) = argU (kk : Nat) [cutL xs at' kk] := by
    rw [cutV_eq hlen]
    rfl
  have hsp : dA r xs N (at' + kk) = ((runD r xs at' kk (dA r xs N at').1).1, (dA r xs N at').2 ++ (runD r xs at' kk (dA r xs N at').1).2) := by
    have h := runD_split r xs at' kk 0 ⟨false, ob0 0, zs N⟩
    rw [Nat.zero_add] at h
    exact h
  have hsp2 : dA r xs N fr = ((runD r xs (at' + kk) (fr - (at' + kk)) (dA r xs N (at' + kk)).1).1, (dA r xs N (at' + kk)).2 ++ (runD r xs (at' + kk) (fr - (at' + kk)) (dA r xs N (at' + kk)).1).2) := by
    have h := runD_split r xs (at' + kk) (fr - (at' + kk)) 0 ⟨false, ob0 0, zs N⟩
    rw [show at' + kk + (fr - (at' + kk)) = fr by omega, Nat.zero_add] at h
    exact h
  have hLn : (dA r xs N at').1.L.length = N := runD_n hN _ _ _ (by simp)
  obtain ⟨g1, g2, g3⟩ := runD_alike (r := r) (xs := cutL xs at' kk) (ys := xs) kk 0 at' ⟨false, (dA r xs N at').1.o, (dA r xs N at').1.L⟩ (dA r xs N at').1 rfl rfl (fun q hq => cutL_get xs at' kk q hq)
  have hwant : cutL (dA r xs N fr).2 at' kk = (runD r (cutL xs at' kk) 0 kk ⟨false, (dA r xs N at').1.o, (dA r xs N at').1.L⟩).2 := by
    rw [g3]
    unfold cutL
    rw [hsp2, hsp]
    simp only
    rw [List.append_assoc, List.drop_append_of_le_length (by rw [runD_len]; omega), List.drop_eq_nil_of_le (by rw [runD_len]; omega), List.nil_append, List.take_append_of_le_length (by rw [runD_len]; omega), List.take_of_length_le (by rw [runD_len]; omega)]
  have hwl : at' + kk ≤ (dA r xs N fr).2.length := by rw [runD_len]; exact h1
  have hM : maxLen = 9223372036854775807 := rfl
  have hG : isSo (GD (argU (kk : Nat) [cutL xs at' kk]) (objD r u0 N (dA r xs N at').1.o N ((dA r xs N at').1.L.map int64))) = true := isSo_true ⟨r, u0, N, _, N, _, _, kk, rfl, rfl, hN, hN', hLn, by
    unfold cutL
    rw [List.length_take, List.length_drop]
    omega, by omega⟩
  have hGK : isSo (GKd [.ptr (some (0, 0))] (objD r u0 N (dA r xs N at').1.o N ((dA r xs N at').1.L.map int64))) = true := isSo_true ⟨r, u0, N, _, N, _, rfl, rfl, hN, hN', hLn⟩
  have e1 : (runD r (cutL xs at' kk) 0 kk ⟨false, (dA r xs N at').1.o, (dA r xs N at').1.L⟩).1.o = (dA r xs N (at' + kk)).1.o := by rw [g1, hsp]
  have e2 : (runD r (cutL xs at' kk) 0 kk ⟨false, (dA r xs N at').1.o, (dA r xs N at').1.L⟩).1.L = (dA r xs N (at' + kk)).1.L := by rw [g2, hsp]
  unfold roundTd
  simp only
  rw [ew, hargs, sD_eq, hGK, hG, cutT_eq hlen, cutT_eq hwl, cutV_eq hwl, hwant, isSo_true ⟨_, _, rfl, by rw [runD_len]; omega⟩, en1, e1, e2]
  simp only [gL, allS_ints, guardK, Bool.and_true, cond_true, cond_false, decide_true, Bool.not_true, beq_self_eq_true]
theorem loop17d (hN : 1 ≤ N) (hN' : N ≤ 100000) (hl : xs.length = fr) (hf : fr ≤ 4096) :
    ∀ (μ at' n Q q : Nat), (q = 24 ∨ q = 33) → at' ≤ fr → n ≤ 50000 - μ → (fr - at') + (102 - n) ≤ μ → μ ≤ 10000 → μ < Q →
      ∃ (n' : Int) (q' : Nat), (q' = 24 ∨ q' = 33) ∧ loopN (B17 (S17d (stopAt 10 [34] orc0))) Q (stA q r u0 N xs fr cuts L1 o1 en at' (n : Int)) pairE =
        some (.exit 0, stA q' r u0 N xs fr cuts L1 o1 en fr n') := by
  intro μ
  induction μ with
  | zero =>
    intro at' n Q q hq ha hn hμ _ hQ
    obtain ⟨Q, rfl⟩ : ∃ q, Q = q + 1 := ⟨Q - 1, by omega⟩
    have : at' = fr := by omega
    subst this
    rw [loopN_succ, loop17_d hq, decide_eq_false (by omega : ¬ (at' : Int) < (at' : Int))]
    refine ⟨(n : Int), q, hq, ?_⟩
    simp only [allS_ints, guardK, Bool.and_true, cond_true, cond_false]
    rfl
  | succ μ ih =>
    intro at' n Q q hq ha hn hμ h0 hQ
    obtain ⟨Q, rfl⟩ : ∃ q, Q = q + 1 := ⟨Q - 1, by omega⟩
    rcases Nat.lt_or_ge at' fr with hlt | hge
    rotate_left
    · have : at' = fr := by omega
      subst this
      rw [loopN_succ, loop17_d hq, decide_eq_false (by omega : ¬ (at' : Int) < (at' : Int))]
      refine ⟨(n : Int), q, hq, ?_⟩
      simp only [allS_ints, guardK, Bool.and_true, cond_true, cond_false]
      rfl
    obtain ⟨kk, h1, h2, h3⟩ := round17d (r := r) (u0 := u0) (cuts := cuts) (L1 := L1) (o1 := o1) (en := en) hq hN hN' hl hf hlt (by omega : n ≤ 100000)
    rw [loopN_succ, h3]
    refine ih (at' + kk) (n + 1) Q 33 (Or.inr rfl) h1 (by omega) ?_ (by omega) (by omega)
    rcases Nat.lt_or_ge 100 n with hb' | hb'
    · have := h2 hb'
      omega
    · omega
end
end Go.Proofs.Ythlmbnhelkbchaa
/- UnitRuns, a delay: the law's run. -/
namespace Go.Proofs.Ythlmbnhelkbchaa
open Go.Ev
set_option maxRecDepth 100000
abbrev uD (r u0 : Int) (N : Nat) : AV := unitV 11 r [u0] [(N : Int)]
noncomputable def resNd (r u0 : Int) (N : Nat) (Z : List AV) : ORes := ((.tup [.ptr (some (11, 0)), int64 0], [(11, .cells true (cellsD r u0 N (ob0 0) (.sl (some (12, 0)) N N true 1))), (12, .cells true Z)]), psNd)
noncomputable def S18d (r u0 : Int) (N : Nat) (Z : List AV) (S : Orc) : Orc := addF 18 (wkO (whenOb Try.prog scNd 18 0 [] [12] (fun a l => a = [uD r u0 N] ∧ l = []) (fun _ _ => resNd r u0 N Z))) (knowF 32 [uD r u0 N] (.tup [.agg (cellsR 11 r [u0] [(N : Int)] (rsD N)), int64 0]) S)
noncomputable abbrev argRd (r u0 : Int) (N : Nat) (fr : Int) (ls : List (List Int)) : List AV := argR 11 r [u0] [(N : Int)] (rsD N) fr ls
noncomputable def SEd (r u0 : Int) (N : Nat) (Z : List AV) (e fr : Int) (ls : List (List Int)) (S : Orc) : Orc := S18d r u0 N Z (knowOW Try.prog scD 19 2 [1] [1, 17] (fun a l => a = argU fr ls ∧ l = objD r u0 N (ob0 0) N (wkL Z)) (fun _ _ => ((errU e, grabB r u0 N (ob0 0) N (wkL Z)), psD 1)) (knowF 34 (argRd r u0 N fr ls) (resR 11 r [u0] [(N : Int)] (rsD N) (ints []) e) (O20 S)))
noncomputable def SGd (r u0 : Int) (N : Nat) (Z : List AV) (fr : Int) (ls : List (List Int)) (en : Rs) (want : List Int) (st0 s1 : St) (S : Orc) : Orc :=
  S18d r u0 N Z (knowF 34 (argRd r u0 N fr ls) (resR 11 r [u0] [(N : Int)] en (ints want) 0) (OD (OKd (O20 (knowLG Try.prog 10 17 N17 fl17 25 st0 (.exit 0) s1 S)))))
noncomputable abbrev new10d {A : Type} (r u0 : Int) (N : Nat) (x : Option A) : Option A := bif isSo ([uD r u0 N] = [uD r u0 N] ∧ ([] : List (Nat × Blk)) = []) then bif same [uD r u0 N] [uD r u0 N] then x else none else none
theorem l10d_e7 (r u0 : Int) (N : Nat) (Z : List AV) (ls : List (List Int)) (fr : Int) (cuts : List Int) : run10 (SL10 (uD r u0 N) ls false (SEd r u0 N Z 7 fr ls orc0)) (uD r u0 N) ls fr cuts =
    pre10 (uD r u0 N) ls fr cuts (new10d r u0 N <| guardK (allS (wkL Z) && true && true) <| bif isSo (argU fr ls = argU fr ls ∧ objD r u0 N (ob0 0) N (wkL Z) = objD r u0 N (ob0 0) N (wkL Z)) then bif same (argRd r u0 N fr ls) (argRd r u0 N fr ls) then bif isSo (is20 [ints [], ints []]) then some true else none else none else none) := by kernel_rfl
theorem l10d_e11 (r u0 : Int) (N : Nat) (Z : List AV) (ls : List (List Int)) (fr : Int) (cuts : List Int) : run10 (SL10 (uD r u0 N) ls false (SEd r u0 N Z 11 fr ls orc0)) (uD r u0 N) ls fr cuts =
    pre10 (uD r u0 N) ls fr cuts (new10d r u0 N <| guardK (allS (wkL Z) && true && true) <| bif isSo (argU fr ls = argU fr ls ∧ objD r u0 N (ob0 0) N (wkL Z) = objD r u0 N (ob0 0) N (wkL Z)) then bif same (argRd r u0 N fr ls) (argRd r u0 N fr ls) then bif isSo (is20 [ints [], ints []]) then some true else none else none else none) := by kernel_rfl
noncomputable def goodT (r u0 : Int) (N : Nat) (Z : List AV) (xs : List Int) (fr : Int) (cuts want : List Int) (en : Rs) (st0 : St) (fin : Int) : Option Bool :=
  let p := sD (argU fr [xs]) (objD r u0 N (ob0 0) N (wkL Z))
  new10d r u0 N <| guardK (allS (wkL Z) && true && true) <| bif isSo (GD (argU fr [xs]) (objD r u0 N (ob0 0) N (wkL Z))) then bif same (argRd r u0 N fr [xs]) (argRd r u0 N fr [xs]) then
    bif isSo (is20 [ints p.2, ints want]) then bif !(decide (rowOf (ints p.2) = rowOf (ints want))) then none else
      E en.frame <| bif !(p.1.o.frame == en.frame) then none else
        bif isSo ([uD r u0 N] = [uD r u0 N] ∧ ([] : List (Nat × Blk)) = []) then guardK (allS (wkL Z) && (allS (p.1.L.map int64) && true)) <| (bif sameSt (stRd 24 r u0 N fr N xs cuts want p.1.o (p.1.L.map int64) en 0 0 (ob0 0) (wkL Z)) st0 then some (fin == fr) else none) else none
    else none
  else none else none
theorem l10d_good1 (r u0 : Int) (N : Nat) (Z : List AV) (xs : List Int) (fr : Int) (cuts want : List Int) (en : Rs) (st0 : St) (at' n : Int) (o1 o : Ob) (L1 L : List AV) :
    run10 (SL10 (uD r u0 N) [xs] false (SGd r u0 N Z fr [xs] en want st0 (stRd 24 r u0 N fr N xs cuts want o1 L1 en at' n o L) (stopAt 10 [12] orc0))) (uD r u0 N) [xs] fr cuts = pre10 (uD r u0 N) [xs] fr cuts (goodT r u0 N Z xs fr cuts want en st0 o.frame) := by kernel_rfl
theorem l10d_good2 (r u0 : Int) (N : Nat) (Z : List AV) (xs : List Int) (fr : Int) (cuts want : List Int) (en : Rs) (st0 : St) (at' n : Int) (o1 o : Ob) (L1 L : List AV) :
    run10 (SL10 (uD r u0 N) [xs] false (SGd r u0 N Z fr [xs] en want st0 (stRd 33 r u0 N fr N xs cuts want o1 L1 en at' n o L) (stopAt 10 [12] orc0))) (uD r u0 N) [xs] fr cuts = pre10 (uD r u0 N) [xs] fr cuts (goodT r u0 N Z xs fr cuts want en st0 o.frame) := by kernel_rfl
end Go.Proofs.Ythlmbnhelkbchaa
/- UnitRuns, a delay: the law. -/
namespace Go.Proofs.Ythlmbnhelkbchaa
open Go.Ev
set_option maxRecDepth 100000
theorem e7d (r u0 y0 n : Int) (o : Ob) (N : Nat) (L : List AV) (ls : List (List Int)) : run19d (stopAt 19 [4] orc0) r u0 y0 o N L n ls = rangeT n (errD r u0 y0 o N L 7) none := by kernel_rfl
theorem ea_11 (r u0 y0 n : Int) (o : Ob) (N : Nat) (L : List AV) (ls : List (List Int)) : run19d (stopAt 53 [0, 1, 2, 3] (OId orc0)) r u0 y0 o N L n ls = rangeT n (errD r u0 y0 o N L 7) (inD r u0 y0 o N L <| bif (ls.length : Int) == 1 then none else errD r u0 y0 o N L 11) := by kernel_rfl
theorem eb_11 (r u0 y0 n : Int) (o : Ob) (N : Nat) (L : List AV) (xs : List Int) : run19d (stopAt 19 [5] (OId orc0)) r u0 y0 o N L n [xs] = rangeT n (errD r u0 y0 o N L 7) (inD r u0 y0 o N L <| sizeT n (errD r u0 y0 o N L 11) none [xs]) := by kernel_rfl
theorem eaR_11 (r u0 y0 n : Int) (o : Rs) (ls : List (List Int)) : run34 (stopAt 34 [5] orc0) 11 r [u0] [y0] o n ls = rangeRT n (some (resR 11 r [u0] [y0] o (ints []) 7)) (bif !((ls.length : Int) == 1) then some (resR 11 r [u0] [y0] o (ints []) 11) else none) := by kernel_rfl
theorem ebR_11 (r u0 y0 n : Int) (o : Rs) (xs : List Int) : run34 (stopAt 34 [10] orc0) 11 r [u0] [y0] o n [xs] = rangeRT n (some (resR 11 r [u0] [y0] o (ints []) 7)) (sizeRT n (some (resR 11 r [u0] [y0] o (ints []) 11)) none [xs]) := by kernel_rfl
section
variable {r u0 : Int} {N : Nat}
abbrev factE (r u0 : Int) (N : Nat) (e n : Int) (ls : List (List Int)) : Prop :=
  OFact Try.prog tb scD 19 2 [1, 17] (argU n ls) (objD r u0 N (ob0 0) N ((zs N).map int64)) (errU e) (grabB r u0 N (ob0 0) N ((zs N).map int64)) (psD 1) ∧ FFact Try.prog tb 34 (argRd r u0 N n ls) (resR 11 r [u0] [(N : Int)] (rsD N) (ints []) e)
theorem errD_some (r u0 y0 : Int) (o : Ob) (N : Nat) (L : List Int) (e : Int) : errD r u0 y0 o N (L.map int64) e = some ((errU e, grabB r u0 y0 o N (L.map int64)), psD 1) := by
  unfold errD
  rw [allS_ints]
  rfl
theorem inD_some (r u0 y0 : Int) (o : Ob) (N : Nat) (L : List Int) (x : Option ORes) : inD r u0 y0 o N (L.map int64) x = x := by
  unfold inD
  rw [allS_ints, isSo_true ⟨r, u0, y0, o, N, _, rfl, rfl, allS_ints L⟩]
  rfl
theorem bad7d (ls : List (List Int)) {n : Int} (h : n < 0 ∨ n > 4096) : factE r u0 N 7 n ls := by
  refine ⟨⟨_, stopAt_ok ok0, (e7d r u0 N n (ob0 0) N _ ls).trans ?_⟩, ar34 _ _ _ _ _ _ _, _, stopAt_ok ok0, (er7R 11 r n [u0] [(N : Int)] (rsD N) ls).trans ?_⟩
  · rw [errD_some]
    unfold rangeT
    rcases h with h | h
    · rw [decide_eq_false (by omega : ¬ n ≥ 0)]; rfl
    · rw [decide_eq_true (by omega : n ≥ 0), decide_eq_false (by omega : ¬ n ≤ 4096)]; rfl
  · unfold rangeRT
    rcases h with h | h
    · rw [decide_eq_true h]; rfl
    · rw [decide_eq_false (by omega : ¬ n < 0), decide_eq_true h]; rfl
theorem bad11d (ls : List (List Int)) {n : Nat} (hn : n ≤ 4096) (hno : ¬ (ls.length = 1 ∧ ∀ l ∈ ls, l.length = n)) : factE r u0 N 11 n ls := by
  by_cases hm : ls.length = 1
  · have hl : ¬ ∀ l ∈ ls, l.length = n := fun h => hno ⟨hm, h⟩
    obtain ⟨xs, rfl⟩ := len1 hm
    refine ⟨⟨_, stopAt_ok (OId_ok ok0), (eb_11 r u0 N n (ob0 0) N _ xs).trans ?_⟩, ar34 _ _ _ _ _ _ _, _, stopAt_ok ok0, (ebR_11 r u0 N n (rsD N) xs).trans ?_⟩
    · rw [rangeT_ok hn, inD_some, sizeT_bad _ _ _ hl, errD_some]
    · rw [rangeRT_ok hn, sizeRT_bad _ _ _ hl]
  · refine ⟨⟨_, stopAt_ok (OId_ok ok0), (ea_11 r u0 N n (ob0 0) N _ ls).trans ?_⟩, ar34 _ _ _ _ _ _ _, _, stopAt_ok ok0, (eaR_11 r u0 N n (rsD N) ls).trans ?_⟩
    · rw [rangeT_ok hn, inD_some, show ((ls.length : Int) == 1) = false from by rw [beq_eq_false_iff_ne]; omega, errD_some]
      rfl
    · rw [rangeRT_ok hn, show ((ls.length : Int) == 1) = false from by rw [beq_eq_false_iff_ne]; omega]
      rfl
abbrev ZN (N : Nat) : List AV := (zs N).map int64
theorem S18d_ok (hN : 1 ≤ N) (hN' : N ≤ 100000) (h29 : F 29 [uD r u0 N] (.bool true)) (h13 : F 13 [uD r u0 N] (.bool true)) {S : Orc} (hS : Ok S) : Ok (S18d r u0 N (ZN N) S) :=
  addF_ok (fnSim_wk (fnSim_whenOb tbOk fun a l h => by obtain ⟨rfl, rfl⟩ := h; exact n18d hN hN' h29)) (natF_wk natF_whenOb) (knowF_ok tbOk (n32d hN' h13) hS)
theorem SEd_ok (hN : 1 ≤ N) (hN' : N ≤ 100000) (h29 : F 29 [uD r u0 N] (.bool true)) (h13 : F 13 [uD r u0 N] (.bool true)) {e n : Int} {ls : List (List Int)} (h : factE r u0 N e n ls) : Ok (SEd r u0 N (ZN N) e n ls orc0) := by
  refine S18d_ok hN hN' h29 h13 (knowOW_ok tbOk (fun a l hal => ?_) (knowF_ok tbOk h.2 (O20_ok ok0)))
  obtain ⟨rfl, rfl⟩ := hal
  rw [wkL_ints]
  exact h.1
theorem S17d_ok {S : Orc} (h : Ok S) : Ok (S17d S) := OD_ok (OKd_ok (O20_ok (O27_ok h)))
theorem law_11 (hr : 1 ≤ r ∧ r ≤ 3) (hN : 1 ≤ N) (hN' : N ≤ 100000) (h29 : F 29 [uD r u0 N] (.bool true)) (h13 : F 13 [uD r u0 N] (.bool true))
    (ls : List (List Int)) (fr : Int) (cuts : List Int) : ∃ S, Ok S ∧ run10 S (uD r u0 N) ls fr cuts = some true := by
  cases hlong : longB [u0] [(N : Int)] ls with
  | true => exact ⟨_, SL10_ok hlong ok0, by rw [l10_long, same_self, same_self]; rfl⟩
  | false =>
  by_cases hout : (fr > 500 ∧ fr ≤ 4096) ∨ cuts.length > 30
  · exact ⟨_, SL10_ok hlong (stopAt_ok ok0), (l10_pre 11 r [u0] [(N : Int)] ls fr cuts).trans (pre10_out hout _)⟩
  have hn10 : ∀ x : Option Bool, new10d r u0 N x = x := fun x => by unfold new10d; rw [isSo_true ⟨rfl, rfl⟩, same_self]; rfl
  have h20 : isSo (is20 [ints [], ints []]) = true := isSo_true ⟨_, _, rfl, by simp⟩
  by_cases h7 : fr < 0 ∨ fr > 4096
  · refine ⟨_, SL10_ok hlong (SEd_ok hN hN' h29 h13 (bad7d ls h7)), (l10d_e7 r u0 N (ZN N) ls fr cuts).trans (pre10_in _ _ _ _ ?_)⟩
    rw [hn10, wkL_ints, allS_ints, isSo_true ⟨rfl, rfl⟩, same_self, h20]
    rfl
  obtain ⟨n, rfl⟩ : ∃ n : Nat, fr = n := ⟨fr.toNat, by omega⟩
  by_cases hfit : ls.length = 1 ∧ ∀ l ∈ ls, l.length = n
  rotate_left
  · refine ⟨_, SL10_ok hlong (SEd_ok hN hN' h29 h13 (bad11d ls (by omega) hfit)), (l10d_e11 r u0 N (ZN N) ls n cuts).trans (pre10_in _ _ _ _ ?_)⟩
    rw [hn10, wkL_ints, allS_ints, isSo_true ⟨rfl, rfl⟩, same_self, h20]
    rfl
  obtain ⟨hm, hl⟩ := hfit
  obtain ⟨xs, rfl⟩ := len1 hm
  have hxs : xs.length = n := hl _ List.mem_cons_self
  have hr' : r = 1 ∨ r = 2 ∨ r = 3 := by omega
  have hM : maxLen = 9223372036854775807 := rfl
  have hrd : rounds = 100000000000000000000 := rfl
  obtain ⟨s1, s2⟩ := runD_same (r := r) (xs := xs) hr' hN n 0 ⟨false, ob0 0, zs N⟩ (rsD N) ⟨rfl, by simp, rfl, rfl⟩
  have s3 : (dA r xs N n).1.o.frame = (n : Int) := by
    have h := runD_frame (r := r) (xs := xs) n 0 ⟨false, ob0 0, zs N⟩ (by show (0 : Int) ≤ 0; omega) (by show (0 : Int) + n ≤ _; omega)
    rw [h]
    show (0 : Int) + n = n
    omega
  have fR := runR_fact (OT_ok ok0) (rdR_11 (r := r) (u0 := u0) (y0 := (N : Int)) hN hN' hxs) (rnR_11 r u0 N xs) (by omega) hl (o := rsD N) (by simp [rsD])
  rw [← s1] at fR
  generalize hen : (runR r (H11 xs) 0 n (rsD N)).1 = en at s2 fR
  obtain ⟨n', q', hq', hloop⟩ := loop17d (r := r) (u0 := u0) (N := N) (xs := xs) (fr := n) (cuts := cuts) (L1 := (dA r xs N n).1.L) (o1 := (dA r xs N n).1.o) (en := en) hN hN' hxs (by omega) (n + 102) 0 0 rounds 24 (Or.inl rfl) (by omega) (by omega) (by omega) (by omega) (by omega)
  have hfact : LFact Try.prog tb 10 17 25 (stA 24 r u0 N xs n cuts (dA r xs N n).1.L (dA r xs N n).1.o en 0 0) (.exit 0) (stA q' r u0 N xs n cuts (dA r xs N n).1.L (dA r xs N n).1.o en n n') := LFact.flatG (S17d_ok (stopAt_ok ok0)) hloop
  have hS := SL10_ok (k := 11) (r := r) hlong (S18d_ok hN hN' h29 h13 (knowF_ok tbOk fR (OD_ok (OKd_ok (O20_ok (knowLG_ok tbOk (F := fl17) hfact (stopAt_ok (f := 10) (l := [12]) ok0) (ep := e10) rfl norm17r count17r))))))
  have fin : pre10 (uD r u0 N) [xs] n cuts (goodT r u0 N (ZN N) xs n cuts (dA r xs N n).2 en (stA 24 r u0 N xs n cuts (dA r xs N n).1.L (dA r xs N n).1.o en 0 0) (dA r xs N n).1.o.frame) = some true := by
    refine pre10_in _ _ _ _ ?_
    unfold goodT
    simp only
    have hG : isSo (GD (argU (n : Nat) [xs]) (objD r u0 N (ob0 0) N ((zs N).map int64))) = true := isSo_true ⟨r, u0, N, _, N, _, _, n, rfl, rfl, hN, hN', by simp, hxs, by omega⟩
    have hst : sameSt (stRd 24 r u0 N n N xs cuts (dA r xs N n).2 (dA r xs N n).1.o ((dA r xs N n).1.L.map int64) en 0 0 (ob0 0) ((zs N).map int64)) (stA 24 r u0 N xs n cuts (dA r xs N n).1.L (dA r xs N n).1.o en 0 0) = true := sameSt_self _
    rw [hn10, wkL_ints, allS_ints, hG, same_self, sD_eq, isSo_true ⟨_, _, rfl, by rw [runD_len]; omega⟩, E_eq, isSo_true ⟨trivial, trivial⟩, allS_ints, hst, ← s2.f, s3]
    simp only [guardK, Bool.and_true, cond_true, cond_false, decide_true, Bool.not_true, beq_self_eq_true]
  rcases hq' with rfl | rfl
  · exact ⟨_, hS, (l10d_good1 r u0 N (ZN N) xs n cuts (dA r xs N n).2 en _ n n' (dA r xs N n).1.o (dA r xs N n).1.o ((dA r xs N n).1.L.map int64) ((dA r xs N n).1.L.map int64)).trans fin⟩
  · exact ⟨_, hS, (l10d_good2 r u0 N (ZN N) xs n cuts (dA r xs N n).2 en _ n n' (dA r xs N n).1.o (dA r xs N n).1.o ((dA r xs N n).1.L.map int64) ((dA r xs N n).1.L.map int64)).trans fin⟩
end
end Go.Proofs.Ythlmbnhelkbchaa
/- UnitRuns: the law, whatever the unit. -/
namespace Go.Proofs.Ythlmbnhelkbchaa
open Go.Ev
set_option maxRecDepth 100000
theorem unit_arg {H : Type} {k : Nat} {d : DataW H} (w : WT Try.prog k 26 d) : ∃ n r xs ys, dVal Try.prog k 26 d = unitV n r xs ys := by
  obtain ⟨k', ds, h1, h2, h3⟩ := WT.struct (l := [(0, 3), (1, 3), (2, 22), (3, 22)]) (by kernel_rfl) w
  obtain ⟨d0, d1, d2, d3, rfl⟩ : ∃ d0 d1 d2 d3, ds = [d0, d1, d2, d3] := by
    rcases ds with _ | ⟨d0, _ | ⟨d1, _ | ⟨d2, _ | ⟨d3, _ | ⟨_, _⟩⟩⟩⟩⟩ <;> simp at h1
    exact ⟨d0, d1, d2, d3, rfl⟩
  obtain ⟨n, e0, _⟩ := WT.int (j := .i64) (by kernel_rfl) (h2 0 _ _ rfl rfl)
  obtain ⟨r, e1, _⟩ := WT.int (j := .i64) (by kernel_rfl) (h2 1 _ _ rfl rfl)
  obtain ⟨xs, e2, _⟩ := WT.ints (e := 3) (by kernel_rfl) (by kernel_rfl) (by kernel_rfl) (h2 2 _ _ rfl rfl)
  obtain ⟨ys, e3, _⟩ := WT.ints (e := 3) (by kernel_rfl) (by kernel_rfl) (by kernel_rfl) (h2 3 _ _ rfl rfl)
  refine ⟨n, r, xs, ys, h3.trans ?_⟩
  have hc : Try.prog.cellsOf 26 = 4 := by kernel_rfl
  simp only [List.zip_cons_cons, List.zip_nil_right, List.map_cons, List.map_nil]
  simp only at e0 e1 e2 e3
  rw [e0, e1, e2, e3, hc]
  rfl
theorem sh_out {k : Int} (r : Int) (xs ys : List Int) (ho : Out k) : F 29 [unitV k r xs ys] (.bool false) ∧ F 13 [unitV k r xs ys] (.bool false) :=
  ⟨.of (outO_ok ho) rfl fun h => by have := o29_run k r xs ys h; rw [same_self] at this; exact this, .of (know_ok tbOk (ins26_out ho) ok0) rfl fun h => by have := o13_run k r xs ys h; rw [same_self] at this; exact this⟩
theorem sh_11 (r : Int) (xs ys : List Int) : ∃ v, F 29 [unitV 11 r xs ys] (.bool v) ∧ F 13 [unitV 11 r xs ys] (.bool v) ∧ (v = true → ∃ x0 y0, xs = [x0] ∧ ys = [y0] ∧ (1 ≤ r ∧ r ≤ 3) ∧ 1 ≤ y0 ∧ y0 ≤ 2000) := by
  by_cases hm : xs.length = 1 ∧ ys.length = 1
  · obtain ⟨hx, hy⟩ := hm
    rcases xs with _ | ⟨x0, _ | ⟨_, _⟩⟩ <;> simp at hx
    rcases ys with _ | ⟨y0, _ | ⟨_, _⟩⟩ <;> simp at hy
    refine ⟨_, .of ok0 rfl fun h => (v29_11 r x0 y0 h).trans (ch_eq _ _), .of ok0 rfl fun h => (v13_11 r x0 y0 h).trans ((ch_eq _ _).trans ?_), fun h => ?_⟩
    · congr 2
      rw [Bool.eq_iff_iff]
      simp only [allc, Bool.and_true, Bool.and_eq_true, Bool.not_eq_true', decide_eq_false_iff_not, Bool.not_not, decide_eq_true_eq, Int.not_lt]
      omega
    · simp only [allc, Bool.and_true, Bool.and_eq_true, Bool.not_not, decide_eq_true_eq] at h
      exact ⟨x0, y0, rfl, rfl, by omega, by omega, by omega⟩
  · refine shape_noV (.of (stopAt_ok ok0) rfl fun h => (m29_11 r xs ys h).trans (ch_none _ ?_)) (.of (stopAt_ok ok0) rfl fun h => (m13_11 r xs ys h).trans (ch_none _ ?_)) _ <;>
      (rw [← Bool.not_eq_true]
       simp only [allc, Bool.and_true, Bool.and_eq_true, Bool.not_eq_true', decide_eq_false_iff_not, Bool.not_not, decide_eq_true_eq, beq_iff_eq]
       omega)
theorem law_noU {k r : Int} {xs ys : List Int} (h29 : F 29 [unitV k r xs ys] (.bool false)) (h13 : F 13 [unitV k r xs ys] (.bool false)) (ls : List (List Int)) (fr : Int) (cuts : List Int) : ∃ S, Ok S ∧ run10 S (unitV k r xs ys) ls fr cuts = some true := by
  cases hlong : longB xs ys ls with
  | true => exact ⟨_, SL10_ok hlong ok0, by rw [l10_long, same_self, same_self]; rfl⟩
  | false =>
  have f18 : OFact Try.prog tb scN 18 0 [] [unitV k r xs ys] [] (.tup [.ptr none, int64 1]) [] [(none, tyPt Try.prog 37)] := ⟨_, knowC_ok tbOk (h29.now (unit_nowV 29 (by kernel_rfl) _ _ _ _)) ok0, (n18_no k r xs ys).trans (Us_eq _ _)⟩
  have f32 : FFact Try.prog tb 32 [unitV k r xs ys] (.tup [.agg (cellsR 0 0 [] [] ⟨0, 0, 0, 0, 0, false, 0, []⟩), int64 1]) := ⟨unit_nowV 32 (by kernel_rfl) _ _ _ _, _, knowC_ok tbOk (h13.now (unit_nowV 13 (by kernel_rfl) _ _ _ _)) ok0, (n32_no k r xs ys).trans (Us_eq _ _)⟩
  refine ⟨_, SL10_ok hlong (knowO_ok tbOk f18 (knowF_ok tbOk f32 ok0)), (l10_no k r xs ys ls fr cuts).trans (pre10_in _ _ _ _ ?_)⟩
  rw [isSo_true ⟨rfl, rfl⟩, same_self]
  rfl
theorem law_U (k r : Int) (xs ys : List Int) (ls : List (List Int)) (fr : Int) (cuts : List Int) : ∃ S, Ok S ∧ run10 S (unitV k r xs ys) ls fr cuts = some true := by
  by_cases ho : Out k
  · obtain ⟨f29, f13⟩ := sh_out r xs ys ho
    exact law_noU f29 f13 ls fr cuts
  have e7 : ∀ (k r : Int) (ui ua : List Int) (o : Ob) (n : Int) (ls : List (List Int)), run19 (stopAt 19 [4] orc0) k r ui ua o n ls = rangeT n (rU k r ui ua (errU 7) o) none := fun k r ui ua o n ls => er7 k r n ui ua o ls
  have e7R : ∀ (k r : Int) (ui ua : List Int) (s : Rs) (n : Int) (ls : List (List Int)), run34 (stopAt 34 [3] orc0) k r ui ua s n ls = rangeRT n (some (resR k r ui ua s (ints []) 7)) none := fun k r ui ua s n ls => er7R k r n ui ua s ls
  have a34 : ∀ (k r : Int) (ui ua : List Int) (s : Rs) (n : Int) (ls : List (List Int)), vwArgs Try.prog [] none0 (parsOf Try.prog 34) (argR k r ui ua s n ls) = argR k r ui ua s n ls := fun k r ui ua s n ls => ar34 k r n ui ua s ls
  have : k = 1 ∨ k = 2 ∨ k = 3 ∨ k = 4 ∨ k = 5 ∨ k = 6 ∨ k = 7 ∨ k = 8 ∨ k = 9 ∨ k = 10 ∨ k = 11 ∨ k = 12 ∨ k = 13 ∨ k = 14 ∨ k = 15 := by
    unfold Out at ho
    omega
  rcases this with rfl | rfl | rfl | rfl | rfl | rfl | rfl | rfl | rfl | rfl | rfl | rfl | rfl | rfl | rfl
  · obtain ⟨v, f29, f13, hs⟩ := sh_1 r xs ys
    cases v with
    | false => exact law_noU f29 f13 ls fr cuts
    | true =>
      obtain ⟨u0, rfl, rfl, hr⟩ := hs rfl
      exact law_kind (kd_1 hr f29 f13) (e7 _ _ _ _) (e7R _ _ _ _) (a34 _ _ _ _) ls fr cuts
  · obtain ⟨v, f29, f13, hs⟩ := sh_2 r xs ys
    cases v with
    | false => exact law_noU f29 f13 ls fr cuts
    | true =>
      obtain ⟨u0, u1, rfl, rfl, hr⟩ := hs rfl
      exact law_kind (kd_2 hr f29 f13) (e7 _ _ _ _) (e7R _ _ _ _) (a34 _ _ _ _) ls fr cuts
  · obtain ⟨v, f29, f13, hs⟩ := sh_3 r xs ys
    cases v with
    | false => exact law_noU f29 f13 ls fr cuts
    | true =>
      obtain ⟨u0, rfl, rfl, hr⟩ := hs rfl
      exact law_kind (kd_3 hr f29 f13) (e7 _ _ _ _) (e7R _ _ _ _) (a34 _ _ _ _) ls fr cuts
  · obtain ⟨v, f29, f13, hs⟩ := sh_4 r xs ys
    cases v with
    | false => exact law_noU f29 f13 ls fr cuts
    | true =>
      obtain ⟨y0, rfl, rfl, hr⟩ := hs rfl
      exact law_kind (kd_4 hr f29 f13) (e7 _ _ _ _) (e7R _ _ _ _) (a34 _ _ _ _) ls fr cuts
  · obtain ⟨v, f29, f13, hs⟩ := sh_5 r xs ys
    cases v with
    | false => exact law_noU f29 f13 ls fr cuts
    | true =>
      obtain ⟨y0, y1, y2, rfl, rfl, hr, hb⟩ := hs rfl
      exact law_kind (kd_5 hr hb f29 f13) (e7 _ _ _ _) (e7R _ _ _ _) (a34 _ _ _ _) ls fr cuts
  · obtain ⟨v, f29, f13, hs⟩ := sh_6 r xs ys
    cases v with
    | false => exact law_noU f29 f13 ls fr cuts
    | true =>
      obtain ⟨u0, y0, y1, y2, y3, rfl, rfl, hr, hb⟩ := hs rfl
      exact law_kind (kd_6 hr hb f29 f13) (e7 _ _ _ _) (e7R _ _ _ _) (a34 _ _ _ _) ls fr cuts
  · obtain ⟨v, f29, f13, hs⟩ := sh_7 r xs ys
    cases v with
    | false => exact law_noU f29 f13 ls fr cuts
    | true =>
      obtain ⟨u0, u1, rfl, rfl, hr⟩ := hs rfl
      exact law_kind (kd_7 hr f29 f13) (e7 _ _ _ _) (e7R _ _ _ _) (a34 _ _ _ _) ls fr cuts
  · obtain ⟨v, f29, f13, hs⟩ := sh_8 r xs ys
    cases v with
    | false => exact law_noU f29 f13 ls fr cuts
    | true =>
      obtain ⟨u0, u1, rfl, rfl, hr⟩ := hs rfl
      exact law_kind (kd_8 hr f29 f13) (e7 _ _ _ _) (e7R _ _ _ _) (a34 _ _ _ _) ls fr cuts
  · obtain ⟨v, f29, f13, hs⟩ := sh_9 r xs ys
    cases v with
    | false => exact law_noU f29 f13 ls fr cuts
    | true =>
      obtain ⟨u0, u1, rfl, rfl, hr⟩ := hs rfl
      exact law_kind (kd_9 hr f29 f13) (e7 _ _ _ _) (e7R _ _ _ _) (a34 _ _ _ _) ls fr cuts
  · obtain ⟨v, f29, f13, hs⟩ := sh_10 r xs ys
    cases v with
    | false => exact law_noU f29 f13 ls fr cuts
    | true =>
      obtain ⟨u0, u1, rfl, rfl, hr⟩ := hs rfl
      exact law_kind (kd_10 hr f29 f13) (e7 _ _ _ _) (e7R _ _ _ _) (a34 _ _ _ _) ls fr cuts
  · obtain ⟨v, f29, f13, hs⟩ := sh_11 r xs ys
    cases v with
    | false => exact law_noU f29 f13 ls fr cuts
    | true =>
      obtain ⟨x0, y0, rfl, rfl, hr, h0, h1⟩ := hs rfl
      obtain ⟨N, rfl⟩ : ∃ N : Nat, y0 = N := ⟨y0.toNat, by omega⟩
      exact law_11 hr (by omega) (by omega) f29 f13 ls fr cuts
  · obtain ⟨v, f29, f13, hs⟩ := sh_12 r xs ys
    cases v with
    | false => exact law_noU f29 f13 ls fr cuts
    | true =>
      obtain ⟨y0, rfl, rfl, hr⟩ := hs rfl
      exact law_kind (kd_12 hr f29 f13) (e7 _ _ _ _) (e7R _ _ _ _) (a34 _ _ _ _) ls fr cuts
  · obtain ⟨v, f29, f13, hs⟩ := sh_13 r xs ys
    cases v with
    | false => exact law_noU f29 f13 ls fr cuts
    | true =>
      obtain ⟨u0, y0, rfl, rfl, hr⟩ := hs rfl
      exact law_kind (kd_13 hr f29 f13) (e7 _ _ _ _) (e7R _ _ _ _) (a34 _ _ _ _) ls fr cuts
  · obtain ⟨v, f29, f13, hs⟩ := sh_14 r xs ys
    cases v with
    | false => exact law_noU f29 f13 ls fr cuts
    | true =>
      obtain ⟨y0, rfl, rfl, hr⟩ := hs rfl
      exact law_kind (kd_14 hr f29 f13) (e7 _ _ _ _) (e7R _ _ _ _) (a34 _ _ _ _) ls fr cuts
  · obtain ⟨v, f29, f13, hs⟩ := sh_15 r xs ys
    cases v with
    | false => exact law_noU f29 f13 ls fr cuts
    | true =>
      obtain ⟨y0, rfl, rfl, hr⟩ := hs rfl
      exact law_kind (kd_15 hr f29 f13) (e7 _ _ _ _) (e7R _ _ _ _) (a34 _ _ _ _) ls fr cuts
theorem law36 {H : Type} {k0 k1 k2 k3 : Nat} {d0 d1 d2 d3 : DataW H} (w0 : WT Try.prog k0 26 d0) (w1 : WT Try.prog k1 36 d1) (w2 : WT Try.prog k2 3 d2) (w3 : WT Try.prog k3 22 d3) :
    ∃ S, Ok S ∧ evCall Try.prog S tb 100 Bool (.fn 10) [dVal Try.prog k0 26 d0, dVal Try.prog k1 36 d1, dVal Try.prog k2 3 d2, dVal Try.prog k3 22 d3] ⟨fun _ => none, 0⟩ .off done = some true := by
  obtain ⟨k, r, xs, ys, e0⟩ := unit_arg w0
  obtain ⟨ls, e1, _⟩ := WT.vrows (e := 22) (f := 3) (by kernel_rfl) (by kernel_rfl) (by kernel_rfl) (by kernel_rfl) (by kernel_rfl) w1
  obtain ⟨fr, e2, _⟩ := WT.vint (by kernel_rfl) w2
  obtain ⟨cuts, e3, _⟩ := WT.vints (e := 3) (by kernel_rfl) (by kernel_rfl) (by kernel_rfl) w3
  rw [e0, e1, e2, e3]
  exact law_U k r xs ys ls fr cuts
end Go.Proofs.Ythlmbnhelkbchaa
