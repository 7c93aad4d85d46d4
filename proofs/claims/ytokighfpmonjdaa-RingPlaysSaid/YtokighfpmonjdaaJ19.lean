/- A ring: New, and the document's. -/
import Derived.Test.YtokighfpmonjdaaJ18
namespace Go.Proofs.Ytokighfpmonjdaa
open Go.Ev
set_option maxRecDepth 100000
abbrev mkN (n : Int) : Bool := decide (0 ≤ n) && decide (n ≤ n) && decide (n ≤ (limit : Int)) && decide ((8 : Int) * n ≤ (limit : Int))
def cells14 (ch : Int) (fv : AV) : List AV := [int64 ch, fv, int64 0, int64 0, .bool false, int64 0, int64 0, int64 0, int64 0, .bool false, int64 0, int64 0]
def st14 (n ch first i : Int) (fv : AV) (l : List (Nat × Blk)) : St := ⟨[.dead, int64 ch, int64 first, .dead, .dead, .dead, .dead, .dead, .ptr (some (0, 0))] ++ repA .dead 19 ++ [int64 n, int64 i] ++ repA .dead 38, mkHeap (l ++ [(0, .cells true (cells14 ch fv))]) 9, [], .off⟩
abbrev R0 (ch : Int) : List AV := repL [int64 0] ch.toNat
abbrev row0 (ch : Int) : AV := .fz (fixLen (ch.toNat * 1) (dropA (R0 ch) 0)) ch.toNat false 1
abbrev fr14 (ch : Int) : List (Nat × List AV) := [(15, R0 ch)]
def cs14 (ch : Int) (cs : List AV) (m : Nat) : List AV := appA (takeA (dropA cs 0) ((m + 1) * 1)) [.sl (some (15, 0)) ch.toNat ch.toNat true 1]
def N14 : Norm := ⟨[1, 2, 6, 7, 8, 28, 29], [(8, [1])]⟩
theorem norm14 : loopN0 tb 14 5 = some N14 := by kernel_rfl
def scNg : Sc := ⟨[], [(0, [1])]⟩
noncomputable def psNg : List (Option Nat × Option TypeId) := [(some 0, tyPt Try.prog 30), (some 8, some 33)]
noncomputable abbrev run14 (S : Orc) (n ch first : Int) : Option ORes := evCall Try.prog S tb 100 ORes (.fn 14) [int64 n, int64 ch, int64 first] (mkHeap [] 0) .off (objK Try.prog scNg 14 0 [8] [int64 n, int64 ch, int64 first])
noncomputable def S14 (n first : Int) (a b : Bool) (S : Orc) : Orc := know 37 [int64 n] (.bool a) (know 34 [int64 first] (.bool b) S)
def g0 (ch first : Int) : Rg := ⟨ch, first, first, false, 0, 0, first, first, false, 0, 0⟩
noncomputable def bad14 : Option ORes := some ((.tup [.ptr none, int64 7], []), [(none, tyPt Try.prog 30), (none, none)])
noncomputable def pre14 (n ch first : Int) (a b : Bool) (bad ok : Option ORes) : Option ORes := bif same [int64 n] [int64 n] then bif !a then bad else bif decide (ch < 1) then bad else bif decide (ch > 8) then bad else bif same [int64 first] [int64 first] then bif !b then bad else ok else none else none
theorem count14 : Nat.ble (countL 5 e14.code) 1 = true := by kernel_rfl
noncomputable abbrev B14 {A : Type} (st : St) (K : Ex → St → Option A) : Option A := loopBG Try.prog orc0 tb 14 5 ⟨[], [8], [15]⟩ 1 st K
theorem b14_0 {A : Type} (n ch first i : Int) (K : Ex → St → Option A) : B14 (st14 n ch first i (.sl none 0 0 true 0) []) K = (bif decide (i < n) then guardK (mkN ch) <| guardK (allS (R0 ch) && true && true) <| K .normal (st14 n ch first (w64 (i + 1)) (.gr (8, 0) 1 1) [(8, .cells true [row0 ch])]) else K (.exit 0) (st14 n ch first i (.sl none 0 0 true 0) [])) := by kernel_rfl
theorem b14_g {A : Type} (n ch first i : Int) (cs : List AV) (m : Nat) (K : Ex → St → Option A) : B14 (st14 n ch first i (.gr (8, 0) (m + 1) 1) [(8, .cells true cs)]) K = (bif decide (i < n) then guardK (mkN ch) <| guardK (Nat.ble ((m + 1 + 1) * 24) limit && Nat.ble (m + 1 + 1) limit) <| guardK (Nat.ble (0 + (m + 1) * 1) (lenA cs)) <| guardK (allS (R0 ch) && true && (allC (fr14 ch) (cs14 ch cs m) && true)) <| K .normal (st14 n ch first (w64 (i + 1)) (.gr (8, 0) (m + 1 + 1) 1) [(8, .cells true (mapC (fr14 ch) (cs14 ch cs m)))])
    else guardK (allC [] cs && true) (K (.exit 0) (st14 n ch first i (.gr (8, 0) (m + 1) 1) [(8, .cells true (mapC [] cs))]))) := by kernel_rfl
theorem run14_bad (n ch first : Int) (a b : Bool) : run14 (S14 n first a b (stopAt 14 [3] orc0)) n ch first = pre14 n ch first a b bad14 none := by kernel_rfl
theorem run14_ok (n ch first i : Int) (a b : Bool) (N : Nat) (L : List AV) (t0 : St) : run14 (S14 n first a b (knowLG Try.prog 14 5 N14 ⟨[], [8], [15]⟩ 1 t0 (.exit 0) (st14 n ch first i (.gr (8, 0) N 1) [(8, .cells true L)]) (stopAt 14 [2] orc0))) n ch first =
    pre14 n ch first a b none (bif sameSt (st14 n ch first 0 (.sl none 0 0 true 0) []) t0 then guardK (allS L && true && true) <| some ((.tup [.ptr (some (0, 0)), int64 0], [(0, .cells true (cellsG (g0 ch first) (.gr (8, 0) N 1))), (8, .cells true L)]), psNg) else none) := by kernel_rfl
def cells28 (n ch first : Int) (fv : AV) : List AV := [int64 n, int64 ch, int64 first, int64 0, int64 0, int64 0, int64 0, int64 (-1), int64 (-1), fv]
def st28 (n ch i : Int) (first : Int) (fv : AV) (l : List (Nat × Blk)) : St := ⟨[int64 n, int64 ch, .dead, .dead, .dead, .dead, .ptr (some (0, 0)), .dead, .ptr (some (1, 0)), int64 i] ++ repA .dead 34, mkHeap (l ++ [(1, .cells true (cells28 n ch first fv)), (0, .cells true [int64 0, int64 0, int64 0, int64 0, int64 0, int64 0, int64 0, int64 0, int64 0, .sl none 0 0 true 0])]) 9, [], .off⟩
def N28 : Norm := ⟨[0, 1, 6, 7, 8, 9], [(8, [9])]⟩
theorem norm28 : loopN0 tb 28 5 = some N28 := by kernel_rfl
noncomputable abbrev run28 (S : Orc) (n ch first : Int) : Option AV := evCall Try.prog S tb 100 AV (.fn 28) [int64 n, int64 ch, int64 first] (mkHeap [] 0) .off (viewK Try.prog (resOf Try.prog 28))
noncomputable def S28 (n first : Int) (a b : Bool) (S : Orc) : Orc := know 38 [int64 n] (.bool a) (know 36 [int64 first] (.bool b) S)
noncomputable def pre28 {A : Type} (n ch first : Int) (a b : Bool) (bad ok : Option A) : Option A := bif same [int64 n] [int64 n] then bif !a then bad else bif decide (ch < 1) then bad else bif decide (ch > 8) then bad else bif same [int64 first] [int64 first] then bif !b then bad else ok else none else none
abbrev bad28 : Option AV := some (.tup [.agg [int64 0, int64 0, int64 0, int64 0, int64 0, int64 0, int64 0, int64 0, int64 0, rows []], int64 7])
abbrev fr28 (ch : Int) : List (Nat × List AV) := [(12, R0 ch)]
def cs28 (ch : Int) (cs : List AV) (m : Nat) : List AV := appA (takeA (dropA cs 0) ((m + 1) * 1)) [.sl (some (12, 0)) ch.toNat ch.toNat true 1]
theorem count28 : Nat.ble (countL 5 e28.code) 1 = true := by kernel_rfl
noncomputable abbrev B28 {A : Type} (st : St) (K : Ex → St → Option A) : Option A := loopBG Try.prog orc0 tb 28 5 ⟨[], [8], [12]⟩ 2 st K
theorem b28_0 {A : Type} (n ch first i : Int) (K : Ex → St → Option A) : B28 (st28 n ch i first (.sl none 0 0 true 0) []) K = (bif decide (i < n) then guardK (mkN ch) <| guardK (allS (R0 ch) && true && true) <| K .normal (st28 n ch (w64 (i + 1)) first (.gr (8, 0) 1 1) [(8, .cells true [row0 ch])]) else K (.exit 0) (st28 n ch i first (.sl none 0 0 true 0) [])) := by kernel_rfl
theorem b28_g {A : Type} (n ch first i : Int) (cs : List AV) (m : Nat) (K : Ex → St → Option A) : B28 (st28 n ch i first (.gr (8, 0) (m + 1) 1) [(8, .cells true cs)]) K = (bif decide (i < n) then guardK (mkN ch) <| guardK (Nat.ble ((m + 1 + 1) * 24) limit && Nat.ble (m + 1 + 1) limit) <| guardK (Nat.ble (0 + (m + 1) * 1) (lenA cs)) <| guardK (allS (R0 ch) && true && (allC (fr28 ch) (cs28 ch cs m) && true)) <| K .normal (st28 n ch (w64 (i + 1)) first (.gr (8, 0) (m + 1 + 1) 1) [(8, .cells true (mapC (fr28 ch) (cs28 ch cs m)))])
    else guardK (allC [] cs && true) (K (.exit 0) (st28 n ch i first (.gr (8, 0) (m + 1) 1) [(8, .cells true (mapC [] cs))]))) := by kernel_rfl
theorem run28_bad (n ch first : Int) (a b : Bool) : run28 (S28 n first a b (stopAt 28 [3] orc0)) n ch first = pre28 n ch first a b bad28 none := by kernel_rfl
theorem run28_ok (n ch first i : Int) (a b : Bool) (N : Nat) (L : List AV) (t0 : St) : run28 (S28 n first a b (knowLG Try.prog 28 5 N28 ⟨[], [8], [12]⟩ 2 t0 (.exit 0) (st28 n ch i first (.gr (8, 0) N 1) [(8, .cells true L)]) (stopAt 28 [2] orc0))) n ch first =
    pre28 n ch first a b none (bif sameSt (st28 n ch 0 first (.sl none 0 0 true 0) []) t0 then guardK (allS (dropA L 0) && true && true) <| some (.tup [.agg [int64 n, int64 ch, int64 first, int64 0, int64 0, int64 0, int64 0, int64 (-1), int64 (-1), .fz (fixLen (N * 1) (dropA L 0)) N false 1], int64 0]) else none) := by kernel_rfl
/-! ### Rows of zeros -/
theorem allC_rows (fr : List (Nat × List AV)) : ∀ l : List (List Int), allC fr (l.map ints) = true
  | [] => rfl
  | x :: l => by simp only [List.map_cons, allC, allC_rows fr l]; rfl
theorem mapC_rows (fr : List (Nat × List AV)) : ∀ l : List (List Int), mapC fr (l.map ints) = l.map ints
  | [] => rfl
  | x :: l => by simp only [List.map_cons, mapC, mapC_rows fr l]; rfl
theorem allC_app (fr : List (Nat × List AV)) : ∀ (l r : List AV), allC fr (l ++ r) = (allC fr l && allC fr r)
  | [], r => rfl
  | x :: l, r => by simp only [List.cons_append, allC, allC_app fr l r, Bool.and_assoc]
theorem mapC_app (fr : List (Nat × List AV)) : ∀ (l r : List AV), mapC fr (l ++ r) = mapC fr l ++ mapC fr r
  | [], r => rfl
  | x :: l, r => by simp only [List.cons_append, mapC, mapC_app fr l r]
theorem repL_zero' : ∀ n : Nat, repL [int64 0] n = (List.replicate n (0 : Int)).map int64
  | 0 => rfl
  | n + 1 => by
    rw [List.replicate_succ, List.map_cons, ← repL_zero' n]
    rfl
abbrev zs (N : Nat) : List Int := List.replicate N 0
abbrev zrs (N c : Nat) : List (List Int) := List.replicate N (zs c)
theorem row0_eq (c : Nat) : row0 (c : Int) = ints (zs c) := by
  have e := fix_ints (zs c)
  rw [List.length_replicate] at e
  show AV.fz (fixLen (((c : Nat) : Int).toNat * 1) (dropA (repL [int64 0] ((c : Nat) : Int).toNat) 0)) ((c : Nat) : Int).toNat false 1 = _
  rw [show ((c : Nat) : Int).toNat = c by omega, repL_zero', e]
  unfold ints
  rw [List.length_replicate]
theorem R0_ok (c : Nat) : allS (R0 (c : Int)) = true := by
  show allS (repL [int64 0] ((c : Nat) : Int).toNat) = true
  rw [repL_zero', allS_ints]
theorem mkN_ok {c : Nat} (h : c ≤ 1000) : mkN (c : Int) = true := by
  have : (limit : Int) = 140737488355328 := rfl
  simp only [mkN, Bool.and_eq_true, decide_eq_true_eq]
  omega
theorem csR_eq {v : AV} {l : List (List Int)} {m : Nat} (h : l.length = m + 1) : appA (takeA (dropA (l.map ints) 0) ((m + 1) * 1)) [v] = l.map ints ++ [v] := by
  rw [appA_eq, takeA_eq, dropA_eq, List.drop_zero, Nat.mul_one, ← h, List.take_of_length_le (by simp)]
section
variable {c : Nat} {first : Int}
def so14 (n c : Nat) (first : Int) (i : Nat) : St := st14 (n : Int) (c : Int) first (i : Int) (.gr (8, 0) i 1) [(8, .cells true ((zrs i c).map ints))]
theorem next14 {A : Type} {n i : Nat} (h0 : 0 < i) (hi : i < n) (hn : n ≤ 1024) (hc : c ≤ 1000) (K : Ex → St → Option A) : B14 (so14 n c first i) K = K .normal (so14 n c first (i + 1)) := by
  obtain ⟨m, rfl⟩ : ∃ m, i = m + 1 := ⟨i - 1, by omega⟩
  unfold so14
  rw [b14_g]
  have hl : (zrs (m + 1) c).length = m + 1 := by simp
  have hlim : limit = 140737488355328 := rfl
  have e1 : Nat.ble (0 + (m + 1) * 1) (m + 1) = true := Nat.ble_eq_true_of_le (by omega)
  have e2 : Nat.ble ((m + 1 + 1) * 24) limit = true := Nat.ble_eq_true_of_le (by omega)
  have e3 : Nat.ble (m + 1 + 1) limit = true := Nat.ble_eq_true_of_le (by omega)
  have ec : cs14 (c : Int) ((zrs (m + 1) c).map ints) m = (zrs (m + 1) c).map ints ++ [.sl (some (15, 0)) ((c : Nat) : Int).toNat ((c : Nat) : Int).toNat true 1] := csR_eq hl
  have e4 : allC (fr14 (c : Int)) ((zrs (m + 1) c).map ints ++ [.sl (some (15, 0)) ((c : Nat) : Int).toNat ((c : Nat) : Int).toNat true 1]) = true := by rw [allC_app, allC_rows]; rfl
  have e5 : mapC (fr14 (c : Int)) ((zrs (m + 1) c).map ints ++ [.sl (some (15, 0)) ((c : Nat) : Int).toNat ((c : Nat) : Int).toNat true 1]) = (zrs (m + 1 + 1) c).map ints := by
    rw [mapC_app, mapC_rows]
    have : mapC (fr14 (c : Int)) [.sl (some (15, 0)) ((c : Nat) : Int).toNat ((c : Nat) : Int).toNat true 1] = [row0 (c : Int)] := rfl
    rw [this, row0_eq]
    have hz : zrs (m + 1 + 1) c = zrs (m + 1) c ++ [zs c] := List.replicate_succ'
    rw [hz, List.map_append]
    rfl
  rw [decide_eq_true (by omega : ((m + 1 : Nat) : Int) < (n : Int)), cond_true, mkN_ok hc, e2, e3, lenM, hl, e1, ec, R0_ok, e4, e5, show w64 (((m + 1 : Nat) : Int) + 1) = ((m + 1 + 1 : Nat) : Int) from by unfold w64; rw [IntKind.wrap_i64]; omega]
  rfl
theorem loop14 {n : Nat} (hn : n ≤ 1024) (hc : c ≤ 1000) : ∀ (d i Q : Nat), i + d = n → d < Q → 0 < i → loopN B14 Q (so14 n c first i) pairE = some (.exit 0, so14 n c first n) := by
  intro d
  induction d with
  | zero =>
    intro i Q hi hQ h0
    obtain ⟨Q, rfl⟩ : ∃ q, Q = q + 1 := ⟨Q - 1, by omega⟩
    have : i = n := by omega
    subst this
    obtain ⟨m, rfl⟩ : ∃ m, i = m + 1 := ⟨i - 1, by omega⟩
    rw [loopN_succ]
    unfold so14
    rw [b14_g, decide_eq_false (by omega : ¬ (((m + 1 : Nat) : Int) < ((m + 1 : Nat) : Int))), allC_rows, mapC_rows]
    rfl
  | succ d ih =>
    intro i Q hi hQ h0
    obtain ⟨Q, rfl⟩ : ∃ q, Q = q + 1 := ⟨Q - 1, by omega⟩
    rw [loopN_succ, next14 h0 (by omega) hn hc]
    exact ih (i + 1) Q (by omega) (by omega) (by omega)
theorem loop14_all {n : Nat} (h1 : 1 ≤ n) (hn : n ≤ 1024) (hc : c ≤ 1000) : loopN B14 rounds (st14 (n : Int) (c : Int) first 0 (.sl none 0 0 true 0) []) pairE = some (.exit 0, so14 n c first n) := by
  have hr : rounds = 100000000000000000000 := rfl
  obtain ⟨Q, hQ⟩ : ∃ Q, rounds = Q + 1 := ⟨99999999999999999999, rfl⟩
  rw [hQ, loopN_succ, b14_0, decide_eq_true (by omega : (0 : Int) < (n : Int)), cond_true, mkN_ok hc, R0_ok, row0_eq]
  exact loop14 hn hc (n - 1) 1 Q (by omega) (by omega) (by omega)
end
section
variable {c : Nat} {first : Int}
def so28 (n c : Nat) (first : Int) (i : Nat) : St := st28 (n : Int) (c : Int) (i : Int) first (.gr (8, 0) i 1) [(8, .cells true ((zrs i c).map ints))]
theorem next28 {A : Type} {n i : Nat} (h0 : 0 < i) (hi : i < n) (hn : n ≤ 1024) (hc : c ≤ 1000) (K : Ex → St → Option A) : B28 (so28 n c first i) K = K .normal (so28 n c first (i + 1)) := by
  obtain ⟨m, rfl⟩ : ∃ m, i = m + 1 := ⟨i - 1, by omega⟩
  unfold so28
  rw [b28_g]
  have hl : (zrs (m + 1) c).length = m + 1 := by simp
  have hlim : limit = 140737488355328 := rfl
  have e1 : Nat.ble (0 + (m + 1) * 1) (m + 1) = true := Nat.ble_eq_true_of_le (by omega)
  have e2 : Nat.ble ((m + 1 + 1) * 24) limit = true := Nat.ble_eq_true_of_le (by omega)
  have e3 : Nat.ble (m + 1 + 1) limit = true := Nat.ble_eq_true_of_le (by omega)
  have ec : cs28 (c : Int) ((zrs (m + 1) c).map ints) m = (zrs (m + 1) c).map ints ++ [.sl (some (12, 0)) ((c : Nat) : Int).toNat ((c : Nat) : Int).toNat true 1] := csR_eq hl
  have e4 : allC (fr28 (c : Int)) ((zrs (m + 1) c).map ints ++ [.sl (some (12, 0)) ((c : Nat) : Int).toNat ((c : Nat) : Int).toNat true 1]) = true := by rw [allC_app, allC_rows]; rfl
  have e5 : mapC (fr28 (c : Int)) ((zrs (m + 1) c).map ints ++ [.sl (some (12, 0)) ((c : Nat) : Int).toNat ((c : Nat) : Int).toNat true 1]) = (zrs (m + 1 + 1) c).map ints := by
    rw [mapC_app, mapC_rows]
    have : mapC (fr28 (c : Int)) [.sl (some (12, 0)) ((c : Nat) : Int).toNat ((c : Nat) : Int).toNat true 1] = [row0 (c : Int)] := rfl
    rw [this, row0_eq]
    have hz : zrs (m + 1 + 1) c = zrs (m + 1) c ++ [zs c] := List.replicate_succ'
    rw [hz, List.map_append]
    rfl
  rw [decide_eq_true (by omega : ((m + 1 : Nat) : Int) < (n : Int)), cond_true, mkN_ok hc, e2, e3, lenM, hl, e1, ec, R0_ok, e4, e5, show w64 (((m + 1 : Nat) : Int) + 1) = ((m + 1 + 1 : Nat) : Int) from by unfold w64; rw [IntKind.wrap_i64]; omega]
  rfl
theorem loop28 {n : Nat} (hn : n ≤ 1024) (hc : c ≤ 1000) : ∀ (d i Q : Nat), i + d = n → d < Q → 0 < i → loopN B28 Q (so28 n c first i) pairE = some (.exit 0, so28 n c first n) := by
  intro d
  induction d with
  | zero =>
    intro i Q hi hQ h0
    obtain ⟨Q, rfl⟩ : ∃ q, Q = q + 1 := ⟨Q - 1, by omega⟩
    have : i = n := by omega
    subst this
    obtain ⟨m, rfl⟩ : ∃ m, i = m + 1 := ⟨i - 1, by omega⟩
    rw [loopN_succ]
    unfold so28
    rw [b28_g, decide_eq_false (by omega : ¬ (((m + 1 : Nat) : Int) < ((m + 1 : Nat) : Int))), allC_rows, mapC_rows]
    rfl
  | succ d ih =>
    intro i Q hi hQ h0
    obtain ⟨Q, rfl⟩ : ∃ q, Q = q + 1 := ⟨Q - 1, by omega⟩
    rw [loopN_succ, next28 h0 (by omega) hn hc]
    exact ih (i + 1) Q (by omega) (by omega) (by omega)
theorem loop28_all {n : Nat} (h1 : 1 ≤ n) (hn : n ≤ 1024) (hc : c ≤ 1000) : loopN B28 rounds (st28 (n : Int) (c : Int) 0 first (.sl none 0 0 true 0) []) pairE = some (.exit 0, so28 n c first n) := by
  have hr : rounds = 100000000000000000000 := rfl
  obtain ⟨Q, hQ⟩ : ∃ Q, rounds = Q + 1 := ⟨99999999999999999999, rfl⟩
  rw [hQ, loopN_succ, b28_0, decide_eq_true (by omega : (0 : Int) < (n : Int)), cond_true, mkN_ok hc, R0_ok, row0_eq]
  exact loop28 hn hc (n - 1) 1 Q (by omega) (by omega) (by omega)
end
/-! ### What they tell -/
def inW (n : Int) : Bool := decide (n ≥ 0) && decide (n < 65536)
def szA (n : Int) : Bool := decide (n ≥ 1) && (decide (n ≤ 1024) && (IntKind.i64.wrap (↑(BitVec.ofInt 64 n &&& BitVec.ofInt 64 (IntKind.i64.wrap (n - 1))).toNat : Int) == 0))
def szB (n : Int) : Bool := (1 == n) || ((2 == n) || ((4 == n) || ((8 == n) || ((16 == n) || ((32 == n) || ((64 == n) || ((128 == n) || ((256 == n) || ((512 == n) || (1024 == n))))))))))
theorem sz_all : (List.range 1025).all (fun i => szA (i : Int) == szB (i : Int)) = true := by kernel_rfl
theorem sz_eq (n : Int) : szA n = szB n := by
  by_cases h : 0 ≤ n ∧ n ≤ 1024
  · have := List.all_eq_true.1 sz_all n.toNat (List.mem_range.2 (by omega))
    rw [beq_iff_eq, show ((n.toNat : Nat) : Int) = n by omega] at this
    exact this
  · have h1 : szA n = false := by
      unfold szA
      by_cases h2 : n ≥ 1
      · have : ¬ n ≤ 1024 := by omega
        simp [this]
      · simp [h2]
    have h2 : szB n = false := by
      unfold szB
      simp only [Bool.or_eq_false_iff, beq_eq_false_iff_ne]
      omega
    rw [h1, h2]
theorem run37 (n : Int) (h : Heap) : evCall Try.prog orc0 tb 100 AV (.fn 37) (vwArgs Try.prog [] h (parsOf Try.prog 37) [int64 n]) (mkHeap [] 0) .off rv = bif decide (n ≥ 1) then bif decide (n ≤ 1024) then some (.bool (IntKind.i64.wrap (↑(BitVec.ofInt 64 n &&& BitVec.ofInt 64 (IntKind.i64.wrap (n - 1))).toNat : Int) == 0)) else some (.bool false) else some (.bool false) := by kernel_rfl
theorem run34 (n : Int) (h : Heap) : evCall Try.prog orc0 tb 100 AV (.fn 34) (vwArgs Try.prog [] h (parsOf Try.prog 34) [int64 n]) (mkHeap [] 0) .off rv = bif decide (n ≥ 0) then some (.bool (decide (n < 65536))) else some (.bool false) := by kernel_rfl
theorem run36 (n : Int) (h : Heap) : evCall Try.prog orc0 tb 100 AV (.fn 36) (vwArgs Try.prog [] h (parsOf Try.prog 36) [int64 n]) (mkHeap [] 0) .off rv = bif decide (n ≥ 0) then some (.bool (decide (n < 65536))) else some (.bool false) := by kernel_rfl
theorem run38 (n : Int) (h : Heap) : evCall Try.prog orc0 tb 100 AV (.fn 38) (vwArgs Try.prog [] h (parsOf Try.prog 38) [int64 n]) (mkHeap [] 0) .off rv = bif 1 == n then some (.bool true) else bif 2 == n then some (.bool true) else bif 4 == n then some (.bool true) else bif 8 == n then some (.bool true) else bif 16 == n then some (.bool true) else bif 32 == n then some (.bool true) else bif 64 == n then some (.bool true) else bif 128 == n then some (.bool true) else bif 256 == n then some (.bool true) else bif 512 == n then some (.bool true) else bif 1024 == n then some (.bool true) else some (.bool false) := by kernel_rfl
theorem f37 (n : Int) : F 37 [int64 n] (.bool (szA n)) := .of ok0 rfl fun h => (run37 n h).trans (by unfold szA; cases decide (n ≥ 1) <;> cases decide (n ≤ 1024) <;> rfl)
theorem f38 (n : Int) : F 38 [int64 n] (.bool (szA n)) := .of ok0 rfl fun h => (run38 n h).trans (by rw [sz_eq]; unfold szB; cases (1 == n) <;> cases (2 == n) <;> cases (4 == n) <;> cases (8 == n) <;> cases (16 == n) <;> cases (32 == n) <;> cases (64 == n) <;> cases (128 == n) <;> cases (256 == n) <;> cases (512 == n) <;> cases (1024 == n) <;> rfl)
theorem f34 (n : Int) : F 34 [int64 n] (.bool (inW n)) := .of ok0 rfl fun h => (run34 n h).trans (by unfold inW; cases decide (n ≥ 0) <;> rfl)
theorem f36 (n : Int) : F 36 [int64 n] (.bool (inW n)) := .of ok0 rfl fun h => (run36 n h).trans (by unfold inW; cases decide (n ≥ 0) <;> rfl)
def okN (n ch first : Int) : Bool := szA n && (!decide (ch < 1) && (!decide (ch > 8) && inW first))
theorem S14_ok {n first : Int} {S : Orc} (h : Ok S) : Ok (S14 n first (szA n) (inW first) S) := know_ok tbOk (f37 n) (know_ok tbOk (f34 first) h)
theorem S28_ok {n first : Int} {S : Orc} (h : Ok S) : Ok (S28 n first (szA n) (inW first) S) := know_ok tbOk (f38 n) (know_ok tbOk (f36 first) h)
theorem pre_bad {A : Type} {n ch first : Int} (h : okN n ch first = false) (bad : Option A) (p : Option A → Option A) (hp : ∀ x, p x = (bif !szA n then bad else bif decide (ch < 1) then bad else bif decide (ch > 8) then bad else bif !inW first then bad else x)) (x : Option A) : p x = bad := by
  rw [hp]
  unfold okN at h
  cases h1 : szA n <;> cases h2 : decide (ch < 1) <;> cases h3 : decide (ch > 8) <;> cases h4 : inW first <;> simp_all
theorem pre_ok {A : Type} {n ch first : Int} (h : okN n ch first = true) (bad : Option A) (p : Option A → Option A) (hp : ∀ x, p x = (bif !szA n then bad else bif decide (ch < 1) then bad else bif decide (ch > 8) then bad else bif !inW first then bad else x)) (x : Option A) : p x = x := by
  rw [hp]
  unfold okN at h
  cases h1 : szA n <;> cases h2 : decide (ch < 1) <;> cases h3 : decide (ch > 8) <;> cases h4 : inW first <;> simp_all
theorem pre14_eq (n ch first : Int) (bad x : Option ORes) : pre14 n ch first (szA n) (inW first) bad x = (bif !szA n then bad else bif decide (ch < 1) then bad else bif decide (ch > 8) then bad else bif !inW first then bad else x) := by
  unfold pre14
  rw [same_self, same_self]
  rfl
theorem pre28_eq {A : Type} (n ch first : Int) (bad x : Option A) : pre28 n ch first (szA n) (inW first) bad x = (bif !szA n then bad else bif decide (ch < 1) then bad else bif decide (ch > 8) then bad else bif !inW first then bad else x) := by
  unfold pre28
  rw [same_self, same_self]
  rfl
theorem new_bad {n ch first : Int} (h : okN n ch first = false) : OFact Try.prog tb scNg 14 0 [8] [int64 n, int64 ch, int64 first] [] (.tup [.ptr none, int64 7]) [] [(none, tyPt Try.prog 30), (none, none)] :=
  ⟨_, S14_ok (stopAt_ok ok0), (run14_bad n ch first _ _).trans (pre_bad h bad14 _ (fun x => pre14_eq n ch first bad14 x) _)⟩
theorem new_ok {n c : Nat} {first : Int} (h : okN n c first = true) : OFact Try.prog tb scNg 14 0 [8] [int64 n, int64 c, int64 first] [] (.tup [.ptr (some (0, 0)), int64 0]) [(0, .cells true (cellsG (g0 c first) (.gr (8, 0) n 1))), (8, .cells true (rowsL (zrs n c)))] psNg := by
  have hh := h
  unfold okN szA at hh
  simp only [Bool.and_eq_true, decide_eq_true_eq, Bool.not_eq_true', decide_eq_false_iff_not] at hh
  have hl := loop14_all (c := c) (first := first) (n := n) (by omega) (by omega) (by omega)
  refine ⟨_, S14_ok (knowLG_ok tbOk (F := ⟨[], [8], [15]⟩) (LFact.flatG ok0 hl) (stopAt_ok ok0) (ep := e14) rfl norm14 count14), (run14_ok (n : Int) (c : Int) first (n : Int) _ _ n (rowsL (zrs n c)) _).trans ((pre_ok h none _ (fun x => pre14_eq (n : Int) (c : Int) first none x) _).trans ?_)⟩
  rw [sameSt_self, allS_rows]
  rfl
structure Rf where
  n : Int
  ch : Int
  fi : Int
  w : Int
  r : Int
  se : Int
  lo : Int
  cl : Int
  ta : Int
  cs : List (List Int)
def cellsF (s : Rf) : List AV := [int64 s.n, int64 s.ch, int64 s.fi, int64 s.w, int64 s.r, int64 s.se, int64 s.lo, int64 s.cl, int64 s.ta, rows s.cs]
abbrev aggF (s : Rf) : AV := .agg (cellsF s)
def rf0 (n c : Nat) (first : Int) : Rf := ⟨n, c, first, 0, 0, 0, 0, -1, -1, zrs n c⟩
def rfZ : Rf := ⟨0, 0, 0, 0, 0, 0, 0, 0, 0, []⟩
theorem ar28 (n ch first : Int) : vwArgs Try.prog [] none0 (parsOf Try.prog 28) [int64 n, int64 ch, int64 first] = [int64 n, int64 ch, int64 first] := by kernel_rfl
theorem newF_bad {n ch first : Int} (h : okN n ch first = false) : FFact Try.prog tb 28 [int64 n, int64 ch, int64 first] (.tup [aggF rfZ, int64 7]) :=
  ⟨ar28 n ch first, _, S28_ok (stopAt_ok ok0), (run28_bad n ch first _ _).trans (pre_bad h bad28 _ (fun x => pre28_eq n ch first bad28 x) _)⟩
theorem fixL_rows : ∀ fs : List (List Int), fixLen fs.length (fs.map ints) = fs.map ints
  | [] => rfl
  | x :: l => by simp only [List.length_cons, List.map_cons, fixLen, fixL_rows l]
theorem fix_rows (fs : List (List Int)) : AV.fz (fixLen (fs.length * 1) (dropA (fs.map ints) 0)) fs.length false 1 = rows fs := by
  rw [dropA_eq, List.drop_zero, Nat.mul_one, fixL_rows]
  rfl
theorem newF_ok {n c : Nat} {first : Int} (h : okN n c first = true) : FFact Try.prog tb 28 [int64 n, int64 c, int64 first] (.tup [aggF (rf0 n c first), int64 0]) := by
  have hh := h
  unfold okN szA at hh
  simp only [Bool.and_eq_true, decide_eq_true_eq, Bool.not_eq_true', decide_eq_false_iff_not] at hh
  have hl := loop28_all (c := c) (first := first) (n := n) (by omega) (by omega) (by omega)
  refine ⟨ar28 _ _ _, _, S28_ok (knowLG_ok tbOk (F := ⟨[], [8], [12]⟩) (LFact.flatG ok0 hl) (stopAt_ok ok0) (ep := e28) rfl norm28 count28), (run28_ok (n : Int) (c : Int) first (n : Int) _ _ n (rowsL (zrs n c)) _).trans ((pre_ok h none _ (fun x => pre28_eq (n : Int) (c : Int) first none x) _).trans ?_)⟩
  have e := fix_rows (zrs n c)
  rw [List.length_replicate] at e
  rw [sameSt_self, e, dropA_eq, List.drop_zero, allS_rows]
  rfl
end Go.Proofs.Ytokighfpmonjdaa
/- The document's ring: what is done with it, but Put. -/
namespace Go.Proofs.Ytokighfpmonjdaa
open Go.Ev
set_option maxRecDepth 100000
noncomputable abbrev runF (S : Orc) (f : FuncId) (a : List AV) : Option AV := evCall Try.prog S tb 100 AV (.fn f) a (mkHeap [] 0) .off (viewK Try.prog (resOf Try.prog f))
def ZF {A : Type} (s : Rf) (x : Option A) : Option A := bif sameV (aggF s) (aggF s) then x else none
def roomF (s : Rf) : Int := w64 (s.n - w64 (s.w - s.se))
def fillF (s : Rf) : Int := w64 (s.lo - s.r)
def seeF (s : Rf) : Rf := ⟨s.n, s.ch, s.fi, s.w, s.r, s.r, s.lo, s.cl, s.ta, s.cs⟩
def lookF (s : Rf) : Rf := ⟨s.n, s.ch, s.fi, s.w, s.r, s.se, s.w, s.cl, s.ta, s.cs⟩
def clF (s : Rf) (v : Int) : Rf := ⟨s.n, s.ch, s.fi, s.w, s.r, s.se, s.lo, v, s.ta, s.cs⟩
def taF (s : Rf) (v : Int) : Rf := ⟨s.n, s.ch, s.fi, s.w, s.r, s.se, s.lo, s.cl, v, s.cs⟩
def cmF (s : Rf) (n : Int) : Rf := ⟨s.n, s.ch, s.fi, w64 (s.w + n), s.r, s.se, s.lo, -1, s.ta, s.cs⟩
def dnF (s : Rf) (n : Int) : Rf := ⟨s.n, s.ch, s.fi, s.w, w64 (s.r + n), s.se, s.lo, s.cl, -1, s.cs⟩
def plcF (s : Rf) (i : Int) : Int := (w64 (s.fi + w64 (s.r + i))).tmod s.n
abbrev xF (s : Rf) (i : Int) : AV := nth (s.cs.map ints) ((plcF s i).toNat * 1)
theorem seeF_run (s : Rf) : runF orc0 53 [aggF s] = ZF (seeF s) (some (.tup [aggF (seeF s), int64 (roomF (seeF s))])) := by kernel_rfl
theorem lookF_run (s : Rf) : runF orc0 58 [aggF s] = ZF (lookF s) (some (.tup [aggF (lookF s), int64 (fillF (lookF s))])) := by kernel_rfl
theorem clF_run (s : Rf) (n : Int) : runF orc0 55 [aggF s, int64 n] = (bif decide (n < 0) then some (.tup [aggF s, int64 0, int64 7]) else bif decide (s.cl ≥ 0) then some (.tup [aggF s, int64 0, int64 9]) else E (minI n (roomF s)) (some (.tup [aggF (clF s (minI n (roomF s))), int64 (minI n (roomF s)), int64 0]))) := by kernel_rfl
theorem taF_run (s : Rf) (n : Int) : runF orc0 59 [aggF s, int64 n] = (bif decide (n < 0) then some (.tup [aggF s, int64 0, int64 7]) else bif decide (s.ta ≥ 0) then some (.tup [aggF s, int64 0, int64 9]) else E (minI n (fillF s)) (some (.tup [aggF (taF s (minI n (fillF s))), int64 (minI n (fillF s)), int64 0]))) := by kernel_rfl
theorem cmF_run (s : Rf) (n : Int) : runF orc0 57 [aggF s, int64 n] = (bif decide (n < 0) then some (.tup [aggF s, int64 7]) else bif decide (s.cl < 0) then some (.tup [aggF s, int64 9]) else bif decide (n > s.cl) then some (.tup [aggF s, int64 7]) else some (.tup [aggF (cmF s n), int64 0])) := by kernel_rfl
theorem dnF_run (s : Rf) (n : Int) : runF orc0 61 [aggF s, int64 n] = (bif decide (n < 0) then some (.tup [aggF s, int64 7]) else bif decide (s.ta < 0) then some (.tup [aggF s, int64 9]) else bif decide (n > s.ta) then some (.tup [aggF s, int64 7]) else some (.tup [aggF (dnF s n), int64 0])) := by kernel_rfl
def addT (x : AV) (f : AV → Option AV) : Option AV :=
  bif Nat.beq (fzL x) 0 then f (ints []) else guardK (Nat.beq (fzS x) 1) <| guardK (Nat.ble ((0 + fzL x) * 8) limit && Nat.ble (0 + fzL x) limit) <|
    bif Nat.ble (0 + fzL x) 0 then (bif Nat.beq (fzL x) 0 then f (ints []) else guardK (flatL (fzC x)) <| guardK (Nat.ble (0 + lenA (fzC x)) 0) <| guardK (allS (dropA (splice [] 0 (fzC x)) 0) && true) <| f (.fz (fixLen ((0 + fzL x) * 1) (dropA (splice [] 0 (fzC x)) 0)) (0 + fzL x) false 1))
    else guardK (allS (dropA (fzC x) 0) && true) <| f (.fz (fixLen ((0 + fzL x) * 1) (dropA (fzC x) 0)) (0 + fzL x) false 1)
theorem getF_run (s : Rf) (i : Int) : runF orc0 60 [aggF s, int64 i] = (bif decide (i < 0) then some (.tup [ints [], int64 7]) else bif decide (s.ta < 0) then some (.tup [ints [], int64 9]) else bif decide (i ≥ s.ta) then some (.tup [ints [], int64 7]) else
    bif (s.n == 0) then none else bif sameV (rows s.cs) (rows s.cs) then guardK (decide (0 ≤ plcF s i) && decide (plcF s i < (s.cs.length : Int))) <| guardK (Nat.blt ((plcF s i).toNat * 1) (lenA (s.cs.map ints))) <| guardK (isFzN (xF s i)) <| addT (xF s i) fun v => some (.tup [v, int64 0]) else none) := by kernel_rfl
theorem addT_ints (xs : List Int) (h : xs.length ≤ 1000000) (f : AV → Option AV) : addT (ints xs) f = f (ints xs) := by
  unfold addT
  rcases xs with _ | ⟨x, xs⟩
  · rfl
  · have hl : fzL (ints (x :: xs)) = xs.length + 1 := rfl
    have hc : fzC (ints (x :: xs)) = (x :: xs).map int64 := rfl
    have hs : fzS (ints (x :: xs)) = 1 := rfl
    have hlim : limit = 140737488355328 := rfl
    have hz : xs.length + 1 ≤ 1000001 := by simp at h; omega
    have e1 : Nat.beq (xs.length + 1) 0 = false := rfl
    have e2 : Nat.ble (0 + (xs.length + 1)) 0 = false := by rw [Nat.zero_add]; rfl
    have e3 : (Nat.ble ((0 + (xs.length + 1)) * 8) limit && Nat.ble (0 + (xs.length + 1)) limit) = true := by
      rw [Bool.and_eq_true]
      exact ⟨Nat.ble_eq_true_of_le (by omega), Nat.ble_eq_true_of_le (by omega)⟩
    have e4 := fix_ints (x :: xs)
    rw [List.length_cons] at e4
    rw [hl, hc, hs, e1, e2, e3]
    simp only [cond_false, Nat.zero_add, e4, guardK, Bool.and_true]
    rw [dropA_eq, List.drop_zero, allS_ints]
    rfl
theorem sameL_ints (xs : List Int) : sameL (xs.map int64) (xs.map int64) = true := by
  induction xs with
  | nil => rfl
  | cons x l ih => simp [sameL, sameF, int64, ih]
theorem sameL_rows : ∀ fs : List (List Int), sameL (fs.map ints) (fs.map ints) = true
  | [] => rfl
  | x :: l => by
    have := sameL_rows l
    simp [sameL, sameF, ints, sameL_ints x, this]
theorem sameV_rows (fs : List (List Int)) : sameV (rows fs) (rows fs) = true := by
  simp [sameV, rows, sameF, sameL_rows fs]
theorem ZF_eq {A : Type} (s : Rf) (x : Option A) : ZF s x = x := by
  have : sameV (aggF s) (aggF s) = true := by
    simp [sameV, cellsF, sameL, sameF, int64, rows, sameL_rows s.cs]
  unfold ZF
  rw [this]
  rfl
theorem E_eq {A : Type} (v : Int) (x : Option A) : E v x = x := by unfold E; rw [beq_self_eq_true]; rfl
/-! ### What they tell -/
def claF (s : Rf) (n : Int) : Rf × Int × Int := if n < 0 then (s, 0, 7) else if s.cl ≥ 0 then (s, 0, 9) else (clF s (minI n (roomF s)), minI n (roomF s), 0)
def takF (s : Rf) (n : Int) : Rf × Int × Int := if n < 0 then (s, 0, 7) else if s.ta ≥ 0 then (s, 0, 9) else (taF s (minI n (fillF s)), minI n (fillF s), 0)
def comF (s : Rf) (n : Int) : Rf × Int := if n < 0 then (s, 7) else if s.cl < 0 then (s, 9) else if n > s.cl then (s, 7) else (cmF s n, 0)
def donF (s : Rf) (n : Int) : Rf × Int := if n < 0 then (s, 7) else if s.ta < 0 then (s, 9) else if n > s.ta then (s, 7) else (dnF s n, 0)
def getEF (s : Rf) (i : Int) : Int := if i < 0 then 7 else if s.ta < 0 then 9 else if i ≥ s.ta then 7 else 0
def getRF (s : Rf) (i : Int) : List Int := if getEF s i = 0 then s.cs.getD (plcF s i).toNat [] else []
theorem arF1 (f : FuncId) (hp : parsOf Try.prog f = [49]) (s : Rf) : vwArgs Try.prog [] none0 (parsOf Try.prog f) [aggF s] = [aggF s] := by
  rw [hp]
  kernel_rfl
theorem arF2 (f : FuncId) (hp : parsOf Try.prog f = [49, 3]) (s : Rf) (n : Int) : vwArgs Try.prog [] none0 (parsOf Try.prog f) [aggF s, int64 n] = [aggF s, int64 n] := by
  rw [hp]
  kernel_rfl
theorem seeF_fact (s : Rf) : FFact Try.prog tb 53 [aggF s] (.tup [aggF (seeF s), int64 (roomF (seeF s))]) := ⟨arF1 53 (by kernel_rfl) s, orc0, ok0, (seeF_run s).trans (ZF_eq _ _)⟩
theorem lookF_fact (s : Rf) : FFact Try.prog tb 58 [aggF s] (.tup [aggF (lookF s), int64 (fillF (lookF s))]) := ⟨arF1 58 (by kernel_rfl) s, orc0, ok0, (lookF_run s).trans (ZF_eq _ _)⟩
theorem claF_fact (s : Rf) (n : Int) : FFact Try.prog tb 55 [aggF s, int64 n] (.tup [aggF (claF s n).1, int64 (claF s n).2.1, int64 (claF s n).2.2]) := by
  refine ⟨arF2 55 (by kernel_rfl) s n, orc0, ok0, (clF_run s n).trans ?_⟩
  unfold claF
  by_cases h1 : n < 0
  · rw [decide_eq_true h1, if_pos h1]; rfl
  · rw [decide_eq_false h1, if_neg h1]
    by_cases h2 : s.cl ≥ 0
    · rw [decide_eq_true h2, if_pos h2]; rfl
    · rw [decide_eq_false h2, if_neg h2, E_eq]; rfl
theorem takF_fact (s : Rf) (n : Int) : FFact Try.prog tb 59 [aggF s, int64 n] (.tup [aggF (takF s n).1, int64 (takF s n).2.1, int64 (takF s n).2.2]) := by
  refine ⟨arF2 59 (by kernel_rfl) s n, orc0, ok0, (taF_run s n).trans ?_⟩
  unfold takF
  by_cases h1 : n < 0
  · rw [decide_eq_true h1, if_pos h1]; rfl
  · rw [decide_eq_false h1, if_neg h1]
    by_cases h2 : s.ta ≥ 0
    · rw [decide_eq_true h2, if_pos h2]; rfl
    · rw [decide_eq_false h2, if_neg h2, E_eq]; rfl
theorem comF_fact (s : Rf) (n : Int) : FFact Try.prog tb 57 [aggF s, int64 n] (.tup [aggF (comF s n).1, int64 (comF s n).2]) := by
  refine ⟨arF2 57 (by kernel_rfl) s n, orc0, ok0, (cmF_run s n).trans ?_⟩
  unfold comF
  by_cases h1 : n < 0
  · rw [decide_eq_true h1, if_pos h1]; rfl
  · rw [decide_eq_false h1, if_neg h1]
    by_cases h2 : s.cl < 0
    · rw [decide_eq_true h2, if_pos h2]; rfl
    · rw [decide_eq_false h2, if_neg h2]
      by_cases h3 : n > s.cl
      · rw [decide_eq_true h3, if_pos h3]; rfl
      · rw [decide_eq_false h3, if_neg h3]; rfl
theorem donF_fact (s : Rf) (n : Int) : FFact Try.prog tb 61 [aggF s, int64 n] (.tup [aggF (donF s n).1, int64 (donF s n).2]) := by
  refine ⟨arF2 61 (by kernel_rfl) s n, orc0, ok0, (dnF_run s n).trans ?_⟩
  unfold donF
  by_cases h1 : n < 0
  · rw [decide_eq_true h1, if_pos h1]; rfl
  · rw [decide_eq_false h1, if_neg h1]
    by_cases h2 : s.ta < 0
    · rw [decide_eq_true h2, if_pos h2]; rfl
    · rw [decide_eq_false h2, if_neg h2]
      by_cases h3 : n > s.ta
      · rw [decide_eq_true h3, if_pos h3]; rfl
      · rw [decide_eq_false h3, if_neg h3]; rfl
theorem getF_fact {s : Rf} {i : Int} (hi : getEF s i = 0 → s.n ≠ 0 ∧ 0 ≤ plcF s i ∧ plcF s i < (s.cs.length : Int)) (hr : ∀ f ∈ s.cs, f.length ≤ 1000000) : FFact Try.prog tb 60 [aggF s, int64 i] (.tup [ints (getRF s i), int64 (getEF s i)]) := by
  refine ⟨arF2 60 (by kernel_rfl) s i, orc0, ok0, (getF_run s i).trans ?_⟩
  unfold getRF
  by_cases h1 : i < 0
  · have e : getEF s i = 7 := by unfold getEF; rw [if_pos h1]
    rw [e, decide_eq_true h1, if_neg (by omega)]; rfl
  · rw [decide_eq_false h1]
    by_cases h2 : s.ta < 0
    · have e : getEF s i = 9 := by unfold getEF; rw [if_neg h1, if_pos h2]
      rw [e, decide_eq_true h2, if_neg (by omega)]; rfl
    · rw [decide_eq_false h2]
      by_cases h3 : i ≥ s.ta
      · have e : getEF s i = 7 := by unfold getEF; rw [if_neg h1, if_neg h2, if_pos h3]
        rw [e, decide_eq_true h3, if_neg (by omega)]; rfl
      · have e : getEF s i = 0 := by unfold getEF; rw [if_neg h1, if_neg h2, if_neg h3]
        obtain ⟨p0, p1, p2⟩ := hi e
        have hk : (plcF s i).toNat < s.cs.length := by omega
        have hx : xF s i = ints (s.cs.getD (plcF s i).toNat []) := by
          unfold xF
          rw [Nat.mul_one, nthM ints s.cs _ hk]
          simp [List.getD, hk]
        have hm : s.cs.getD (plcF s i).toNat [] ∈ s.cs := by
          have : s.cs.getD (plcF s i).toNat [] = s.cs[(plcF s i).toNat] := by simp [List.getD, hk]
          rw [this]
          exact List.getElem_mem hk
        have hF : ∀ xs : List Int, isFzN (ints xs) = true := fun _ => rfl
        have hb : Nat.blt ((plcF s i).toNat * 1) s.cs.length = true := Nat.ble_eq_true_of_le (by omega)
        rw [e, decide_eq_false h3, show (s.n == 0) = false from by rw [beq_eq_false_iff_ne]; exact p0, sameV_rows, decide_eq_true p1, decide_eq_true p2, hx, hF, lenM, hb, if_pos rfl]
        simp only [cond_false, cond_true, guardK, Bool.and_self]
        exact addT_ints _ (hr _ hm) _
end Go.Proofs.Ytokighfpmonjdaa
/- The document's ring: whether a frame is right. -/
namespace Go.Proofs.Ytokighfpmonjdaa
open Go.Ev
set_option maxRecDepth 100000
def st78 (s : Rf) (xs : List Int) (i : Int) : St := ⟨[.dead, ints xs, .ptr (some (0, 0)), .dead, .dead, int64 i] ++ repA .dead 23, mkHeap [(0, .cells true (cellsF s))] 5, [], .off⟩
def rt78 (s : Rf) : St := ⟨[.dead, .dead, .dead, .dead, .bool false, .dead] ++ repA .dead 23, mkHeap [(0, .cells true (cellsF s))] 5, [], .off⟩
def N78 : Norm := ⟨[1, 2, 4, 5], []⟩
theorem norm78 : loopN0 tb 78 2 = some N78 := by kernel_rfl
theorem count78 : Nat.ble (countL 2 e78.code) 1 = true := by kernel_rfl
def body78 {A : Type} (s : Rf) (xs : List Int) (i : Int) (K : Ex → St → Option A) : Option A :=
  bif decide (i < (xs.length : Int)) then ldI xs i fun x => bif decide (x < -8388607) then K .ret (rt78 s) else ldI xs i fun x => bif decide (x > 8388607) then K .ret (rt78 s) else K .normal (st78 s xs (w64 (i + 1))) else K (.exit 0) (st78 s xs i)
theorem b78 {A : Type} (s : Rf) (xs : List Int) (i : Int) (K : Ex → St → Option A) : loopB Try.prog orc0 tb 78 2 1 (st78 s xs i) K = body78 s xs i K := by kernel_rfl
theorem loop78 {s : Rf} {xs : List Int} (hl : xs.length ≤ maxLen) : ∀ (d i n : Nat), i + d = xs.length → d < n →
    loopN (loopB Try.prog orc0 tb 78 2 1) n (st78 s xs (i : Int)) pairE = some (bif badR (xs.drop i) then (.ret, rt78 s) else (.exit 0, st78 s xs (xs.length : Int))) := by
  have hM : maxLen = 9223372036854775807 := rfl
  intro d
  induction d with
  | zero =>
    intro i n hi hn
    obtain ⟨n, rfl⟩ : ∃ m, n = m + 1 := ⟨n - 1, by omega⟩
    have hi : i = xs.length := by omega
    subst hi
    rw [loopN_succ, b78, List.drop_eq_nil_of_le (Nat.le_refl _)]
    unfold body78
    rw [decide_eq_false (by omega : ¬ ((xs.length : Int) < (xs.length : Int)))]
    rfl
  | succ d ih =>
    intro i n hi hn
    obtain ⟨n, rfl⟩ : ∃ m, n = m + 1 := ⟨n - 1, by omega⟩
    have h : i < xs.length := by omega
    have ih' := ih (i + 1) n (by omega) (by omega)
    have ew : w64 ((i : Int) + 1) = ((i + 1 : Nat) : Int) := by unfold w64; rw [IntKind.wrap_i64]; omega
    have eg : xs.getD i 0 = xs[i] := by simp [List.getD, h]
    rw [loopN_succ, b78, List.drop_eq_getElem_cons h]
    unfold body78
    rw [decide_eq_true (by omega : (i : Int) < (xs.length : Int)), cond_true, ldI_get h, ldI_get h, eg, ew]
    unfold badR at ih' ⊢
    rw [List.any_cons]
    unfold off1
    cases h1 : decide (xs[i] < -8388607) with
    | true => rfl
    | false =>
      cases h2 : decide (xs[i] > 8388607) with
      | true => rfl
      | false =>
        simp only [cond_false, Bool.false_or]
        exact ih'
theorem run78_f (s : Rf) (xs : List Int) (i : Int) (h : Heap) : evCall Try.prog (knowL Try.prog 78 2 N78 1 (st78 s xs 0) (.exit 0) (st78 s xs i) orc0) tb 100 AV (.fn 78) (vwArgs Try.prog [] h (parsOf Try.prog 78) [aggF s, ints xs]) (mkHeap [] 0) .off rv = bif sameSt (st78 s xs 0) (st78 s xs 0) then some (.bool ((xs.length : Int) == s.ch)) else none := by kernel_rfl
theorem run78_t (s : Rf) (xs : List Int) (h : Heap) : evCall Try.prog (knowL Try.prog 78 2 N78 1 (st78 s xs 0) .ret (rt78 s) orc0) tb 100 AV (.fn 78) (vwArgs Try.prog [] h (parsOf Try.prog 78) [aggF s, ints xs]) (mkHeap [] 0) .off rv = bif sameSt (st78 s xs 0) (st78 s xs 0) then some (.bool false) else none := by kernel_rfl
theorem fact78 {s : Rf} {xs : List Int} (hl : xs.length ≤ maxLen) : F 78 [aggF s, ints xs] (.bool (!badR xs && ((xs.length : Int) == s.ch))) := by
  have hr : rounds = 100000000000000000000 := rfl
  have hM : maxLen = 9223372036854775807 := rfl
  have l1 := loop78 (s := s) hl xs.length 0 rounds (by omega) (by omega)
  rw [List.drop_zero] at l1
  cases hb : badR xs with
  | false =>
    rw [hb] at l1
    exact .of (knowL_ok tbOk ⟨orc0, ok0, l1⟩ ok0 (ep := e78) rfl norm78 count78) rfl fun h => (run78_f s xs _ h).trans (by rw [sameSt_self]; rfl)
  | true =>
    rw [hb] at l1
    exact .of (knowL_ok tbOk ⟨orc0, ok0, l1⟩ ok0 (ep := e78) rfl norm78 count78) rfl fun h => (run78_t s xs h).trans (by rw [sameSt_self]; rfl)
end Go.Proofs.Ytokighfpmonjdaa
