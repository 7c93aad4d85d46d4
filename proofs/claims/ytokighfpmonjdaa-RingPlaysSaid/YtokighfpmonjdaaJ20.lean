/- The document's ring: Put. -/
import Derived.Test.YtokighfpmonjdaaJ19
import Derived.Test.YtokighfpmonjdaaJ18
namespace Go.Proofs.Ytokighfpmonjdaa
open Go.Ev
set_option maxRecDepth 100000
abbrev zeroF : List AV := [int64 0, int64 0, int64 0, int64 0, int64 0, int64 0, int64 0, int64 0, int64 0, .sl none 0 0 true 0]
def st85 (s : Rf) (i : Int) (fv : AV) (l : List (Nat × Blk)) : St := ⟨[.dead, .ptr (some (2, 0)), .ptr (some (3, 0)), fv, int64 i] ++ repA .dead 21, mkHeap (l ++ [(4, .cells true []), (3, .cells true zeroF), (2, .cells true (cellsF s)), (1, .cells true zeroF), (0, .cells true (cellsF s))]) 9, [], .off⟩
abbrev x85 (s : Rf) (i : Int) : AV := nth (s.cs.map ints) (i.toNat * 1)
noncomputable def add85 {A : Type} (x : AV) (kE : Option A) (kM kN : List (Nat × List AV) → AV → Option A) : Option A :=
  bif Nat.beq (fzL x) 0 then kE else guardK (Nat.beq (fzS x) 1) <| guardK (Nat.ble ((0 + fzL x) * 8) limit && Nat.ble (0 + fzL x) limit) <|
    bif Nat.ble (0 + fzL x) 0 then (bif Nat.beq (fzL x) 0 then kE else guardK (flatL (fzC x)) <| guardK (Nat.ble (0 + lenA (fzC x)) 0) <| kM [(9, splice [] 0 (fzC x))] (.sl (some (9, 0)) (0 + fzL x) 0 true 1))
    else kN [(9, []), (10, fzC x)] (.gr (10, 0) (0 + fzL x) 1)
def put85 (cs : List AV) (m : Nat) (v : AV) : List AV := appA (takeA (dropA cs 0) ((m + 1) * 1)) [v]
def row85 {A : Type} (s : Rf) (i : Int) (x : Option A) : Option A := guardK (decide (0 ≤ i) && decide (i < (s.cs.length : Int))) <| guardK (Nat.blt (i.toNat * 1) (lenA (s.cs.map ints))) <| guardK (isFzN (x85 s i)) x
def N85 : Norm := ⟨[1, 2, 3, 4], []⟩
theorem norm85 : loopN0 tb 85 3 = some N85 := by kernel_rfl
def cellsB : Option Blk → List AV
  | some (.cells _ vs) => vs
  | _ => []
def raw56 : Out → Heap → Md → Option AV := fun out h u => match u with
  | .off => (match out with
    | .ret v => some (.tup [v, .agg (cellsB (h.m 7)), .agg (cellsB (h.m 19))])
    | _ => none)
  | _ => none
def plW (s : Rf) (i : Int) : Int := (w64 (s.fi + w64 (s.w + i))).tmod s.n
def gr10 (s : Rf) (N : Nat) : AV := .agg [int64 s.n, int64 s.ch, int64 s.fi, int64 s.w, int64 s.r, int64 s.se, int64 s.lo, int64 s.cl, int64 s.ta, .gr (7, 0) N 1]
noncomputable abbrev run56 (S : Orc) (s : Rf) (i : Int) (f : List Int) : Option AV := evCall Try.prog S tb 100 AV (.fn 56) [aggF s, int64 i, ints f] (mkHeap [] 0) .off raw56
noncomputable def S56 (s : Rf) (f : List Int) (b : Bool) (S : Orc) : Orc := know 78 [aggF s, ints f] (.bool b) S
theorem count85 : Nat.ble (countL 3 e85.code) 1 = true := by kernel_rfl
noncomputable abbrev B85 {A : Type} (st : St) (K : Ex → St → Option A) : Option A := loopBG Try.prog orc0 tb 85 3 ⟨[], [7], [9, 10]⟩ 5 st K
theorem b85_0 {A : Type} (s : Rf) (i : Int) (K : Ex → St → Option A) : B85 (st85 s i (.sl (some (4, 0)) 0 0 true 1) []) K = (bif decide (i < (s.cs.length : Int)) then row85 s i <| add85 (x85 s i) (guardK ((allC [(9, [])] [(.sl (some (9, 0)) 0 0 true 1)] && true)) <| K .normal (st85 s (w64 (i + 1)) (.gr (7, 0) 1 1) [(7, .cells true (mapC [(9, [])] [(.sl (some (9, 0)) 0 0 true 1)]))])) (fun fr v => guardK (allS (splice [] 0 (fzC (x85 s i))) && true && (allC fr [v] && true)) <| K .normal (st85 s (w64 (i + 1)) (.gr (7, 0) 1 1) [(7, .cells true (mapC fr [v]))])) (fun fr v => guardK (allS (fzC (x85 s i)) && true && (allC fr [v] && true)) <| K .normal (st85 s (w64 (i + 1)) (.gr (7, 0) 1 1) [(7, .cells true (mapC fr [v]))])) else K (.exit 0) (st85 s i (.sl (some (4, 0)) 0 0 true 1) [])) := by kernel_rfl
theorem b85_g {A : Type} (s : Rf) (i : Int) (cs : List AV) (m : Nat) (K : Ex → St → Option A) : B85 (st85 s i (.gr (7, 0) (m + 1) 1) [(7, .cells true cs)]) K = (bif decide (i < (s.cs.length : Int)) then row85 s i <| add85 (x85 s i) (guardK (Nat.ble ((m + 1 + 1) * 24) limit && Nat.ble (m + 1 + 1) limit) <| guardK (Nat.ble (0 + (m + 1) * 1) (lenA cs)) <|  guardK ((allC [(9, [])] (put85 cs m (.sl (some (9, 0)) 0 0 true 1)) && true)) <| K .normal (st85 s (w64 (i + 1)) (.gr (7, 0) (m + 1 + 1) 1) [(7, .cells true (mapC [(9, [])] (put85 cs m (.sl (some (9, 0)) 0 0 true 1))))])) (fun fr v => guardK (Nat.ble ((m + 1 + 1) * 24) limit && Nat.ble (m + 1 + 1) limit) <| guardK (Nat.ble (0 + (m + 1) * 1) (lenA cs)) <|  guardK (allS (splice [] 0 (fzC (x85 s i))) && true && (allC fr (put85 cs m v) && true)) <| K .normal (st85 s (w64 (i + 1)) (.gr (7, 0) (m + 1 + 1) 1) [(7, .cells true (mapC fr (put85 cs m v)))])) (fun fr v => guardK (Nat.ble ((m + 1 + 1) * 24) limit && Nat.ble (m + 1 + 1) limit) <| guardK (Nat.ble (0 + (m + 1) * 1) (lenA cs)) <|  guardK (allS (fzC (x85 s i)) && true && (allC fr (put85 cs m v) && true)) <| K .normal (st85 s (w64 (i + 1)) (.gr (7, 0) (m + 1 + 1) 1) [(7, .cells true (mapC fr (put85 cs m v)))])) else guardK (allC [] cs && true) (K (.exit 0) (st85 s i (.gr (7, 0) (m + 1) 1) [(7, .cells true (mapC [] cs))]))) := by kernel_rfl
theorem add85_ints {A : Type} {xs : List Int} (h0 : 1 ≤ xs.length) (h : xs.length ≤ 1000000) (kE : Option A) (kM kN : List (Nat × List AV) → AV → Option A) : add85 (ints xs) kE kM kN = kN [(9, []), (10, xs.map int64)] (.gr (10, 0) (0 + xs.length) 1) := by
  unfold add85
  rcases xs with _ | ⟨x, xs⟩
  · simp at h0
  · have hl : fzL (ints (x :: xs)) = xs.length + 1 := rfl
    have hc : fzC (ints (x :: xs)) = (x :: xs).map int64 := rfl
    have hs : fzS (ints (x :: xs)) = 1 := rfl
    have hlim : limit = 140737488355328 := rfl
    have hz : xs.length + 1 ≤ 1000001 := by simp at h; omega
    have e1 : Nat.beq (xs.length + 1) 0 = false := rfl
    have e2 : Nat.ble (0 + (xs.length + 1)) 0 = false := by rw [Nat.zero_add]; rfl
    have e3 : (Nat.ble ((0 + (xs.length + 1)) * 8) limit && Nat.ble (0 + (xs.length + 1)) limit) = true := by
      rw [Bool.and_eq_true]
      exact ⟨Nat.ble_eq_true_of_le (by omega), Nat.ble_eq_true_of_le (by omega)⟩
    rw [hl, hc, hs, e1, e2, e3]
    rfl
abbrev fr85 (xs : List Int) : List (Nat × List AV) := [(9, []), (10, xs.map int64)]
abbrev v85 (xs : List Int) : AV := .gr (10, 0) (0 + xs.length) 1
theorem cv85 (xs : List Int) : mapC (fr85 xs) [v85 xs] = [ints xs] := by
  have e : cv (fr85 xs) (v85 xs) = .fz (fixLen ((0 + xs.length) * 1) (dropA (xs.map int64) 0)) (0 + xs.length) false 1 := rfl
  show [cv (fr85 xs) (v85 xs)] = _
  rw [e, Nat.zero_add, fix_ints]
  rfl
structure RowsOk (s : Rf) : Prop where
  n : s.cs.length ≤ 1024
  rows : ∀ f ∈ s.cs, 1 ≤ f.length ∧ f.length ≤ 1000000
section
variable {s : Rf}
theorem x85_eq {i : Nat} (h : i < s.cs.length) : x85 s (i : Int) = ints s.cs[i] := by
  unfold x85
  rw [show (i : Int).toNat * 1 = i by omega, nthM ints s.cs i h]
theorem row85_eq {A : Type} {i : Nat} (h : i < s.cs.length) (x : Option A) : row85 s (i : Int) x = x := by
  have hF : isFzN (ints s.cs[i]) = true := rfl
  unfold row85
  rw [x85_eq h, hF, show (i : Int).toNat * 1 = i by omega, lenM, show Nat.blt i s.cs.length = true from Nat.ble_eq_true_of_le h, decide_eq_true (Int.natCast_nonneg i), decide_eq_true (by omega : (i : Int) < (s.cs.length : Int))]
  rfl
def so85 (s : Rf) (i : Nat) : St := st85 s (i : Int) (.gr (7, 0) i 1) [(7, .cells true (rowsL (s.cs.take i)))]
theorem first85 {A : Type} (hr : RowsOk s) (h : 0 < s.cs.length) (K : Ex → St → Option A) : B85 (st85 s 0 (.sl (some (4, 0)) 0 0 true 1) []) K = K .normal (so85 s 1) := by
  obtain ⟨r1, r2⟩ := hr.rows s.cs[0] (List.getElem_mem h)
  have hx : x85 s 0 = ints s.cs[0] := x85_eq h
  have hrow : ∀ x : Option A, row85 s 0 x = x := fun x => row85_eq h x
  have hc : fzC (ints s.cs[0]) = s.cs[0].map int64 := rfl
  have hA : allC (fr85 s.cs[0]) [v85 s.cs[0]] = true := rfl
  have ht : s.cs.take 1 = [s.cs[0]] := by
    have h2 : s.cs.take (0 + 1) = s.cs.take 0 ++ [s.cs[0]] := by rw [List.take_append_getElem h]
    exact h2
  rw [b85_0, decide_eq_true (by omega : (0 : Int) < (s.cs.length : Int)), cond_true, hrow, hx, add85_ints r1 r2, hc, allS_ints, hA, cv85]
  unfold so85
  rw [ht]
  rfl
theorem next85 {A : Type} (hr : RowsOk s) {i : Nat} (h0 : 0 < i) (h : i < s.cs.length) (K : Ex → St → Option A) : B85 (so85 s i) K = K .normal (so85 s (i + 1)) := by
  obtain ⟨m, rfl⟩ : ∃ m, i = m + 1 := ⟨i - 1, by omega⟩
  obtain ⟨r1, r2⟩ := hr.rows s.cs[m + 1] (List.getElem_mem h)
  have hn := hr.n
  have hc : fzC (ints s.cs[m + 1]) = s.cs[m + 1].map int64 := rfl
  have hl : (s.cs.take (m + 1)).length = m + 1 := by rw [List.length_take]; omega
  have hlim : limit = 140737488355328 := rfl
  have e1 : Nat.ble (0 + (m + 1) * 1) (m + 1) = true := Nat.ble_eq_true_of_le (by omega)
  have e2 : Nat.ble ((m + 1 + 1) * 24) limit = true := Nat.ble_eq_true_of_le (by omega)
  have e3 : Nat.ble (m + 1 + 1) limit = true := Nat.ble_eq_true_of_le (by omega)
  have ec : put85 (rowsL (s.cs.take (m + 1))) m (v85 s.cs[m + 1]) = rowsL (s.cs.take (m + 1)) ++ [v85 s.cs[m + 1]] := csR_eq hl
  have e4 : allC (fr85 s.cs[m + 1]) (rowsL (s.cs.take (m + 1)) ++ [v85 s.cs[m + 1]]) = true := by rw [allC_app, allC_rows]; rfl
  have e5 : mapC (fr85 s.cs[m + 1]) (rowsL (s.cs.take (m + 1)) ++ [v85 s.cs[m + 1]]) = rowsL (s.cs.take (m + 1 + 1)) := by
    rw [mapC_app, mapC_rows, cv85]
    have ht : s.cs.take (m + 1 + 1) = s.cs.take (m + 1) ++ [s.cs[m + 1]] := by rw [List.take_append_getElem h]
    rw [ht]
    show _ = (s.cs.take (m + 1) ++ [s.cs[m + 1]]).map ints
    rw [List.map_append]
    rfl
  unfold so85
  rw [b85_g, decide_eq_true (by omega : ((m + 1 : Nat) : Int) < (s.cs.length : Int)), cond_true, row85_eq h, x85_eq h, add85_ints r1 r2, e2, e3, lenM, hl, e1, ec, hc, allS_ints, e4, e5, show w64 (((m + 1 : Nat) : Int) + 1) = ((m + 1 + 1 : Nat) : Int) from by unfold w64; rw [IntKind.wrap_i64]; omega]
  rfl
theorem loop85 (hr : RowsOk s) : ∀ (d i Q : Nat), i + d = s.cs.length → d < Q → 0 < i → loopN B85 Q (so85 s i) pairE = some (.exit 0, so85 s s.cs.length) := by
  intro d
  induction d with
  | zero =>
    intro i Q hi hQ h0
    obtain ⟨Q, rfl⟩ : ∃ q, Q = q + 1 := ⟨Q - 1, by omega⟩
    have hi' : i = s.cs.length := by omega
    subst hi'
    obtain ⟨m, hm⟩ : ∃ m, s.cs.length = m + 1 := ⟨s.cs.length - 1, by omega⟩
    have e : so85 s s.cs.length = st85 s (s.cs.length : Int) (.gr (7, 0) (m + 1) 1) [(7, .cells true (rowsL (s.cs.take s.cs.length)))] := by
      unfold so85
      rw [← hm]
    rw [loopN_succ, e, b85_g, decide_eq_false (by omega : ¬ ((s.cs.length : Int) < (s.cs.length : Int))), allC_rows, mapC_rows]
    rfl
  | succ d ih =>
    intro i Q hi hQ h0
    obtain ⟨Q, rfl⟩ : ∃ q, Q = q + 1 := ⟨Q - 1, by omega⟩
    rw [loopN_succ, next85 hr h0 (by omega)]
    exact ih (i + 1) Q (by omega) (by omega) (by omega)
theorem loop85_all (hr : RowsOk s) (h : 0 < s.cs.length) : loopN B85 rounds (st85 s 0 (.sl (some (4, 0)) 0 0 true 1) []) pairE = some (.exit 0, st85 s (s.cs.length : Int) (.gr (7, 0) s.cs.length 1) [(7, .cells true (rowsL s.cs))]) := by
  have hn := hr.n
  have hrd : rounds = 100000000000000000000 := rfl
  obtain ⟨Q, hQ⟩ : ∃ Q, rounds = Q + 1 := ⟨99999999999999999999, rfl⟩
  have e := loop85 hr (s.cs.length - 1) 1 Q (by omega) (by omega) (by omega)
  unfold so85 at e
  rw [List.take_length] at e
  rw [hQ, loopN_succ, first85 hr h]
  exact e
end
noncomputable def pre56 {A : Type} (s : Rf) (i : Int) (f : List Int) (b : Bool) (e : Int → Option A) (ok : Option A) : Option A := bif same [aggF s, ints f] [aggF s, ints f] then bif !b then e 1 else bif decide (i < 0) then e 7 else bif decide (s.cl < 0) then e 9 else bif decide (i ≥ s.cl) then e 7 else ok else none
theorem run56_bad (s : Rf) (i : Int) (f : List Int) (b : Bool) : runF (S56 s f b (stopAt 56 [9] orc0)) 56 [aggF s, int64 i, ints f] = pre56 s i f b (fun e => some (.tup [aggF s, int64 e])) none := by kernel_rfl
theorem run56_ok (s : Rf) (i j : Int) (x : Int) (xs : List Int) (N : Nat) (L : List AV) (t0 : St) : run56 (S56 s (x :: xs) true (knowLG Try.prog 85 3 N85 ⟨[], [7], [9, 10]⟩ 5 t0 (.exit 0) (st85 s j (.gr (7, 0) N 1) [(7, .cells true L)]) (stopAt 56 [2, 4, 6, 8] orc0))) s i (x :: xs) =
    pre56 s i (x :: xs) true (fun _ => none) (bif sameSt (st85 s 0 (.sl (some (4, 0)) 0 0 true 1) []) t0 then bif (s.n == 0) then none else bif sameV (.gr (7, 0) N 1) (.gr (7, 0) N 1) then guardK (Nat.ble ((0 + (xs.length + 1)) * 8) limit && Nat.ble (0 + (xs.length + 1)) limit) <| bif sameV (.gr (7, 0) N 1) (.gr (7, 0) N 1) then
      guardK (decide (0 ≤ plW s i) && decide (plW s i < (N : Int))) <| guardK (Nat.blt (0 + (plW s i).toNat * 1) (lenA L)) <| some (.tup [.tup [gr10 s N, int64 0], .agg (setL L (0 + (plW s i).toNat * 1) (.gr (19, 0) (0 + (xs.length + 1)) 1)), .agg ((x :: xs).map int64)]) else none else none else none) := by kernel_rfl
end Go.Proofs.Ytokighfpmonjdaa
/- The document's ring: Put, told of. -/
namespace Go.Proofs.Ytokighfpmonjdaa
open Go.Ev
set_option maxRecDepth 100000
theorem nfact_raw {a : List AV} {v r : AV} (ha : vwArgs Try.prog [] none0 (parsOf Try.prog 56) a = a) {S : Orc} (hS : Ok S) (hr : evCall Try.prog S tb 100 AV (.fn 56) a (mkHeap [] 0) .off raw56 = some r)
    (hK : ∀ v1 h1, raw56 (.ret v1) h1 .off = some r → vwRes Try.prog [] h1 (resOf Try.prog 56) v1 = v) : NFact Try.prog tb 56 a v := by
  have e : evCall Try.prog S tb 100 AV (.fn 56) a (mkHeap [] 0) .off raw56 = (evCall Try.prog S tb 100 (AV × Heap) (.fn 56) a (mkHeap [] 0) .off pairK).bind fun x => raw56 (.ret x.1) x.2 .off :=
    evCall_b hS.nf hS.nl 100 AV (AV × Heap) (.fn 56) a (mkHeap [] 0) .off _ pairK _ fun o h m => by
      cases m <;> cases o <;> rfl
  have e2 : evCall Try.prog S tb 100 AV (.fn 56) a (mkHeap [] 0) .off (nviewK Try.prog (resOf Try.prog 56)) = (evCall Try.prog S tb 100 (AV × Heap) (.fn 56) a (mkHeap [] 0) .off pairK).bind fun x => nviewK Try.prog (resOf Try.prog 56) (.ret x.1) x.2 .off :=
    evCall_b hS.nf hS.nl 100 AV (AV × Heap) (.fn 56) a (mkHeap [] 0) .off _ pairK _ fun o h m => by
      cases m <;> cases o <;> rfl
  rw [e] at hr
  obtain ⟨⟨v1, h1⟩, hr1, hr2⟩ := Option.bind_eq_some_iff.1 hr
  refine ⟨ha, S, hS, ?_⟩
  rw [e2, hr1]
  show some (vwRes Try.prog [] h1 (resOf Try.prog 56) v1) = some v
  rw [hK v1 h1 hr2]
noncomputable def sl56 (h1 : Heap) (N : Nat) : AV := match h1.m 7 with
  | some (.cells _ vs) => .fz (fixLen (N * 1) (mapCyc (vw Try.prog [] h1 true 6) (eLeaves Try.prog (some 33)) (eLeaves Try.prog (some 33)) (dropA vs 0))) N false 1
  | _ => .dead
theorem res56 (h1 : Heap) (s : Rf) (N : Nat) : vwRes Try.prog [] h1 (resOf Try.prog 56) (.tup [gr10 s N, int64 0]) = .tup [.agg [int64 s.n, int64 s.ch, int64 s.fi, int64 s.w, int64 s.r, int64 s.se, int64 s.lo, int64 s.cl, int64 s.ta, sl56 h1 N], int64 0] := by kernel_rfl
theorem lv33 : eLeaves Try.prog (some 33) = [some 3] := by kernel_rfl
theorem vw_row (h1 : Heap) (f : List Int) : vw Try.prog [] h1 true 6 (some 3) (ints f) = ints f := rfl
noncomputable def sl19 (h1 : Heap) (n : Nat) : AV := match h1.m 19 with
  | some (.cells _ vs) => .fz (fixLen (n * 1) (mapCyc (vw Try.prog [] h1 true 5) (eLeaves Try.prog (some 3)) (eLeaves Try.prog (some 3)) (dropA vs 0))) n false 1
  | _ => .dead
theorem vw_19 (h1 : Heap) (n : Nat) : vw Try.prog [] h1 true 6 (some 3) (.gr (19, 0) n 1) = sl19 h1 n := rfl
theorem mapCyc1 (f : Option TypeId → AV → AV) (t : Option TypeId) : ∀ cs : List AV, mapCyc f [t] [] cs = cs.map (f t)
  | [] => rfl
  | c :: cs => by
    show f t c :: mapCyc f [t] [] cs = _
    rw [mapCyc1 f t cs]
    rfl
theorem mapCyc2 (f : Option TypeId → AV → AV) (t : Option TypeId) (cs : List AV) : mapCyc f [t] [t] cs = cs.map (f t) := by
  cases cs with
  | nil => rfl
  | cons c cs =>
    show f t c :: mapCyc f [t] [] cs = _
    rw [mapCyc1]
    rfl
theorem map_set (g : AV → AV) (f : List Int) (v : AV) (hv : g v = ints f) (hr : ∀ r : List Int, g (ints r) = ints r) : ∀ (fs : List (List Int)) (k : Nat), (setL (rowsL fs) k v).map g = rowsL (fs.set k f)
  | [], _ => rfl
  | x :: l, 0 => by
    show g v :: (rowsL l).map g = ints f :: rowsL l
    rw [hv, List.map_map]
    congr 1
    exact List.map_congr_left fun r _ => hr r
  | x :: l, k + 1 => by
    show g (ints x) :: (setL (rowsL l) k v).map g = ints x :: rowsL (l.set k f)
    rw [hr, map_set g f v hv hr l k]
theorem cellsB_some {b : Option Blk} {L : List AV} (h : cellsB b = L) (h0 : L ≠ []) : ∃ w, b = some (.cells w L) := by
  cases b with
  | none => exact absurd h.symm h0
  | some x =>
    cases x with
    | cells w vs => exact ⟨w, by rw [show vs = L from h]⟩
    | _ => exact absurd h.symm h0
theorem setL_ne {fs : List (List Int)} (h : 0 < fs.length) (k : Nat) (v : AV) : setL (rowsL fs) k v ≠ [] := by
  rcases fs with _ | ⟨x, l⟩
  · simp at h
  · cases k <;> simp [setL]
def putFE (s : Rf) (i : Int) (f : List Int) : Int := if badR f = true ∨ (f.length : Int) ≠ s.ch then 1 else if i < 0 then 7 else if s.cl < 0 then 9 else if i ≥ s.cl then 7 else 0
def putF (s : Rf) (i : Int) (f : List Int) : Rf := if putFE s i f = 0 then ⟨s.n, s.ch, s.fi, s.w, s.r, s.se, s.lo, s.cl, s.ta, s.cs.set (plW s i).toNat f⟩ else s
theorem ar56 (s : Rf) (i : Int) (f : List Int) : vwArgs Try.prog [] none0 (parsOf Try.prog 56) [aggF s, int64 i, ints f] = [aggF s, int64 i, ints f] := by kernel_rfl
theorem FFact.n {f : FuncId} {a : List AV} {v : AV} (h : FFact Try.prog tb f a v) : NFact Try.prog tb f a v := by
  obtain ⟨ha, S, hS, hr⟩ := h
  refine ⟨ha, S, hS, ?_⟩
  have e : evCall Try.prog S tb 100 AV (.fn f) a (mkHeap [] 0) .off (viewK Try.prog (resOf Try.prog f)) = (evCall Try.prog S tb 100 (AV × Heap) (.fn f) a (mkHeap [] 0) .off pairK).bind fun x => viewK Try.prog (resOf Try.prog f) (.ret x.1) x.2 .off :=
    evCall_b hS.nf hS.nl 100 AV (AV × Heap) (.fn f) a (mkHeap [] 0) .off _ pairK _ fun o h m => by
      cases m <;> cases o <;> rfl
  have e2 : evCall Try.prog S tb 100 AV (.fn f) a (mkHeap [] 0) .off (nviewK Try.prog (resOf Try.prog f)) = (evCall Try.prog S tb 100 (AV × Heap) (.fn f) a (mkHeap [] 0) .off pairK).bind fun x => nviewK Try.prog (resOf Try.prog f) (.ret x.1) x.2 .off :=
    evCall_b hS.nf hS.nl 100 AV (AV × Heap) (.fn f) a (mkHeap [] 0) .off _ pairK _ fun o h m => by
      cases m <;> cases o <;> rfl
  rw [e] at hr
  obtain ⟨⟨v1, h1⟩, hr1, hr2⟩ := Option.bind_eq_some_iff.1 hr
  rw [e2, hr1]
  show some (vwRes Try.prog [] h1 (resOf Try.prog f) v1) = some v
  rw [viewK_some hr2]
theorem putF_fact {s : Rf} {i : Int} {f : List Int} (hr : RowsOk s) (h0 : 0 < s.cs.length) (hf : f.length ≤ 1000000) (hc : s.ch ≥ 1) (hp : putFE s i f = 0 → s.n ≠ 0 ∧ 0 ≤ plW s i ∧ plW s i < (s.cs.length : Int)) :
    NFact Try.prog tb 56 [aggF s, int64 i, ints f] (.tup [aggF (putF s i f), int64 (putFE s i f)]) := by
  have hM : maxLen = 9223372036854775807 := rfl
  have f78 := fact78 (s := s) (xs := f) (by omega)
  by_cases hE : putFE s i f = 0
  rotate_left
  · have e : putF s i f = s := by unfold putF; rw [if_neg hE]
    rw [e]
    refine FFact.n ⟨ar56 s i f, _, know_ok tbOk f78 (stopAt_ok ok0), (run56_bad s i f _).trans ?_⟩
    unfold pre56
    rw [same_self]
    unfold putFE at hE ⊢
    by_cases h1 : badR f = true ∨ (f.length : Int) ≠ s.ch
    · have : (!badR f && ((f.length : Int) == s.ch)) = false := by
        rcases h1 with h1 | h1
        · rw [h1]; rfl
        · rw [show ((f.length : Int) == s.ch) = false from by rw [beq_eq_false_iff_ne]; exact h1, Bool.and_false]
      rw [this, if_pos h1]
      rfl
    · have h2 : badR f = false := by cases h : badR f with | false => rfl | true => exact absurd (Or.inl h) h1
      have h3 : (f.length : Int) = s.ch := Classical.not_not.1 fun h => h1 (Or.inr h)
      rw [if_neg h1] at hE ⊢
      rw [h2, show ((f.length : Int) == s.ch) = true from by rw [h3]; exact beq_self_eq_true _]
      by_cases h4 : i < 0
      · rw [if_pos h4, decide_eq_true h4]; rfl
      · rw [if_neg h4] at hE ⊢
        rw [decide_eq_false h4]
        by_cases h5 : s.cl < 0
        · rw [if_pos h5, decide_eq_true h5]; rfl
        · rw [if_neg h5] at hE ⊢
          rw [decide_eq_false h5]
          by_cases h6 : i ≥ s.cl
          · rw [if_pos h6, decide_eq_true h6]; rfl
          · rw [if_neg h6] at hE
            exact absurd rfl hE
  · obtain ⟨p0, p1, p2⟩ := hp hE
    have hE' := hE
    unfold putFE at hE'
    by_cases h1 : badR f = true ∨ (f.length : Int) ≠ s.ch
    · rw [if_pos h1] at hE'; omega
    rw [if_neg h1] at hE'
    have h2 : badR f = false := by cases h : badR f with | false => rfl | true => exact absurd (Or.inl h) h1
    have h3 : (f.length : Int) = s.ch := Classical.not_not.1 fun h => h1 (Or.inr h)
    by_cases h4 : i < 0
    · rw [if_pos h4] at hE'; omega
    rw [if_neg h4] at hE'
    by_cases h5 : s.cl < 0
    · rw [if_pos h5] at hE'; omega
    rw [if_neg h5] at hE'
    by_cases h6 : i ≥ s.cl
    · rw [if_pos h6] at hE'; omega
    obtain ⟨x, xs, rfl⟩ : ∃ x xs, f = x :: xs := by
      rcases f with _ | ⟨x, xs⟩
      · simp at h3; omega
      · exact ⟨x, xs, rfl⟩
    have eP : putF s i (x :: xs) = ⟨s.n, s.ch, s.fi, s.w, s.r, s.se, s.lo, s.cl, s.ta, s.cs.set (plW s i).toNat (x :: xs)⟩ := by unfold putF; rw [if_pos hE]
    have hv : (!badR (x :: xs) && (((x :: xs).length : Int) == s.ch)) = true := by
      rw [h2, show (((x :: xs).length : Int) == s.ch) = true from by rw [h3]; exact beq_self_eq_true _]; rfl
    rw [hv] at f78
    rw [hE, eP]
    have hlim : limit = 140737488355328 := rfl
    have hz : xs.length + 1 ≤ 1000000 := by simp at hf; omega
    have e3 : (Nat.ble ((0 + (xs.length + 1)) * 8) limit && Nat.ble (0 + (xs.length + 1)) limit) = true := by
      rw [Bool.and_eq_true]
      exact ⟨Nat.ble_eq_true_of_le (by omega), Nat.ble_eq_true_of_le (by omega)⟩
    have hgr : sameV (.gr (7, 0) s.cs.length 1) (.gr (7, 0) s.cs.length 1) = true := by simp [sameV, sameF]
    refine nfact_raw (ar56 s i (x :: xs)) (know_ok tbOk f78 (knowLG_ok tbOk (F := ⟨[], [7], [9, 10]⟩) (LFact.flatG ok0 (loop85_all hr h0)) (stopAt_ok (f := 56) (l := [2, 4, 6, 8]) ok0) (ep := e85) rfl norm85 count85)) (r := .tup [.tup [gr10 s s.cs.length, int64 0], .agg (setL (rowsL s.cs) (plW s i).toNat (.gr (19, 0) (xs.length + 1) 1)), .agg ((x :: xs).map int64)]) ?_ ?_
    · refine (run56_ok s i (s.cs.length : Int) x xs s.cs.length (rowsL s.cs) _).trans ?_
      unfold pre56
      rw [same_self, decide_eq_false h4, decide_eq_false h5, decide_eq_false h6, sameSt_self, show (s.n == 0) = false from by rw [beq_eq_false_iff_ne]; exact p0, hgr, e3, decide_eq_true p1, decide_eq_true p2, lenM, show Nat.blt (0 + (plW s i).toNat * 1) s.cs.length = true from Nat.ble_eq_true_of_le (by omega)]
      simp only [cond_true, cond_false, guardK, Bool.not_true, Bool.and_self, Nat.zero_add, Nat.mul_one]
    · intro v1 h1 hK
      simp only [raw56, Option.some.injEq, AV.tup.injEq, List.cons.injEq, AV.agg.injEq, and_true] at hK
      obtain ⟨rfl, k7, k19⟩ := hK
      obtain ⟨w7, hm7⟩ := cellsB_some k7 (setL_ne h0 _ _)
      obtain ⟨w19, hm19⟩ := cellsB_some k19 (by simp)
      rw [res56]
      have e19 : sl19 h1 (xs.length + 1) = ints (x :: xs) := by
        unfold sl19
        rw [hm19]
        simp only
        have hs : allS (dropA ((x :: xs).map int64) 0) = true := by rw [dropA_eq, List.drop_zero, allS_ints]
        rw [mapCyc_simple _ _ _ hs]
        have := fix_ints (x :: xs)
        rw [List.length_cons] at this
        rw [this]
        rfl
      have e7 : sl56 h1 s.cs.length = rows (s.cs.set (plW s i).toNat (x :: xs)) := by
        unfold sl56
        rw [hm7]
        simp only
        rw [lv33, mapCyc2, dropA_eq, List.drop_zero, map_set (vw Try.prog [] h1 true 6 (some 3)) (x :: xs) _ ((vw_19 h1 _).trans e19) (vw_row h1)]
        have := fix_rows (s.cs.set (plW s i).toNat (x :: xs))
        rw [dropA_eq, List.drop_zero, List.length_set] at this
        exact this
      rw [e7]
      rfl
end Go.Proofs.Ytokighfpmonjdaa
/- The document's ring: oracles. -/
namespace Go.Proofs.Ytokighfpmonjdaa
open Go.Ev
set_option maxRecDepth 100000
def aggOf : AV → List AV
  | .agg vs => vs
  | _ => []
def rowsOf : AV → List (List Int)
  | .fz cs _ _ _ => cs.map rowOf
  | _ => []
theorem rowsOf_rows (fs : List (List Int)) : rowsOf (rows fs) = fs := by
  show (fs.map ints).map rowOf = fs
  rw [List.map_map]
  exact List.map_id'' (fun x => rowOf_ints x) fs
def rfOf (v : AV) : Rf := ⟨intOf (nth (aggOf v) 0), intOf (nth (aggOf v) 1), intOf (nth (aggOf v) 2), intOf (nth (aggOf v) 3), intOf (nth (aggOf v) 4), intOf (nth (aggOf v) 5), intOf (nth (aggOf v) 6), intOf (nth (aggOf v) 7), intOf (nth (aggOf v) 8), rowsOf (nth (aggOf v) 9)⟩
theorem rfOf_agg (s : Rf) : rfOf (aggF s) = s := by
  show (⟨s.n, s.ch, s.fi, s.w, s.r, s.se, s.lo, s.cl, s.ta, rowsOf (rows s.cs)⟩ : Rf) = s
  rw [rowsOf_rows]
structure RfOk (s : Rf) : Prop where
  ch : 1 ≤ s.ch ∧ s.ch ≤ 8
  n : s.n = (s.cs.length : Int) ∧ 1 ≤ s.cs.length ∧ s.cs.length ≤ 1024
  rows : ∀ f ∈ s.cs, (f.length : Int) = s.ch
  fi : 0 ≤ s.fi ∧ s.fi < 65536
  w : 0 ≤ s.w ∧ s.w ≤ 100000000
  r : 0 ≤ s.r ∧ s.r ≤ 100000000
  cl : s.cl ≤ 65536
  ta : s.ta ≤ 65536
theorem RfOk.rowsOk {s : Rf} (h : RfOk s) : RowsOk s := ⟨h.n.2.2, fun f hf => by have := h.rows f hf; have := h.ch; omega⟩
theorem plF_in {s : Rf} (h : RfOk s) {o i : Int} (ho : 0 ≤ o ∧ o ≤ 100000000) (hi : 0 ≤ i ∧ i < 65536) : s.n ≠ 0 ∧ 0 ≤ (w64 (s.fi + w64 (o + i))).tmod s.n ∧ (w64 (s.fi + w64 (o + i))).tmod s.n < (s.cs.length : Int) := by
  obtain ⟨h1, h2, h3⟩ := h.n
  have h4 := h.fi
  have e1 : w64 (o + i) = o + i := by unfold w64; rw [IntKind.wrap_i64]; omega
  have e2 : w64 (s.fi + (o + i)) = s.fi + (o + i) := by unfold w64; rw [IntKind.wrap_i64]; omega
  rw [e1, e2, h1, Int.tmod_eq_emod_of_nonneg (by omega)]
  exact ⟨by omega, Int.emod_nonneg _ (by omega), Int.emod_lt_of_pos _ (by omega)⟩
def knowFW (f : FuncId) (G : List AV → Bool) (V : List AV → AV) (S : Orc) : Orc := addF f (whenO G V) S
theorem knowFW_ok {S : Orc} {f : FuncId} {G : List AV → Bool} {V : List AV → AV} (hf : ∀ a, G a = true → FFact Try.prog tb f a (V a)) (hS : Ok S) : Ok (knowFW f G V S) := addF_ok (fnSim_whenF tbOk hf) natF_when hS
theorem fnSim_whenN {f : FuncId} {G : List AV → Bool} {V : List AV → AV} (hf : ∀ a, G a = true → NFact Try.prog tb f a (V a)) : FnSim Try.prog (LP tb) f (whenO G V) := by
  intro A K r args h u args' ρ Z w kind cs₀ cs hL hh hr ha hcs
  unfold whenO at hh
  cases u with
  | off =>
    simp only at hh
    cases hs : G args with
    | false => rw [hs] at hh; cases hh
    | true =>
      rw [hs] at hh
      refine fnSim_atN tbOk (hf args hs) A K r args h .off args' ρ Z w kind cs₀ cs hL ?_ hr ha hcs
      unfold atO
      simp only [same_self, cond_true]
      exact hh
  | _ => cases hh
theorem knowNW_ok {S : Orc} {f : FuncId} {G : List AV → Bool} {V : List AV → AV} (hf : ∀ a, G a = true → NFact Try.prog tb f a (V a)) (hS : Ok S) : Ok (knowFW f G V S) := addF_ok (fnSim_whenN hf) natF_when hS
def G53 (a : List AV) : Prop := ∃ (s : Rf), a = [aggF s]
def V53 (a : List AV) : AV := .tup [aggF (seeF (rfOf (nth a 0))), int64 (roomF (seeF (rfOf (nth a 0))))]
theorem when53 (a : List AV) (h : isSo (G53 a) = true) : FFact Try.prog tb 53 a (V53 a) := by
  obtain ⟨s, rfl⟩ := isSo_iff.1 h
  show FFact Try.prog tb 53 _ (.tup [aggF (seeF (rfOf (aggF s))), int64 (roomF (seeF (rfOf (aggF s))))])
  rw [rfOf_agg]
  exact seeF_fact s
def G58 (a : List AV) : Prop := ∃ (s : Rf), a = [aggF s]
def V58 (a : List AV) : AV := .tup [aggF (lookF (rfOf (nth a 0))), int64 (fillF (lookF (rfOf (nth a 0))))]
theorem when58 (a : List AV) (h : isSo (G58 a) = true) : FFact Try.prog tb 58 a (V58 a) := by
  obtain ⟨s, rfl⟩ := isSo_iff.1 h
  show FFact Try.prog tb 58 _ (.tup [aggF (lookF (rfOf (aggF s))), int64 (fillF (lookF (rfOf (aggF s))))])
  rw [rfOf_agg]
  exact lookF_fact s
def G55 (a : List AV) : Prop := ∃ (s : Rf) (n : Int), a = [aggF s, int64 n]
def V55 (a : List AV) : AV := .tup [aggF (claF (rfOf (nth a 0)) (intOf (nth a 1))).1, int64 (claF (rfOf (nth a 0)) (intOf (nth a 1))).2.1, int64 (claF (rfOf (nth a 0)) (intOf (nth a 1))).2.2]
theorem when55 (a : List AV) (h : isSo (G55 a) = true) : FFact Try.prog tb 55 a (V55 a) := by
  obtain ⟨s, n, rfl⟩ := isSo_iff.1 h
  show FFact Try.prog tb 55 _ (.tup [aggF (claF (rfOf (aggF s)) n).1, int64 (claF (rfOf (aggF s)) n).2.1, int64 (claF (rfOf (aggF s)) n).2.2])
  rw [rfOf_agg]
  exact claF_fact s n
def G59 (a : List AV) : Prop := ∃ (s : Rf) (n : Int), a = [aggF s, int64 n]
def V59 (a : List AV) : AV := .tup [aggF (takF (rfOf (nth a 0)) (intOf (nth a 1))).1, int64 (takF (rfOf (nth a 0)) (intOf (nth a 1))).2.1, int64 (takF (rfOf (nth a 0)) (intOf (nth a 1))).2.2]
theorem when59 (a : List AV) (h : isSo (G59 a) = true) : FFact Try.prog tb 59 a (V59 a) := by
  obtain ⟨s, n, rfl⟩ := isSo_iff.1 h
  show FFact Try.prog tb 59 _ (.tup [aggF (takF (rfOf (aggF s)) n).1, int64 (takF (rfOf (aggF s)) n).2.1, int64 (takF (rfOf (aggF s)) n).2.2])
  rw [rfOf_agg]
  exact takF_fact s n
def G57 (a : List AV) : Prop := ∃ (s : Rf) (n : Int), a = [aggF s, int64 n]
def V57 (a : List AV) : AV := .tup [aggF (comF (rfOf (nth a 0)) (intOf (nth a 1))).1, int64 (comF (rfOf (nth a 0)) (intOf (nth a 1))).2]
theorem when57 (a : List AV) (h : isSo (G57 a) = true) : FFact Try.prog tb 57 a (V57 a) := by
  obtain ⟨s, n, rfl⟩ := isSo_iff.1 h
  show FFact Try.prog tb 57 _ (.tup [aggF (comF (rfOf (aggF s)) n).1, int64 (comF (rfOf (aggF s)) n).2])
  rw [rfOf_agg]
  exact comF_fact s n
def G61 (a : List AV) : Prop := ∃ (s : Rf) (n : Int), a = [aggF s, int64 n]
def V61 (a : List AV) : AV := .tup [aggF (donF (rfOf (nth a 0)) (intOf (nth a 1))).1, int64 (donF (rfOf (nth a 0)) (intOf (nth a 1))).2]
theorem when61 (a : List AV) (h : isSo (G61 a) = true) : FFact Try.prog tb 61 a (V61 a) := by
  obtain ⟨s, n, rfl⟩ := isSo_iff.1 h
  show FFact Try.prog tb 61 _ (.tup [aggF (donF (rfOf (aggF s)) n).1, int64 (donF (rfOf (aggF s)) n).2])
  rw [rfOf_agg]
  exact donF_fact s n
def G60 (a : List AV) : Prop := ∃ (s : Rf) (n : Int), a = [aggF s, int64 n] ∧ RfOk s
def V60 (a : List AV) : AV := .tup [ints (getRF (rfOf (nth a 0)) (intOf (nth a 1))), int64 (getEF (rfOf (nth a 0)) (intOf (nth a 1)))]
theorem when60 (a : List AV) (h : isSo (G60 a) = true) : FFact Try.prog tb 60 a (V60 a) := by
  obtain ⟨s, n, rfl, hs⟩ := isSo_iff.1 h
  show FFact Try.prog tb 60 _ (.tup [ints (getRF (rfOf (aggF s)) n), int64 (getEF (rfOf (aggF s)) n)])
  rw [rfOf_agg]
  refine getF_fact (fun he => ?_) (fun f hf => by have := hs.rows f hf; have := hs.ch; omega)
  have hta := hs.ta
  unfold getEF at he
  by_cases h1 : n < 0
  · rw [if_pos h1] at he; omega
  rw [if_neg h1] at he
  by_cases h2 : s.ta < 0
  · rw [if_pos h2] at he; omega
  rw [if_neg h2] at he
  by_cases h3 : n ≥ s.ta
  · rw [if_pos h3] at he; omega
  exact plF_in hs hs.r (by omega)
def G56 (a : List AV) : Prop := ∃ (s : Rf) (n : Int) (f : List Int), a = [aggF s, int64 n, ints f] ∧ RfOk s ∧ f.length ≤ 1000000
def V56 (a : List AV) : AV := .tup [aggF (putF (rfOf (nth a 0)) (intOf (nth a 1)) (rowOf (nth a 2))), int64 (putFE (rfOf (nth a 0)) (intOf (nth a 1)) (rowOf (nth a 2)))]
theorem when56 (a : List AV) (h : isSo (G56 a) = true) : NFact Try.prog tb 56 a (V56 a) := by
  obtain ⟨s, n, f, rfl, hs, hf⟩ := isSo_iff.1 h
  show NFact Try.prog tb 56 _ (.tup [aggF (putF (rfOf (aggF s)) n (rowOf (ints f))), int64 (putFE (rfOf (aggF s)) n (rowOf (ints f)))])
  rw [rfOf_agg, rowOf_ints]
  refine putF_fact hs.rowsOk (by have := hs.n; omega) hf (by have := hs.ch; omega) (fun he => ?_)
  have hcl := hs.cl
  unfold putFE at he
  by_cases h0 : badR f = true ∨ (f.length : Int) ≠ s.ch
  · rw [if_pos h0] at he; omega
  rw [if_neg h0] at he
  by_cases h1 : n < 0
  · rw [if_pos h1] at he; omega
  rw [if_neg h1] at he
  by_cases h2 : s.cl < 0
  · rw [if_pos h2] at he; omega
  rw [if_neg h2] at he
  by_cases h3 : n ≥ s.cl
  · rw [if_pos h3] at he; omega
  exact plF_in hs hs.w (by omega)
noncomputable def OF (S : Orc) : Orc := knowFW 53 (fun a => isSo (G53 a)) V53 <| knowFW 58 (fun a => isSo (G58 a)) V58 <| knowFW 55 (fun a => isSo (G55 a)) V55 <| knowFW 59 (fun a => isSo (G59 a)) V59 <| knowFW 57 (fun a => isSo (G57 a)) V57 <| knowFW 61 (fun a => isSo (G61 a)) V61 <| knowFW 60 (fun a => isSo (G60 a)) V60 <| knowFW 56 (fun a => isSo (G56 a)) V56 S
theorem OF_ok {S : Orc} (h : Ok S) : Ok (OF S) := (knowFW_ok when53 (knowFW_ok when58 (knowFW_ok when55 (knowFW_ok when59 (knowFW_ok when57 (knowFW_ok when61 (knowFW_ok when60 (knowNW_ok when56 h))))))))
end Go.Proofs.Ytokighfpmonjdaa
/- Rows of numbers, and lists of them, are alike or not (SameRow, SameMatrix). -/
namespace Go.Proofs.Ytokighfpmonjdaa
open Go.Ev
set_option maxRecDepth 100000
theorem lenA_map {α : Type} (f : α → AV) (l : List α) : lenA (l.map f) = l.length := by
  induction l with
  | nil => rfl
  | cons x l ih => show lenA (l.map f) + 1 = _; rw [ih]; rfl
theorem nth_map {α : Type} (f : α → AV) : ∀ (l : List α) (i : Nat) (h : i < l.length), nth (l.map f) i = f l[i]
  | x :: l, 0, _ => rfl
  | x :: l, i + 1, h => nth_map f l i (by simpa using h)
def st25 (xs ys : List Int) (i : Int) : St := ⟨[ints xs, ints ys, .dead, .dead, .dead, int64 i] ++ repA .dead 20, mkHeap [] 4, [], .off⟩
def rt25 (b : Bool) : St := ⟨[.dead, .dead, .dead, .dead, .bool b] ++ repA .dead 21, mkHeap [] 4, [], .off⟩
def body25 {A : Type} (xs ys : List Int) (i : Int) (K : Ex → St → Option A) : Option A :=
  bif decide (i < (xs.length : Int)) then
    guardK (decide (0 ≤ i) && decide (i < (xs.length : Int))) (guardK (Nat.blt (i.toNat * 1) (lenA (xs.map int64))) (guardK (isIntK .i64 (nth (xs.map int64) (i.toNat * 1)))
    (guardK (decide (0 ≤ i) && decide (i < (ys.length : Int))) (guardK (Nat.blt (i.toNat * 1) (lenA (ys.map int64))) (guardK (isIntK .i64 (nth (ys.map int64) (i.toNat * 1)))
      (bif !(intOf (nth (xs.map int64) (i.toNat * 1)) == intOf (nth (ys.map int64) (i.toNat * 1))) then K .ret (rt25 false)
       else K .normal (st25 xs ys (IntKind.i64.wrap (i + 1)))))))))
  else K (.exit 0) (st25 xs ys i)
theorem b25 {A : Type} (xs ys : List Int) (i : Int) (K : Ex → St → Option A) : loopB Try.prog orc0 tb 25 4 0 (st25 xs ys i) K = body25 xs ys i K := by kernel_rfl
theorem body25_eq {A : Type} {xs ys : List Int} {i : Nat} (hx : i < xs.length) (hy : i < ys.length) (hm : xs.length ≤ maxLen) (K : Ex → St → Option A) :
    body25 xs ys (i : Int) K = bif xs[i] == ys[i] then K .normal (st25 xs ys ((i + 1 : Nat) : Int)) else K .ret (rt25 false) := by
  have h1 : (i : Int) < (xs.length : Int) := by omega
  have h2 : (i : Int) < (ys.length : Int) := by omega
  have h3 : (i : Int).toNat * 1 = i := by omega
  have h4 : IntKind.i64.wrap ((i : Int) + 1) = ((i + 1 : Nat) : Int) := by
    rw [IntKind.wrap_i64]
    have : maxLen = 9223372036854775807 := rfl
    omega
  unfold body25
  simp only [h3, h4, lenA_map, nth_map int64 xs i hx, nth_map int64 ys i hy, decide_eq_true h1, decide_eq_true h2, decide_eq_true (Int.natCast_nonneg i), cond_true, guardK, Bool.and_self, int64, intOf, isIntK]
  have h5 : Nat.blt i xs.length = true := Nat.ble_eq_true_of_le hx
  have h6 : Nat.blt i ys.length = true := Nat.ble_eq_true_of_le hy
  simp only [h5, h6, cond_true, decide_true]
  cases xs[i] == ys[i] <;> rfl
theorem loop25 {xs ys : List Int} (hl : xs.length = ys.length) (hm : xs.length ≤ maxLen) : ∀ (d i n : Nat), i + d = xs.length → d < n →
    loopN (loopB Try.prog orc0 tb 25 4 0) n (st25 xs ys (i : Int)) pairE = some (if xs.drop i = ys.drop i then (.exit 0, st25 xs ys (xs.length : Int)) else (.ret, rt25 false)) := by
  intro d
  induction d with
  | zero =>
    intro i n hi hn
    obtain ⟨n, rfl⟩ : ∃ m, n = m + 1 := ⟨n - 1, by omega⟩
    have hi : i = xs.length := by omega
    subst hi
    rw [loopN_succ, b25]
    have h1 : ¬ ((xs.length : Int) < (xs.length : Int)) := by omega
    unfold body25
    rw [decide_eq_false h1]
    rw [List.drop_eq_nil_of_le (Nat.le_refl _), List.drop_eq_nil_of_le (by omega)]
    rfl
  | succ d ih =>
    intro i n hi hn
    obtain ⟨n, rfl⟩ : ∃ m, n = m + 1 := ⟨n - 1, by omega⟩
    have hx : i < xs.length := by omega
    have hy : i < ys.length := by omega
    rw [loopN_succ, b25, body25_eq hx hy hm]
    cases hb : xs[i] == ys[i] with
    | true =>
      have he : xs[i] = ys[i] := eq_of_beq hb
      have e : (xs.drop i = ys.drop i) = (xs.drop (i + 1) = ys.drop (i + 1)) := by
        rw [List.drop_eq_getElem_cons hx, List.drop_eq_getElem_cons hy, List.cons.injEq, he]
        simp
      simp only [cond_true, e]
      exact ih (i + 1) n (by omega) (by omega)
    | false =>
      have e : ¬ xs.drop i = ys.drop i := fun h => by
        rw [List.drop_eq_getElem_cons hx, List.drop_eq_getElem_cons hy, List.cons.injEq] at h
        rw [h.1] at hb
        simp at hb
      simp only [cond_false]
      rw [if_neg e]
      rfl
theorem rounds_big {n : Nat} (h : n ≤ maxLen) : n < rounds := by
  have h1 : maxLen = 9223372036854775807 := rfl
  have h2 : rounds = 100000000000000000000 := rfl
  omega
theorem row_loop1 {xs : List Int} (hm : xs.length ≤ maxLen) : LFact Try.prog tb 25 4 0 (st25 xs xs 0) (.exit 0) (st25 xs xs (xs.length : Int)) :=
  ⟨orc0, ok0, (loop25 rfl hm xs.length 0 rounds (by omega) (rounds_big hm)).trans (by rw [if_pos rfl])⟩
theorem row_loop2 {xs ys : List Int} (hl : xs.length = ys.length) (hn : xs ≠ ys) (hm : xs.length ≤ maxLen) : LFact Try.prog tb 25 4 0 (st25 xs ys 0) .ret (rt25 false) :=
  ⟨orc0, ok0, (loop25 hl hm xs.length 0 rounds (by omega) (rounds_big hm)).trans (by rw [if_neg (by simpa using hn)])⟩
noncomputable def S25 (xs ys : List Int) (e : Ex) (s : St) : Orc := knowL Try.prog 25 4 ⟨[0, 1, 4, 5], []⟩ 0 (st25 xs ys 0) e s orc0
theorem row_run (xs ys : List Int) (h : Heap) : evCall Try.prog (stopAt 25 [3] orc0) tb 100 AV (.fn 25) (vwArgs Try.prog [] h (parsOf Try.prog 25) [ints xs, ints ys]) (mkHeap [] 0) .off rv =
    bif !((xs.length : Int) == (ys.length : Int)) then some (.bool false) else none := by kernel_rfl
theorem row_run1 (xs ys : List Int) (h : Heap) : evCall Try.prog (S25 xs ys (.exit 0) (st25 xs ys (xs.length : Int))) tb 100 AV (.fn 25) (vwArgs Try.prog [] h (parsOf Try.prog 25) [ints xs, ints ys]) (mkHeap [] 0) .off rv =
    bif !((xs.length : Int) == (ys.length : Int)) then some (.bool false) else bif sameSt (st25 xs ys 0) (st25 xs ys 0) then some (.bool true) else none := by kernel_rfl
theorem row_run2 (xs ys : List Int) (h : Heap) : evCall Try.prog (S25 xs ys .ret (rt25 false)) tb 100 AV (.fn 25) (vwArgs Try.prog [] h (parsOf Try.prog 25) [ints xs, ints ys]) (mkHeap [] 0) .off rv =
    bif !((xs.length : Int) == (ys.length : Int)) then some (.bool false) else bif sameSt (st25 xs ys 0) (st25 xs ys 0) then some (.bool false) else none := by kernel_rfl
theorem count25 : Nat.ble (countL 4 e25.code) 1 = true := by kernel_rfl
theorem norm25 : loopN0 tb 25 4 = some ⟨[0, 1, 4, 5], []⟩ := by kernel_rfl
theorem same_row {xs ys : List Int} (hm : xs.length ≤ maxLen) : F 25 [ints xs, ints ys] (.bool (decide (xs = ys))) := by
  by_cases hl : xs.length = ys.length
  · have hl' : (!((xs.length : Int) == (ys.length : Int))) = false := by simp [hl]
    by_cases he : xs = ys
    · subst he
      refine .of (knowL_ok tbOk (row_loop1 hm) ok0 (ep := e25) rfl norm25 count25) rfl fun h => (row_run1 xs xs h).trans ?_
      rw [hl', sameSt_self]
      simp
    · refine .of (knowL_ok tbOk (row_loop2 hl he hm) ok0 (ep := e25) rfl norm25 count25) rfl fun h => (row_run2 xs ys h).trans ?_
      rw [hl', sameSt_self]
      simp [he]
  · refine .of (stopAt_ok ok0) rfl fun h => (row_run xs ys h).trans ?_
    have hl' : (!((xs.length : Int) == (ys.length : Int))) = true := by
      simp only [Bool.not_eq_true', beq_eq_false_iff_ne]
      omega
    have he : xs ≠ ys := fun h => hl (by rw [h])
    rw [hl']
    simp [he]
end Go.Proofs.Ytokighfpmonjdaa
