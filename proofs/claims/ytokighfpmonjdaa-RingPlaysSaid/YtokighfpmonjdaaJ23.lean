/- The document's Write (ring): what it tells. -/
import Derived.Test.YtokighfpmonjdaaJ22
import Derived.Test.YtokighfpmonjdaaJ21
namespace Go.Proofs.Ytokighfpmonjdaa
open Go.Ev
set_option maxRecDepth 100000
noncomputable abbrev a62 (s : Rf) (xs : List (List Int)) : List AV := [aggF s, rows xs]
noncomputable abbrev O53 (S : Orc) : Orc := knowFW 53 (fun a => isSo (G53 a)) V53 S
abbrev s1 (s : Rf) : Rf := seeF (rfOf (aggF s))
abbrev nD (s : Rf) (xs : List (List Int)) : Int := minI (roomF (s1 s)) (xs.length : Int)
def resD (s : Rf) (n : Int) (N : Nat) (L : List AV) : AV := .tup [.agg [int64 s.n, int64 s.ch, int64 s.fi, int64 (w64 (s.w + n)), int64 s.r, int64 s.se, int64 s.lo, int64 s.cl, int64 s.ta, .fz (fixLen (N * 1) (dropA L 0)) N false 1], int64 n, int64 0]
section
variable (s s2 s3 : Rf) (xs : List (List Int)) (i j k n' : Int) (N : Nat) (L L2 : List AV) (t0 t1 t2 : St)
theorem run62_bad : runF (O53 (knowL Try.prog 62 2 N62a 2 t0 .ret (rt62a s) orc0)) 62 (a62 s xs) = (bif sameSt (st62a s xs 0) t0 then some (.tup [aggF s, int64 0, int64 1]) else none) := by kernel_rfl
theorem run62_op : runF (O53 (knowL Try.prog 62 2 N62a 2 t0 (.exit 0) (st62a s xs i) (stopAt 62 [8] orc0))) 62 (a62 s xs) = (bif sameSt (st62a s xs 0) t0 then bif decide (s.cl ≥ 0) then some (.tup [aggF s, int64 0, int64 9]) else none else none) := by kernel_rfl
theorem run62 : runF (O53 (knowL Try.prog 62 2 N62a 2 t0 (.exit 0) (st62a s xs i) (knowLG Try.prog 85 3 N85 ⟨[], [13], [15, 16]⟩ 11 t1 (.exit 0) (st85w s2 j (.gr (13, 0) N 1) [(13, .cells true L)]) (knowLG Try.prog 62 12 N62 ⟨[], [13], [31, 36]⟩ 15 t2 (.exit 2) (st62 s3 xs n' k N L2) orc0)))) 62 (a62 s xs) =
    (bif sameSt (st62a s xs 0) t0 then bif decide (s.cl ≥ 0) then some (.tup [aggF s, int64 0, int64 9]) else bif isSo (G53 [aggF s]) then bif sameSt (st85w (s1 s) 0 (.sl (some (10, 0)) 0 0 true 1) []) t1 then guardK (allC [] L && true) <| bif sameSt (st62 s2 xs (nD s xs) 0 N (mapC [] L)) t2 then guardK (allS (dropA L2 0) && true && true) <| some (resD s3 n' N L2) else none else none else none else none) := by kernel_rfl
end
/-! ### The loops -/
theorem mapC_set {fr : List (Nat × List AV)} {v : AV} {f : List Int} (hv : cv fr v = ints f) : ∀ (cs : List (List Int)) (k : Nat), mapC fr (setL (rowsL cs) k v) = rowsL (cs.set k f)
  | [], _ => rfl
  | x :: l, 0 => by
    show cv fr v :: mapC fr (rowsL l) = ints f :: rowsL l
    rw [hv, mapC_rows]
  | x :: l, k + 1 => by
    show cv fr (ints x) :: mapC fr (setL (rowsL l) k v) = ints x :: rowsL (l.set k f)
    rw [mapC_set hv l k]
    rfl
theorem allC_set {fr : List (Nat × List AV)} {v : AV} (hv : okC fr v = true) : ∀ (cs : List (List Int)) (k : Nat), allC fr (setL (rowsL cs) k v) = true
  | [], _ => rfl
  | x :: l, 0 => by
    show (okC fr v && allC fr (rowsL l)) = true
    rw [hv, allC_rows]
    rfl
  | x :: l, k + 1 => by
    show (okC fr (ints x) && allC fr (setL (rowsL l) k v)) = true
    rw [allC_set hv l k]
    rfl
abbrev fr62 (f : List Int) : List (Nat × List AV) := [(31, []), (36, f.map int64)]
abbrev v62 (f : List Int) : AV := .gr (36, 0) (0 + f.length) 1
theorem cv62 (f : List Int) : cv (fr62 f) (v62 f) = ints f := by
  have e : cv (fr62 f) (v62 f) = .fz (fixLen ((0 + f.length) * 1) (dropA (f.map int64) 0)) (0 + f.length) false 1 := rfl
  rw [e, Nat.zero_add, fix_ints]
  rfl
theorem add62_ints {A : Type} {f : List Int} (h0 : 1 ≤ f.length) (h : f.length ≤ 1000000) (k : List AV → List (Nat × List AV) → AV → Option A) : add62 (ints f) k = k (f.map int64) (fr62 f) (v62 f) := by
  unfold add62
  rcases f with _ | ⟨x, xs⟩
  · simp at h0
  · have hl : fzL (ints (x :: xs)) = xs.length + 1 := rfl
    have hc : fzC (ints (x :: xs)) = (x :: xs).map int64 := rfl
    have hs : fzS (ints (x :: xs)) = 1 := rfl
    have hlim : limit = 140737488355328 := rfl
    have hz : xs.length + 1 ≤ 1000001 := by simp at h; omega
    have e1 : Nat.beq (xs.length + 1) 0 = false := rfl
    have e2 : Nat.ble (0 + (xs.length + 1)) 0 = false := by rw [Nat.zero_add]; rfl
    have e3 : (Nat.ble ((0 + (xs.length + 1)) * 8) limit && Nat.ble (0 + (xs.length + 1)) limit) = true := by
      rw [Bool.and_eq_true]
      exact ⟨Nat.ble_eq_true_of_le (by omega), Nat.ble_eq_true_of_le (by omega)⟩
    rw [hl, hc, hs, e1, e2, e3]
    rfl
def putsF (s : Rf) : Nat → List (List Int) → List (List Int) → List (List Int)
  | _, [], cs => cs
  | i, y :: l, cs => putsF s (i + 1) l (cs.set (plW s (i : Int)).toNat y)
theorem putsF_len (s : Rf) : ∀ (l : List (List Int)) (i : Nat) (cs : List (List Int)), (putsF s i l cs).length = cs.length
  | [], _, _ => rfl
  | y :: l, i, cs => (putsF_len s l (i + 1) _).trans List.length_set
theorem sameV_ints (f : List Int) : sameV (ints f) (ints f) = true := by simp [sameV, ints, sameF, sameL_ints f]
theorem rowZ_eq {A : Type} {xs : List (List Int)} {i : Nat} (h : i < xs.length) (x : Option A) : rowZ xs (i : Int) x = x := by
  have hF : rowF (ints xs[i]) = ints xs[i] := rfl
  have hF2 : isFzN (ints xs[i]) = true := rfl
  unfold rowZ
  rw [rowG_eq h, rwA_eq h, hF, sameV_ints, show (i : Int).toNat * 1 = i by omega, nthM ints xs i h, hF2, lenM, show Nat.blt i xs.length = true from Nat.ble_eq_true_of_le h]
  rfl
theorem loop62 {s : Rf} {xs : List (List Int)} {n : Nat} (hs : RfOk s) (hn : n ≤ xs.length ∧ n < 65536) (hy : ∀ y ∈ xs, 1 ≤ y.length ∧ y.length ≤ 1000000) : ∀ (d i Q : Nat) (cs : List (List Int)), i + d = n → d < Q → cs.length = s.cs.length →
    loopN B62 Q (st62 s xs (n : Int) (i : Int) s.cs.length (rowsL cs)) pairE = some (.exit 2, st62 s xs (n : Int) (n : Int) s.cs.length (rowsL (putsF s i ((xs.take n).drop i) cs))) := by
  intro d
  induction d with
  | zero =>
    intro i Q cs hi hQ hc
    obtain ⟨Q, rfl⟩ : ∃ q, Q = q + 1 := ⟨Q - 1, by omega⟩
    have hi' : i = n := by omega
    subst hi'
    rw [loopN_succ, b62, List.drop_eq_nil_of_le (by rw [List.length_take]; omega), decide_eq_false (by omega : ¬ (i : Int) < (i : Int)), allC_rows, mapC_rows]
    rfl
  | succ d ih =>
    intro i Q cs hi hQ hc
    obtain ⟨Q, rfl⟩ : ∃ q, Q = q + 1 := ⟨Q - 1, by omega⟩
    have h : i < xs.length := by omega
    have ht : i < (xs.take n).length := by rw [List.length_take]; omega
    have eg : (xs.take n)[i] = xs[i] := by simp
    obtain ⟨r1, r2⟩ := hy _ (List.getElem_mem h)
    obtain ⟨p0, p1, p2⟩ := plF_in hs (o := s.w) (i := (i : Int)) hs.w (by omega)
    have hZ : ∀ x : Option (Ex × St), Z62 s.cs.length x = x := fun x => bif_t (by simp [sameV, sameF])
    have hp : ∀ x : Option (Ex × St), plc62 s (i : Int) s.cs.length (rowsL cs) x = x := fun x => by
      unfold plc62
      rw [decide_eq_true (show 0 ≤ plW s (i : Int) from p1), decide_eq_true (show plW s (i : Int) < (s.cs.length : Int) from p2), lenM, show Nat.blt (0 + (plW s (i : Int)).toNat * 1) cs.length = true from Nat.ble_eq_true_of_le (by have : plW s (i : Int) < (s.cs.length : Int) := p2; have : 0 ≤ plW s (i : Int) := p1; omega)]
      rfl
    rw [loopN_succ, b62, decide_eq_true (by omega : (i : Int) < (n : Int)), show (s.n == 0) = false from by rw [beq_eq_false_iff_ne]; exact p0, cond_true, cond_false, hZ, rowZ_eq h, show (i : Int).toNat * 1 = i by omega, nthM ints xs i h, add62_ints r1 r2, hZ, hp, allS_ints, allC_set (rfl : okC (fr62 xs[i]) (v62 xs[i]) = true), mapC_set (cv62 xs[i]), w64_succ (by omega), List.drop_eq_getElem_cons ht, eg, show 0 + (plW s (i : Int)).toNat * 1 = (plW s (i : Int)).toNat by omega]
    exact ih (i + 1) Q _ (by omega) (by omega) (by rw [List.length_set]; exact hc)
theorem loop62a {s : Rf} {xs : List (List Int)} (hx : xs.length ≤ 1000000) (hl : ∀ f ∈ xs, f.length ≤ maxLen) : ∀ (d i Q : Nat), i + d = xs.length → d < Q →
    loopN (loopB Try.prog (P78 orc0) tb 62 2 2) Q (st62a s xs (i : Int)) pairE = some (bif (xs.drop i).any (badF s.ch) then (.ret, rt62a s) else (.exit 0, st62a s xs (xs.length : Int))) := by
  intro d
  induction d with
  | zero =>
    intro i Q hi hQ
    obtain ⟨Q, rfl⟩ : ∃ q, Q = q + 1 := ⟨Q - 1, by omega⟩
    have hi' : i = xs.length := by omega
    subst hi'
    rw [loopN_succ, b62a, List.drop_eq_nil_of_le (Nat.le_refl _), decide_eq_false (by omega : ¬ (xs.length : Int) < (xs.length : Int))]
    rfl
  | succ d ih =>
    intro i Q hi hQ
    obtain ⟨Q, rfl⟩ : ∃ q, Q = q + 1 := ⟨Q - 1, by omega⟩
    have h : i < xs.length := by omega
    have hF : rowF (ints xs[i]) = ints xs[i] := rfl
    have h8 : isSo (G78s [aggF s, ints xs[i]]) = true := isSo_true ⟨_, _, rfl, hl _ (List.getElem_mem h)⟩
    have hv : w78 [aggF s, ints xs[i]] = (!badR xs[i] && ((xs[i].length : Int) == s.ch)) := by
      unfold w78
      show (!badR (rowOf (ints xs[i])) && (((rowOf (ints xs[i])).length : Int) == (rfOf (aggF s)).ch)) = _
      rw [rowOf_ints, rfOf_agg]
    rw [loopN_succ, b62a, rowG_eq h, rwA_eq h, hF, h8, hv, decide_eq_true (by omega : (i : Int) < (xs.length : Int)), w64_succ (by omega), List.drop_eq_getElem_cons h, List.any_cons]
    unfold badF
    cases h1 : (xs[i].length : Int) == s.ch with
    | false => cases h2 : badR xs[i] <;> rfl
    | true =>
      cases h2 : badR xs[i] with
      | true => rfl
      | false => exact ih (i + 1) Q (by omega) (by omega)
/-! ### What it tells -/
def wrF (s : Rf) (xs : List (List Int)) : Rf × Int × Int :=
  if xs.any (badF s.ch) = true then (s, 0, 1) else if s.cl ≥ 0 then (s, 0, 9)
  else (⟨s.n, s.ch, s.fi, w64 (s.w + minI (roomF (seeF s)) xs.length), s.r, s.r, s.lo, s.cl, s.ta, putsF (seeF s) 0 (xs.take (minI (roomF (seeF s)) xs.length).toNat) s.cs⟩, minI (roomF (seeF s)) xs.length, 0)
theorem ar62 (s : Rf) (xs : List (List Int)) : vwArgs Try.prog [] none0 (parsOf Try.prog 62) (a62 s xs) = a62 s xs := by kernel_rfl
theorem writeF_fact {s : Rf} {xs : List (List Int)} (hs : RfOk s) (hr : 0 ≤ roomF (seeF s) ∧ roomF (seeF s) < 65536) (hx : xs.length ≤ 1000000) (hl : ∀ f ∈ xs, f.length ≤ 1000000) : FFact Try.prog tb 62 (a62 s xs) (.tup [aggF (wrF s xs).1, int64 (wrF s xs).2.1, int64 (wrF s xs).2.2]) := by
  have hrd : rounds = 100000000000000000000 := rfl
  have hM : maxLen = 9223372036854775807 := rfl
  have l1 := loop62a (s := s) hx (fun f hf => by have := hl f hf; omega) xs.length 0 rounds (by omega) (by omega)
  rw [List.drop_zero] at l1
  have h53 : ∀ {S : Orc}, Ok S → Ok (O53 S) := fun h => knowFW_ok when53 h
  refine ⟨ar62 s xs, ?_⟩
  unfold wrF
  by_cases h1 : xs.any (badF s.ch) = true
  · rw [h1] at l1
    rw [if_pos h1]
    exact ⟨_, h53 (knowL_ok tbOk ⟨_, P78_ok ok0, l1⟩ ok0 (ep := e62) rfl norm62a count62a), (run62_bad s xs _).trans (bif_t (sameSt_self _))⟩
  rw [if_neg h1]
  rw [show xs.any (badF s.ch) = false by simpa using h1] at l1
  by_cases h2 : s.cl ≥ 0
  · rw [if_pos h2]
    refine ⟨_, h53 (knowL_ok tbOk ⟨_, P78_ok ok0, l1⟩ (stopAt_ok ok0) (ep := e62) rfl norm62a count62a), (run62_op s xs _ _).trans ?_⟩
    rw [decide_eq_true h2]
    exact bif_t (sameSt_self _)
  rw [if_neg h2]
  have hs1 : RfOk (seeF s) := ⟨hs.ch, hs.n, hs.rows, hs.fi, hs.w, hs.r, hs.cl, hs.ta⟩
  obtain ⟨n, hn⟩ : ∃ n : Nat, minI (roomF (seeF s)) (xs.length : Int) = n := ⟨(minI (roomF (seeF s)) (xs.length : Int)).toNat, by unfold minI; split <;> omega⟩
  have hn2 : n ≤ xs.length ∧ n < 65536 := by unfold minI at hn; split at hn <;> omega
  have hrow : ∀ y ∈ xs, 1 ≤ y.length ∧ y.length ≤ 1000000 := fun y hy => by
    have hb := List.any_eq_false.1 (by simpa using h1 : xs.any (badF s.ch) = false) y hy
    unfold badF at hb
    simp only [Bool.or_eq_true, Bool.not_eq_true', beq_eq_false_iff_ne, not_or] at hb
    have := hs.ch
    have := hl y hy
    omega
  have l2 := loop85_allw (s := seeF s) hs1.rowsOk (by have := hs.n; show 0 < s.cs.length; omega)
  have l3 := loop62 (n := n) hs1 hn2 hrow n 0 rounds s.cs (by omega) (by omega) rfl
  rw [List.drop_zero] at l3
  rw [hn, Int.toNat_natCast]
  have el : (seeF s).cs.length = s.cs.length := rfl
  refine ⟨_, h53 (knowL_ok tbOk ⟨_, P78_ok ok0, l1⟩ (knowLG_ok tbOk (F := ⟨[], [13], [15, 16]⟩) (LFact.flatG ok0 l2) (knowLG_ok tbOk (F := ⟨[], [13], [31, 36]⟩) (LFact.flatG ok0 l3) ok0 (ep := e62) rfl norm62 count62) (ep := e85) rfl norm85 count85) (ep := e62) rfl norm62a count62a),
    (run62 s (seeF s) (seeF s) xs _ _ _ (n : Int) s.cs.length (rowsL s.cs) (rowsL (putsF (seeF s) 0 (xs.take n) s.cs)) _ _ _).trans ?_⟩
  have e1 : s1 s = seeF s := by show seeF (rfOf (aggF s)) = _; rw [rfOf_agg]
  have e2 : nD s xs = (n : Int) := by show minI (roomF (seeF (rfOf (aggF s)))) (xs.length : Int) = _; rw [rfOf_agg, hn]
  have e3 := fix_rows (putsF (seeF s) 0 (xs.take n) s.cs)
  rw [putsF_len] at e3
  rw [decide_eq_false h2, isSo_true ⟨_, rfl⟩, e1, e2, allC_rows, mapC_rows]
  refine (bif_t (sameSt_self _)).trans ?_
  refine (bif_t (sameSt_self _)).trans ?_
  refine (bif_t (sameSt_self _)).trans ?_
  unfold resD
  rw [e3, dropA_eq, List.drop_zero, allS_rows]
  rfl
end Go.Proofs.Ytokighfpmonjdaa
/- The document's Read (ring): its loop. -/
namespace Go.Proofs.Ytokighfpmonjdaa
open Go.Ev
set_option maxRecDepth 100000
def rdP (s : Rf) (i : Int) : Int := (w64 (s.fi + w64 (s.r + i))).tmod s.n
abbrev x63 (s : Rf) (i : Int) : AV := nth (s.cs.map ints) ((rdP s i).toNat * 1)
noncomputable def add63 {A : Type} (x : AV) (kE : Option A) (kM kN : List (Nat × List AV) → AV → Option A) : Option A :=
  bif Nat.beq (fzL x) 0 then kE else guardK (Nat.beq (fzS x) 1) <| guardK (Nat.ble ((0 + fzL x) * 8) limit && Nat.ble (0 + fzL x) limit) <|
    bif Nat.ble (0 + fzL x) 0 then (bif Nat.beq (fzL x) 0 then kE else guardK (flatL (fzC x)) <| guardK (Nat.ble (0 + lenA (fzC x)) 0) <| kM [(11, splice [] 0 (fzC x))] (.sl (some (11, 0)) (0 + fzL x) 0 true 1))
    else kN [(11, []), (22, fzC x)] (.gr (22, 0) (0 + fzL x) 1)
def st63 (s : Rf) (n k i : Int) (fv : AV) (l : List (Nat × Blk)) : St := ⟨[.dead, int64 n, .ptr (some (0, 0)), .dead, .ptr (some (1, 0)), .dead, .dead, int64 k, fv, int64 i] ++ repA .dead 44, mkHeap (l ++ [(1, .cells true zeroF), (0, .cells true (cellsF s))]) 10, [], .off⟩
def N63 : Norm := ⟨[1, 2, 4, 5, 6, 7, 8, 9], []⟩
theorem norm63 : loopN0 tb 63 8 = some N63 := by kernel_rfl
theorem count63 : Nat.ble (countL 8 e63.code) 1 = true := by kernel_rfl
noncomputable abbrev B63 {A : Type} (st : St) (K : Ex → St → Option A) : Option A := loopBG Try.prog orc0 tb 63 8 ⟨[], [8], [11, 22]⟩ 2 st K
def row63 {A : Type} (s : Rf) (i : Int) (x : Option A) : Option A := bif (s.n == 0) then none else bif sameV (rows s.cs) (rows s.cs) then guardK (decide (0 ≤ rdP s i) && decide (rdP s i < (s.cs.length : Int))) <| guardK (Nat.blt ((rdP s i).toNat * 1) (lenA (s.cs.map ints))) <| guardK (isFzN (x63 s i)) x else none
theorem b63_0 {A : Type} (s : Rf) (n k i : Int) (K : Ex → St → Option A) : B63 (st63 s n k i (.sl none 0 0 true 0) []) K = (bif decide (i < minI n k) then row63 s i <| add63 (x63 s i) (guardK ((allC [(11, [])] [(.sl (some (11, 0)) 0 0 true 1)] && true)) <| K .normal (st63 s n k (w64 (i + 1)) (.gr (8, 0) 1 1) [(8, .cells true (mapC [(11, [])] [(.sl (some (11, 0)) 0 0 true 1)]))])) (fun fr v => guardK (allS (splice [] 0 (fzC (x63 s i))) && true && (allC fr [v] && true)) <| K .normal (st63 s n k (w64 (i + 1)) (.gr (8, 0) 1 1) [(8, .cells true (mapC fr [v]))])) (fun fr v => guardK (allS (fzC (x63 s i)) && true && (allC fr [v] && true)) <| K .normal (st63 s n k (w64 (i + 1)) (.gr (8, 0) 1 1) [(8, .cells true (mapC fr [v]))])) else K (.exit 1) (st63 s n k i (.sl none 0 0 true 0) [])) := by kernel_rfl
theorem b63_g {A : Type} (s : Rf) (n k i : Int) (cs : List AV) (m : Nat) (K : Ex → St → Option A) : B63 (st63 s n k i (.gr (8, 0) (m + 1) 1) [(8, .cells true cs)]) K = (bif decide (i < minI n k) then row63 s i <| add63 (x63 s i) (guardK (Nat.ble ((m + 1 + 1) * 24) limit && Nat.ble (m + 1 + 1) limit) <| guardK (Nat.ble (0 + (m + 1) * 1) (lenA cs)) <| guardK ((allC [(11, [])] (put85 cs m (.sl (some (11, 0)) 0 0 true 1)) && true)) <| K .normal (st63 s n k (w64 (i + 1)) (.gr (8, 0) (m + 1 + 1) 1) [(8, .cells true (mapC [(11, [])] (put85 cs m (.sl (some (11, 0)) 0 0 true 1))))])) (fun fr v => guardK (Nat.ble ((m + 1 + 1) * 24) limit && Nat.ble (m + 1 + 1) limit) <| guardK (Nat.ble (0 + (m + 1) * 1) (lenA cs)) <| guardK (allS (splice [] 0 (fzC (x63 s i))) && true && (allC fr (put85 cs m v) && true)) <| K .normal (st63 s n k (w64 (i + 1)) (.gr (8, 0) (m + 1 + 1) 1) [(8, .cells true (mapC fr (put85 cs m v)))])) (fun fr v => guardK (Nat.ble ((m + 1 + 1) * 24) limit && Nat.ble (m + 1 + 1) limit) <| guardK (Nat.ble (0 + (m + 1) * 1) (lenA cs)) <| guardK (allS (fzC (x63 s i)) && true && (allC fr (put85 cs m v) && true)) <| K .normal (st63 s n k (w64 (i + 1)) (.gr (8, 0) (m + 1 + 1) 1) [(8, .cells true (mapC fr (put85 cs m v)))])) else guardK (allC [] cs && true) (K (.exit 1) (st63 s n k i (.gr (8, 0) (m + 1) 1) [(8, .cells true (mapC [] cs))]))) := by kernel_rfl
end Go.Proofs.Ytokighfpmonjdaa
/- The document's Read (ring): what it tells. -/
namespace Go.Proofs.Ytokighfpmonjdaa
open Go.Ev
set_option maxRecDepth 100000
noncomputable abbrev O58 (S : Orc) : Orc := knowFW 58 (fun a => isSo (G58 a)) V58 S
abbrev l1 (s : Rf) : Rf := lookF (rfOf (aggF s))
def aggR (s : Rf) (m : Int) : AV := .agg [int64 s.n, int64 s.ch, int64 s.fi, int64 s.w, int64 (w64 (s.r + m)), int64 s.se, int64 s.lo, int64 s.cl, int64 s.ta, rows s.cs]
section
variable (s s' : Rf) (n n' i k : Int) (m : Nat) (cs : List AV) (t0 : St)
theorem run63_bad : runF (O58 (stopAt 63 [5] orc0)) 63 [aggF s, int64 n] = (bif decide (n < 0) then some (.tup [aggF s, rows [], int64 7]) else bif decide (s.ta ≥ 0) then some (.tup [aggF s, rows [], int64 9]) else none) := by kernel_rfl
theorem run63_0 : runF (O58 (knowLG Try.prog 63 8 N63 ⟨[], [8], [11, 22]⟩ 2 t0 (.exit 1) (st63 s' n' k i (.sl none 0 0 true 0) []) orc0)) 63 [aggF s, int64 n] = (bif decide (n < 0) then some (.tup [aggF s, rows [], int64 7]) else bif decide (s.ta ≥ 0) then some (.tup [aggF s, rows [], int64 9]) else
    bif isSo (G58 [aggF s]) then bif sameSt (st63 (l1 s) n (fillF (l1 s)) 0 (.sl none 0 0 true 0) []) t0 then some (.tup [aggR s' 0, rows [], int64 0]) else none else none) := by kernel_rfl
theorem run63_g : runF (O58 (knowLG Try.prog 63 8 N63 ⟨[], [8], [11, 22]⟩ 2 t0 (.exit 1) (st63 s' n' k i (.gr (8, 0) (m + 1) 1) [(8, .cells true cs)]) orc0)) 63 [aggF s, int64 n] = (bif decide (n < 0) then some (.tup [aggF s, rows [], int64 7]) else bif decide (s.ta ≥ 0) then some (.tup [aggF s, rows [], int64 9]) else
    bif isSo (G58 [aggF s]) then bif sameSt (st63 (l1 s) n (fillF (l1 s)) 0 (.sl none 0 0 true 0) []) t0 then guardK (allS (dropA cs 0) && true) <| some (.tup [aggR s' ((m + 1 : Nat) : Int), .fz (fixLen ((m + 1) * 1) (dropA cs 0)) (m + 1) false 1, int64 0]) else none else none) := by kernel_rfl
end
def so63 (s : Rf) (n k i : Int) : List (List Int) → St
  | [] => st63 s n k i (.sl none 0 0 true 0) []
  | x :: l => st63 s n k i (.gr (8, 0) (l.length + 1) 1) [(8, .cells true (rowsL (x :: l)))]
abbrev fr63 (f : List Int) : List (Nat × List AV) := [(11, []), (22, f.map int64)]
abbrev v63 (f : List Int) : AV := .gr (22, 0) (0 + f.length) 1
theorem cv63 (f : List Int) : cv (fr63 f) (v63 f) = ints f := by
  have e : cv (fr63 f) (v63 f) = .fz (fixLen ((0 + f.length) * 1) (dropA (f.map int64) 0)) (0 + f.length) false 1 := rfl
  rw [e, Nat.zero_add, fix_ints]
  rfl
theorem add63_ints {A : Type} {f : List Int} (h0 : 1 ≤ f.length) (h : f.length ≤ 1000000) (kE : Option A) (kM kN : List (Nat × List AV) → AV → Option A) : add63 (ints f) kE kM kN = kN (fr63 f) (v63 f) := by
  unfold add63
  rcases f with _ | ⟨x, xs⟩
  · simp at h0
  · have hl : fzL (ints (x :: xs)) = xs.length + 1 := rfl
    have hc : fzC (ints (x :: xs)) = (x :: xs).map int64 := rfl
    have hs : fzS (ints (x :: xs)) = 1 := rfl
    have hlim : limit = 140737488355328 := rfl
    have hz : xs.length + 1 ≤ 1000001 := by simp at h; omega
    have e1 : Nat.beq (xs.length + 1) 0 = false := rfl
    have e2 : Nat.ble (0 + (xs.length + 1)) 0 = false := by rw [Nat.zero_add]; rfl
    have e3 : (Nat.ble ((0 + (xs.length + 1)) * 8) limit && Nat.ble (0 + (xs.length + 1)) limit) = true := by
      rw [Bool.and_eq_true]
      exact ⟨Nat.ble_eq_true_of_le (by omega), Nat.ble_eq_true_of_le (by omega)⟩
    rw [hl, hc, hs, e1, e2, e3]
    rfl
def outF (s : Rf) (i : Nat) : List (List Int) := (List.range i).map fun j : Nat => s.cs.getD (rdP s (j : Int)).toNat []
theorem outF_succ (s : Rf) (i : Nat) : outF s (i + 1) = outF s i ++ [s.cs.getD (rdP s (i : Int)).toNat []] := by
  unfold outF
  rw [List.range_succ, List.map_append]
  rfl
theorem outF_len (s : Rf) (i : Nat) : (outF s i).length = i := by simp [outF]
theorem round63 {A : Type} {s : Rf} {n k : Int} {i : Nat} (hs : RfOk s) (hi : (i : Int) < minI n k) (h6 : i < 65535) (l : List (List Int)) (hl : l.length ≤ 65536) (K : Ex → St → Option A) : B63 (so63 s n k (i : Int) l) K = K .normal (so63 s n k ((i + 1 : Nat) : Int) (l ++ [s.cs.getD (rdP s (i : Int)).toNat []])) := by
  obtain ⟨p0, p1, p2⟩ := plF_in hs (o := s.r) (i := (i : Int)) hs.r (by omega)
  have p1' : 0 ≤ rdP s (i : Int) := p1
  have p2' : rdP s (i : Int) < (s.cs.length : Int) := p2
  have hlt : (rdP s (i : Int)).toNat < s.cs.length := by omega
  have ef : s.cs.getD (rdP s (i : Int)).toNat [] = s.cs[(rdP s (i : Int)).toNat] := by simp [List.getD, hlt]
  obtain ⟨r1, r2⟩ := hs.rowsOk.rows _ (List.getElem_mem hlt)
  have ex : x63 s (i : Int) = ints s.cs[(rdP s (i : Int)).toNat] := by
    show nth (s.cs.map ints) ((rdP s (i : Int)).toNat * 1) = _
    rw [Nat.mul_one, nthM ints s.cs _ hlt]
  have hrow : ∀ x : Option A, row63 s (i : Int) x = x := fun x => by
    have hF : isFzN (ints s.cs[(rdP s (i : Int)).toNat]) = true := rfl
    unfold row63
    rw [ex, hF, show (s.n == 0) = false from by rw [beq_eq_false_iff_ne]; exact p0, sameV_rows, decide_eq_true p1', decide_eq_true p2', lenM, show Nat.blt ((rdP s (i : Int)).toNat * 1) s.cs.length = true from Nat.ble_eq_true_of_le (by omega)]
    rfl
  have hc : ∀ f : List Int, fzC (ints f) = f.map int64 := fun _ => rfl
  rw [ef]
  cases l with
  | nil =>
    show B63 (st63 s n k (i : Int) (.sl none 0 0 true 0) []) K = _
    have hA : allC (fr63 s.cs[(rdP s (i : Int)).toNat]) [v63 s.cs[(rdP s (i : Int)).toNat]] = true := rfl
    have hm : mapC (fr63 s.cs[(rdP s (i : Int)).toNat]) [v63 s.cs[(rdP s (i : Int)).toNat]] = [ints s.cs[(rdP s (i : Int)).toNat]] := by
      show [cv _ _] = _
      rw [cv63]
    rw [b63_0, decide_eq_true hi, cond_true, hrow, ex, add63_ints r1 r2, hc, allS_ints, hA, hm, w64_succ (by omega)]
    rfl
  | cons y l =>
    show B63 (st63 s n k (i : Int) (.gr (8, 0) (l.length + 1) 1) [(8, .cells true (rowsL (y :: l)))]) K = _
    have hlim : limit = 140737488355328 := rfl
    have hl' : l.length + 1 ≤ 65536 := by simpa using hl
    have e1 : Nat.ble (0 + (l.length + 1) * 1) (y :: l).length = true := Nat.ble_eq_true_of_le (by simp)
    have e2 : Nat.ble ((l.length + 1 + 1) * 24) limit = true := Nat.ble_eq_true_of_le (by omega)
    have e3 : Nat.ble (l.length + 1 + 1) limit = true := Nat.ble_eq_true_of_le (by omega)
    have ec : put85 (rowsL (y :: l)) l.length (v63 s.cs[(rdP s (i : Int)).toNat]) = rowsL (y :: l) ++ [v63 s.cs[(rdP s (i : Int)).toNat]] := csR_eq (l := y :: l) rfl
    have e4 : allC (fr63 s.cs[(rdP s (i : Int)).toNat]) (rowsL (y :: l) ++ [v63 s.cs[(rdP s (i : Int)).toNat]]) = true := by rw [allC_app, allC_rows]; rfl
    have e5 : mapC (fr63 s.cs[(rdP s (i : Int)).toNat]) (rowsL (y :: l) ++ [v63 s.cs[(rdP s (i : Int)).toNat]]) = rowsL (y :: (l ++ [s.cs[(rdP s (i : Int)).toNat]])) := by
      rw [mapC_app, mapC_rows]
      show rowsL (y :: l) ++ [cv _ _] = _
      rw [cv63]
      show (y :: l).map ints ++ [ints _] = ((y :: l) ++ [_]).map ints
      rw [List.map_append]
      rfl
    rw [b63_g, decide_eq_true hi, cond_true, hrow, ex, add63_ints r1 r2, e2, e3, lenM, e1, ec, hc, allS_ints, e4, e5, w64_succ (by omega)]
    show K .normal (st63 s n k ((i + 1 : Nat) : Int) (.gr (8, 0) (l.length + 1 + 1) 1) [(8, .cells true (rowsL (y :: (l ++ [s.cs[(rdP s (i : Int)).toNat]]))))]) = K .normal (st63 s n k ((i + 1 : Nat) : Int) (.gr (8, 0) ((l ++ [s.cs[(rdP s (i : Int)).toNat]]).length + 1) 1) [(8, .cells true (rowsL (y :: (l ++ [s.cs[(rdP s (i : Int)).toNat]]))))])
    rw [List.length_append]
    rfl
theorem exit63 {A : Type} {s : Rf} {n k i : Int} (hi : ¬ i < minI n k) (l : List (List Int)) (K : Ex → St → Option A) : B63 (so63 s n k i l) K = K (.exit 1) (so63 s n k i l) := by
  cases l with
  | nil =>
    show B63 (st63 s n k i (.sl none 0 0 true 0) []) K = _
    rw [b63_0, decide_eq_false hi]
    rfl
  | cons y l =>
    show B63 (st63 s n k i (.gr (8, 0) (l.length + 1) 1) [(8, .cells true (rowsL (y :: l)))]) K = _
    rw [b63_g, decide_eq_false hi, allC_rows, mapC_rows]
    rfl
theorem loop63 {s : Rf} {n k : Int} {m : Nat} (hs : RfOk s) (hm : max 0 (minI n k) = m) (h6 : m < 65535) : ∀ (d i Q : Nat), i + d = m → d < Q → loopN B63 Q (so63 s n k (i : Int) (outF s i)) pairE = some (.exit 1, so63 s n k (m : Int) (outF s m)) := by
  intro d
  induction d with
  | zero =>
    intro i Q hi hQ
    obtain ⟨Q, rfl⟩ : ∃ q, Q = q + 1 := ⟨Q - 1, by omega⟩
    have hi' : i = m := by omega
    subst hi'
    rw [loopN_succ, exit63 (by omega)]
    rfl
  | succ d ih =>
    intro i Q hi hQ
    obtain ⟨Q, rfl⟩ : ∃ q, Q = q + 1 := ⟨Q - 1, by omega⟩
    rw [loopN_succ, round63 hs (by omega) (by omega) _ (by rw [outF_len]; omega), ← outF_succ]
    exact ih (i + 1) Q (by omega) (by omega)
/-! ### What it tells -/
def rdF (s : Rf) (n : Int) : Rf × List (List Int) × Int :=
  if n < 0 then (s, [], 7) else if s.ta ≥ 0 then (s, [], 9)
  else (⟨s.n, s.ch, s.fi, s.w, w64 (s.r + ((max 0 (minI n (fillF (lookF s)))).toNat : Int)), s.se, s.w, s.cl, s.ta, s.cs⟩, outF (lookF s) (max 0 (minI n (fillF (lookF s)))).toNat, 0)
theorem ar63 (s : Rf) (n : Int) : vwArgs Try.prog [] none0 (parsOf Try.prog 63) [aggF s, int64 n] = [aggF s, int64 n] := by kernel_rfl
theorem readF_fact {s : Rf} (hs : RfOk s) (hf : fillF (lookF s) < 65535) (n : Int) : FFact Try.prog tb 63 [aggF s, int64 n] (.tup [aggF (rdF s n).1, rows (rdF s n).2.1, int64 (rdF s n).2.2]) := by
  have hrd : rounds = 100000000000000000000 := rfl
  have h58 : ∀ {S : Orc}, Ok S → Ok (O58 S) := fun h => knowFW_ok when58 h
  refine ⟨ar63 s n, ?_⟩
  unfold rdF
  by_cases h1 : n < 0
  · rw [if_pos h1]
    refine ⟨_, h58 (stopAt_ok ok0), (run63_bad s n).trans ?_⟩
    rw [decide_eq_true h1]
    rfl
  rw [if_neg h1]
  by_cases h2 : s.ta ≥ 0
  · rw [if_pos h2]
    refine ⟨_, h58 (stopAt_ok ok0), (run63_bad s n).trans ?_⟩
    rw [decide_eq_false h1, decide_eq_true h2]
    rfl
  rw [if_neg h2]
  have hs1 : RfOk (lookF s) := ⟨hs.ch, hs.n, hs.rows, hs.fi, hs.w, hs.r, hs.cl, hs.ta⟩
  obtain ⟨m, hm⟩ : ∃ m : Nat, max 0 (minI n (fillF (lookF s))) = m := ⟨(max 0 (minI n (fillF (lookF s)))).toNat, by omega⟩
  have hm6 : m < 65535 := by unfold minI at hm; split at hm <;> omega
  have lp := loop63 hs1 hm hm6 m 0 rounds (by omega) (by omega)
  have e1 : l1 s = lookF s := by show lookF (rfOf (aggF s)) = _; rw [rfOf_agg]
  rw [hm, Int.toNat_natCast]
  have hl := outF_len (lookF s) m
  generalize outF (lookF s) m = l at lp hl
  cases l with
  | nil =>
    have hm0 : m = 0 := by simpa using hl.symm
    subst hm0
    refine ⟨_, h58 (knowLG_ok tbOk (F := ⟨[], [8], [11, 22]⟩) (LFact.flatG ok0 lp) ok0 (ep := e63) rfl norm63 count63), (run63_0 s (lookF s) n n _ _ _).trans ?_⟩
    rw [decide_eq_false h1, decide_eq_false h2, isSo_true ⟨_, rfl⟩, e1]
    exact bif_t (sameSt_self _)
  | cons y l =>
    have e2 := fix_rows (y :: l)
    refine ⟨_, h58 (knowLG_ok tbOk (F := ⟨[], [8], [11, 22]⟩) (LFact.flatG ok0 lp) ok0 (ep := e63) rfl norm63 count63), (run63_g s (lookF s) n n _ _ l.length _ _).trans ?_⟩
    rw [decide_eq_false h1, decide_eq_false h2, isSo_true ⟨_, rfl⟩, e1]
    refine (bif_t (sameSt_self _)).trans ?_
    rw [dropA_eq, List.drop_zero, allS_rows]
    show some (AV.tup [aggR (lookF s) ((l.length + 1 : Nat) : Int), .fz (fixLen ((y :: l).length * 1) (rowsL (y :: l))) (y :: l).length false 1, int64 0]) = _
    rw [dropA_eq, List.drop_zero] at e2
    rw [e2, ← hl]
    rfl
end Go.Proofs.Ytokighfpmonjdaa
/- RingPlays: what the law calls, told of. -/
namespace Go.Proofs.Ytokighfpmonjdaa
open Go.Ev
set_option maxRecDepth 100000
def Fine (xs : List (List Int)) : Prop := xs.length ≤ 1000000 ∧ ∀ f ∈ xs, f.length ≤ 1000000
theorem Fine.max {xs : List (List Int)} (h : Fine xs) : ∀ f ∈ xs, f.length ≤ maxLen := fun f hf => by
  have hM : maxLen = 9223372036854775807 := rfl
  have := h.2 f hf
  omega
def G15 (a : List AV) (l : List (Nat × Blk)) : Prop := ∃ (g : Rg) (fs xs : List (List Int)), a = [pG, rows xs] ∧ l = objG g fs.length (rowsL fs) ∧ RgOk g fs ∧ 0 ≤ roomG fs.length (seeG g) ∧ Fine xs
noncomputable def w15 (a : List AV) (l : List (Nat × Blk)) : (Rg × List (List Int)) × Int × Int := wrS (gOf (vsOf l)) (fsOf l) (rowsOf (nth a 1))
noncomputable def V15 (a : List AV) (l : List (Nat × Blk)) : ORes := okW (two' (w15 a l).2.1 (w15 a l).2.2) (w15 a l).1.1 (lenG l) (w15 a l).1.2
theorem w15_eq (g : Rg) (fs xs : List (List Int)) (N : Nat) : w15 [pG, rows xs] (objG g N (rowsL fs)) = wrS g fs xs := by
  unfold w15
  rw [fsOf_obj]
  show wrS g fs (rowsOf (rows xs)) = _
  rw [rowsOf_rows]
theorem when15 (a : List AV) (l : List (Nat × Blk)) (h : G15 a l) : OFact Try.prog tb scG 15 2 [1] a l (V15 a l).1.1 (V15 a l).1.2 (V15 a l).2 := by
  obtain ⟨g, fs, xs, rfl, rfl, hg, hr, hx⟩ := h
  have e : V15 [pG, rows xs] (objG g fs.length (rowsL fs)) = okW (two' (wrS g fs xs).2.1 (wrS g fs xs).2.2) (wrS g fs xs).1.1 fs.length (wrS g fs xs).1.2 := by
    unfold V15
    rw [w15_eq]
    rfl
  rw [e]
  exact write_fact hg hr hx.1 hx.max
def G20 (a : List AV) (l : List (Nat × Blk)) : Prop := ∃ (g : Rg) (fs : List (List Int)) (n : Int), a = [pG, int64 n] ∧ l = objG g fs.length (rowsL fs) ∧ RgOk g fs
noncomputable def r20 (a : List AV) (l : List (Nat × Blk)) : Rg × List (List Int) × Int := rdS (gOf (vsOf l)) (fsOf l) (intOf (nth a 1))
noncomputable def V20 (a : List AV) (l : List (Nat × Blk)) : ORes := okW (.tup [rows (r20 a l).2.1, int64 (r20 a l).2.2]) (r20 a l).1 (lenG l) (fsOf l)
theorem r20_eq (g : Rg) (fs : List (List Int)) (n : Int) (N : Nat) : r20 [pG, int64 n] (objG g N (rowsL fs)) = rdS g fs n := by
  unfold r20
  rw [fsOf_obj]
  rfl
theorem when20 (a : List AV) (l : List (Nat × Blk)) (h : G20 a l) : OFact Try.prog tb scG 20 2 [1] a l (V20 a l).1.1 (V20 a l).1.2 (V20 a l).2 := by
  obtain ⟨g, fs, n, rfl, rfl, hg⟩ := h
  have e : V20 [pG, int64 n] (objG g fs.length (rowsL fs)) = okW (.tup [rows (rdS g fs n).2.1, int64 (rdS g fs n).2.2]) (rdS g fs n).1 fs.length fs := by
    unfold V20
    rw [r20_eq, fsOf_obj]
    rfl
  rw [e]
  exact read_fact hg n
def G62 (a : List AV) : Prop := ∃ (s : Rf) (xs : List (List Int)), a = [aggF s, rows xs] ∧ RfOk s ∧ (0 ≤ roomF (seeF s) ∧ roomF (seeF s) < 65536) ∧ Fine xs
noncomputable def w62 (a : List AV) : Rf × Int × Int := wrF (rfOf (nth a 0)) (rowsOf (nth a 1))
noncomputable def V62 (a : List AV) : AV := .tup [aggF (w62 a).1, int64 (w62 a).2.1, int64 (w62 a).2.2]
theorem w62_eq (s : Rf) (xs : List (List Int)) : w62 [aggF s, rows xs] = wrF s xs := by
  show wrF (rfOf (aggF s)) (rowsOf (rows xs)) = _
  rw [rfOf_agg, rowsOf_rows]
theorem when62 (a : List AV) (h : isSo (G62 a) = true) : FFact Try.prog tb 62 a (V62 a) := by
  obtain ⟨s, xs, rfl, hs, hr, hx⟩ := isSo_iff.1 h
  unfold V62
  rw [w62_eq]
  exact writeF_fact hs hr hx.1 hx.2
def G63 (a : List AV) : Prop := ∃ (s : Rf) (n : Int), a = [aggF s, int64 n] ∧ RfOk s ∧ fillF (lookF s) < 65535
noncomputable def r63 (a : List AV) : Rf × List (List Int) × Int := rdF (rfOf (nth a 0)) (intOf (nth a 1))
noncomputable def V63 (a : List AV) : AV := .tup [aggF (r63 a).1, rows (r63 a).2.1, int64 (r63 a).2.2]
theorem r63_eq (s : Rf) (n : Int) : r63 [aggF s, int64 n] = rdF s n := by
  show rdF (rfOf (aggF s)) n = _
  rw [rfOf_agg]
theorem when63 (a : List AV) (h : isSo (G63 a) = true) : FFact Try.prog tb 63 a (V63 a) := by
  obtain ⟨s, n, rfl, hs, hf⟩ := isSo_iff.1 h
  unfold V63
  rw [r63_eq]
  exact readF_fact hs hf n
def cntF (s : Rf) (x : Int) : Int := (w64 (s.fi + x)).tmod 65536
def G65 (a : List AV) : Prop := ∃ (s : Rf), a = [aggF s]
noncomputable def V65 (a : List AV) : AV := .tup [int64 (cntF (rfOf (nth a 0)) (rfOf (nth a 0)).w), int64 (cntF (rfOf (nth a 0)) (rfOf (nth a 0)).r), int64 (cntF (rfOf (nth a 0)) (rfOf (nth a 0)).se), int64 (cntF (rfOf (nth a 0)) (rfOf (nth a 0)).lo)]
theorem cnt_run (s : Rf) : runF orc0 65 [aggF s] = some (.tup [int64 (cntF s s.w), int64 (cntF s s.r), int64 (cntF s s.se), int64 (cntF s s.lo)]) := by kernel_rfl
theorem ar65 (s : Rf) : vwArgs Try.prog [] none0 (parsOf Try.prog 65) [aggF s] = [aggF s] := by kernel_rfl
theorem when65 (a : List AV) (h : isSo (G65 a) = true) : FFact Try.prog tb 65 a (V65 a) := by
  obtain ⟨s, rfl⟩ := isSo_iff.1 h
  have e : V65 [aggF s] = .tup [int64 (cntF s s.w), int64 (cntF s s.r), int64 (cntF s s.se), int64 (cntF s s.lo)] := by
    unfold V65
    show AV.tup [int64 (cntF (rfOf (aggF s)) (rfOf (aggF s)).w), int64 (cntF (rfOf (aggF s)) (rfOf (aggF s)).r), int64 (cntF (rfOf (aggF s)) (rfOf (aggF s)).se), int64 (cntF (rfOf (aggF s)) (rfOf (aggF s)).lo)] = _
    rw [rfOf_agg]
  rw [e]
  exact ⟨ar65 s, _, ok0, cnt_run s⟩
def G23n (a : List AV) : Prop := ∃ xs ys : List (List Int), a = [rows xs, rows ys] ∧ xs = ys ∧ Fit xs
theorem when23n (a : List AV) (h : isSo (G23n a) = true) : F 23 a (.bool true) := by
  obtain ⟨xs, ys, rfl, rfl, hx⟩ := isSo_iff.1 h
  have := same_rows (ys := xs) hx
  rw [decide_eq_true rfl] at this
  exact this
def G25n (a : List AV) : Prop := ∃ xs ys : List Int, a = [ints xs, ints ys] ∧ xs = ys ∧ xs.length ≤ maxLen
theorem when25n (a : List AV) (h : isSo (G25n a) = true) : F 25 a (.bool true) := by
  obtain ⟨xs, ys, rfl, rfl, hx⟩ := isSo_iff.1 h
  have := same_row (ys := xs) hx
  rw [decide_eq_true rfl] at this
  exact this
theorem awake_run (h : Heap) : evCall Try.prog orc0 tb 100 AV (.fn 12) (vwArgs Try.prog [] h (parsOf Try.prog 12) []) (mkHeap [] 0) .off rv = some (.bool true) := by kernel_rfl
theorem awake_fact : F 12 [] (.bool true) := .of ok0 rfl awake_run
/-! ### A function asked with arguments that are seen otherwise (a list that is nil) -/
theorem fnSim_atN2 {f : FuncId} {a a' : List AV} {v : AV} (ha : vwArgs Try.prog [] none0 (parsOf Try.prog f) a = a') (hf : NFact Try.prog tb f a' v) : FnSim Try.prog (LP tb) f (atO a v) := by
  obtain ⟨-, S, hS, hr⟩ := hf
  have e : evCall Try.prog S tb 100 AV (.fn f) a' (mkHeap [] 0) .off (nviewK Try.prog (resOf Try.prog f)) = (evCall Try.prog S tb 100 (AV × Heap) (.fn f) a' (mkHeap [] 0) .off pairK).bind fun x => nviewK Try.prog (resOf Try.prog f) (.ret x.1) x.2 .off :=
    evCall_b hS.nf hS.nl 100 AV (AV × Heap) (.fn f) a' (mkHeap [] 0) .off _ pairK _ fun o h m => by
      cases m <;> cases o <;> rfl
  rw [e] at hr
  obtain ⟨⟨v1, h1⟩, hr1, hr2⟩ := Option.bind_eq_some_iff.1 hr
  have hv : vwRes Try.prog [] h1 (resOf Try.prog f) v1 = v := by
    simp only [nviewK, Option.some.injEq] at hr2
    exact hr2
  intro A K r args h u args' ρ Z w kind cs₀ cs hL hg hr0 ha0 hcs
  unfold atO at hg
  cases u with
  | off =>
    simp only at hg
    cases hs : same args a with
    | false => rw [hs] at hg; cases hg
    | true =>
      rw [hs] at hg
      have : args = a := by
        unfold same at hs
        simpa using hs
      subst this
      refine fnSim_loc tbOk hS {} f A K r args h .off args' ρ Z w kind cs₀ cs hL ?_ hr0 ha0 hcs
      show locF Try.prog S tb {} f A args h .off K = some r
      unfold locF
      simp only [posObj, fst1, pairsOf, vwBlks2, lenO, ha]
      rw [hr1]
      simp only [List.append_nil, fst1, pairsNew, swapL, vwBlks2, lenO]
      rw [hv]
      exact hg
  | _ => cases hg
theorem knowNV_ok {S : Orc} {f : FuncId} {G : List AV → Bool} {V : List AV → AV} (hf : ∀ a, G a = true → ∃ a', vwArgs Try.prog [] none0 (parsOf Try.prog f) a = a' ∧ NFact Try.prog tb f a' (V a)) (hS : Ok S) : Ok (knowFW f G V S) := by
  refine addF_ok ?_ natF_when hS
  intro A K r args h u args' ρ Z w kind cs₀ cs hL hh hr ha hcs
  unfold whenO at hh
  cases u with
  | off =>
    simp only at hh
    cases hs : G args with
    | false => rw [hs] at hh; cases hh
    | true =>
      rw [hs] at hh
      obtain ⟨a', h1, h2⟩ := hf args hs
      refine fnSim_atN2 h1 h2 A K r args h .off args' ρ Z w kind cs₀ cs hL ?_ hr ha hcs
      unfold atO
      simp only [same_self, cond_true]
      exact hh
  | _ => cases hh
abbrev nilL : AV := .sl none 0 0 true 0
def G56n (a : List AV) : Prop := ∃ (s : Rf) (n : Int) (f : List Int), (a = [aggF s, int64 n, ints f] ∨ f = [] ∧ a = [aggF s, int64 n, nilL]) ∧ RfOk s ∧ f.length ≤ 1000000
theorem ar56n (s : Rf) (n : Int) : vwArgs Try.prog [] none0 (parsOf Try.prog 56) [aggF s, int64 n, nilL] = [aggF s, int64 n, ints []] := by kernel_rfl
theorem when56n (a : List AV) (h : isSo (G56n a) = true) : ∃ a', vwArgs Try.prog [] none0 (parsOf Try.prog 56) a = a' ∧ NFact Try.prog tb 56 a' (V56 a) := by
  obtain ⟨s, n, f, h1, hs, hf⟩ := isSo_iff.1 h
  rcases h1 with rfl | ⟨rfl, rfl⟩
  · exact ⟨_, ar56 s n f, when56 _ (isSo_true ⟨s, n, f, rfl, hs, hf⟩)⟩
  · refine ⟨_, ar56n s n, ?_⟩
    have e : V56 [aggF s, int64 n, nilL] = V56 [aggF s, int64 n, ints []] := rfl
    rw [e]
    exact when56 _ (isSo_true ⟨s, n, [], rfl, hs, hf⟩)
noncomputable def OP (S : Orc) : Orc := knowOW Try.prog scG 15 2 [1] [1] G15 V15 <| knowOW Try.prog scG 20 2 [1] [1] G20 V20 <| knowFW 62 (fun a => isSo (G62 a)) V62 <| knowFW 63 (fun a => isSo (G63 a)) V63 <| knowFW 65 (fun a => isSo (G65 a)) V65 <| knowW 23 (fun a => isSo (G23n a)) (fun _ => .bool true) <| knowW 25 (fun a => isSo (G25n a)) (fun _ => .bool true) <| knowFW 56 (fun a => isSo (G56n a)) V56 <| OG <| OF S
theorem OP_ok {S : Orc} (h : Ok S) : Ok (OP S) := knowOW_ok tbOk when15 (knowOW_ok tbOk when20 (knowFW_ok when62 (knowFW_ok when63 (knowFW_ok when65 (knowW_ok tbOk when23n (knowW_ok tbOk when25n (knowNV_ok when56n (OG_ok (OF_ok h)))))))))
end Go.Proofs.Ytokighfpmonjdaa
