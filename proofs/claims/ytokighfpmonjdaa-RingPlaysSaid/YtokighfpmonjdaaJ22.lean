/- ring.Play: all its turns. -/
import Derived.Test.YtokighfpmonjdaaJ21
namespace Go.Proofs.Ytokighfpmonjdaa
open Go.Ev
set_option maxRecDepth 100000
theorem aprt_eq {a b : Int} (ha : 0 ≤ a ∧ a < 65536) (hb : 0 ≤ b ∧ b < 65536) : aprt a b = (a - b + 65536) % 65536 := by
  have e1 : w64 (a - b) = a - b := by unfold w64; rw [IntKind.wrap_i64]; omega
  have e2 : w64 (a - b + 65536) = a - b + 65536 := by unfold w64; rw [IntKind.wrap_i64]; omega
  unfold aprt
  rw [e1, e2, Int.tmod_eq_emod_of_nonneg (by omega)]
theorem minI_le (a b : Int) : minI a b ≤ a ∧ minI a b ≤ b := by unfold minI; split <;> omega
section
variable {g : Rg} {fs : List (List Int)}
theorem RgOk.room (h : RgOk g fs) : roomG fs.length g ≤ 1024 := by
  obtain ⟨h1, h2, h3, h4, h5, h6, h7, h8, h9⟩ := h
  have e := aprt_eq h4 h6
  have e2 : roomG fs.length g = (fs.length : Int) - aprt g.wo g.wv := by unfold roomG w64; rw [IntKind.wrap_i64]; omega
  omega
theorem RgOk.fill (h : RgOk g fs) : 0 ≤ fillG g ∧ fillG g < 65536 := by
  obtain ⟨h1, h2, h3, h4, h5, h6, h7, h8, h9⟩ := h
  have e := aprt_eq h7 h5
  unfold fillG
  omega
theorem ok_see (h : RgOk g fs) : RgOk (seeG g) fs := ⟨h.ch, h.n, h.rows, h.wo, h.ro, h.ro, h.rv, h.wc, h.rc⟩
theorem ok_look (h : RgOk g fs) : RgOk (lookG g) fs := ⟨h.ch, h.n, h.rows, h.wo, h.ro, h.wv, h.wo, h.wc, h.rc⟩
theorem ok_claim (h : RgOk g fs) (n : Int) : RgOk (claimS fs.length g n).1 fs := by
  unfold claimS
  split
  · exact h
  · split
    · exact h
    · exact ⟨h.ch, h.n, h.rows, h.wo, h.ro, h.wv, h.rv, by have := h.room; have := minI_le n (roomG fs.length g); show minI n (roomG fs.length g) ≤ 65536; omega, h.rc⟩
theorem ok_take (h : RgOk g fs) (n : Int) : RgOk (takeS g n).1 fs := by
  unfold takeS
  split
  · exact h
  · split
    · exact h
    · exact ⟨h.ch, h.n, h.rows, h.wo, h.ro, h.wv, h.rv, h.wc, by have := h.fill; have := minI_le n (fillG g); show minI n (fillG g) ≤ 65536; omega⟩
theorem own_in {o n : Int} (ho : 0 ≤ o ∧ o < 65536) (hn : 0 ≤ n ∧ n ≤ 65536) : 0 ≤ (w64 (o + n)).tmod 65536 ∧ (w64 (o + n)).tmod 65536 < 65536 := by
  have e1 : w64 (o + n) = o + n := by unfold w64; rw [IntKind.wrap_i64]; omega
  rw [e1, Int.tmod_eq_emod_of_nonneg (by omega)]
  omega
theorem putL_len (i : Int) (f : List Int) : (putL g i f fs).length = fs.length := by
  unfold putL
  split <;> simp
theorem ok_put (h : RgOk g fs) (i : Int) (f : List Int) : RgOk g (putL g i f fs) := by
  refine ⟨h.ch, by rw [putL_len]; exact h.n, fun r hr => ?_, h.wo, h.ro, h.wv, h.rv, h.wc, h.rc⟩
  unfold putL at hr
  split at hr
  · rename_i he
    rcases List.mem_or_eq_of_mem_set hr with h1 | h1
    · exact h.rows r h1
    · subst h1
      unfold putE at he
      split at he
      · omega
      · rename_i hb
        exact Classical.not_not.1 fun hne => hb (Or.inl hne)
  · exact h.rows r hr
end
def okT (t : Tn) : Prop := (t.1 = 0 ∨ t.1 = 1) ∧ (t.2.1 = 0 ∨ t.2.1 = 1 ∨ t.2.1 = 2 ∨ t.2.1 = 3)
end Go.Proofs.Ytokighfpmonjdaa
/- ring.Play: what it tells. -/
namespace Go.Proofs.Ytokighfpmonjdaa
open Go.Ev
set_option maxRecDepth 100000
theorem bif_t {A : Type} {c : Bool} (h : c = true) {x y : A} : (bif c then x else y) = x := by rw [h]; rfl
theorem w64_succ {i : Nat} (h : i ≤ 1000000000) : w64 ((i : Int) + 1) = ((i + 1 : Nat) : Int) := by unfold w64; rw [IntKind.wrap_i64]; omega
def badF (ch : Int) (f : List Int) : Bool := !((f.length : Int) == ch) || badR f
theorem rwA_eq {xs : List (List Int)} {i : Nat} (h : i < xs.length) : rwA xs (i : Int) = ints xs[i] := by
  show nth (xs.map ints) ((i : Int).toNat * 1) = _
  rw [show (i : Int).toNat * 1 = i by omega, nthM ints xs i h]
def badT (t : Tn) : Bool := decide (t.1 < 0) || (decide (t.1 > 1) || (decide (t.2.1 < 0) || (decide (t.2.1 ≥ 4) || (t.2.1 == 1 && decide (t.2.2 < 0)))))
/-! ### The fact -/
def pl0 (n c : Nat) (first : Int) (xs : List (List Int)) : Pl := ⟨g0 c first, zrs n c, xs, [], [], []⟩
def playI (n ch first : Int) (xs : List (List Int)) (S : List Tn) : AV :=
  if okN n ch first = false then (if xs.any (badF ch) = true then res32 [] 0 1 else res32 [] 0 7)
  else if xs.any (badF ch) = true then res32 [] 0 1
  else if S.any badT = true then res32 [] 0 7
  else if xs.length > 2000 ∨ S.length > 5000 then res32 [] 0 4
  else
    let P := S.foldl stepP (pl0 n.toNat ch.toNat first xs)
    res32 P.out (aprt P.g.wo P.g.ro) 0
end Go.Proofs.Ytokighfpmonjdaa
/- Write of a ring: its loops. -/
namespace Go.Proofs.Ytokighfpmonjdaa
open Go.Ev
set_option maxRecDepth 100000
abbrev hpW (g : Rg) (N : Nat) (L : List AV) : List (Nat × Blk) := [(2, .cells true [.ptr (some (0, 0))]), (1, .cells true L), (0, .cells true (cellsG g (.gr (1, 0) N 1)))]
def st79w (g : Rg) (N : Nat) (L : List AV) (xs : List (List Int)) (i : Int) : St := ⟨[rows xs, .fn 41 [] [.ptr (some (2, 0))], .dead, .dead, .dead, .dead, .dead, int64 (xs.length : Int), int64 i] ++ repA .dead 10, mkHeap (hpW g N L) 9, [], .off⟩
def rt79w (g : Rg) (N : Nat) (L : List AV) (i : Int) : St := ⟨[.dead, .dead, .dead, .dead, int64 i] ++ repA .dead 14, mkHeap (hpW g N L) 8, [], .off⟩
theorem b79w {A : Type} (g : Rg) (N : Nat) (L : List AV) (xs : List (List Int)) (i : Int) (K : Ex → St → Option A) : loopBG Try.prog (OB orc0) tb 79 2 ⟨[1], [], []⟩ 3 (st79w g N L xs i) K =
    (bif decide (i < (xs.length : Int)) then rowG (xs.map ints) xs.length i <| bif ((fzL (rwA xs i) : Nat) : Int) == g.ch then bif isSo (is80 [rowF (rwA xs i), f81]) then bif !(!badR (rowOf (rowF (rwA xs i)))) then guardK (allS L && true) <| K .ret (rt79w g N L i) else guardK (allS L && true) <| K .normal (st79w g N L xs (w64 (i + 1))) else none else guardK (allS L && true) <| K .ret (rt79w g N L i) else guardK (allS L && true) <| K (.exit 0) (st79w g N L xs i)) := by kernel_rfl
def st15 (g : Rg) (N : Nat) (L : List AV) (ys : List AV) (M : Nat) (n i : Int) : St := ⟨[.dead, .dead, .ptr (some (2, 0)), .dead, .dead, .dead, int64 n] ++ repA .dead 29 ++ [.fz ys M false 1, int64 (M : Int), int64 i] ++ repA .dead 13, mkHeap (hpW g N L) 20, [], .off⟩
def N15 : Norm := ⟨[2, 4, 5, 6, 36, 37, 38], []⟩
theorem norm15 : loopN0 tb 15 8 = some N15 := by kernel_rfl
theorem count15 : Nat.ble (countL 8 e15.code) 1 = true := by kernel_rfl
noncomputable abbrev a18w (n : Int) (x : AV) : List AV := vwArgs Try.prog [(1, 1), (0, 0)] none0 (parsOf Try.prog 18) [pG, int64 n, rowF x]
noncomputable abbrev B15 {A : Type} (st : St) (K : Ex → St → Option A) : Option A := loopBG Try.prog (OG orc0) tb 15 8 ⟨[1], [], []⟩ 13 st K
noncomputable abbrev fsW (g : Rg) (N : Nat) (fs : List (List Int)) (ys : List AV) (i : Int) : List (List Int) := putL g (intOf (nth (a18w i (nth ys (i.toNat * 1))) 1)) (rowOf (nth (a18w i (nth ys (i.toNat * 1))) 2)) (fsOf (objG g N (rowsL fs)))
theorem b15 {A : Type} (g : Rg) (N : Nat) (fs : List (List Int)) (ys : List AV) (M : Nat) (n i : Int) (K : Ex → St → Option A) : B15 (st15 g N (rowsL fs) ys M n i) K =
    (bif decide (i < (M : Int)) then rowG ys M i <| flG fs <| bif isSo (G18 (a18w i (nth ys (i.toNat * 1))) (objG g N (rowsL fs))) then guardK (allS (rowsL (fsW g N fs ys i)) && true) <| K .normal (st15 g N (rowsL (fsW g N fs ys i)) ys M n (w64 (i + 1))) else none
     else guardK (allS (rowsL fs) && true) <| K (.exit 1) (st15 g N (rowsL fs) ys M n i)) := by kernel_rfl
noncomputable abbrev ob (g : Rg) (N : Nat) (fs : List (List Int)) : List (Nat × Blk) := objG g N (rowsL fs)
theorem run15_bad (g : Rg) (N : Nat) (L : List AV) (xs : List (List Int)) (i : Int) (t0 : St) : runG (knowLG Try.prog 79 2 N79 ⟨[1], [], []⟩ 3 t0 .ret (rt79w g N L i) (stopAt 15 [3] orc0)) 15 [pG, rows xs] g N L = (guardK (allS L && true) <| bif sameSt (st79w g N L xs 0) t0 then bif decide (i ≥ 0) then okG g N L (two' 0 1) else none else none) := by kernel_rfl
set_option linter.unusedVariables false
theorem run15_op (g : Rg) (N : Nat) (L : List AV) (xs : List (List Int)) (i : Int) (t0 : St) : runG (knowLG Try.prog 79 2 N79 ⟨[1], [], []⟩ 3 t0 (.exit 0) (st79w g N L xs i) (stopAt 15 [5] orc0)) 15 [pG, rows xs] g N L = (guardK (allS L && true) <| bif sameSt (st79w g N L xs 0) t0 then bif g.wop then okG g N L (two' 0 9) else none else none) := by kernel_rfl
noncomputable abbrev nW (g : Rg) (N : Nat) (fs : List (List Int)) (m : Nat) : Rg × Int × Int := claimS N (seeG g) (m : Int)
theorem run15 (g : Rg) (N : Nat) (fs fs' : List (List Int)) (xs : List (List Int)) (i j : Int) (ys : List AV) (M : Nat) (n' : Int) (g' : Rg) (t0 t1 : St) : runG (OG (knowLG Try.prog 79 2 N79 ⟨[1], [], []⟩ 3 t0 (.exit 0) (st79w g N (rowsL fs) xs i) (knowLG Try.prog 15 8 N15 ⟨[1], [], []⟩ 13 t1 (.exit 1) (st15 g' N (rowsL fs') ys M n' j) orc0))) 15 [pG, rows xs] g N (rowsL fs) =
    (guardK (allS (rowsL fs) && true) <| bif sameSt (st79w g N (rowsL fs) xs 0) t0 then bif g.wop then okG g N (rowsL fs) (two' 0 9) else
     flG fs <| bif isSo (G16 [pG] (ob g N fs)) then flG (fsOf (ob g N fs)) <| bif isSo (G17 [pG, int64 (xs.length : Int)] (ob (seeG g) N (fsOf (ob g N fs)))) then
     guardK (decide (0 ≤ (claimS N (seeG g) (xs.length : Int)).2.1)) <| guardK (Nat.ble (claimS N (seeG g) (xs.length : Int)).2.1.toNat xs.length) <|
     guardK (allS (rowsL (fsOf (ob (seeG g) N (fsOf (ob g N fs))))) && true) <|
     bif sameSt (st15 (claimS N (seeG g) (xs.length : Int)).1 N (rowsL (fsOf (ob (seeG g) N (fsOf (ob g N fs))))) (takeA (dropA (xs.map ints) 0) ((claimS N (seeG g) (xs.length : Int)).2.1.toNat * 1)) (claimS N (seeG g) (xs.length : Int)).2.1.toNat (claimS N (seeG g) (xs.length : Int)).2.1 0) t1 then
     flG fs' <| bif isSo (G19 [pG, int64 n'] (ob g' N fs')) then okG (commS g' n').1 N (rowsL (fsOf (ob g' N fs'))) (two' n' (commS g' n').2) else none else none else none else none else none) := by kernel_rfl
/-! ### What it tells -/
theorem a18w_eq (n : Int) (f : List Int) : a18w n (ints f) = [pG, int64 n, ints f] := by kernel_rfl
def putW (g : Rg) : Nat → List (List Int) → List (List Int) → List (List Int)
  | _, [], fs => fs
  | i, y :: l, fs => putW g (i + 1) l (putL g (i : Int) y fs)
theorem putW_len (g : Rg) : ∀ (l : List (List Int)) (i : Nat) (fs : List (List Int)), (putW g i l fs).length = fs.length
  | [], _, _ => rfl
  | y :: l, i, fs => (putW_len g l (i + 1) _).trans (putL_len _ _)
theorem ok_putW {g : Rg} : ∀ (l : List (List Int)) (i : Nat) (fs : List (List Int)), RgOk g fs → RgOk g (putW g i l fs)
  | [], _, _, h => h
  | y :: l, i, fs, h => ok_putW l (i + 1) _ (ok_put h _ _)
theorem loop15 {g : Rg} {ys : List (List Int)} {N : Nat} {n : Int} (hy : ys.length ≤ 1000000) (hl : ∀ y ∈ ys, y.length ≤ maxLen) : ∀ (d i Q : Nat) (fs : List (List Int)), i + d = ys.length → d < Q → RgOk g fs → fs.length = N → loopN B15 Q (st15 g N (rowsL fs) (rowsL ys) ys.length n (i : Int)) pairE = some (.exit 1, st15 g N (rowsL (putW g i (ys.drop i) fs)) (rowsL ys) ys.length n (ys.length : Int)) := by
  intro d
  induction d with
  | zero =>
    intro i Q fs hi hQ hg hN
    obtain ⟨Q, rfl⟩ : ∃ q, Q = q + 1 := ⟨Q - 1, by omega⟩
    have hi' : i = ys.length := by omega
    subst hi'
    rw [loopN_succ, b15, List.drop_eq_nil_of_le (Nat.le_refl _), decide_eq_false (by omega : ¬ (ys.length : Int) < (ys.length : Int)), allS_rows fs]
    rfl
  | succ d ih =>
    intro i Q fs hi hQ hg hN
    obtain ⟨Q, rfl⟩ : ∃ q, Q = q + 1 := ⟨Q - 1, by omega⟩
    have h : i < ys.length := by omega
    have en : nth (rowsL ys) ((i : Int).toNat * 1) = ints ys[i] := by rw [show (i : Int).toNat * 1 = i by omega, nthM ints ys i h]
    have ef : fsW g N fs (rowsL ys) (i : Int) = putL g (i : Int) ys[i] fs := by
      show putL g (intOf (nth (a18w (i : Int) (nth (rowsL ys) ((i : Int).toNat * 1))) 1)) (rowOf (nth (a18w (i : Int) (nth (rowsL ys) ((i : Int).toNat * 1))) 2)) (fsOf (objG g N (rowsL fs))) = _
      rw [en, a18w_eq, fsOf_obj]
      show putL g (i : Int) (rowOf (ints ys[i])) fs = _
      rw [rowOf_ints]
    have hG : isSo (G18 (a18w (i : Int) (nth (rowsL ys) ((i : Int).toNat * 1))) (objG g N (rowsL fs))) = true := by
      rw [en, a18w_eq]
      exact isSo_true ⟨g, fs, _, _, rfl, by rw [hN], hg, hl _ (List.getElem_mem h)⟩
    rw [loopN_succ, b15, ef, hG, rowG_eq h, flG_eq, allS_rows, decide_eq_true (by omega : (i : Int) < (ys.length : Int)), w64_succ (by omega), List.drop_eq_getElem_cons h]
    exact ih (i + 1) Q _ (by omega) (by omega) (ok_put hg _ _) ((putL_len _ _).trans hN)
theorem loop79w {g : Rg} {N : Nat} {fs xs : List (List Int)} (hx : xs.length ≤ 1000000) (hl : ∀ f ∈ xs, f.length ≤ maxLen) : ∀ (d i Q : Nat), i + d = xs.length → d < Q →
    ∃ j : Int, 0 ≤ j ∧ loopN (loopBG Try.prog (OB orc0) tb 79 2 ⟨[1], [], []⟩ 3) Q (st79w g N (rowsL fs) xs (i : Int)) pairE = some (bif (xs.drop i).any (badF g.ch) then (.ret, rt79w g N (rowsL fs) j) else (.exit 0, st79w g N (rowsL fs) xs (xs.length : Int))) := by
  intro d
  induction d with
  | zero =>
    intro i Q hi hQ
    obtain ⟨Q, rfl⟩ : ∃ q, Q = q + 1 := ⟨Q - 1, by omega⟩
    have hi' : i = xs.length := by omega
    subst hi'
    refine ⟨0, Int.le_refl _, ?_⟩
    rw [loopN_succ, b79w, List.drop_eq_nil_of_le (Nat.le_refl _), decide_eq_false (by omega : ¬ (xs.length : Int) < (xs.length : Int)), allS_rows]
    rfl
  | succ d ih =>
    intro i Q hi hQ
    obtain ⟨Q, rfl⟩ : ∃ q, Q = q + 1 := ⟨Q - 1, by omega⟩
    have h : i < xs.length := by omega
    have hF : rowF (ints xs[i]) = ints xs[i] := rfl
    have hL : fzL (ints xs[i]) = xs[i].length := rfl
    have h8 : isSo (is80 [ints xs[i], f81]) = true := isSo_true ⟨_, rfl, hl _ (List.getElem_mem h)⟩
    rw [loopN_succ, b79w, rowG_eq h, rwA_eq h, hF, hL, rowOf_ints, h8, decide_eq_true (by omega : (i : Int) < (xs.length : Int)), allS_rows, w64_succ (by omega), List.drop_eq_getElem_cons h, List.any_cons]
    unfold badF
    cases h1 : (xs[i].length : Int) == g.ch with
    | false => exact ⟨i, Int.natCast_nonneg _, rfl⟩
    | true =>
      cases h2 : badR xs[i] with
      | true => exact ⟨i, Int.natCast_nonneg _, rfl⟩
      | false => exact ih (i + 1) Q (by omega) (by omega)
def wrS (g : Rg) (fs xs : List (List Int)) : (Rg × List (List Int)) × Int × Int :=
  if xs.any (badF g.ch) = true then ((g, fs), 0, 1) else if g.wop = true then ((g, fs), 0, 9)
  else (((commS (claimS fs.length (seeG g) xs.length).1 (claimS fs.length (seeG g) xs.length).2.1).1, putW (claimS fs.length (seeG g) xs.length).1 0 (xs.take (claimS fs.length (seeG g) xs.length).2.1.toNat) fs), (claimS fs.length (seeG g) xs.length).2.1, (commS (claimS fs.length (seeG g) xs.length).1 (claimS fs.length (seeG g) xs.length).2.1).2)
theorem write_fact {g : Rg} {fs xs : List (List Int)} (hg : RgOk g fs) (hr : 0 ≤ roomG fs.length (seeG g)) (hx : xs.length ≤ 1000000) (hl : ∀ f ∈ xs, f.length ≤ maxLen) : OFact Try.prog tb scG 15 2 [1] [pG, rows xs] (objG g fs.length (rowsL fs)) (two' (wrS g fs xs).2.1 (wrS g fs xs).2.2) (grabG (wrS g fs xs).1.1 fs.length (rowsL (wrS g fs xs).1.2)) psG := by
  have hrd : rounds = 100000000000000000000 := rfl
  obtain ⟨j, hj, l1⟩ := loop79w (g := g) (N := fs.length) (fs := fs) hx hl xs.length 0 rounds (by omega) (by omega)
  rw [List.drop_zero] at l1
  unfold wrS
  by_cases h1 : xs.any (badF g.ch) = true
  · rw [h1] at l1
    rw [if_pos h1]
    refine ⟨_, knowLG_ok tbOk (LFact.flatG (OB_ok ok0) l1) (stopAt_ok ok0) (ep := e79) rfl norm79 count79, (run15_bad g fs.length (rowsL fs) xs _ _).trans ?_⟩
    rw [allS_rows, decide_eq_true (show j ≥ 0 from hj)]
    exact (bif_t (sameSt_self _)).trans (okG_some _ _ _ _)
  rw [if_neg h1]
  rw [show xs.any (badF g.ch) = false by simpa using h1] at l1
  by_cases h2 : g.wop = true
  · rw [if_pos h2]
    refine ⟨_, knowLG_ok tbOk (LFact.flatG (OB_ok ok0) l1) (stopAt_ok ok0) (ep := e79) rfl norm79 count79, (run15_op g fs.length (rowsL fs) xs _ _).trans ?_⟩
    rw [allS_rows, h2]
    exact (bif_t (sameSt_self _)).trans (okG_some _ _ _ _)
  rw [if_neg h2]
  have hg1 := ok_see hg
  have hg2 : RgOk (claimS fs.length (seeG g) xs.length).1 fs := ok_claim hg1 _
  have hk : 0 ≤ (claimS fs.length (seeG g) xs.length).2.1 ∧ (claimS fs.length (seeG g) xs.length).2.1 ≤ xs.length := by
    unfold claimS
    rw [if_neg (by omega)]
    by_cases h3 : (seeG g).wop = true
    · rw [if_pos h3]; exact ⟨Int.le_refl _, Int.natCast_nonneg _⟩
    · rw [if_neg h3]
      show 0 ≤ minI (xs.length : Int) (roomG fs.length (seeG g)) ∧ minI (xs.length : Int) (roomG fs.length (seeG g)) ≤ xs.length
      unfold minI
      split <;> omega
  generalize hc : (claimS fs.length (seeG g) xs.length).2.1 = k at hk
  generalize hc2 : (claimS fs.length (seeG g) xs.length).1 = g2 at hg2
  obtain ⟨k, rfl⟩ : ∃ m : Nat, k = m := ⟨k.toNat, by omega⟩
  have hlen : (xs.take k).length = k := by rw [List.length_take]; omega
  have l2 := loop15 (g := g2) (ys := xs.take k) (N := fs.length) (n := (k : Int)) (by omega) (fun y hy => hl y (List.mem_of_mem_take hy)) k 0 rounds fs (by omega) (by omega) hg2 rfl
  rw [List.drop_zero, hlen] at l2
  have hp := ok_putW (g := g2) (xs.take k) 0 fs hg2
  have hpl := putW_len g2 (xs.take k) 0 fs
  have et : takeA (dropA (xs.map ints) 0) ((k : Int).toNat * 1) = rowsL (xs.take k) := by
    rw [takeA_eq, dropA_eq, List.drop_zero, Nat.mul_one, Int.toNat_natCast]
    show (xs.map ints).take k = (xs.take k).map ints
    rw [List.map_take]
  refine ⟨_, OG_ok (knowLG_ok tbOk (LFact.flatG (OB_ok ok0) l1) (knowLG_ok tbOk (LFact.flatG (OG_ok ok0) l2) ok0 (ep := e15) rfl norm15 count15) (ep := e79) rfl norm79 count79), (run15 g fs.length fs (putW g2 0 (xs.take k) fs) xs _ _ _ _ _ g2 _ _).trans ?_⟩
  rw [allS_rows, flG_eq, flG_eq, flG_eq, isSo_true ⟨g, fs, rfl, rfl, hg⟩, fsOf_obj, fsOf_obj, isSo_true ⟨_, fs, _, rfl, rfl, hg1⟩, hc, hc2, et, allS_rows, show g.wop = false by simpa using h2, decide_eq_true hk.1, show Nat.ble (k : Int).toNat xs.length = true from Nat.ble_eq_true_of_le (by omega), fsOf_obj]
  refine (bif_t (sameSt_self _)).trans ?_
  refine (bif_t (sameSt_self _)).trans ?_
  refine (bif_t (isSo_true ⟨g2, putW g2 0 (xs.take k) fs, _, rfl, by rw [hpl], hp⟩)).trans ?_
  rw [Int.toNat_natCast]
  exact okG_some _ _ _ _
end Go.Proofs.Ytokighfpmonjdaa
/- Read of a ring: its loop, where frames are yielded. -/
namespace Go.Proofs.Ytokighfpmonjdaa
open Go.Ev
set_option maxRecDepth 100000
def rangeC : Code → Option (List Tmp × Code × Code)
  | .seq a b => (match rangeC a with
    | some x => some x
    | none => rangeC b)
  | .cond _ a b => (match rangeC a with
    | some x => some x
    | none => rangeC b)
  | .block _ b => rangeC b
  | .rangeFunc _ ps a b => some (ps.toList, a, b)
  | _ => none
noncomputable def rec83 : Blk := match rangeC e82.code with
  | some (ps, a, b) => .loop ⟨.ready, none, 82, [.dead, .fn 83 [] [.ptr (some (7, 0)), .ptr (some (6, 0))], .ptr (some (8, 0)), .dead, .sl none 0 0 true 0, .dead, .fn 83 [] [.ptr (some (7, 0)), .ptr (some (6, 0))]] ++ repA .dead 6, ps, a, b, 9⟩
  | none => .dfr false
noncomputable def st83 (g : Rg) (N : Nat) (L : List AV) (k i : Int) (o : Lst) : St := ⟨[.yield 10, .dead, .ptr (some (6, 0)), .dead, .dead, .dead, .dead, int64 k, int64 i] ++ repA .dead 13,
  mkHeap (blP 15 o ++ [(10, rec83), (9, .dfr true), (8, .cells true [lvP 15 o]), (7, .cells true [int64 k]), (6, .cells true [.ptr (some (0, 0))]), (1, .cells true L), (0, .cells true (cellsG g (.gr (1, 0) N 1)))]) 16, [], .off⟩
section
variable {A : Type} (g : Rg) (N : Nat) (fs : List (List Int)) (k i : Int) (o : Lst) (K : Ex → St → Option A)
abbrev fl83 : Flat := ⟨[1, 15], [], []⟩
noncomputable abbrev B83 (st : St) (K : Ex → St → Option A) : Option A := loopBG Try.prog (OG orc0) tb 83 1 fl83 11 st K
noncomputable def to83 (fs' : List (List Int)) (o' : Lst) : Option A := guardK (alO o' (allS (rowsL fs') && true)) <| K .normal (st83 g N (rowsL fs') k (w64 (i + 1)) o')
noncomputable def body83 : Option A := bif decide (i < k) then flG fs <| bif isSo (G24 [pG, int64 i] (objG g N (rowsL fs))) then
    pushP (ints (getL g i (fsOf (objG g N (rowsL fs))))) (to83 g N k i K (fsOf (objG g N (rowsL fs)))) o else none
  else guardK (alO o (allS (rowsL fs) && true)) <| K (.exit 0) (st83 g N (rowsL fs) k i o)
end
theorem b83 {A : Type} (g : Rg) (N : Nat) (fs : List (List Int)) (k i : Int) (K : Ex → St → Option A) : ∀ o : Lst, B83 (st83 g N (rowsL fs) k i o) K = body83 g N fs k i o K
  | none => by kernel_rfl
  | some (m1, m2) => by kernel_rfl
noncomputable abbrev obR (g : Rg) (N : Nat) (fs : List (List Int)) : List (Nat × Blk) := objG g N (rowsL fs)
def N83 : Norm := ⟨[0, 2, 7, 8], [(0, [1000, 2, 0])]⟩
theorem norm83 : loopN0 tb 83 1 = some N83 := by kernel_rfl
theorem count83 : Nat.ble (countL 1 e83.code) 1 = true := by kernel_rfl
noncomputable abbrev S20 (t0 : St) (g' : Rg) (N : Nat) (fs' : List (List Int)) (k' j : Int) (o : Lst) (S : Orc) : Orc := OG (knowLG Try.prog 83 1 N83 fl83 11 t0 (.exit 0) (st83 g' N (rowsL fs') k' j o) S)
noncomputable def pre20 (g : Rg) (N : Nat) (fs : List (List Int)) (n : Int) (t0 : St) (x : Option ORes) : Option ORes :=
  bif decide (n < 0) then okG g N (rowsL fs) (.tup [rows [], int64 7]) else bif g.rop then okG g N (rowsL fs) (.tup [rows [], int64 9]) else
  flG fs <| bif isSo (G21 [pG] (obR g N fs)) then flG (fsOf (obR g N fs)) <| bif isSo (G22 [pG, int64 n] (obR (lookG g) N (fsOf (obR g N fs)))) then
  guardK (allS (rowsL (fsOf (obR (lookG g) N (fsOf (obR g N fs))))) && true) <| bif sameSt (st83 (takeS (lookG g) n).1 N (rowsL (fsOf (obR (lookG g) N (fsOf (obR g N fs))))) (takeS (lookG g) n).2.1 0 none) t0 then x else none else none else none
noncomputable def resR (g : Rg) (N : Nat) (L : List AV) (e : Int) : Lst → Option ORes
  | none => okG g N L (.tup [rows [], int64 e])
  | some (m, cs) => guardK (allS L && (allS L && true) && (allS (dropA cs 0) && true)) (some ((.tup [.fz (fixLen ((m + 1) * 1) (dropA cs 0)) (m + 1) false 1, int64 e], grabG g N L), psG))
theorem run20_bad (g : Rg) (N : Nat) (fs : List (List Int)) (n : Int) : runG (OG (stopAt 20 [7] orc0)) 20 [pG, int64 n] g N (rowsL fs) = (bif decide (n < 0) then okG g N (rowsL fs) (.tup [rows [], int64 7]) else bif g.rop then okG g N (rowsL fs) (.tup [rows [], int64 9]) else none) := by kernel_rfl
theorem run20 (g g' : Rg) (N : Nat) (fs fs' : List (List Int)) (n k' j : Int) (t0 : St) : ∀ o : Lst, runG (S20 t0 g' N fs' k' j o orc0) 20 [pG, int64 n] g N (rowsL fs) = (pre20 g N fs n t0 <| flG fs' <| bif isSo (G26 [pG, int64 (takeS (lookG g) n).2.1] (obR g' N fs')) then resR (doneS g' (takeS (lookG g) n).2.1).1 N (rowsL (fsOf (obR g' N fs'))) (doneS g' (takeS (lookG g) n).2.1).2 o else none)
  | none => by kernel_rfl
  | some (m, cs) => by kernel_rfl
/-! ### What it tells -/
def outR (g : Rg) (fs : List (List Int)) (i : Nat) : List (List Int) := (List.range i).map fun j : Nat => getL g (j : Int) fs
theorem outR_succ (g : Rg) (fs : List (List Int)) (i : Nat) : outR g fs (i + 1) = outR g fs i ++ [getL g (i : Int) fs] := by
  unfold outR
  rw [List.range_succ, List.map_append]
  rfl
theorem outR_len (g : Rg) (fs : List (List Int)) (i : Nat) : (outR g fs i).length = i := by simp [outR]
theorem loop83 {g : Rg} {fs : List (List Int)} {k : Nat} (hg : RgOk g fs) (hk : k ≤ 1000000) : ∀ (d i Q : Nat), i + d = k → d < Q → loopN B83 Q (st83 g fs.length (rowsL fs) (k : Int) (i : Int) (lst (outR g fs i))) pairE = some (.exit 0, st83 g fs.length (rowsL fs) (k : Int) (k : Int) (lst (outR g fs k))) := by
  have al : ∀ o : List (List Int), alO (lst o) (allS (rowsL fs) && true) = true := fun o => by rw [alO_lst, allS_rows]; rfl
  intro d
  induction d with
  | zero =>
    intro i Q hi hQ
    obtain ⟨Q, rfl⟩ : ∃ q, Q = q + 1 := ⟨Q - 1, by omega⟩
    have hi' : i = k := by omega
    subst hi'
    rw [loopN_succ, b83]
    unfold body83
    rw [decide_eq_false (by omega : ¬ (i : Int) < (i : Int)), al]
    rfl
  | succ d ih =>
    intro i Q hi hQ
    obtain ⟨Q, rfl⟩ : ∃ q, Q = q + 1 := ⟨Q - 1, by omega⟩
    rw [loopN_succ, b83]
    unfold body83
    rw [decide_eq_true (by omega : (i : Int) < (k : Int)), cond_true, flG_eq, isSo_true ⟨g, fs, _, rfl, rfl, hg⟩, cond_true, fsOf_obj, lst_snoc _ _ (by rw [outR_len]; omega), ← outR_succ]
    unfold to83
    rw [al, w64_succ (by omega)]
    exact ih (i + 1) Q (by omega) (by omega)
def rdS (g : Rg) (fs : List (List Int)) (n : Int) : Rg × List (List Int) × Int :=
  if n < 0 then (g, [], 7) else if g.rop = true then (g, [], 9)
  else ((doneS (takeS (lookG g) n).1 (takeS (lookG g) n).2.1).1, outR (takeS (lookG g) n).1 fs (takeS (lookG g) n).2.1.toNat, (doneS (takeS (lookG g) n).1 (takeS (lookG g) n).2.1).2)
theorem resR_lst (g : Rg) (N : Nat) (fs : List (List Int)) (e : Int) (l : List (List Int)) : resR g N (rowsL fs) e (lst l) = some ((.tup [rows l, int64 e], grabG g N (rowsL fs)), psG) := by
  cases l with
  | nil => exact okG_some _ _ _ _
  | cons x l =>
    have e2 := fix_rows (x :: l)
    show guardK (allS (rowsL fs) && (allS (rowsL fs) && true) && (allS (dropA (rowsL (x :: l)) 0) && true)) (some ((AV.tup [AV.fz (fixLen ((x :: l).length * 1) (dropA ((x :: l).map ints) 0)) (x :: l).length false 1, int64 e], grabG g N (rowsL fs)), psG)) = _
    rw [e2, dropA_eq, List.drop_zero, allS_rows, allS_rows]
    rfl
theorem read_fact {g : Rg} {fs : List (List Int)} (hg : RgOk g fs) (n : Int) : OFact Try.prog tb scG 20 2 [1] [pG, int64 n] (objG g fs.length (rowsL fs)) (.tup [rows (rdS g fs n).2.1, int64 (rdS g fs n).2.2]) (grabG (rdS g fs n).1 fs.length (rowsL fs)) psG := by
  have hr : rounds = 100000000000000000000 := rfl
  unfold rdS
  by_cases h1 : n < 0
  · rw [if_pos h1]
    refine ⟨_, OG_ok (stopAt_ok ok0), (run20_bad g fs.length fs n).trans ?_⟩
    rw [decide_eq_true h1]
    exact okG_some _ _ _ _
  rw [if_neg h1]
  by_cases h2 : g.rop = true
  · rw [if_pos h2]
    refine ⟨_, OG_ok (stopAt_ok ok0), (run20_bad g fs.length fs n).trans ?_⟩
    rw [decide_eq_false h1, h2]
    exact okG_some _ _ _ _
  rw [if_neg h2]
  have hg1 := ok_look hg
  have hg2 : RgOk (takeS (lookG g) n).1 fs := ok_take hg1 n
  have hfill := hg1.fill
  have hk : 0 ≤ (takeS (lookG g) n).2.1 ∧ (takeS (lookG g) n).2.1 < 65536 := by
    unfold takeS
    rw [if_neg h1]
    by_cases h3 : (lookG g).rop = true
    · rw [if_pos h3]; exact ⟨Int.le_refl _, by show (0 : Int) < 65536; omega⟩
    · rw [if_neg h3]
      show 0 ≤ minI n (fillG (lookG g)) ∧ minI n (fillG (lookG g)) < 65536
      unfold minI
      split <;> omega
  generalize hc : (takeS (lookG g) n).2.1 = k at hk
  generalize hc2 : (takeS (lookG g) n).1 = g2 at hg2
  obtain ⟨k, rfl⟩ : ∃ m : Nat, k = m := ⟨k.toNat, by omega⟩
  have l1 := loop83 (k := k) hg2 (by omega) k 0 rounds (by omega) (by omega)
  refine ⟨_, OG_ok (knowLG_ok tbOk (LFact.flatG (OG_ok ok0) l1) ok0 (ep := e83) rfl norm83 count83), (run20 g g2 fs.length fs fs n _ _ _ _).trans ?_⟩
  unfold pre20
  rw [decide_eq_false h1, show g.rop = false by simpa using h2, flG_eq, flG_eq, isSo_true ⟨g, fs, rfl, rfl, hg⟩, fsOf_obj, fsOf_obj, isSo_true ⟨_, fs, _, rfl, rfl, hg1⟩, allS_rows, hc, hc2, flG_eq, isSo_true ⟨g2, fs, _, rfl, rfl, hg2⟩, fsOf_obj, Int.toNat_natCast, resR_lst]
  exact bif_t (sameSt_self _)
end Go.Proofs.Ytokighfpmonjdaa
/- The document's Write (ring): its loops and its run. -/
namespace Go.Proofs.Ytokighfpmonjdaa
open Go.Ev
set_option maxRecDepth 100000
/-! ### The ring is copied -/
def st85w (s : Rf) (i : Int) (fv : AV) (l : List (Nat × Blk)) : St := ⟨[.dead, .ptr (some (8, 0)), .ptr (some (9, 0)), fv, int64 i] ++ repA .dead 21, mkHeap (l ++ [(10, .cells true []), (9, .cells true zeroF), (8, .cells true (cellsF s)), (1, .cells true zeroF), (0, .cells true (cellsF s))]) 15, [], .off⟩
noncomputable def add85w {A : Type} (x : AV) (kE : Option A) (kM kN : List (Nat × List AV) → AV → Option A) : Option A :=
  bif Nat.beq (fzL x) 0 then kE else guardK (Nat.beq (fzS x) 1) <| guardK (Nat.ble ((0 + fzL x) * 8) limit && Nat.ble (0 + fzL x) limit) <|
    bif Nat.ble (0 + fzL x) 0 then (bif Nat.beq (fzL x) 0 then kE else guardK (flatL (fzC x)) <| guardK (Nat.ble (0 + lenA (fzC x)) 0) <| kM [(15, splice [] 0 (fzC x))] (.sl (some (15, 0)) (0 + fzL x) 0 true 1))
    else kN [(15, []), (16, fzC x)] (.gr (16, 0) (0 + fzL x) 1)
noncomputable abbrev B85w {A : Type} (st : St) (K : Ex → St → Option A) : Option A := loopBG Try.prog orc0 tb 85 3 ⟨[], [13], [15, 16]⟩ 11 st K
theorem b85_0w {A : Type} (s : Rf) (i : Int) (K : Ex → St → Option A) : B85w (st85w s i (.sl (some (10, 0)) 0 0 true 1) []) K = (bif decide (i < (s.cs.length : Int)) then row85 s i <| add85w (x85 s i) (guardK ((allC [(15, [])] [(.sl (some (15, 0)) 0 0 true 1)] && true)) <| K .normal (st85w s (w64 (i + 1)) (.gr (13, 0) 1 1) [(13, .cells true (mapC [(15, [])] [(.sl (some (15, 0)) 0 0 true 1)]))])) (fun fr v => guardK (allS (splice [] 0 (fzC (x85 s i))) && true && (allC fr [v] && true)) <| K .normal (st85w s (w64 (i + 1)) (.gr (13, 0) 1 1) [(13, .cells true (mapC fr [v]))])) (fun fr v => guardK (allS (fzC (x85 s i)) && true && (allC fr [v] && true)) <| K .normal (st85w s (w64 (i + 1)) (.gr (13, 0) 1 1) [(13, .cells true (mapC fr [v]))])) else K (.exit 0) (st85w s i (.sl (some (10, 0)) 0 0 true 1) [])) := by kernel_rfl
theorem b85_gw {A : Type} (s : Rf) (i : Int) (cs : List AV) (m : Nat) (K : Ex → St → Option A) : B85w (st85w s i (.gr (13, 0) (m + 1) 1) [(13, .cells true cs)]) K = (bif decide (i < (s.cs.length : Int)) then row85 s i <| add85w (x85 s i) (guardK (Nat.ble ((m + 1 + 1) * 24) limit && Nat.ble (m + 1 + 1) limit) <| guardK (Nat.ble (0 + (m + 1) * 1) (lenA cs)) <|  guardK ((allC [(15, [])] (put85 cs m (.sl (some (15, 0)) 0 0 true 1)) && true)) <| K .normal (st85w s (w64 (i + 1)) (.gr (13, 0) (m + 1 + 1) 1) [(13, .cells true (mapC [(15, [])] (put85 cs m (.sl (some (15, 0)) 0 0 true 1))))])) (fun fr v => guardK (Nat.ble ((m + 1 + 1) * 24) limit && Nat.ble (m + 1 + 1) limit) <| guardK (Nat.ble (0 + (m + 1) * 1) (lenA cs)) <|  guardK (allS (splice [] 0 (fzC (x85 s i))) && true && (allC fr (put85 cs m v) && true)) <| K .normal (st85w s (w64 (i + 1)) (.gr (13, 0) (m + 1 + 1) 1) [(13, .cells true (mapC fr (put85 cs m v)))])) (fun fr v => guardK (Nat.ble ((m + 1 + 1) * 24) limit && Nat.ble (m + 1 + 1) limit) <| guardK (Nat.ble (0 + (m + 1) * 1) (lenA cs)) <|  guardK (allS (fzC (x85 s i)) && true && (allC fr (put85 cs m v) && true)) <| K .normal (st85w s (w64 (i + 1)) (.gr (13, 0) (m + 1 + 1) 1) [(13, .cells true (mapC fr (put85 cs m v)))])) else guardK (allC [] cs && true) (K (.exit 0) (st85w s i (.gr (13, 0) (m + 1) 1) [(13, .cells true (mapC [] cs))]))) := by kernel_rfl
theorem add85_intsw {A : Type} {xs : List Int} (h0 : 1 ≤ xs.length) (h : xs.length ≤ 1000000) (kE : Option A) (kM kN : List (Nat × List AV) → AV → Option A) : add85w (ints xs) kE kM kN = kN [(15, []), (16, xs.map int64)] (.gr (16, 0) (0 + xs.length) 1) := by
  unfold add85w
  rcases xs with _ | ⟨x, xs⟩
  · simp at h0
  · have hl : fzL (ints (x :: xs)) = xs.length + 1 := rfl
    have hc : fzC (ints (x :: xs)) = (x :: xs).map int64 := rfl
    have hs : fzS (ints (x :: xs)) = 1 := rfl
    have hlim : limit = 140737488355328 := rfl
    have hz : xs.length + 1 ≤ 1000001 := by simp at h; omega
    have e1 : Nat.beq (xs.length + 1) 0 = false := rfl
    have e2 : Nat.ble (0 + (xs.length + 1)) 0 = false := by rw [Nat.zero_add]; rfl
    have e3 : (Nat.ble ((0 + (xs.length + 1)) * 8) limit && Nat.ble (0 + (xs.length + 1)) limit) = true := by
      rw [Bool.and_eq_true]
      exact ⟨Nat.ble_eq_true_of_le (by omega), Nat.ble_eq_true_of_le (by omega)⟩
    rw [hl, hc, hs, e1, e2, e3]
    rfl
abbrev fr85w (xs : List Int) : List (Nat × List AV) := [(15, []), (16, xs.map int64)]
abbrev v85w (xs : List Int) : AV := .gr (16, 0) (0 + xs.length) 1
theorem cv85w (xs : List Int) : mapC (fr85w xs) [v85w xs] = [ints xs] := by
  have e : cv (fr85w xs) (v85w xs) = .fz (fixLen ((0 + xs.length) * 1) (dropA (xs.map int64) 0)) (0 + xs.length) false 1 := rfl
  show [cv (fr85w xs) (v85w xs)] = _
  rw [e, Nat.zero_add, fix_ints]
  rfl
section
variable {s : Rf}
def so85w (s : Rf) (i : Nat) : St := st85w s (i : Int) (.gr (13, 0) i 1) [(13, .cells true (rowsL (s.cs.take i)))]
theorem first85w {A : Type} (hr : RowsOk s) (h : 0 < s.cs.length) (K : Ex → St → Option A) : B85w (st85w s 0 (.sl (some (10, 0)) 0 0 true 1) []) K = K .normal (so85w s 1) := by
  obtain ⟨r1, r2⟩ := hr.rows s.cs[0] (List.getElem_mem h)
  have hx : x85 s 0 = ints s.cs[0] := x85_eq h
  have hrow : ∀ x : Option A, row85 s 0 x = x := fun x => row85_eq h x
  have hc : fzC (ints s.cs[0]) = s.cs[0].map int64 := rfl
  have hA : allC (fr85w s.cs[0]) [v85w s.cs[0]] = true := rfl
  have ht : s.cs.take 1 = [s.cs[0]] := by
    have h2 : s.cs.take (0 + 1) = s.cs.take 0 ++ [s.cs[0]] := by rw [List.take_append_getElem h]
    exact h2
  rw [b85_0w, decide_eq_true (by omega : (0 : Int) < (s.cs.length : Int)), cond_true, hrow, hx, add85_intsw r1 r2, hc, allS_ints, hA, cv85w]
  unfold so85w
  rw [ht]
  rfl
theorem next85w {A : Type} (hr : RowsOk s) {i : Nat} (h0 : 0 < i) (h : i < s.cs.length) (K : Ex → St → Option A) : B85w (so85w s i) K = K .normal (so85w s (i + 1)) := by
  obtain ⟨m, rfl⟩ : ∃ m, i = m + 1 := ⟨i - 1, by omega⟩
  obtain ⟨r1, r2⟩ := hr.rows s.cs[m + 1] (List.getElem_mem h)
  have hn := hr.n
  have hc : fzC (ints s.cs[m + 1]) = s.cs[m + 1].map int64 := rfl
  have hl : (s.cs.take (m + 1)).length = m + 1 := by rw [List.length_take]; omega
  have hlim : limit = 140737488355328 := rfl
  have e1 : Nat.ble (0 + (m + 1) * 1) (m + 1) = true := Nat.ble_eq_true_of_le (by omega)
  have e2 : Nat.ble ((m + 1 + 1) * 24) limit = true := Nat.ble_eq_true_of_le (by omega)
  have e3 : Nat.ble (m + 1 + 1) limit = true := Nat.ble_eq_true_of_le (by omega)
  have ec : put85 (rowsL (s.cs.take (m + 1))) m (v85w s.cs[m + 1]) = rowsL (s.cs.take (m + 1)) ++ [v85w s.cs[m + 1]] := csR_eq hl
  have e4 : allC (fr85w s.cs[m + 1]) (rowsL (s.cs.take (m + 1)) ++ [v85w s.cs[m + 1]]) = true := by rw [allC_app, allC_rows]; rfl
  have e5 : mapC (fr85w s.cs[m + 1]) (rowsL (s.cs.take (m + 1)) ++ [v85w s.cs[m + 1]]) = rowsL (s.cs.take (m + 1 + 1)) := by
    rw [mapC_app, mapC_rows, cv85w]
    have ht : s.cs.take (m + 1 + 1) = s.cs.take (m + 1) ++ [s.cs[m + 1]] := by rw [List.take_append_getElem h]
    rw [ht]
    show _ = (s.cs.take (m + 1) ++ [s.cs[m + 1]]).map ints
    rw [List.map_append]
    rfl
  unfold so85w
  rw [b85_gw, decide_eq_true (by omega : ((m + 1 : Nat) : Int) < (s.cs.length : Int)), cond_true, row85_eq h, x85_eq h, add85_intsw r1 r2, e2, e3, lenM, hl, e1, ec, hc, allS_ints, e4, e5, show w64 (((m + 1 : Nat) : Int) + 1) = ((m + 1 + 1 : Nat) : Int) from by unfold w64; rw [IntKind.wrap_i64]; omega]
  rfl
theorem loop85w (hr : RowsOk s) : ∀ (d i Q : Nat), i + d = s.cs.length → d < Q → 0 < i → loopN B85w Q (so85w s i) pairE = some (.exit 0, so85w s s.cs.length) := by
  intro d
  induction d with
  | zero =>
    intro i Q hi hQ h0
    obtain ⟨Q, rfl⟩ : ∃ q, Q = q + 1 := ⟨Q - 1, by omega⟩
    have hi' : i = s.cs.length := by omega
    subst hi'
    obtain ⟨m, hm⟩ : ∃ m, s.cs.length = m + 1 := ⟨s.cs.length - 1, by omega⟩
    have e : so85w s s.cs.length = st85w s (s.cs.length : Int) (.gr (13, 0) (m + 1) 1) [(13, .cells true (rowsL (s.cs.take s.cs.length)))] := by
      unfold so85w
      rw [← hm]
    rw [loopN_succ, e, b85_gw, decide_eq_false (by omega : ¬ ((s.cs.length : Int) < (s.cs.length : Int))), allC_rows, mapC_rows]
    rfl
  | succ d ih =>
    intro i Q hi hQ h0
    obtain ⟨Q, rfl⟩ : ∃ q, Q = q + 1 := ⟨Q - 1, by omega⟩
    rw [loopN_succ, next85w hr h0 (by omega)]
    exact ih (i + 1) Q (by omega) (by omega) (by omega)
theorem loop85_allw (hr : RowsOk s) (h : 0 < s.cs.length) : loopN B85w rounds (st85w s 0 (.sl (some (10, 0)) 0 0 true 1) []) pairE = some (.exit 0, st85w s (s.cs.length : Int) (.gr (13, 0) s.cs.length 1) [(13, .cells true (rowsL s.cs))]) := by
  have hn := hr.n
  have hrd : rounds = 100000000000000000000 := rfl
  obtain ⟨Q, hQ⟩ : ∃ Q, rounds = Q + 1 := ⟨99999999999999999999, rfl⟩
  have e := loop85w hr (s.cs.length - 1) 1 Q (by omega) (by omega) (by omega)
  unfold so85w at e
  rw [List.take_length] at e
  rw [hQ, loopN_succ, first85w hr h]
  exact e
end
/-! ### Whether the frames are right -/
def G78s (a : List AV) : Prop := ∃ s xs, a = [aggF s, ints xs] ∧ xs.length ≤ maxLen
def w78 (a : List AV) : Bool := !badR (rowOf (nth a 1)) && (((rowOf (nth a 1)).length : Int) == (rfOf (nth a 0)).ch)
def W78 (a : List AV) : AV := .bool (w78 a)
noncomputable def P78 (S : Orc) : Orc := knowW 78 (fun a => isSo (G78s a)) W78 S
theorem P78_ok {S : Orc} (h : Ok S) : Ok (P78 S) := knowW_ok tbOk (fun a h => by
  obtain ⟨s, xs, rfl, hl⟩ := isSo_iff.1 h
  have e : W78 [aggF s, ints xs] = .bool (!badR xs && ((xs.length : Int) == s.ch)) := by
    unfold W78 w78
    show AV.bool (!badR (rowOf (ints xs)) && (((rowOf (ints xs)).length : Int) == (rfOf (aggF s)).ch)) = _
    rw [rowOf_ints, rfOf_agg]
  rw [e]
  exact fact78 hl) h
def st62a (s : Rf) (xs : List (List Int)) (i : Int) : St := ⟨[.dead, rows xs, .ptr (some (0, 0)), .dead, .ptr (some (1, 0)), .dead, .dead, int64 i] ++ repA .dead 58, mkHeap [(1, .cells true zeroF), (0, .cells true (cellsF s))] 8, [], .off⟩
def rt62a (s : Rf) : St := ⟨[.dead, .dead, .ptr (some (0, 0)), .dead, .ptr (some (1, 0)), int64 0, int64 1] ++ repA .dead 59, mkHeap [(1, .cells true (cellsF s)), (0, .cells true (cellsF s))] 8, [], .off⟩
def N62a : Norm := ⟨[1, 2, 4, 5, 6, 7], []⟩
theorem norm62a : loopN0 tb 62 2 = some N62a := by kernel_rfl
theorem count62a : Nat.ble (countL 2 e62.code) 1 = true := by kernel_rfl
theorem b62a {A : Type} (s : Rf) (xs : List (List Int)) (i : Int) (K : Ex → St → Option A) : loopB Try.prog (P78 orc0) tb 62 2 2 (st62a s xs i) K = (bif decide (i < (xs.length : Int)) then rowG (xs.map ints) xs.length i <| bif isSo (G78s [aggF s, rowF (rwA xs i)]) then bif !w78 [aggF s, rowF (rwA xs i)] then K .ret (rt62a s) else K .normal (st62a s xs (w64 (i + 1))) else none else K (.exit 0) (st62a s xs i)) := by kernel_rfl
/-! ### The frames are put in -/
def cellsX (s : Rf) (N : Nat) : List AV := [int64 s.n, int64 s.ch, int64 s.fi, int64 s.w, int64 s.r, int64 s.se, int64 s.lo, int64 s.cl, int64 s.ta, .gr (13, 0) N 1]
def st62 (s : Rf) (xs : List (List Int)) (n i : Int) (N : Nat) (L : List AV) : St := ⟨[.dead, rows xs, .ptr (some (0, 0)), .dead, .ptr (some (1, 0)), .dead, .dead, .dead, int64 n, int64 i] ++ repA .dead 56, mkHeap [(13, .cells true L), (10, .cells true []), (9, .cells true (cellsX s N)), (8, .cells true (cellsX s N)), (1, .cells true zeroF), (0, .cells true (cellsX s N))] 23, [], .off⟩
noncomputable def add62 {A : Type} (x : AV) (k : List AV → List (Nat × List AV) → AV → Option A) : Option A :=
  bif Nat.beq (fzL x) 0 then k [] [(31, [])] (.sl (some (31, 0)) 0 0 true 1) else guardK (Nat.beq (fzS x) 1) <| guardK (Nat.ble ((0 + fzL x) * 8) limit && Nat.ble (0 + fzL x) limit) <|
    bif Nat.ble (0 + fzL x) 0 then (bif Nat.beq (fzL x) 0 then k [] [(31, [])] (.sl (some (31, 0)) 0 0 true 1) else guardK (flatL (fzC x)) <| guardK (Nat.ble (0 + lenA (fzC x)) 0) <| k (splice [] 0 (fzC x)) [(31, splice [] 0 (fzC x))] (.sl (some (31, 0)) (0 + fzL x) 0 true 1))
    else k (fzC x) [(31, []), (36, fzC x)] (.gr (36, 0) (0 + fzL x) 1)
def Z62 {A : Type} (N : Nat) (x : Option A) : Option A := bif sameV (.gr (13, 0) N 1) (.gr (13, 0) N 1) then x else none
def plc62 {A : Type} (s : Rf) (i : Int) (N : Nat) (L : List AV) (x : Option A) : Option A := guardK (decide (0 ≤ plW s i) && decide (plW s i < (N : Int))) <| guardK (Nat.blt (0 + (plW s i).toNat * 1) (lenA L)) x
def rowZ {A : Type} (xs : List (List Int)) (i : Int) (x : Option A) : Option A := rowG (xs.map ints) xs.length i <| guardK (Nat.blt (i.toNat * 1) (lenA (xs.map ints))) <| guardK (isFzN (nth (xs.map ints) (i.toNat * 1))) <| bif sameV (rowF (rwA xs i)) (rowF (rwA xs i)) then x else none
def N62 : Norm := ⟨[1, 2, 4, 5, 6, 8, 9], [(2, [9])]⟩
theorem norm62 : loopN0 tb 62 12 = some N62 := by kernel_rfl
theorem count62 : Nat.ble (countL 12 e62.code) 1 = true := by kernel_rfl
noncomputable abbrev B62 {A : Type} (st : St) (K : Ex → St → Option A) : Option A := loopBG Try.prog orc0 tb 62 12 ⟨[], [13], [31, 36]⟩ 15 st K
theorem b62 {A : Type} (s : Rf) (xs : List (List Int)) (n i : Int) (N : Nat) (L : List AV) (K : Ex → St → Option A) : B62 (st62 s xs n i N L) K = (bif decide (i < n) then bif (s.n == 0) then none else Z62 N <| rowZ xs i <| add62 (nth (xs.map ints) (i.toNat * 1)) (fun cs fr v => Z62 N <| plc62 s i N L <| guardK (allS cs && true && (allC fr (setL L (0 + (plW s i).toNat * 1) v) && true)) <| K .normal (st62 s xs n (w64 (i + 1)) N (mapC fr (setL L (0 + (plW s i).toNat * 1) v)))) else guardK (allC [] L && true) <| K (.exit 2) (st62 s xs n i N (mapC [] L))) := by kernel_rfl
end Go.Proofs.Ytokighfpmonjdaa
