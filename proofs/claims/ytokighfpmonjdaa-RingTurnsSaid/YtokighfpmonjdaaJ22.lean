/- ring.Play: what it tells. -/
import Derived.Test.YtokighfpmonjdaaJ21
namespace Go.Proofs.Ytokighfpmonjdaa
open Go.Ev
set_option maxRecDepth 100000
theorem bif_t {A : Type} {c : Bool} (h : c = true) {x y : A} : (bif c then x else y) = x := by rw [h]; rfl
theorem w64_succ {i : Nat} (h : i ≤ 1000000000) : w64 ((i : Int) + 1) = ((i + 1 : Nat) : Int) := by unfold w64; rw [IntKind.wrap_i64]; omega
def badF (ch : Int) (f : List Int) : Bool := !((f.length : Int) == ch) || badR f
theorem rwA_eq {xs : List (List Int)} {i : Nat} (h : i < xs.length) : rwA xs (i : Int) = ints xs[i] := by
  show nth (xs.map ints) ((i : Int).toNat * 1) = _
  rw [show (i : Int).toNat * 1 = i by omega, nthM ints xs i h]
theorem loop79 {ch : Int} {g : Rg} {N : Nat} {fs : List (List Int)} {xs : List (List Int)} (hx : xs.length ≤ 1000000) (hl : ∀ f ∈ xs, f.length ≤ maxLen) : ∀ (d i Q : Nat), i + d = xs.length → d < Q →
    ∃ j : Int, 0 ≤ j ∧ loopN (loopBG Try.prog (OB orc0) tb 79 2 ⟨[3], [], []⟩ 4) Q (st79 ch g N (rowsL fs) xs (i : Int)) pairE = some (bif (xs.drop i).any (badF ch) then (.ret, rt79 ch g N (rowsL fs) j) else (.exit 0, st79 ch g N (rowsL fs) xs (xs.length : Int))) := by
  intro d
  induction d with
  | zero =>
    intro i Q hi hQ
    obtain ⟨Q, rfl⟩ : ∃ q, Q = q + 1 := ⟨Q - 1, by omega⟩
    have hi' : i = xs.length := by omega
    subst hi'
    refine ⟨0, Int.le_refl _, ?_⟩
    rw [loopN_succ, b79, List.drop_eq_nil_of_le (Nat.le_refl _), decide_eq_false (by omega : ¬ (xs.length : Int) < (xs.length : Int)), allS_rows]
    rfl
  | succ d ih =>
    intro i Q hi hQ
    obtain ⟨Q, rfl⟩ : ∃ q, Q = q + 1 := ⟨Q - 1, by omega⟩
    have h : i < xs.length := by omega
    have hF : rowF (ints xs[i]) = ints xs[i] := rfl
    have hL : fzL (ints xs[i]) = xs[i].length := rfl
    have h8 : isSo (is80 [ints xs[i], f81]) = true := isSo_true ⟨_, rfl, hl _ (List.getElem_mem h)⟩
    rw [loopN_succ, b79, rowG_eq h, rwA_eq h, hF, hL, rowOf_ints, h8, decide_eq_true (by omega : (i : Int) < (xs.length : Int)), allS_rows, w64_succ (by omega), List.drop_eq_getElem_cons h, List.any_cons]
    unfold badF
    cases h1 : (xs[i].length : Int) == ch with
    | false => exact ⟨i, Int.natCast_nonneg _, rfl⟩
    | true =>
      cases h2 : badR xs[i] with
      | true => exact ⟨i, Int.natCast_nonneg _, rfl⟩
      | false => exact ih (i + 1) Q (by omega) (by omega)
theorem loop79n {ch : Int} {xs : List (List Int)} (hx : xs.length ≤ 1000000) (hl : ∀ f ∈ xs, f.length ≤ maxLen) : ∀ (d i Q : Nat), i + d = xs.length → d < Q →
    ∃ j : Int, 0 ≤ j ∧ loopN (loopB Try.prog (OB orc0) tb 79 2 4) Q (sn79 ch xs (i : Int)) pairE = some (bif (xs.drop i).any (badF ch) then (.ret, rn79 ch j) else (.exit 0, sn79 ch xs (xs.length : Int))) := by
  intro d
  induction d with
  | zero =>
    intro i Q hi hQ
    obtain ⟨Q, rfl⟩ : ∃ q, Q = q + 1 := ⟨Q - 1, by omega⟩
    have hi' : i = xs.length := by omega
    subst hi'
    refine ⟨0, Int.le_refl _, ?_⟩
    rw [loopN_succ, b79n, List.drop_eq_nil_of_le (Nat.le_refl _), decide_eq_false (by omega : ¬ (xs.length : Int) < (xs.length : Int))]
    rfl
  | succ d ih =>
    intro i Q hi hQ
    obtain ⟨Q, rfl⟩ : ∃ q, Q = q + 1 := ⟨Q - 1, by omega⟩
    have h : i < xs.length := by omega
    have hF : rowF (ints xs[i]) = ints xs[i] := rfl
    have hL : fzL (ints xs[i]) = xs[i].length := rfl
    have h8 : isSo (is80 [ints xs[i], f81]) = true := isSo_true ⟨_, rfl, hl _ (List.getElem_mem h)⟩
    rw [loopN_succ, b79n, rowG_eq h, rwA_eq h, hF, hL, rowOf_ints, h8, decide_eq_true (by omega : (i : Int) < (xs.length : Int)), w64_succ (by omega), List.drop_eq_getElem_cons h, List.any_cons]
    unfold badF
    cases h1 : (xs[i].length : Int) == ch with
    | false => exact ⟨i, Int.natCast_nonneg _, rfl⟩
    | true =>
      cases h2 : badR xs[i] with
      | true => exact ⟨i, Int.natCast_nonneg _, rfl⟩
      | false => exact ih (i + 1) Q (by omega) (by omega)
def badT (t : Tn) : Bool := decide (t.1 < 0) || (decide (t.1 > 1) || (decide (t.2.1 < 0) || (decide (t.2.1 ≥ 4) || (t.2.1 == 1 && decide (t.2.2 < 0)))))
theorem okT_of {t : Tn} (h : badT t = false) : okT t := by
  unfold badT at h
  simp only [Bool.or_eq_false_iff, decide_eq_false_iff_not] at h
  unfold okT
  omega
theorem loop88 {ch : Int} {g : Rg} {N : Nat} {fs : List (List Int)} {S : List Tn} (hx : S.length ≤ 1000000) : ∀ (d i Q : Nat), i + d = S.length → d < Q →
    ∃ j : Int, 0 ≤ j ∧ loopN (loopBG Try.prog orc0 tb 88 2 ⟨[3], [], []⟩ 10) Q (st88 ch g N (rowsL fs) (flatS S) S.length (i : Int)) pairE = some (bif (S.drop i).any badT then (.ret, rt88 ch g N (rowsL fs) j) else (.exit 0, st88 ch g N (rowsL fs) (flatS S) S.length (S.length : Int))) := by
  intro d
  induction d with
  | zero =>
    intro i Q hi hQ
    obtain ⟨Q, rfl⟩ : ∃ q, Q = q + 1 := ⟨Q - 1, by omega⟩
    have hi' : i = S.length := by omega
    subst hi'
    refine ⟨0, Int.le_refl _, ?_⟩
    rw [loopN_succ, b88, List.drop_eq_nil_of_le (Nat.le_refl _), decide_eq_false (by omega : ¬ (S.length : Int) < (S.length : Int)), allS_rows]
    rfl
  | succ d ih =>
    intro i Q hi hQ
    obtain ⟨Q, rfl⟩ : ∃ q, Q = q + 1 := ⟨Q - 1, by omega⟩
    have h : i < S.length := by omega
    rw [loopN_succ, b88, turn_eq h, decide_eq_true (by omega : (i : Int) < (S.length : Int)), allS_rows, w64_succ (by omega), List.drop_eq_getElem_cons h, List.any_cons]
    generalize S[i] = t
    unfold badT
    cases h1 : decide (t.1 < 0) with
    | true => exact ⟨i, Int.natCast_nonneg _, rfl⟩
    | false =>
      cases h2 : decide (t.1 > 1) with
      | true => exact ⟨i, Int.natCast_nonneg _, rfl⟩
      | false =>
        cases h3 : decide (t.2.1 < 0) with
        | true => exact ⟨i, Int.natCast_nonneg _, rfl⟩
        | false =>
          cases h4 : decide (t.2.1 ≥ 4) with
          | true => exact ⟨i, Int.natCast_nonneg _, rfl⟩
          | false =>
            cases h5 : t.2.1 == 1 with
            | false => exact ih (i + 1) Q (by omega) (by omega)
            | true =>
              cases h6 : decide (t.2.2 < 0) with
              | true => exact ⟨i, Int.natCast_nonneg _, rfl⟩
              | false => exact ih (i + 1) Q (by omega) (by omega)
/-! ### The fact -/
theorem step_len (P : Pl) (t : Tn) : (stepP P t).fs.length = P.fs.length := by
  unfold stepP
  by_cases a : t.1 = 0 <;> by_cases b : t.2.1 = 0 <;> by_cases c : t.2.1 = 1 <;> by_cases d : t.2.1 = 2 <;> simp only [a, b, c, d, if_true, if_false] <;> repeat' (split)
  all_goals first
    | rfl
    | exact putL_len _ _
theorem fold_len (S : List Tn) : ∀ P : Pl, (S.foldl stepP P).fs.length = P.fs.length := by
  induction S with
  | nil => exact fun _ => rfl
  | cons t S ih => exact fun P => (ih _).trans (step_len P t)
def pl0 (n c : Nat) (first : Int) (xs : List (List Int)) : Pl := ⟨g0 c first, zrs n c, xs, [], [], []⟩
def playI (n ch first : Int) (xs : List (List Int)) (S : List Tn) : AV :=
  if okN n ch first = false then (if xs.any (badF ch) = true then res32 [] 0 1 else res32 [] 0 7)
  else if xs.any (badF ch) = true then res32 [] 0 1
  else if S.any badT = true then res32 [] 0 7
  else if xs.length > 2000 ∨ S.length > 5000 then res32 [] 0 4
  else
    let P := S.foldl stepP (pl0 n.toNat ch.toNat first xs)
    res32 P.out (aprt P.g.wo P.g.ro) 0
theorem outP_eq (k : Int) (l : List (List Int)) : outP k (lst l) = some (res32 l k 0) := by
  cases l with
  | nil => rfl
  | cons x l =>
    have e : sameV (.gr (28, 0) (l.length + 1) 1) (.gr (28, 0) (l.length + 1) 1) = true := by
      unfold sameV sameF
      simp
    have e2 := fix_rows (x :: l)
    show (bif sameV (.gr (28, 0) (l.length + 1) 1) (.gr (28, 0) (l.length + 1) 1) then guardK (allS (dropA (rowsL (x :: l)) 0) && true) <| some (AV.tup [AV.fz (fixLen ((x :: l).length * 1) (dropA ((x :: l).map ints) 0)) (x :: l).length false 1, int64 k, int64 0]) else none) = _
    rw [e, e2, dropA_eq, List.drop_zero, allS_rows]
    rfl
theorem ar32 (n ch first : Int) (xs : List (List Int)) (zs : List AV) (M : Nat) : vwArgs Try.prog [] none0 (parsOf Try.prog 32) (arg32 n ch first xs zs M) = arg32 n ch first xs zs M := by kernel_rfl
theorem play_fact {n ch first : Int} {xs : List (List Int)} {S : List Tn} (hx : xs.length ≤ 1000000) (hl : ∀ f ∈ xs, f.length ≤ maxLen) (hS : S.length ≤ 1000000) : FFact Try.prog tb 32 (arg32 n ch first xs (flatS S) S.length) (playI n ch first xs S) := by
  have hr : rounds = 100000000000000000000 := rfl
  refine ⟨ar32 _ _ _ _ _ _, ?_⟩
  unfold playI
  cases hN : okN n ch first with
  | false =>
    rw [if_pos rfl]
    obtain ⟨j, hj, l1⟩ := loop79n (ch := ch) hx hl xs.length 0 rounds (by omega) (by omega)
    rw [List.drop_zero] at l1
    cases hb : xs.any (badF ch) with
    | false =>
      rw [hb] at l1
      refine ⟨_, knowO_ok tbOk (new_bad hN) (knowL_ok tbOk ⟨_, OB_ok ok0, l1⟩ ok0 (ep := e79) rfl norm79 count79), (p32_no_ex n ch first xs (flatS S) S.length _ _).trans ?_⟩
      rw [isSo_true ⟨rfl, rfl⟩]
      exact bif_t (sameSt_self _)
    | true =>
      rw [hb] at l1
      refine ⟨_, knowO_ok tbOk (new_bad hN) (knowL_ok tbOk ⟨_, OB_ok ok0, l1⟩ ok0 (ep := e79) rfl norm79 count79), (p32_no_ret n ch first xs (flatS S) S.length _ _).trans ?_⟩
      rw [isSo_true ⟨rfl, rfl⟩, decide_eq_true (show j ≥ 0 from hj)]
      exact bif_t (sameSt_self _)
  | true =>
    rw [if_neg (by simp)]
    have hh := hN
    unfold okN szA at hh
    simp only [Bool.and_eq_true, decide_eq_true_eq, Bool.not_eq_true', decide_eq_false_iff_not] at hh
    obtain ⟨m, rfl⟩ : ∃ m : Nat, n = m := ⟨n.toNat, by omega⟩
    obtain ⟨c, rfl⟩ : ∃ c : Nat, ch = c := ⟨ch.toNat, by omega⟩
    obtain ⟨j, hj, l1⟩ := loop79 (ch := c) (g := g0 c first) (N := m) (fs := zrs m c) hx hl xs.length 0 rounds (by omega) (by omega)
    rw [List.drop_zero] at l1
    have hO := fun S => knowO_ok tbOk (fl0 := []) (S := S) (new_ok hN)
    have hA : allS (rowsL (zrs m c)) = true := allS_rows _
    have hC : isSo (cd (m : Int) (c : Int) first) = true := isSo_true ⟨rfl, rfl⟩
    cases hb : xs.any (badF c) with
    | true =>
      rw [hb] at l1
      rw [if_pos rfl]
      refine ⟨_, hO _ (knowLG_ok tbOk (LFact.flatG (OB_ok ok0) l1) (stopAt_ok ok0) (ep := e79) rfl norm79 count79), (p32_ret (m : Int) c first m (rowsL (zrs m c)) xs (flatS S) S.length _ _).trans ?_⟩
      rw [hC, hA, decide_eq_true (show j ≥ 0 from hj)]
      exact bif_t (sameSt_self _)
    | false =>
      rw [hb] at l1
      rw [if_neg (by simp)]
      obtain ⟨k, hk, l2⟩ := loop88 (ch := c) (g := g0 c first) (N := m) (fs := zrs m c) hS S.length 0 rounds (by omega) (by omega)
      rw [List.drop_zero] at l2
      cases hb2 : S.any badT with
      | true =>
        rw [hb2] at l2
        rw [if_pos rfl]
        refine ⟨_, hO _ (knowLG_ok tbOk (LFact.flatG (OB_ok ok0) l1) (knowLG_ok tbOk (LFact.flatG ok0 l2) (stopAt_ok ok0) (ep := e88) rfl norm88 count88) (ep := e79) rfl norm79 count79), (p32_88 (m : Int) c first m (rowsL (zrs m c)) xs (flatS S) S.length _ _ _ _).trans ?_⟩
        rw [hC, hA, decide_eq_true (show k ≥ 0 from hk)]
        refine (bif_t (sameSt_self _)).trans ?_
        exact bif_t (sameSt_self _)
      | false =>
        rw [hb2] at l2
        rw [if_neg (by simp)]
        by_cases hlim : xs.length > 2000 ∨ S.length > 5000
        · rw [if_pos hlim]
          refine ⟨_, hO _ (knowLG_ok tbOk (LFact.flatG (OB_ok ok0) l1) (knowLG_ok tbOk (LFact.flatG ok0 l2) (stopAt_ok ok0) (ep := e88) rfl norm88 count88) (ep := e79) rfl norm79 count79), (p32_lim (m : Int) c first m (rowsL (zrs m c)) xs (flatS S) S.length _ _ _ _).trans ?_⟩
          rw [hC, hA]
          refine (bif_t (sameSt_self _)).trans ?_
          refine (bif_t (sameSt_self _)).trans ?_
          rcases hlim with h | h
          · rw [decide_eq_true (by omega : (xs.length : Int) > 2000)]; rfl
          · rw [decide_eq_true (by omega : (S.length : Int) > 5000)]
            cases decide ((xs.length : Int) > 2000) <;> rfl
        · rw [if_neg hlim]
          have hF : (inW first) = true := by
            unfold okN at hN
            simp only [Bool.and_eq_true] at hN
            exact hN.2.2.2
          have hW : 0 ≤ first ∧ first < 65536 := by
            unfold inW at hF
            simp only [Bool.and_eq_true, decide_eq_true_eq] at hF
            exact hF
          have hz : (zrs m c).length = m := by simp
          have hP : PlOk (pl0 m c first xs) := by
            refine ⟨⟨?_, ?_, ?_, hW, hW, hW, hW, ?_, ?_⟩, ?_, ?_, Nat.zero_le _, Nat.zero_le _, Nat.zero_le _⟩
            · show (1 : Int) ≤ c ∧ (c : Int) ≤ 8; omega
            · show 1 ≤ (zrs m c).length ∧ (zrs m c).length ≤ 1024; omega
            · intro f hf
              have := List.eq_of_mem_replicate hf
              subst this
              show ((zs c).length : Int) = c
              simp
            · show (0 : Int) ≤ 65536; omega
            · show (0 : Int) ≤ 65536; omega
            · intro f hf
              have := List.any_eq_false.1 hb f hf
              unfold badF at this
              simp only [Bool.or_eq_true, Bool.not_eq_true', beq_eq_false_iff_ne, not_or] at this
              show (f.length : Int) = c
              omega
            · show xs.length ≤ 2000; omega
          have l3 := loopP (ch := c) (S := S) (by omega) (fun t ht => okT_of (by have := List.any_eq_false.1 hb2 t ht; simpa using this)) S.length 0 rounds (pl0 m c first xs) (by omega) (by omega) hP (Nat.zero_le _)
          rw [List.drop_zero] at l3
          have hP' : (S.foldl stepP (pl0 m c first xs)).fs.length = m := (fold_len S _).trans hz
          generalize hPe : S.foldl stepP (pl0 m c first xs) = P at l3 hP'
          show ∃ S_1, _ ∧ _ = some (let P := S.foldl stepP (pl0 m c first xs); res32 P.out (aprt P.g.wo P.g.ro) 0)
          rw [hPe]
          have e2 : soP c S S.length P = stP c (flatS S) S.length (S.length : Int) P.g m (rowsL P.fs) (rowsL P.left) P.left.length (lst P.put) (lst P.got) (lst P.out) := by unfold soP; rw [hP']
          rw [e2] at l3
          refine ⟨_, hO _ (knowLG_ok tbOk (LFact.flatG (OB_ok ok0) l1) (knowLG_ok tbOk (LFact.flatG ok0 l2) (knowLG_ok tbOk (LFact.flatG (OG_ok ok0) l3) ok0 (ep := e32) rfl norm12 count12) (ep := e88) rfl norm88 count88) (ep := e79) rfl norm79 count79), (p32_fin (m : Int) c first m (rowsL (zrs m c)) xs (flatS S) S.length _ _ _ _ _ _ _ _ _ _ _ _ _).trans ?_⟩
          have e3 : soP c S 0 (pl0 m c first xs) = stP c (flatS S) S.length 0 (g0 c first) m (rowsL (zrs m c)) (xs.map ints) xs.length none none none := by
            show stP c (flatS S) S.length ((0 : Nat) : Int) (g0 c first) (zrs m c).length (rowsL (zrs m c)) (rowsL xs) xs.length none none none = _
            rw [hz]
            rfl
          rw [hC, hA, e3, decide_eq_false (by omega : ¬ (xs.length : Int) > 2000), decide_eq_false (by omega : ¬ (S.length : Int) > 5000)]
          refine (bif_t (sameSt_self _)).trans ?_
          refine (bif_t (sameSt_self _)).trans ?_
          refine (bif_t (sameSt_self _)).trans ?_
          exact outP_eq _ _
end Go.Proofs.Ytokighfpmonjdaa
/- The document's Play: its loops. -/
namespace Go.Proofs.Ytokighfpmonjdaa
open Go.Ev
set_option maxRecDepth 100000
/-! ### The first two loops -/
abbrev hpD (s : Rf) : List (Nat × Blk) := [(0, .cells true (cellsF s))]
def stDa (ch : Int) (xs : List (List Int)) (zs : List AV) (M : Nat) (s : Rf) (e i : Int) : St := ⟨[.dead, int64 ch, .dead, rows xs, stp zs M] ++ repA .dead 8 ++ [.ptr (some (0, 0)), int64 e, int64 i] ++ repA .dead 273, mkHeap (hpD s) 10, [], .off⟩
def rtD (s : Rf) (e : Int) (n : Nat) : St := ⟨repA .dead 10 ++ [.sl none 0 0 true 0, int64 0, int64 e] ++ repA .dead 276, mkHeap (hpD s) n, [], .off⟩
def stDb (xs : List (List Int)) (zs : List AV) (M : Nat) (s : Rf) (i : Int) : St := ⟨[.dead, .dead, .dead, rows xs, stp zs M] ++ repA .dead 8 ++ [.ptr (some (0, 0)), .dead, .dead, int64 i] ++ repA .dead 272, mkHeap (hpD s) 17, [], .off⟩
abbrev zC (ch : Int) : AV := .agg [int64 0, int64 ch, int64 0, int64 0, int64 0, int64 0, int64 0, int64 0, int64 0, .sl none 0 0 true 0]
def G78 (a : List AV) : Prop := ∃ ch xs, a = [zC ch, ints xs] ∧ xs.length ≤ maxLen
def v78 (a : List AV) : Bool := !badR (rowOf (nth a 1)) && (((rowOf (nth a 1)).length : Int) == intOf (nth (aggOf (nth a 0)) 1))
def V78 (a : List AV) : AV := .bool (v78 a)
noncomputable def O78 (S : Orc) : Orc := knowW 78 (fun a => isSo (G78 a)) V78 S
theorem bDa {A : Type} (ch : Int) (xs : List (List Int)) (zs : List AV) (M : Nat) (s : Rf) (e i : Int) (K : Ex → St → Option A) : loopB Try.prog (O78 orc0) tb 33 3 1 (stDa ch xs zs M s e i) K =
    (bif decide (i < (xs.length : Int)) then rowG (xs.map ints) xs.length i <| bif !(((fzL (rwA xs i) : Nat) : Int) == ch) then K .ret (rtD s 1 10) else rowG (xs.map ints) xs.length i <| bif isSo (G78 [zC ch, rowF (rwA xs i)]) then bif !v78 [zC ch, rowF (rwA xs i)] then K .ret (rtD s 1 10) else K .normal (stDa ch xs zs M s e (w64 (i + 1))) else none else K (.exit 0) (stDa ch xs zs M s e i)) := by kernel_rfl
theorem bDb {A : Type} (xs : List (List Int)) (zs : List AV) (M : Nat) (s : Rf) (i : Int) (K : Ex → St → Option A) : loopB Try.prog orc0 tb 33 10 10 (stDb xs zs M s i) K =
    (bif decide (i < (M : Int)) then turn zs M i fun w k n => bif decide (w < 0) then K .ret (rtD s 7 17) else bif decide (w > 1) then K .ret (rtD s 7 17) else bif decide (k < 0) then K .ret (rtD s 7 17) else bif decide (k > 3) then K .ret (rtD s 7 17) else bif k == 1 then bif decide (n < 0) then K .ret (rtD s 7 17) else K .normal (stDb xs zs M s (w64 (i + 1))) else K .normal (stDb xs zs M s (w64 (i + 1))) else K (.exit 2) (stDb xs zs M s i)) := by kernel_rfl
/-! ### The third: its code is cut behind the turn that is read -/
def subC : List Nat → Code → Code
  | [], c => c
  | 0 :: l, .seq a _ => subC l a
  | _ :: l, .seq _ b => subC l b
  | 0 :: l, .cond _ a _ => subC l a
  | _ :: l, .cond _ _ b => subC l b
  | _ :: l, .block _ b => subC l b
  | _ :: l, .loop b => subC l b
  | _, c => c
noncomputable def L20 : Code := (loopC 20 e33.code).getD .skip
noncomputable abbrev EC {A : Type} (S : Orc) (c : Code) (st : St) (K : Ex → St → Option A) : Option A := evCode Try.prog (e33.plan.stops (S.s 33)) (evCall Try.prog S tb 100) (butL 20 (S.l 33)) 33 none c st K
def hpC (s : Rf) (q o : Lst) : List (Nat × Blk) := blP 24 q ++ blP 23 o ++ [(0, .cells true (cellsF s))]
abbrev tmD (xs : List (List Int)) (zs : List AV) (M : Nat) (put i : Int) (q o : Lst) (l : List AV) : List AV := [.dead, .dead, .dead, rows xs, stp zs M] ++ repA .dead 8 ++ [.ptr (some (0, 0))] ++ repA .dead 4 ++ [lvP 23 o, lvP 24 q, int64 put, int64 i] ++ l
def stDc (xs : List (List Int)) (zs : List AV) (M : Nat) (s : Rf) (put i : Int) (q o : Lst) : St := ⟨tmD xs zs M put i q o (repA .dead 267), mkHeap (hpC s q o) 27, [], .off⟩
def stA (xs : List (List Int)) (zs : List AV) (M : Nat) (s : Rf) (put i : Int) (q o : Lst) : St := ⟨tmD xs zs M put i q o (repA .dead 82 ++ [int64 i, stp zs M, int64 (M : Int), .bool (decide (i < (M : Int)))] ++ repA .dead 181), mkHeap (hpC s q o) 27, [], .off⟩
def stB (xs : List (List Int)) (zs : List AV) (M : Nat) (s : Rf) (put i : Int) (q o : Lst) (w k n : Int) : St := ⟨tmD xs zs M put i q o ([.ptr (some (27, 0))] ++ repA .dead 87 ++ [stp zs M, int64 i, .fp zs (i.toNat * 3), .agg [int64 w, int64 k, int64 n]] ++ repA .dead 175), ⟨upd (upd (mkHeap (hpC s q o) 27).m 27 (some (.cells true [int64 0, int64 0, int64 0]))) 27 (some (.cells true [int64 w, int64 k, int64 n])), 28⟩, [], .off⟩
section
variable {A : Type} (xs : List (List Int)) (zs : List AV) (M : Nat) (s : Rf) (put i : Int) (q o : Lst) (K : Ex → St → Option A)
abbrev alD (q o : Lst) : Bool := alO q (alO o true)
noncomputable def toD (s' : Rf) (put' : Int) (q' o' : Lst) : Option A := guardK (alD q' o') <| K .normal (stDc xs zs M s' put' (w64 (i + 1)) q' o')
abbrev frD : AV := rowF (rwA xs (w64 (s.w + put)))
noncomputable def seeD : Option A := bif isSo (G53 [aggF s]) then toD xs zs M i K (seeF (rfOf (aggF s))) put q o else none
noncomputable def lookD : Option A := bif isSo (G58 [aggF s]) then toD xs zs M i K (lookF (rfOf (aggF s))) put q o else none
noncomputable def claimD (n : Int) : Option A := bif isSo (G55 [aggF s, int64 (minI n (w64 ((xs.length : Int) - s.w)))]) then toD xs zs M i K (claF (rfOf (aggF s)) (minI n (w64 ((xs.length : Int) - s.w)))).1 put q o else none
noncomputable def takeD (n : Int) : Option A := bif isSo (G59 [aggF s, int64 n]) then toD xs zs M i K (takF (rfOf (aggF s)) n).1 put q o else none
noncomputable def putD : Option A := rowG (xs.map ints) xs.length (w64 (s.w + put)) <| bif isSo (G56 [aggF s, int64 put, frD xs s put]) then toD xs zs M i K (putF (rfOf (aggF s)) put (rowOf (frD xs s put))) (w64 (put + 1)) q o else none
noncomputable def comD : Option A := bif isSo (G57 [aggF s, int64 put]) then toD xs zs M i K (comF (rfOf (aggF s)) put).1 0 q o else none
noncomputable def getD' : Option A := bif isSo (G60 [aggF s, int64 (lenL q : Int)]) then pushP (ints (getRF (rfOf (aggF s)) (lenL q : Int))) (fun q' => toD xs zs M i K s put q' o) q else none
noncomputable def finD : Option A := catP (fun o' => bif isSo (G61 [aggF s, int64 (lenL q : Int)]) then toD xs zs M i K (donF (rfOf (aggF s)) (lenL q : Int)).1 put none o' else none) o q
noncomputable abbrev B20 (st : St) (K : Ex → St → Option A) : Option A := loopBG Try.prog (OF orc0) tb 33 20 ⟨[23, 24], [], []⟩ 17 st K
noncomputable def seqK (S : Orc) (b : Code) (K : Ex → St → Option A) : Ex → St → Option A := fun e st' => match e with
  | .normal => EC S b st' K
  | e => K e st'
def blkK (id : Nat) (K : Ex → St → Option A) : Ex → St → Option A := fun e st' => match e with
  | .exit j => bif Nat.beq j id then K .normal st' else K (.exit j) st'
  | e => K e st'
def N20 : Norm := ⟨[3, 4, 10, 11, 12, 13, 18, 19, 20, 21], []⟩
noncomputable def lpK (K : Ex → St → Option A) : Ex → St → Option A := fun e s => match e with
  | .pan v => K (.pan v) s
  | e => normKG Try.prog (N20.on e) ⟨[23, 24], [], []⟩ 17 s fun s => K e s
noncomputable def swK (S : Orc) (K : Ex → St → Option A) : Ex → St → Option A := blkK 6 (blkK 5 (seqK S (subC [1, 1] L20) (lpK K)))
noncomputable def SW : Code := subC [1, 0, 0, 1, 0] L20
end
theorem norm20 : loopN0 tb 33 20 = some N20 := by kernel_rfl
theorem count20 : Nat.ble (countL 20 e33.code) 1 = true := by kernel_rfl
theorem norm3 : loopN0 tb 33 3 = some ⟨[1, 3, 4, 10, 11, 12, 13, 14, 15], []⟩ := by kernel_rfl
theorem count3 : Nat.ble (countL 3 e33.code) 1 = true := by kernel_rfl
theorem norm10 : loopN0 tb 33 10 = some ⟨[3, 4, 10, 11, 12, 13, 16], []⟩ := by kernel_rfl
theorem count10 : Nat.ble (countL 10 e33.code) 1 = true := by kernel_rfl
theorem cutA {A : Type} (xs : List (List Int)) (zs : List AV) (M : Nat) (s : Rf) (put i : Int) (K : Ex → St → Option A) : ∀ q o : Lst, EC (OF orc0) (subC [0] L20) (stDc xs zs M s put i q o) K = (bif decide (i < (M : Int)) then K .normal (stA xs zs M s put i q o) else K (.exit 4) (stA xs zs M s put i q o))
  | none, none => by kernel_rfl
  | none, some (k1, k2) => by kernel_rfl
  | some (m1, m2), none => by kernel_rfl
  | some (m1, m2), some (k1, k2) => by kernel_rfl
theorem cutB {A : Type} (xs : List (List Int)) (zs : List AV) (M : Nat) (s : Rf) (put i : Int) (K : Ex → St → Option A) : ∀ q o : Lst, EC (OF orc0) (subC [1, 0, 0, 0] L20) (stA xs zs M s put i q o) K = turn zs M i fun w k n => K .normal (stB xs zs M s put i q o w k n)
  | none, none => by kernel_rfl
  | none, some (k1, k2) => by kernel_rfl
  | some (m1, m2), none => by kernel_rfl
  | some (m1, m2), some (k1, k2) => by kernel_rfl
theorem cutX {A : Type} (xs : List (List Int)) (zs : List AV) (M : Nat) (s : Rf) (put i : Int) (K : Ex → St → Option A) : ∀ q o : Lst, lpK K (.exit 4) (stA xs zs M s put i q o) = guardK (alD q o) (K (.exit 4) (stDc xs zs M s put i q o))
  | none, none => by kernel_rfl
  | none, some (k1, k2) => by kernel_rfl
  | some (m1, m2), none => by kernel_rfl
  | some (m1, m2), some (k1, k2) => by kernel_rfl
theorem codeL : loopC 20 e33.code = some (.seq (subC [0] L20) (.seq (.block 5 (.seq (subC [1, 0, 0, 0] L20) (.block 6 SW))) (subC [1, 1] L20))) := by kernel_rfl
theorem tb33 : tb 33 = some e33 := by kernel_rfl
theorem loopBG_code {P : Program} {S : Orc} {tb : FuncId → Option FnP} {f : FuncId} {id : Nat} {F : Flat} {n0 : Nat} {A : Type} {st : St} {K : Ex → St → Option A} {e : FnP} {c : Code} {N : Norm} (he : tb f = some e) (hc : loopC id e.code = some c) (hN : loopN0 tb f id = some N) :
    loopBG P S tb f id F n0 st K = evCode P (e.plan.stops (S.s f)) (evCall P S tb 100) (butL id (S.l f)) f none c st (fun e s => match e with | .pan v => K (.pan v) s | e => normKG P (N.on e) F n0 s fun s => K e s) := by
  unfold loopN0 at hN
  rw [he] at hN
  simp only at hN
  unfold loopBG
  rw [he]
  simp only
  rw [hc, hN]
  rfl
theorem code_cut {P : Program} {pl : Plan} {call : CallP} {lo : Nat → Option LoopF} {f : FuncId} {A : Type} {a b sw r : Code} {i j : Nat} {st : St} {K : Ex → St → Option A} : evCode P pl call lo f none (.seq a (.seq (.block i (.seq b (.block j sw))) r)) st K = evCode P pl call lo f none a st (fun e st' => match e with
    | .normal => evCode P pl call lo f none (.seq (.block i (.seq b (.block j sw))) r) st' K
    | e => K e st') := rfl
theorem code_cut2 {P : Program} {pl : Plan} {call : CallP} {lo : Nat → Option LoopF} {f : FuncId} {A : Type} {b sw r : Code} {i j : Nat} {st : St} {K : Ex → St → Option A} : evCode P pl call lo f none (.seq (.block i (.seq b (.block j sw))) r) st K = evCode P pl call lo f none b st (fun e st' => match e with
    | .normal => evCode P pl call lo f none sw st' (fun e st' => match e with
      | .exit k => bif Nat.beq k j then (fun e st' => match e with
        | .exit k => bif Nat.beq k i then (match Ex.normal with | .normal => evCode P pl call lo f none r st' K | e => K e st') else (match Ex.exit k with | .normal => evCode P pl call lo f none r st' K | e => K e st')
        | e => (match e with | .normal => evCode P pl call lo f none r st' K | e => K e st')) Ex.normal st' else (fun e st' => match e with
        | .exit k => bif Nat.beq k i then (match Ex.normal with | .normal => evCode P pl call lo f none r st' K | e => K e st') else (match Ex.exit k with | .normal => evCode P pl call lo f none r st' K | e => K e st')
        | e => (match e with | .normal => evCode P pl call lo f none r st' K | e => K e st')) (Ex.exit k) st'
      | e => (fun e st' => match e with
        | .exit k => bif Nat.beq k i then (match Ex.normal with | .normal => evCode P pl call lo f none r st' K | e => K e st') else (match Ex.exit k with | .normal => evCode P pl call lo f none r st' K | e => K e st')
        | e => (match e with | .normal => evCode P pl call lo f none r st' K | e => K e st')) e st')
    | e => (fun e st' => match e with
        | .exit k => bif Nat.beq k i then (match Ex.normal with | .normal => evCode P pl call lo f none r st' K | e => K e st') else (match Ex.exit k with | .normal => evCode P pl call lo f none r st' K | e => K e st')
        | e => (match e with | .normal => evCode P pl call lo f none r st' K | e => K e st')) e st') := by
  show evCode P pl call lo f none b st _ = evCode P pl call lo f none b st _
  congr 1
theorem b20_cut {A : Type} (xs : List (List Int)) (zs : List AV) (M : Nat) (s : Rf) (put i : Int) (q o : Lst) (K : Ex → St → Option A) : B20 (stDc xs zs M s put i q o) K = (bif decide (i < (M : Int)) then turn zs M i fun w k n => EC (OF orc0) SW (stB xs zs M s put i q o w k n) (swK (OF orc0) K) else guardK (alD q o) (K (.exit 4) (stDc xs zs M s put i q o))) := by
  refine (loopBG_code tb33 codeL norm20).trans ?_
  refine code_cut.trans ?_
  refine (cutA xs zs M s put i _ q o).trans ?_
  cases decide (i < (M : Int)) with
  | false => exact cutX xs zs M s put i K q o
  | true =>
    rw [cond_true, cond_true]
    show evCode Try.prog (e33.plan.stops ((OF orc0).s 33)) (evCall Try.prog (OF orc0) tb 100) (butL 20 ((OF orc0).l 33)) 33 none (.seq (.block 5 (.seq (subC [1, 0, 0, 0] L20) (.block 6 SW))) (subC [1, 1] L20)) (stA xs zs M s put i q o) (lpK K) = _
    refine code_cut2.trans ?_
    refine (cutB xs zs M s put i _ q o).trans ?_
    kernel_rfl
end Go.Proofs.Ytokighfpmonjdaa
/- The document's Play: what a turn does. -/
namespace Go.Proofs.Ytokighfpmonjdaa
open Go.Ev
set_option maxRecDepth 100000
theorem sw_see {A : Type} (xs : List (List Int)) (zs : List AV) (M : Nat) (s : Rf) (put i : Int) (n : Int) (K : Ex → St → Option A) : ∀ q o : Lst, EC (OF orc0) SW (stB xs zs M s put i q o 0 0 n) (swK (OF orc0) K) = seeD xs zs M s put i q o K
  | none, none => by kernel_rfl
  | none, some (k1, k2) => by kernel_rfl
  | some (m1, m2), none => by kernel_rfl
  | some (m1, m2), some (k1, k2) => by kernel_rfl
theorem sw_claim {A : Type} (xs : List (List Int)) (zs : List AV) (M : Nat) (s : Rf) (put i : Int) (n : Int) (K : Ex → St → Option A) : ∀ q o : Lst, EC (OF orc0) SW (stB xs zs M s put i q o 0 1 n) (swK (OF orc0) K) = claimD xs zs M s put i q o K n
  | none, none => by kernel_rfl
  | none, some (k1, k2) => by kernel_rfl
  | some (m1, m2), none => by kernel_rfl
  | some (m1, m2), some (k1, k2) => by kernel_rfl
theorem sw_put {A : Type} (xs : List (List Int)) (zs : List AV) (M : Nat) (s : Rf) (put i : Int) (n : Int) (K : Ex → St → Option A) : ∀ q o : Lst, EC (OF orc0) SW (stB xs zs M s put i q o 0 2 n) (swK (OF orc0) K) = (bif decide (put < s.cl) then putD xs zs M s put i q o K else toD xs zs M i K s put q o)
  | none, none => by kernel_rfl
  | none, some (k1, k2) => by kernel_rfl
  | some (m1, m2), none => by kernel_rfl
  | some (m1, m2), some (k1, k2) => by kernel_rfl
theorem sw_com {A : Type} (xs : List (List Int)) (zs : List AV) (M : Nat) (s : Rf) (put i : Int) (n : Int) (K : Ex → St → Option A) : ∀ q o : Lst, EC (OF orc0) SW (stB xs zs M s put i q o 0 3 n) (swK (OF orc0) K) = (bif decide (s.cl ≥ 0) then comD xs zs M s put i q o K else toD xs zs M i K s put q o)
  | none, none => by kernel_rfl
  | none, some (k1, k2) => by kernel_rfl
  | some (m1, m2), none => by kernel_rfl
  | some (m1, m2), some (k1, k2) => by kernel_rfl
end Go.Proofs.Ytokighfpmonjdaa
/- The document's Play: what a turn does. -/
namespace Go.Proofs.Ytokighfpmonjdaa
open Go.Ev
set_option maxRecDepth 100000
theorem sw_look {A : Type} (xs : List (List Int)) (zs : List AV) (M : Nat) (s : Rf) (put i : Int) (n : Int) (K : Ex → St → Option A) : ∀ q o : Lst, EC (OF orc0) SW (stB xs zs M s put i q o 1 0 n) (swK (OF orc0) K) = lookD xs zs M s put i q o K
  | none, none => by kernel_rfl
  | none, some (k1, k2) => by kernel_rfl
  | some (m1, m2), none => by kernel_rfl
  | some (m1, m2), some (k1, k2) => by kernel_rfl
theorem sw_take {A : Type} (xs : List (List Int)) (zs : List AV) (M : Nat) (s : Rf) (put i : Int) (n : Int) (K : Ex → St → Option A) : ∀ q o : Lst, EC (OF orc0) SW (stB xs zs M s put i q o 1 1 n) (swK (OF orc0) K) = takeD xs zs M s put i q o K n
  | none, none => by kernel_rfl
  | none, some (k1, k2) => by kernel_rfl
  | some (m1, m2), none => by kernel_rfl
  | some (m1, m2), some (k1, k2) => by kernel_rfl
end Go.Proofs.Ytokighfpmonjdaa
/- The document's Play: what a turn does. -/
namespace Go.Proofs.Ytokighfpmonjdaa
open Go.Ev
set_option maxRecDepth 100000
theorem sw_get {A : Type} (xs : List (List Int)) (zs : List AV) (M : Nat) (s : Rf) (put i : Int) (n : Int) (K : Ex → St → Option A) : ∀ q o : Lst, EC (OF orc0) SW (stB xs zs M s put i q o 1 2 n) (swK (OF orc0) K) = (bif decide ((lenL q : Int) < s.ta) then getD' xs zs M s put i q o K else toD xs zs M i K s put q o)
  | none, none => by kernel_rfl
  | none, some (k1, k2) => by kernel_rfl
  | some (m1, m2), none => by kernel_rfl
  | some (m1, m2), some (k1, k2) => by kernel_rfl
theorem sw_fin {A : Type} (xs : List (List Int)) (zs : List AV) (M : Nat) (s : Rf) (put i : Int) (n : Int) (K : Ex → St → Option A) : ∀ q o : Lst, EC (OF orc0) SW (stB xs zs M s put i q o 1 3 n) (swK (OF orc0) K) = (bif decide (s.ta ≥ 0) then finD xs zs M s put i q o K else toD xs zs M i K s put q o)
  | none, none => by kernel_rfl
  | none, some (k1, k2) => by kernel_rfl
  | some (m1, m2), none => by kernel_rfl
  | some (m1, m2), some (k1, k2) => by kernel_rfl
end Go.Proofs.Ytokighfpmonjdaa
/- RingTurns: what is done with a ring, told without the first counter. -/
namespace Go.Proofs.Ytokighfpmonjdaa
open Go.Ev
structure Ab where
  W : Nat
  R : Nat
  se : Nat
  lo : Nat
  cl : Int
  ta : Int
  put : Nat
  gt : Nat
structure InvA (n len : Nat) (a : Ab) : Prop where
  r : a.se ≤ a.R ∧ a.R ≤ a.lo ∧ a.lo ≤ a.W ∧ a.W ≤ len ∧ a.W ≤ a.se + n
  cl : (a.cl = -1 ∧ a.put = 0) ∨ (0 ≤ a.cl ∧ (a.put : Int) ≤ a.cl ∧ (a.W : Int) + a.cl ≤ len ∧ (a.W : Int) + a.cl ≤ (a.se : Int) + n)
  ta : (a.ta = -1 ∧ a.gt = 0) ∨ (0 ≤ a.ta ∧ (a.gt : Int) ≤ a.ta ∧ (a.R : Int) + a.ta ≤ a.lo)
def stepA (n len : Nat) (a : Ab) (t : Tn) : Ab :=
  if t.1 = 0 then
    if t.2.1 = 0 then { a with se := a.R }
    else if t.2.1 = 1 then (if a.cl ≥ 0 then a else { a with cl := minI (minI t.2.2 ((len : Int) - a.W)) ((n : Int) - ((a.W : Int) - a.se)) })
    else if t.2.1 = 2 then (if (a.put : Int) < a.cl then { a with put := a.put + 1 } else a)
    else (if a.cl ≥ 0 then { a with W := a.W + a.put, cl := -1, put := 0 } else a)
  else
    if t.2.1 = 0 then { a with lo := a.W }
    else if t.2.1 = 1 then (if a.ta ≥ 0 then a else { a with ta := minI t.2.2 ((a.lo : Int) - a.R) })
    else if t.2.1 = 2 then (if (a.gt : Int) < a.ta then { a with gt := a.gt + 1 } else a)
    else (if a.ta ≥ 0 then { a with R := a.R + a.gt, ta := -1, gt := 0 } else a)
def okU (t : Tn) : Prop := okT t ∧ (t.2.1 = 1 → 0 ≤ t.2.2)
theorem okU_of {t : Tn} (h : badT t = false) : okU t := by
  refine ⟨okT_of h, fun h1 => ?_⟩
  unfold badT at h
  simp only [Bool.or_eq_false_iff, decide_eq_false_iff_not, Bool.and_eq_false_iff, beq_eq_false_iff_ne] at h
  omega
theorem minI_eq (a b : Int) : minI a b = min a b := by unfold minI; split <;> omega
theorem inv_step {n len : Nat} {a : Ab} (h : InvA n len a) {t : Tn} (ht : okU t) : InvA n len (stepA n len a t) := by
  obtain ⟨w, k, m⟩ := t
  obtain ⟨⟨h1 | h1, h2 | h2 | h2 | h2⟩, h3⟩ := ht <;> simp only at h1 h2 h3 <;> subst h1 <;> subst h2
  all_goals obtain ⟨hr, hc, hta⟩ := h
  · exact ⟨by show a.R ≤ a.R ∧ a.R ≤ a.lo ∧ a.lo ≤ a.W ∧ a.W ≤ len ∧ a.W ≤ a.R + n; omega, by show (a.cl = -1 ∧ a.put = 0) ∨ (0 ≤ a.cl ∧ (a.put : Int) ≤ a.cl ∧ (a.W : Int) + a.cl ≤ len ∧ (a.W : Int) + a.cl ≤ (a.R : Int) + n); omega, hta⟩
  · show InvA n len (if a.cl ≥ 0 then a else { a with cl := minI (minI m ((len : Int) - a.W)) ((n : Int) - ((a.W : Int) - a.se)) })
    split
    · exact ⟨hr, hc, hta⟩
    · refine ⟨hr, ?_, hta⟩
      rw [minI_eq, minI_eq]
      have := h3 rfl
      show (min (min m ((len : Int) - a.W)) ((n : Int) - ((a.W : Int) - a.se)) = -1 ∧ a.put = 0) ∨ (0 ≤ min (min m ((len : Int) - a.W)) ((n : Int) - ((a.W : Int) - a.se)) ∧ (a.put : Int) ≤ min (min m ((len : Int) - a.W)) ((n : Int) - ((a.W : Int) - a.se)) ∧ (a.W : Int) + min (min m ((len : Int) - a.W)) ((n : Int) - ((a.W : Int) - a.se)) ≤ len ∧ (a.W : Int) + min (min m ((len : Int) - a.W)) ((n : Int) - ((a.W : Int) - a.se)) ≤ (a.se : Int) + n)
      omega
  · show InvA n len (if (a.put : Int) < a.cl then { a with put := a.put + 1 } else a)
    split
    · exact ⟨hr, by show (a.cl = -1 ∧ a.put + 1 = 0) ∨ (0 ≤ a.cl ∧ ((a.put + 1 : Nat) : Int) ≤ a.cl ∧ (a.W : Int) + a.cl ≤ len ∧ (a.W : Int) + a.cl ≤ (a.se : Int) + n); omega, hta⟩
    · exact ⟨hr, hc, hta⟩
  · show InvA n len (if a.cl ≥ 0 then { a with W := a.W + a.put, cl := -1, put := 0 } else a)
    split
    · exact ⟨by show a.se ≤ a.R ∧ a.R ≤ a.lo ∧ a.lo ≤ a.W + a.put ∧ a.W + a.put ≤ len ∧ a.W + a.put ≤ a.se + n; omega, Or.inl ⟨rfl, rfl⟩, hta⟩
    · exact ⟨hr, hc, hta⟩
  · exact ⟨by show a.se ≤ a.R ∧ a.R ≤ a.W ∧ a.W ≤ a.W ∧ a.W ≤ len ∧ a.W ≤ a.se + n; omega, hc, by show (a.ta = -1 ∧ a.gt = 0) ∨ (0 ≤ a.ta ∧ (a.gt : Int) ≤ a.ta ∧ (a.R : Int) + a.ta ≤ a.W); omega⟩
  · show InvA n len (if a.ta ≥ 0 then a else { a with ta := minI m ((a.lo : Int) - a.R) })
    split
    · exact ⟨hr, hc, hta⟩
    · refine ⟨hr, hc, ?_⟩
      rw [minI_eq]
      have := h3 rfl
      show (min m ((a.lo : Int) - a.R) = -1 ∧ a.gt = 0) ∨ (0 ≤ min m ((a.lo : Int) - a.R) ∧ (a.gt : Int) ≤ min m ((a.lo : Int) - a.R) ∧ (a.R : Int) + min m ((a.lo : Int) - a.R) ≤ a.lo)
      omega
  · show InvA n len (if (a.gt : Int) < a.ta then { a with gt := a.gt + 1 } else a)
    split
    · exact ⟨hr, hc, by show (a.ta = -1 ∧ a.gt + 1 = 0) ∨ (0 ≤ a.ta ∧ ((a.gt + 1 : Nat) : Int) ≤ a.ta ∧ (a.R : Int) + a.ta ≤ a.lo); omega⟩
    · exact ⟨hr, hc, hta⟩
  · show InvA n len (if a.ta ≥ 0 then { a with R := a.R + a.gt, ta := -1, gt := 0 } else a)
    split
    · exact ⟨by show a.se ≤ a.R + a.gt ∧ a.R + a.gt ≤ a.lo ∧ a.lo ≤ a.W ∧ a.W ≤ len ∧ a.W ≤ a.se + n; omega, hc, Or.inl ⟨rfl, rfl⟩⟩
    · exact ⟨hr, hc, hta⟩
def ab0 : Ab := ⟨0, 0, 0, 0, -1, -1, 0, 0⟩
theorem inv0 (n len : Nat) : InvA n len ab0 := ⟨⟨Nat.le_refl _, Nat.le_refl _, Nat.le_refl _, Nat.zero_le _, Nat.zero_le _⟩, Or.inl ⟨rfl, rfl⟩, Or.inl ⟨rfl, rfl⟩⟩
theorem inv_fold {n len : Nat} : ∀ (S : List Tn) (a : Ab), InvA n len a → (∀ t ∈ S, okU t) → InvA n len (S.foldl (stepA n len) a)
  | [], _, h, _ => h
  | t :: S, _, h, hs => inv_fold S _ (inv_step h (hs t (List.mem_cons_self))) fun x hx => hs x (List.mem_cons_of_mem _ hx)
/-! ### The cells -/
structure Cel (n c first : Nat) (xs cs : List (List Int)) (a : Ab) : Prop where
  len : cs.length = n
  rows : ∀ f ∈ cs, f.length = c
  at' : ∀ j, a.R ≤ j → j < a.W + a.put → cs.getD ((first + j) % n) [] = xs.getD j []
theorem Cel.mono {n c first : Nat} {xs cs : List (List Int)} {a b : Ab} (h : Cel n c first xs cs a) (h1 : a.R ≤ b.R) (h2 : b.W + b.put ≤ a.W + a.put) : Cel n c first xs cs b :=
  ⟨h.len, h.rows, fun j hj hk => h.at' j (by omega) (by omega)⟩
theorem mod_ne {n x d : Nat} (h0 : 0 < d) (h1 : d < n) : (x + d) % n ≠ x % n := by
  intro h
  have := Nat.sub_mod_eq_zero_of_mod_eq h
  rw [Nat.add_sub_cancel_left, Nat.mod_eq_of_lt h1] at this
  omega
theorem Cel.set {n c first : Nat} {xs cs : List (List Int)} {a : Ab} (h : Cel n c first xs cs a) (h0 : 0 < n) (hn : a.W + a.put < a.R + n) {f : List Int} (hf : f.length = c) (hx : xs.getD (a.W + a.put) [] = f) :
    Cel n c first xs (cs.set ((first + (a.W + a.put)) % n) f) { a with put := a.put + 1 } := by
  refine ⟨by rw [List.length_set]; exact h.len, fun g hg => ?_, fun j hj hk => ?_⟩
  · rcases List.mem_or_eq_of_mem_set hg with h1 | h1
    · exact h.rows g h1
    · rw [h1]; exact hf
  · have hk : j < a.W + (a.put + 1) := hk
    have hj : a.R ≤ j := hj
    have hb : (first + (a.W + a.put)) % n < cs.length := by rw [h.len]; exact Nat.mod_lt _ h0
    by_cases he : j = a.W + a.put
    · subst he
      rw [hx]
      simp [List.getD, hb]
    · have hne : (first + (a.W + a.put)) % n ≠ (first + j) % n := by
        have := mod_ne (n := n) (x := first + j) (d := a.W + a.put - j) (by omega) (by omega)
        rw [show first + j + (a.W + a.put - j) = first + (a.W + a.put) by omega] at this
        exact this
      have := h.at' j hj (by omega)
      rw [← this]
      simp [List.getD, hne]
theorem cel0 (n c first : Nat) (xs : List (List Int)) : Cel n c first xs (zrs n c) ab0 :=
  ⟨by simp, fun f hf => by rw [List.eq_of_mem_replicate hf]; simp, fun j _ hk => absurd hk (by show ¬ j < 0 + 0; omega)⟩
theorem Cel.get {n c first : Nat} {xs cs : List (List Int)} {a : Ab} (h : Cel n c first xs cs a) {k : Nat} (hk : a.R + k < a.W) : cs.getD ((first + (a.R + k)) % n) [] = xs.getD (a.R + k) [] := h.at' _ (by omega) (by omega)
/-! ### Lists -/
theorem take_snoc (xs : List (List Int)) (R k : Nat) (h : R + k < xs.length) : (xs.drop R).take k ++ [xs.getD (R + k) []] = (xs.drop R).take (k + 1) := by
  have e : xs.getD (R + k) [] = (xs.drop R)[k]'(by rw [List.length_drop]; omega) := by
    rw [List.getElem_drop]
    simp [List.getD, h]
  rw [e]
  exact (List.take_succ_eq_append_getElem _).symm
theorem take_cat (xs : List (List Int)) (R k : Nat) : xs.take R ++ (xs.drop R).take k = xs.take (R + k) := List.take_add.symm
end Go.Proofs.Ytokighfpmonjdaa
