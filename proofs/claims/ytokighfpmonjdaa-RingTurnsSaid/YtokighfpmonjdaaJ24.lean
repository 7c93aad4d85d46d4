/- The document's Play: its run, and what it tells. -/
import Derived.Test.YtokighfpmonjdaaJ23
import Derived.Test.YtokighfpmonjdaaJ18
namespace Go.Proofs.Ytokighfpmonjdaa
open Go.Ev
set_option maxRecDepth 100000
def N33a : Norm := ⟨[1, 3, 4, 10, 11, 12, 13, 14, 15], []⟩
def N33b : Norm := ⟨[3, 4, 10, 11, 12, 13, 16], []⟩
abbrev a28 (n ch first : Int) : List AV := [int64 n, int64 ch, int64 first]
noncomputable abbrev run33 (S : Orc) (n ch first : Int) (xs : List (List Int)) (zs : List AV) (M : Nat) : Option AV := evCall Try.prog S tb 100 AV (.fn 33) (arg32 n ch first xs zs M) (mkHeap [] 0) .off (viewK Try.prog (resOf Try.prog 33))
noncomputable abbrev S33 (n ch first : Int) (s : Rf) (e : Int) (S : Orc) : Orc := knowF 28 (a28 n ch first) (.tup [aggF s, int64 e]) S
noncomputable abbrev c33 {A : Type} (n ch first : Int) (x : Option A) : Option A := bif same (a28 n ch first) (a28 n ch first) then x else none
section
variable (n ch first : Int) (xs : List (List Int)) (zs : List AV) (M : Nat) (s : Rf) (e i j : Int) (t0 t1 t2 : St)
theorem p33_ret : run33 (S33 n ch first s e (knowL Try.prog 33 3 N33a 1 t0 .ret (rtD s 1 10) orc0)) n ch first xs zs M = (c33 n ch first <| bif sameSt (stDa ch xs zs M s e 0) t0 then some (res32 [] 0 1) else none) := by kernel_rfl
theorem p33_e : run33 (S33 n ch first s e (knowL Try.prog 33 3 N33a 1 t0 (.exit 0) (stDa ch xs zs M s e i) (stopAt 33 [9] orc0))) n ch first xs zs M = (c33 n ch first <| bif sameSt (stDa ch xs zs M s e 0) t0 then bif !(e == 0) then some (res32 [] 0 e) else none else none) := by kernel_rfl
theorem p33_10 : run33 (S33 n ch first s e (knowL Try.prog 33 3 N33a 1 t0 (.exit 0) (stDa ch xs zs M s e i) (knowL Try.prog 33 10 N33b 10 t1 .ret (rtD s 7 17) orc0))) n ch first xs zs M = (c33 n ch first <| bif sameSt (stDa ch xs zs M s e 0) t0 then bif !(e == 0) then some (res32 [] 0 e) else bif sameSt (stDb xs zs M s 0) t1 then some (res32 [] 0 7) else none else none) := by kernel_rfl
theorem p33_lim : run33 (S33 n ch first s e (knowL Try.prog 33 3 N33a 1 t0 (.exit 0) (stDa ch xs zs M s e i) (knowL Try.prog 33 10 N33b 10 t1 (.exit 2) (stDb xs zs M s j) (stopAt 33 [17] orc0)))) n ch first xs zs M = (c33 n ch first <| bif sameSt (stDa ch xs zs M s e 0) t0 then bif !(e == 0) then some (res32 [] 0 e) else bif sameSt (stDb xs zs M s 0) t1 then bif decide ((xs.length : Int) > 2000) then some (res32 [] 0 4) else bif decide ((M : Int) > 5000) then some (res32 [] 0 4) else none else none else none) := by kernel_rfl
def outD (k : Int) : Lst → Option AV
  | none => some (res32 [] k 0)
  | some (m, os) => guardK (allS (dropA os 0) && true) <| some (.tup [.fz (fixLen ((m + 1) * 1) (dropA os 0)) (m + 1) false 1, int64 k, int64 0])
variable (s' : Rf) (put fi : Int)
theorem p33_fin : ∀ (q o : Lst), run33 (S33 n ch first s e (knowL Try.prog 33 3 N33a 1 t0 (.exit 0) (stDa ch xs zs M s e i) (knowL Try.prog 33 10 N33b 10 t1 (.exit 2) (stDb xs zs M s j) (knowLG Try.prog 33 20 N20 ⟨[23, 24], [], []⟩ 17 t2 (.exit 4) (stDc xs zs M s' put fi q o) orc0)))) n ch first xs zs M =
    (c33 n ch first <| bif sameSt (stDa ch xs zs M s e 0) t0 then bif !(e == 0) then some (res32 [] 0 e) else bif sameSt (stDb xs zs M s 0) t1 then bif decide ((xs.length : Int) > 2000) then some (res32 [] 0 4) else bif decide ((M : Int) > 5000) then some (res32 [] 0 4) else bif sameSt (stDc xs zs M s 0 0 none none) t2 then outD (w64 (s'.w - s'.r)) o else none else none else none)
  | none, none => by kernel_rfl
  | none, some (k1, k2) => by kernel_rfl
  | some (m1, m2), none => by kernel_rfl
  | some (m1, m2), some (k1, k2) => by kernel_rfl
end
def playV (n ch first : Int) (xs : List (List Int)) (S : List Tn) : List (List Int) × Int × Int :=
  if xs.any (badF ch) = true then ([], 0, 1)
  else if okN n ch first = false then ([], 0, 7)
  else if S.any badT = true then ([], 0, 7)
  else if xs.length > 2000 ∨ S.length > 5000 then ([], 0, 4)
  else
    let a := S.foldl (stepA n.toNat xs.length) ab0
    (xs.take a.R, (a.W : Int) - a.R, 0)
def resV (p : List (List Int) × Int × Int) : AV := res32 p.1 p.2.1 p.2.2
theorem sz_dvd {n : Nat} (h : szA n = true) : n ∣ 65536 ∧ 1 ≤ n ∧ n ≤ 1024 := by
  rw [sz_eq] at h
  unfold szB at h
  simp only [Bool.or_eq_true, beq_iff_eq] at h
  have : n = 1 ∨ n = 2 ∨ n = 4 ∨ n = 8 ∨ n = 16 ∨ n = 32 ∨ n = 64 ∨ n = 128 ∨ n = 256 ∨ n = 512 ∨ n = 1024 := by omega
  rcases this with rfl | rfl | rfl | rfl | rfl | rfl | rfl | rfl | rfl | rfl | rfl <;> decide
theorem hyp_of {n c f : Nat} {xs : List (List Int)} (h1 : okN n c f = true) (h2 : xs.any (badF c) = false) (h3 : xs.length ≤ 2000) : Hyp n c f xs ∧ n ∣ 65536 := by
  unfold okN inW at h1
  simp only [Bool.and_eq_true, decide_eq_true_eq, Bool.not_eq_true', decide_eq_false_iff_not] at h1
  obtain ⟨ha, hb, hc, hd⟩ := h1
  obtain ⟨g1, g2, g3⟩ := sz_dvd ha
  refine ⟨⟨⟨g2, g3⟩, by omega, by omega, h3, fun x hx => ?_⟩, g1⟩
  have := List.any_eq_false.1 h2 x hx
  unfold badF at this
  simp only [Bool.or_eq_true, Bool.not_eq_true', beq_eq_false_iff_ne, not_or] at this
  refine ⟨by omega, by cases h : badR x with | false => rfl | true => exact absurd h this.2⟩
theorem okN_nat {n ch first : Int} (h : okN n ch first = true) : ∃ a b c : Nat, n = a ∧ ch = b ∧ first = c := by
  unfold okN inW szA at h
  simp only [Bool.and_eq_true, decide_eq_true_eq, Bool.not_eq_true', decide_eq_false_iff_not] at h
  exact ⟨n.toNat, ch.toNat, first.toNat, by omega, by omega, by omega⟩
theorem pl0_eq {n c f : Nat} {xs : List (List Int)} (hf : f < 65536) : pl0 n c f xs = pA c f xs ab0 (zrs n c) := by
  have e : (f + 0) % 65536 = f := by omega
  unfold pl0 pA gA g0
  show (⟨⟨c, f, f, false, 0, 0, f, f, false, 0, 0⟩, zrs n c, xs, [], [], []⟩ : Pl) = ⟨⟨c, ((f + 0) % 65536 : Nat), ((f + 0) % 65536 : Nat), false, 0, 0, ((f + 0) % 65536 : Nat), ((f + 0) % 65536 : Nat), false, 0, 0⟩, zrs n c, xs, [], [], []⟩
  rw [e]
theorem playI_eq (n ch first : Int) (xs : List (List Int)) (S : List Tn) : playI n ch first xs S = resV (playV n ch first xs S) := by
  unfold playI playV resV
  cases hN : okN n ch first with
  | false =>
    rw [if_pos rfl]
    by_cases hb : xs.any (badF ch) = true
    · rw [if_pos hb, if_pos hb]
    · rw [if_neg hb, if_neg hb, if_pos rfl]
  | true =>
    rw [if_neg (by simp)]
    by_cases hb : xs.any (badF ch) = true
    · rw [if_pos hb, if_pos hb]
    rw [if_neg hb, if_neg hb, if_neg (show ¬ (true = false) by simp)]
    by_cases ht : S.any badT = true
    · rw [if_pos ht, if_pos ht]
    rw [if_neg ht, if_neg ht]
    by_cases hl : xs.length > 2000 ∨ S.length > 5000
    · rw [if_pos hl, if_pos hl]
    rw [if_neg hl, if_neg hl]
    obtain ⟨m, c, f, rfl, rfl, rfl⟩ := okN_nat hN
    obtain ⟨H, hd⟩ := hyp_of hN (by simpa using hb) (by omega)
    have hS : ∀ t ∈ S, okU t := fun t ht' => okU_of (by have := List.any_eq_false.1 (by simpa using ht : S.any badT = false) t ht'; simpa using this)
    obtain ⟨cs', he⟩ := fold_A H hd S ab0 (zrs m c) (inv0 _ _) (cel0 _ _ _ _) hS
    have hI := inv_fold S ab0 (inv0 m xs.length) hS
    rw [Int.toNat_natCast, Int.toNat_natCast, pl0_eq H.fi, he]
    generalize S.foldl (stepA m xs.length) ab0 = a at hI
    obtain ⟨hr, -, -⟩ := hI
    have hx := H.hx
    have hn := H.hn
    show res32 (xs.take a.R) (aprt ((f + a.W) % 65536 : Nat) ((f + a.R) % 65536 : Nat)) 0 = res32 (xs.take a.R) ((a.W : Int) - a.R) 0
    rw [aprt_A (by omega) (by omega)]
theorem outD_eq (k : Int) (l : List (List Int)) : outD k (lst l) = some (res32 l k 0) := by
  cases l with
  | nil => rfl
  | cons x l =>
    have e2 := fix_rows (x :: l)
    show (guardK (allS (dropA (rowsL (x :: l)) 0) && true) <| some (AV.tup [AV.fz (fixLen ((x :: l).length * 1) (dropA ((x :: l).map ints) 0)) (x :: l).length false 1, int64 k, int64 0])) = _
    rw [e2, dropA_eq, List.drop_zero, allS_rows]
    rfl
theorem ar33 (n ch first : Int) (xs : List (List Int)) (zs : List AV) (M : Nat) : vwArgs Try.prog [] none0 (parsOf Try.prog 33) (arg32 n ch first xs zs M) = arg32 n ch first xs zs M := by kernel_rfl
theorem c33_eq {A : Type} (n ch first : Int) (x : Option A) : c33 n ch first x = x := bif_t (same_self _)
theorem playD_fact {n ch first : Int} {xs : List (List Int)} {S : List Tn} (hx : xs.length ≤ 1000000) (hl : ∀ f ∈ xs, f.length ≤ maxLen) (hS : S.length ≤ 1000000) : FFact Try.prog tb 33 (arg32 n ch first xs (flatS S) S.length) (resV (playV n ch first xs S)) := by
  have hr : rounds = 100000000000000000000 := rfl
  refine ⟨ar33 _ _ _ _ _ _, ?_⟩
  obtain ⟨s, e, hf, he⟩ : ∃ s e, FFact Try.prog tb 28 (a28 n ch first) (.tup [aggF s, int64 e]) ∧ ((okN n ch first = false ∧ e = 7) ∨ (okN n ch first = true ∧ e = 0 ∧ s = rf0 n.toNat ch.toNat first)) := by
    cases hN : okN n ch first with
    | false => exact ⟨_, _, newF_bad hN, Or.inl ⟨rfl, rfl⟩⟩
    | true =>
      obtain ⟨m, c, f, rfl, rfl, rfl⟩ := okN_nat hN
      exact ⟨_, _, newF_ok hN, Or.inr ⟨rfl, rfl, rfl⟩⟩
  have l1 := loopDa (ch := ch) (s := s) (e := e) (zs := flatS S) (M := S.length) hx hl xs.length 0 rounds (by omega) (by omega)
  rw [List.drop_zero] at l1
  have l2 := loopDb (xs := xs) (s := s) (S := S) hS S.length 0 rounds (by omega) (by omega)
  rw [List.drop_zero] at l2
  have hO := fun S => knowF_ok tbOk (S := S) hf
  unfold playV resV
  by_cases hb : xs.any (badF ch) = true
  · rw [hb] at l1
    rw [if_pos hb]
    refine ⟨_, hO _ (knowL_ok tbOk ⟨_, O78_ok ok0, l1⟩ ok0 (ep := e33) rfl norm3 count3), (p33_ret n ch first xs (flatS S) S.length s e _).trans ?_⟩
    rw [c33_eq]
    exact bif_t (sameSt_self _)
  rw [if_neg hb]
  rw [show xs.any (badF ch) = false by simpa using hb] at l1
  rcases he with ⟨hN, rfl⟩ | ⟨hN, rfl, rfl⟩
  · rw [if_pos hN]
    refine ⟨_, hO _ (knowL_ok tbOk ⟨_, O78_ok ok0, l1⟩ (stopAt_ok ok0) (ep := e33) rfl norm3 count3), (p33_e n ch first xs (flatS S) S.length s 7 _ _).trans ?_⟩
    rw [c33_eq]
    exact bif_t (sameSt_self _)
  rw [if_neg (by rw [hN]; simp)]
  by_cases ht : S.any badT = true
  · rw [ht] at l2
    rw [if_pos ht]
    refine ⟨_, hO _ (knowL_ok tbOk ⟨_, O78_ok ok0, l1⟩ (knowL_ok tbOk ⟨_, ok0, l2⟩ ok0 (ep := e33) rfl norm10 count10) (ep := e33) rfl norm3 count3), (p33_10 n ch first xs (flatS S) S.length _ 0 _ _ _).trans ?_⟩
    rw [c33_eq]
    refine (bif_t (sameSt_self _)).trans ?_
    exact bif_t (sameSt_self _)
  rw [if_neg ht]
  have ht' : S.any badT = false := by simpa using ht
  rw [ht'] at l2
  by_cases hlim : xs.length > 2000 ∨ S.length > 5000
  · rw [if_pos hlim]
    refine ⟨_, hO _ (knowL_ok tbOk ⟨_, O78_ok ok0, l1⟩ (knowL_ok tbOk ⟨_, ok0, l2⟩ (stopAt_ok ok0) (ep := e33) rfl norm10 count10) (ep := e33) rfl norm3 count3), (p33_lim n ch first xs (flatS S) S.length _ 0 _ _ _ _).trans ?_⟩
    rw [c33_eq]
    refine (bif_t (sameSt_self _)).trans ?_
    refine (bif_t (sameSt_self _)).trans ?_
    rcases hlim with h | h
    · rw [decide_eq_true (by omega : (xs.length : Int) > 2000)]; rfl
    · rw [decide_eq_true (by omega : (S.length : Int) > 5000)]
      cases decide ((xs.length : Int) > 2000) <;> rfl
  rw [if_neg hlim]
  obtain ⟨m, c, f, rfl, rfl, rfl⟩ := okN_nat hN
  obtain ⟨H, hd⟩ := hyp_of hN (by simpa using hb) (by omega)
  have hT : ∀ t ∈ S, okU t := fun t h' => okU_of (by have := List.any_eq_false.1 ht' t h'; simpa using this)
  obtain ⟨cs', l3⟩ := loop_D H (by omega) hT S.length 0 rounds ab0 (zrs m c) (by omega) (by omega) (inv0 _ _) (cel0 _ _ _ _)
  rw [List.drop_zero] at l3
  have hI := inv_fold S ab0 (inv0 m xs.length) hT
  rw [Int.toNat_natCast]
  generalize S.foldl (stepA m xs.length) ab0 = a at hI l3
  obtain ⟨hr', -, -⟩ := hI
  have hx := H.hx
  refine ⟨_, hO _ (knowL_ok tbOk ⟨_, O78_ok ok0, l1⟩ (knowL_ok tbOk ⟨_, ok0, l2⟩ (knowLG_ok tbOk (LFact.flatG (OF_ok ok0) l3) ok0 (ep := e33) rfl norm20 count20) (ep := e33) rfl norm10 count10) (ep := e33) rfl norm3 count3), (p33_fin (m : Int) c f xs (flatS S) S.length _ 0 _ _ _ _ _ _ _ _ _ _).trans ?_⟩
  have e3 : soD m c f xs S 0 ab0 (zrs m c) = stDc xs (flatS S) S.length (rf0 m c f) 0 0 none none := rfl
  rw [c33_eq, Int.toNat_natCast, Int.toNat_natCast, e3, decide_eq_false (by omega : ¬ (xs.length : Int) > 2000), decide_eq_false (by omega : ¬ (S.length : Int) > 5000)]
  refine (bif_t (sameSt_self _)).trans ?_
  refine (bif_t (sameSt_self _)).trans ?_
  refine (bif_t (sameSt_self _)).trans ?_
  rw [outD_eq]
  show some (res32 (xs.take a.R) (w64 ((a.W : Int) - (a.R : Int))) 0) = _
  rw [w64_in (by omega)]
end Go.Proofs.Ytokighfpmonjdaa
/- Rows of numbers, and lists of them, are alike or not (SameRow, SameMatrix). -/
namespace Go.Proofs.Ytokighfpmonjdaa
open Go.Ev
set_option maxRecDepth 100000
theorem lenA_map {α : Type} (f : α → AV) (l : List α) : lenA (l.map f) = l.length := by
  induction l with
  | nil => rfl
  | cons x l ih => show lenA (l.map f) + 1 = _; rw [ih]; rfl
theorem nth_map {α : Type} (f : α → AV) : ∀ (l : List α) (i : Nat) (h : i < l.length), nth (l.map f) i = f l[i]
  | x :: l, 0, _ => rfl
  | x :: l, i + 1, h => nth_map f l i (by simpa using h)
def st25 (xs ys : List Int) (i : Int) : St := ⟨[ints xs, ints ys, .dead, .dead, .dead, int64 i] ++ repA .dead 20, mkHeap [] 4, [], .off⟩
def rt25 (b : Bool) : St := ⟨[.dead, .dead, .dead, .dead, .bool b] ++ repA .dead 21, mkHeap [] 4, [], .off⟩
def body25 {A : Type} (xs ys : List Int) (i : Int) (K : Ex → St → Option A) : Option A :=
  bif decide (i < (xs.length : Int)) then
    guardK (decide (0 ≤ i) && decide (i < (xs.length : Int))) (guardK (Nat.blt (i.toNat * 1) (lenA (xs.map int64))) (guardK (isIntK .i64 (nth (xs.map int64) (i.toNat * 1)))
    (guardK (decide (0 ≤ i) && decide (i < (ys.length : Int))) (guardK (Nat.blt (i.toNat * 1) (lenA (ys.map int64))) (guardK (isIntK .i64 (nth (ys.map int64) (i.toNat * 1)))
      (bif !(intOf (nth (xs.map int64) (i.toNat * 1)) == intOf (nth (ys.map int64) (i.toNat * 1))) then K .ret (rt25 false)
       else K .normal (st25 xs ys (IntKind.i64.wrap (i + 1)))))))))
  else K (.exit 0) (st25 xs ys i)
theorem b25 {A : Type} (xs ys : List Int) (i : Int) (K : Ex → St → Option A) : loopB Try.prog orc0 tb 25 4 0 (st25 xs ys i) K = body25 xs ys i K := by kernel_rfl
theorem body25_eq {A : Type} {xs ys : List Int} {i : Nat} (hx : i < xs.length) (hy : i < ys.length) (hm : xs.length ≤ maxLen) (K : Ex → St → Option A) :
    body25 xs ys (i : Int) K = bif xs[i] == ys[i] then K .normal (st25 xs ys ((i + 1 : Nat) : Int)) else K .ret (rt25 false) := by
  have h1 : (i : Int) < (xs.length : Int) := by omega
  have h2 : (i : Int) < (ys.length : Int) := by omega
  have h3 : (i : Int).toNat * 1 = i := by omega
  have h4 : IntKind.i64.wrap ((i : Int) + 1) = ((i + 1 : Nat) : Int) := by
    rw [IntKind.wrap_i64]
    have : maxLen = 9223372036854775807 := rfl
    omega
  unfold body25
  simp only [h3, h4, lenA_map, nth_map int64 xs i hx, nth_map int64 ys i hy, decide_eq_true h1, decide_eq_true h2, decide_eq_true (Int.natCast_nonneg i), cond_true, guardK, Bool.and_self, int64, intOf, isIntK]
  have h5 : Nat.blt i xs.length = true := Nat.ble_eq_true_of_le hx
  have h6 : Nat.blt i ys.length = true := Nat.ble_eq_true_of_le hy
  simp only [h5, h6, cond_true, decide_true]
  cases xs[i] == ys[i] <;> rfl
theorem loop25 {xs ys : List Int} (hl : xs.length = ys.length) (hm : xs.length ≤ maxLen) : ∀ (d i n : Nat), i + d = xs.length → d < n →
    loopN (loopB Try.prog orc0 tb 25 4 0) n (st25 xs ys (i : Int)) pairE = some (if xs.drop i = ys.drop i then (.exit 0, st25 xs ys (xs.length : Int)) else (.ret, rt25 false)) := by
  intro d
  induction d with
  | zero =>
    intro i n hi hn
    obtain ⟨n, rfl⟩ : ∃ m, n = m + 1 := ⟨n - 1, by omega⟩
    have hi : i = xs.length := by omega
    subst hi
    rw [loopN_succ, b25]
    have h1 : ¬ ((xs.length : Int) < (xs.length : Int)) := by omega
    unfold body25
    rw [decide_eq_false h1]
    rw [List.drop_eq_nil_of_le (Nat.le_refl _), List.drop_eq_nil_of_le (by omega)]
    rfl
  | succ d ih =>
    intro i n hi hn
    obtain ⟨n, rfl⟩ : ∃ m, n = m + 1 := ⟨n - 1, by omega⟩
    have hx : i < xs.length := by omega
    have hy : i < ys.length := by omega
    rw [loopN_succ, b25, body25_eq hx hy hm]
    cases hb : xs[i] == ys[i] with
    | true =>
      have he : xs[i] = ys[i] := eq_of_beq hb
      have e : (xs.drop i = ys.drop i) = (xs.drop (i + 1) = ys.drop (i + 1)) := by
        rw [List.drop_eq_getElem_cons hx, List.drop_eq_getElem_cons hy, List.cons.injEq, he]
        simp
      simp only [cond_true, e]
      exact ih (i + 1) n (by omega) (by omega)
    | false =>
      have e : ¬ xs.drop i = ys.drop i := fun h => by
        rw [List.drop_eq_getElem_cons hx, List.drop_eq_getElem_cons hy, List.cons.injEq] at h
        rw [h.1] at hb
        simp at hb
      simp only [cond_false]
      rw [if_neg e]
      rfl
theorem rounds_big {n : Nat} (h : n ≤ maxLen) : n < rounds := by
  have h1 : maxLen = 9223372036854775807 := rfl
  have h2 : rounds = 100000000000000000000 := rfl
  omega
theorem row_loop1 {xs : List Int} (hm : xs.length ≤ maxLen) : LFact Try.prog tb 25 4 0 (st25 xs xs 0) (.exit 0) (st25 xs xs (xs.length : Int)) :=
  ⟨orc0, ok0, (loop25 rfl hm xs.length 0 rounds (by omega) (rounds_big hm)).trans (by rw [if_pos rfl])⟩
theorem row_loop2 {xs ys : List Int} (hl : xs.length = ys.length) (hn : xs ≠ ys) (hm : xs.length ≤ maxLen) : LFact Try.prog tb 25 4 0 (st25 xs ys 0) .ret (rt25 false) :=
  ⟨orc0, ok0, (loop25 hl hm xs.length 0 rounds (by omega) (rounds_big hm)).trans (by rw [if_neg (by simpa using hn)])⟩
noncomputable def S25 (xs ys : List Int) (e : Ex) (s : St) : Orc := knowL Try.prog 25 4 ⟨[0, 1, 4, 5], []⟩ 0 (st25 xs ys 0) e s orc0
theorem row_run (xs ys : List Int) (h : Heap) : evCall Try.prog (stopAt 25 [3] orc0) tb 100 AV (.fn 25) (vwArgs Try.prog [] h (parsOf Try.prog 25) [ints xs, ints ys]) (mkHeap [] 0) .off rv =
    bif !((xs.length : Int) == (ys.length : Int)) then some (.bool false) else none := by kernel_rfl
theorem row_run1 (xs ys : List Int) (h : Heap) : evCall Try.prog (S25 xs ys (.exit 0) (st25 xs ys (xs.length : Int))) tb 100 AV (.fn 25) (vwArgs Try.prog [] h (parsOf Try.prog 25) [ints xs, ints ys]) (mkHeap [] 0) .off rv =
    bif !((xs.length : Int) == (ys.length : Int)) then some (.bool false) else bif sameSt (st25 xs ys 0) (st25 xs ys 0) then some (.bool true) else none := by kernel_rfl
theorem row_run2 (xs ys : List Int) (h : Heap) : evCall Try.prog (S25 xs ys .ret (rt25 false)) tb 100 AV (.fn 25) (vwArgs Try.prog [] h (parsOf Try.prog 25) [ints xs, ints ys]) (mkHeap [] 0) .off rv =
    bif !((xs.length : Int) == (ys.length : Int)) then some (.bool false) else bif sameSt (st25 xs ys 0) (st25 xs ys 0) then some (.bool false) else none := by kernel_rfl
theorem count25 : Nat.ble (countL 4 e25.code) 1 = true := by kernel_rfl
theorem norm25 : loopN0 tb 25 4 = some ⟨[0, 1, 4, 5], []⟩ := by kernel_rfl
theorem same_row {xs ys : List Int} (hm : xs.length ≤ maxLen) : F 25 [ints xs, ints ys] (.bool (decide (xs = ys))) := by
  by_cases hl : xs.length = ys.length
  · have hl' : (!((xs.length : Int) == (ys.length : Int))) = false := by simp [hl]
    by_cases he : xs = ys
    · subst he
      refine .of (knowL_ok tbOk (row_loop1 hm) ok0 (ep := e25) rfl norm25 count25) rfl fun h => (row_run1 xs xs h).trans ?_
      rw [hl', sameSt_self]
      simp
    · refine .of (knowL_ok tbOk (row_loop2 hl he hm) ok0 (ep := e25) rfl norm25 count25) rfl fun h => (row_run2 xs ys h).trans ?_
      rw [hl', sameSt_self]
      simp [he]
  · refine .of (stopAt_ok ok0) rfl fun h => (row_run xs ys h).trans ?_
    have hl' : (!((xs.length : Int) == (ys.length : Int))) = true := by
      simp only [Bool.not_eq_true', beq_eq_false_iff_ne]
      omega
    have he : xs ≠ ys := fun h => hl (by rw [h])
    rw [hl']
    simp [he]
end Go.Proofs.Ytokighfpmonjdaa
/- Lists of rows are alike or not (SameMatrix). -/
namespace Go.Proofs.Ytokighfpmonjdaa
open Go.Ev
set_option maxRecDepth 100000
theorem ints_inj {xs ys : List Int} (h : ints xs = ints ys) : xs = ys := by
  unfold ints at h
  injection h with h1
  have : ∀ (xs ys : List Int), xs.map int64 = ys.map int64 → xs = ys := by
    intro xs
    induction xs with
    | nil => intro ys h; cases ys <;> simp_all
    | cons x xs ih =>
      intro ys h
      cases ys with
      | nil => simp at h
      | cons y ys =>
        simp only [List.map_cons, List.cons.injEq] at h
        have h2 : x = y := by have := h.1; unfold int64 at this; injection this
        rw [h2, ih ys h.2]
  exact this xs ys h1
noncomputable def G25 (a : List AV) : Bool := isSo (∃ xs ys, a = [ints xs, ints ys] ∧ xs.length ≤ maxLen)
noncomputable def B25 (a : List AV) : Bool := isSo (nth a 0 = nth a 1)
noncomputable def V25 (a : List AV) : AV := .bool (B25 a)
theorem B25_eq (xs ys : List Int) : B25 [ints xs, ints ys] = decide (xs = ys) := by
  unfold B25
  rw [Bool.eq_iff_iff, isSo_iff]
  simp only [decide_eq_true_eq]
  exact ⟨ints_inj, fun h => by rw [h]; rfl⟩
theorem when25 (a : List AV) (h : G25 a = true) : F 25 a (V25 a) := by
  obtain ⟨xs, ys, rfl, hm⟩ := isSo_iff.1 h
  unfold V25
  rw [B25_eq]
  exact same_row hm
noncomputable def SR : Orc := knowW 25 G25 V25 orc0
theorem SR_ok : Ok SR := knowW_ok tbOk when25 ok0
def st23 (xs ys : List (List Int)) (i : Int) : St := ⟨[rows xs, rows ys, .dead, .dead, .dead, int64 i] ++ repA .dead 21, mkHeap [] 4, [], .off⟩
def rt23 (b : Bool) : St := ⟨[.dead, .dead, .dead, .dead, .bool b] ++ repA .dead 22, mkHeap [] 4, [], .off⟩
def rowAt (xs : List (List Int)) (i : Nat) : AV := .fz (fzC (nth (xs.map ints) i)) (fzL (nth (xs.map ints) i)) (fzE (nth (xs.map ints) i)) (fzS (nth (xs.map ints) i))
noncomputable def body23 {A : Type} (xs ys : List (List Int)) (i : Int) (K : Ex → St → Option A) : Option A :=
  bif decide (i < (xs.length : Int)) then
    guardK (decide (0 ≤ i) && decide (i < (xs.length : Int))) (guardK (Nat.blt (i.toNat * 1) (lenA (xs.map ints))) (guardK (isFzN (nth (xs.map ints) (i.toNat * 1)))
    (guardK (decide (0 ≤ i) && decide (i < (ys.length : Int))) (guardK (Nat.blt (i.toNat * 1) (lenA (ys.map ints))) (guardK (isFzN (nth (ys.map ints) (i.toNat * 1)))
      (guardK (G25 [rowAt xs (i.toNat * 1), rowAt ys (i.toNat * 1)]) (bif !(B25 [rowAt xs (i.toNat * 1), rowAt ys (i.toNat * 1)]) then K .ret (rt23 false)
       else K .normal (st23 xs ys (IntKind.i64.wrap (i + 1))))))))))
  else K (.exit 0) (st23 xs ys i)
theorem b23 {A : Type} (xs ys : List (List Int)) (i : Int) (K : Ex → St → Option A) : loopB Try.prog SR tb 23 4 0 (st23 xs ys i) K = body23 xs ys i K := by kernel_rfl
def Fit (xs : List (List Int)) : Prop := xs.length ≤ maxLen ∧ ∀ x ∈ xs, x.length ≤ maxLen
theorem rowAt_eq {xs : List (List Int)} {i : Nat} (h : i < xs.length) : rowAt xs i = ints xs[i] := by
  unfold rowAt
  rw [nth_map ints xs i h]
  rfl
theorem body23_eq {A : Type} {xs ys : List (List Int)} {i : Nat} (hx : i < xs.length) (hy : i < ys.length) (hm : Fit xs) (K : Ex → St → Option A) :
    body23 xs ys (i : Int) K = bif decide (xs[i] = ys[i]) then K .normal (st23 xs ys ((i + 1 : Nat) : Int)) else K .ret (rt23 false) := by
  have h1 : (i : Int) < (xs.length : Int) := by omega
  have h2 : (i : Int) < (ys.length : Int) := by omega
  have h3 : (i : Int).toNat * 1 = i := by omega
  have h4 : IntKind.i64.wrap ((i : Int) + 1) = ((i + 1 : Nat) : Int) := by
    rw [IntKind.wrap_i64]
    have : maxLen = 9223372036854775807 := rfl
    have := hm.1
    omega
  have h5 : Nat.blt i xs.length = true := Nat.ble_eq_true_of_le hx
  have h6 : Nat.blt i ys.length = true := Nat.ble_eq_true_of_le hy
  have h7 : G25 [ints xs[i], ints ys[i]] = true := isSo_true ⟨_, _, rfl, hm.2 _ (List.getElem_mem hx)⟩
  have h8 : ∀ z : List Int, isFzN (ints z) = true := fun z => rfl
  unfold body23
  simp only [h3, h4, lenA_map, rowAt_eq hx, rowAt_eq hy, h7, B25_eq, nth_map ints xs i hx, nth_map ints ys i hy, h8, decide_eq_true h1, decide_eq_true h2, decide_eq_true (Int.natCast_nonneg i), cond_true, guardK, Bool.and_self, h5, h6]
  cases decide (xs[i] = ys[i]) <;> rfl
theorem loop23 {xs ys : List (List Int)} (hl : xs.length = ys.length) (hm : Fit xs) : ∀ (d i n : Nat), i + d = xs.length → d < n →
    loopN (loopB Try.prog SR tb 23 4 0) n (st23 xs ys (i : Int)) pairE = some (if xs.drop i = ys.drop i then (.exit 0, st23 xs ys (xs.length : Int)) else (.ret, rt23 false)) := by
  intro d
  induction d with
  | zero =>
    intro i n hi hn
    obtain ⟨n, rfl⟩ : ∃ m, n = m + 1 := ⟨n - 1, by omega⟩
    have hi : i = xs.length := by omega
    subst hi
    rw [loopN_succ, b23]
    have h1 : ¬ ((xs.length : Int) < (xs.length : Int)) := by omega
    unfold body23
    rw [decide_eq_false h1]
    rw [List.drop_eq_nil_of_le (Nat.le_refl _), List.drop_eq_nil_of_le (by omega)]
    rfl
  | succ d ih =>
    intro i n hi hn
    obtain ⟨n, rfl⟩ : ∃ m, n = m + 1 := ⟨n - 1, by omega⟩
    have hx : i < xs.length := by omega
    have hy : i < ys.length := by omega
    rw [loopN_succ, b23, body23_eq hx hy hm]
    by_cases he : xs[i] = ys[i]
    · have e : (xs.drop i = ys.drop i) = (xs.drop (i + 1) = ys.drop (i + 1)) := by
        rw [List.drop_eq_getElem_cons hx, List.drop_eq_getElem_cons hy, List.cons.injEq, he]
        simp
      rw [decide_eq_true he]
      simp only [cond_true, e]
      exact ih (i + 1) n (by omega) (by omega)
    · have e : ¬ xs.drop i = ys.drop i := fun h => by
        rw [List.drop_eq_getElem_cons hx, List.drop_eq_getElem_cons hy, List.cons.injEq] at h
        exact he h.1
      rw [decide_eq_false he]
      simp only [cond_false]
      rw [if_neg e]
      rfl
noncomputable def S23 (xs ys : List (List Int)) (e : Ex) (s : St) : Orc := knowL Try.prog 23 4 ⟨[0, 1, 4, 5], []⟩ 0 (st23 xs ys 0) e s orc0
theorem mat_run (xs ys : List (List Int)) (h : Heap) : evCall Try.prog (stopAt 23 [3] orc0) tb 100 AV (.fn 23) (vwArgs Try.prog [] h (parsOf Try.prog 23) [rows xs, rows ys]) (mkHeap [] 0) .off rv =
    bif !((xs.length : Int) == (ys.length : Int)) then some (.bool false) else none := by kernel_rfl
theorem mat_run1 (xs ys : List (List Int)) (h : Heap) : evCall Try.prog (S23 xs ys (.exit 0) (st23 xs ys (xs.length : Int))) tb 100 AV (.fn 23) (vwArgs Try.prog [] h (parsOf Try.prog 23) [rows xs, rows ys]) (mkHeap [] 0) .off rv =
    bif !((xs.length : Int) == (ys.length : Int)) then some (.bool false) else bif sameSt (st23 xs ys 0) (st23 xs ys 0) then some (.bool true) else none := by kernel_rfl
theorem mat_run2 (xs ys : List (List Int)) (h : Heap) : evCall Try.prog (S23 xs ys .ret (rt23 false)) tb 100 AV (.fn 23) (vwArgs Try.prog [] h (parsOf Try.prog 23) [rows xs, rows ys]) (mkHeap [] 0) .off rv =
    bif !((xs.length : Int) == (ys.length : Int)) then some (.bool false) else bif sameSt (st23 xs ys 0) (st23 xs ys 0) then some (.bool false) else none := by kernel_rfl
theorem count23 : Nat.ble (countL 4 e23.code) 1 = true := by kernel_rfl
theorem norm23 : loopN0 tb 23 4 = some ⟨[0, 1, 4, 5], []⟩ := by kernel_rfl
theorem same_rows {xs ys : List (List Int)} (hm : Fit xs) : F 23 [rows xs, rows ys] (.bool (decide (xs = ys))) := by
  by_cases hl : xs.length = ys.length
  · have hl' : (!((xs.length : Int) == (ys.length : Int))) = false := by simp [hl]
    have hf := loop23 hl hm xs.length 0 rounds (by omega) (rounds_big hm.1)
    by_cases he : xs = ys
    · subst he
      refine .of (knowL_ok tbOk ⟨SR, SR_ok, hf.trans (by rw [if_pos rfl])⟩ ok0 (ep := e23) rfl norm23 count23) rfl fun h => (mat_run1 xs xs h).trans ?_
      rw [hl', sameSt_self]
      simp
    · refine .of (knowL_ok tbOk ⟨SR, SR_ok, hf.trans (by rw [if_neg (by simpa using he)])⟩ ok0 (ep := e23) rfl norm23 count23) rfl fun h => (mat_run2 xs ys h).trans ?_
      rw [hl', sameSt_self]
      simp [he]
  · refine .of (stopAt_ok ok0) rfl fun h => (mat_run xs ys h).trans ?_
    have hl' : (!((xs.length : Int) == (ys.length : Int))) = true := by
      simp only [Bool.not_eq_true', beq_eq_false_iff_ne]
      omega
    have he : xs ≠ ys := fun h => hl (by rw [h])
    rw [hl']
    simp [he]
end Go.Proofs.Ytokighfpmonjdaa
/- Whether frames are not too large (frames of the laws). -/
namespace Go.Proofs.Ytokighfpmonjdaa
open Go.Ev
set_option maxRecDepth 100000
def st13 (l : List (List Int)) (i : Int) : St := ⟨[rows l, .dead, .dead, int64 i] ++ repA .dead 19, mkHeap [] 3, [], .off⟩
def rt13 : St := ⟨[.dead, .dead, .bool false] ++ repA .dead 20, mkHeap [] 3, [], .off⟩
def body13 {A : Type} (l : List (List Int)) (i : Int) (K : Ex → St → Option A) : Option A :=
  bif decide (i < (l.length : Int)) then bif decide (i < 600) then
    guardK (decide (0 ≤ i) && decide (i < (l.length : Int))) (guardK (Nat.blt (i.toNat * 1) (lenA (l.map ints))) (guardK (isFzN (nth (l.map ints) (i.toNat * 1)))
      (bif decide ((fzL (nth (l.map ints) (i.toNat * 1)) : Int) > 12) then K .ret rt13 else K .normal (st13 l (IntKind.i64.wrap (i + 1))))))
  else K (.exit 0) (st13 l i) else K (.exit 0) (st13 l i)
theorem b13 {A : Type} (l : List (List Int)) (i : Int) (K : Ex → St → Option A) : loopB Try.prog orc0 tb 13 2 0 (st13 l i) K = body13 l i K := by kernel_rfl
theorem body13_eq {A : Type} {l : List (List Int)} {i : Nat} (h : i < l.length) (h6 : i < 600) (K : Ex → St → Option A) :
    body13 l (i : Int) K = bif decide (l[i].length > 12) then K .ret rt13 else K .normal (st13 l ((i + 1 : Nat) : Int)) := by
  have h1 : (i : Int) < (l.length : Int) := by omega
  have h2 : (i : Int) < 600 := by omega
  have h3 : (i : Int).toNat * 1 = i := by omega
  have h4 : IntKind.i64.wrap ((i : Int) + 1) = ((i + 1 : Nat) : Int) := by
    rw [IntKind.wrap_i64]
    omega
  have h5 : Nat.blt i l.length = true := Nat.ble_eq_true_of_le h
  have h7 : isFzN (ints l[i]) = true := rfl
  have h8 : fzL (ints l[i]) = l[i].length := rfl
  have h9 : decide ((l[i].length : Int) > 12) = decide (l[i].length > 12) := by
    rw [Bool.eq_iff_iff]
    simp only [decide_eq_true_eq]
    omega
  unfold body13
  simp only [h3, h4, lenA_map, nth_map ints l i h, h7, h8, h9, decide_eq_true h1, decide_eq_true h2, decide_eq_true (Int.natCast_nonneg i), cond_true, guardK, Bool.and_self, h5]
theorem loop13 {l : List (List Int)} : ∀ (d i n : Nat), i + d = min l.length 600 → d < n →
    loopN (loopB Try.prog orc0 tb 13 2 0) n (st13 l (i : Int)) pairE = some (if ∀ x ∈ (l.take 600).drop i, x.length ≤ 12 then (.exit 0, st13 l (min l.length 600 : Nat)) else (.ret, rt13)) := by
  intro d
  induction d with
  | zero =>
    intro i n hi hn
    obtain ⟨n, rfl⟩ : ∃ m, n = m + 1 := ⟨n - 1, by omega⟩
    have hi : i = min l.length 600 := by omega
    have e : (l.take 600).drop i = [] := List.drop_eq_nil_of_le (by rw [List.length_take]; omega)
    rw [loopN_succ, b13, e, if_pos (by simp), ← hi]
    unfold body13
    by_cases h1 : (i : Int) < (l.length : Int)
    · have h2 : ¬ (i : Int) < 600 := by omega
      rw [decide_eq_true h1, decide_eq_false h2]
      rfl
    · rw [decide_eq_false h1]
      rfl
  | succ d ih =>
    intro i n hi hn
    obtain ⟨n, rfl⟩ : ∃ m, n = m + 1 := ⟨n - 1, by omega⟩
    have hx : i < l.length := by omega
    have h6 : i < 600 := by omega
    have ht : i < (l.take 600).length := by rw [List.length_take]; omega
    have eg : (l.take 600)[i] = l[i] := by simp
    rw [loopN_succ, b13, body13_eq hx h6, List.drop_eq_getElem_cons ht, eg]
    by_cases hb : l[i].length > 12
    · rw [decide_eq_true hb, if_neg (by
        intro h
        have := h _ List.mem_cons_self
        omega)]
      rfl
    · have e : (∀ x ∈ l[i] :: (l.take 600).drop (i + 1), x.length ≤ 12) = (∀ x ∈ (l.take 600).drop (i + 1), x.length ≤ 12) := by
        rw [eq_iff_iff]
        simp only [List.mem_cons, forall_eq_or_imp]
        exact ⟨fun h => h.2, fun h => ⟨by omega, h⟩⟩
      rw [decide_eq_false hb]
      simp only [cond_false, e]
      exact ih (i + 1) n (by omega) (by omega)
noncomputable def S13 (l : List (List Int)) (e : Ex) (s : St) : Orc := knowL Try.prog 13 2 ⟨[0, 2, 3], []⟩ 0 (st13 l 0) e s orc0
theorem frames_run1 (l : List (List Int)) (m : Int) (h : Heap) : evCall Try.prog (S13 l (.exit 0) (st13 l m)) tb 100 AV (.fn 13) (vwArgs Try.prog [] h (parsOf Try.prog 13) [rows l]) (mkHeap [] 0) .off rv =
    bif sameSt (st13 l 0) (st13 l 0) then some (.bool (decide ((l.length : Int) ≤ 600))) else none := by kernel_rfl
theorem frames_run2 (l : List (List Int)) (h : Heap) : evCall Try.prog (S13 l .ret rt13) tb 100 AV (.fn 13) (vwArgs Try.prog [] h (parsOf Try.prog 13) [rows l]) (mkHeap [] 0) .off rv =
    bif sameSt (st13 l 0) (st13 l 0) then some (.bool false) else none := by kernel_rfl
theorem count13 : Nat.ble (countL 2 e13.code) 1 = true := by kernel_rfl
theorem norm13 : loopN0 tb 13 2 = some ⟨[0, 2, 3], []⟩ := by kernel_rfl
def Small (l : List (List Int)) : Prop := l.length ≤ 600 ∧ ∀ x ∈ l, x.length ≤ 12
theorem frames_small {l : List (List Int)} (hs : Small l) : F 13 [rows l] (.bool true) := by
  have hf := loop13 (l := l) (min l.length 600) 0 rounds (by omega) (by have : rounds = 100000000000000000000 := rfl; omega)
  have e : ∀ x ∈ (l.take 600).drop 0, x.length ≤ 12 := fun x hx => hs.2 x (List.mem_of_mem_take (by simpa using hx))
  refine .of (knowL_ok tbOk ⟨orc0, ok0, hf.trans (by rw [if_pos e])⟩ ok0 (ep := e13) rfl norm13 count13) rfl fun h => (frames_run1 l _ h).trans ?_
  have : (l.length : Int) ≤ 600 := by have := hs.1; omega
  rw [sameSt_self, decide_eq_true this]
  rfl
theorem frames_large {l : List (List Int)} (hs : ¬ Small l) : F 13 [rows l] (.bool false) := by
  have hf := loop13 (l := l) (min l.length 600) 0 rounds (by omega) (by have : rounds = 100000000000000000000 := rfl; omega)
  by_cases e : ∀ x ∈ (l.take 600).drop 0, x.length ≤ 12
  · refine .of (knowL_ok tbOk ⟨orc0, ok0, hf.trans (by rw [if_pos e])⟩ ok0 (ep := e13) rfl norm13 count13) rfl fun h => (frames_run1 l _ h).trans ?_
    have : ¬ (l.length : Int) ≤ 600 := fun hl => hs ⟨by omega, fun x hx => e x (by
      rw [List.drop_zero, List.take_of_length_le (by omega)]
      exact hx)⟩
    rw [sameSt_self, decide_eq_false this]
    rfl
  · refine .of (knowL_ok tbOk ⟨orc0, ok0, hf.trans (by rw [if_neg e])⟩ ok0 (ep := e13) rfl norm13 count13) rfl fun h => (frames_run2 l h).trans ?_
    rw [sameSt_self]
    rfl
end Go.Proofs.Ytokighfpmonjdaa
/- RingTurns: what the law calls. -/
namespace Go.Proofs.Ytokighfpmonjdaa
open Go.Ev
set_option maxRecDepth 100000
theorem awake_run (h : Heap) : evCall Try.prog orc0 tb 100 AV (.fn 12) (vwArgs Try.prog [] h (parsOf Try.prog 12) []) (mkHeap [] 0) .off rv = some (.bool true) := by kernel_rfl
theorem awake_fact : F 12 [] (.bool true) := .of ok0 rfl awake_run
def tnsL : List AV → List Tn
  | x :: y :: z :: l => (intOf x, intOf y, intOf z) :: tnsL l
  | _ => []
theorem tnsL_flat : ∀ S : List Tn, tnsL (flatS S) = S
  | [] => rfl
  | t :: S => by
    show (t.1, t.2.1, t.2.2) :: tnsL (flatS S) = _
    rw [tnsL_flat S]
def tnsOf : AV → List Tn
  | .fz cs _ _ _ => tnsL cs
  | _ => []
def G32 (a : List AV) : Prop := ∃ (n ch first : Int) (xs : List (List Int)) (S : List Tn), a = arg32 n ch first xs (flatS S) S.length ∧ Small xs ∧ S.length ≤ 300
noncomputable def pV (a : List AV) : List (List Int) × Int × Int := playV (intOf (nth a 0)) (intOf (nth a 1)) (intOf (nth a 2)) (rowsOf (nth a 3)) (tnsOf (nth a 4))
noncomputable def V32 (a : List AV) : AV := res32 (pV a).1 (pV a).2.1 (pV a).2.2
theorem pV_eq (n ch first : Int) (xs : List (List Int)) (S : List Tn) : pV (arg32 n ch first xs (flatS S) S.length) = playV n ch first xs S := by
  unfold pV
  show playV n ch first (rowsOf (rows xs)) (tnsL (flatS S)) = _
  rw [tnsL_flat, rowsOf_rows]
theorem small_max {xs : List (List Int)} (h : Small xs) : xs.length ≤ 1000000 ∧ ∀ f ∈ xs, f.length ≤ maxLen := by
  have hM : maxLen = 9223372036854775807 := rfl
  exact ⟨by have := h.1; omega, fun f hf => by have := h.2 f hf; omega⟩
theorem when32 (a : List AV) (h : isSo (G32 a) = true) : FFact Try.prog tb 32 a (V32 a) := by
  obtain ⟨n, ch, first, xs, S, rfl, hx, hS⟩ := isSo_iff.1 h
  have h1 := play_fact (n := n) (ch := ch) (first := first) (S := S) (small_max hx).1 (small_max hx).2 (by omega)
  rw [playI_eq] at h1
  unfold V32
  rw [pV_eq]
  exact h1
theorem when33 (a : List AV) (h : isSo (G32 a) = true) : FFact Try.prog tb 33 a (V32 a) := by
  obtain ⟨n, ch, first, xs, S, rfl, hx, hS⟩ := isSo_iff.1 h
  have h1 := playD_fact (n := n) (ch := ch) (first := first) (S := S) (small_max hx).1 (small_max hx).2 (by omega)
  unfold V32
  rw [pV_eq]
  exact h1
def G23m (a : List AV) : Prop := ∃ xs ys : List (List Int), a = [rows xs, rows ys] ∧ xs = ys ∧ Fit xs
noncomputable def O6 (S : Orc) : Orc := knowW 23 (fun a => isSo (G23m a)) (fun _ => .bool true) <| knowFW 32 (fun a => isSo (G32 a)) V32 <| knowFW 33 (fun a => isSo (G32 a)) V32 S
theorem when23 (a : List AV) (h : isSo (G23m a) = true) : F 23 a (.bool true) := by
  obtain ⟨xs, ys, rfl, rfl, hx⟩ := isSo_iff.1 h
  have := same_rows (ys := xs) hx
  rw [decide_eq_true rfl] at this
  exact this
theorem O6_ok {S : Orc} (h : Ok S) : Ok (O6 S) := knowW_ok tbOk when23 (knowFW_ok when32 (knowFW_ok when33 h))
end Go.Proofs.Ytokighfpmonjdaa
