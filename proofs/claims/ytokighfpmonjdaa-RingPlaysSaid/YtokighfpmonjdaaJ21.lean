/- Lists of rows are alike or not (SameMatrix). -/
import Derived.Test.YtokighfpmonjdaaJ20
namespace Go.Proofs.Ytokighfpmonjdaa
open Go.Ev
set_option maxRecDepth 100000
theorem ints_inj {xs ys : List Int} (h : ints xs = ints ys) : xs = ys := by
  unfold ints at h
  injection h with h1
  have : ∀ (xs ys : List Int), xs.map int64 = ys.map int64 → xs = ys := by
    intro xs
    induction xs with
    | nil => intro ys h; cases ys <;> simp_all
    | cons x xs ih =>
      intro ys h
      cases ys with
      | nil => simp at h
      | cons y ys =>
        simp only [List.map_cons, List.cons.injEq] at h
        have h2 : x = y := by have := h.1; unfold int64 at this; injection this
        rw [h2, ih ys h.2]
  exact this xs ys h1
noncomputable def G25 (a : List AV) : Bool := isSo (∃ xs ys, a = [ints xs, ints ys] ∧ xs.length ≤ maxLen)
noncomputable def B25 (a : List AV) : Bool := isSo (nth a 0 = nth a 1)
noncomputable def V25 (a : List AV) : AV := .bool (B25 a)
theorem B25_eq (xs ys : List Int) : B25 [ints xs, ints ys] = decide (xs = ys) := by
  unfold B25
  rw [Bool.eq_iff_iff, isSo_iff]
  simp only [decide_eq_true_eq]
  exact ⟨ints_inj, fun h => by rw [h]; rfl⟩
theorem when25 (a : List AV) (h : G25 a = true) : F 25 a (V25 a) := by
  obtain ⟨xs, ys, rfl, hm⟩ := isSo_iff.1 h
  unfold V25
  rw [B25_eq]
  exact same_row hm
noncomputable def SR : Orc := knowW 25 G25 V25 orc0
theorem SR_ok : Ok SR := knowW_ok tbOk when25 ok0
def st23 (xs ys : List (List Int)) (i : Int) : St := ⟨[rows xs, rows ys, .dead, .dead, .dead, int64 i] ++ repA .dead 21, mkHeap [] 4, [], .off⟩
def rt23 (b : Bool) : St := ⟨[.dead, .dead, .dead, .dead, .bool b] ++ repA .dead 22, mkHeap [] 4, [], .off⟩
def rowAt (xs : List (List Int)) (i : Nat) : AV := .fz (fzC (nth (xs.map ints) i)) (fzL (nth (xs.map ints) i)) (fzE (nth (xs.map ints) i)) (fzS (nth (xs.map ints) i))
noncomputable def body23 {A : Type} (xs ys : List (List Int)) (i : Int) (K : Ex → St → Option A) : Option A :=
  bif decide (i < (xs.length : Int)) then
    guardK (decide (0 ≤ i) && decide (i < (xs.length : Int))) (guardK (Nat.blt (i.toNat * 1) (lenA (xs.map ints))) (guardK (isFzN (nth (xs.map ints) (i.toNat * 1)))
    (guardK (decide (0 ≤ i) && decide (i < (ys.length : Int))) (guardK (Nat.blt (i.toNat * 1) (lenA (ys.map ints))) (guardK (isFzN (nth (ys.map ints) (i.toNat * 1)))
      (guardK (G25 [rowAt xs (i.toNat * 1), rowAt ys (i.toNat * 1)]) (bif !(B25 [rowAt xs (i.toNat * 1), rowAt ys (i.toNat * 1)]) then K .ret (rt23 false)
       else K .normal (st23 xs ys (IntKind.i64.wrap (i + 1))))))))))
  else K (.exit 0) (st23 xs ys i)
theorem b23 {A : Type} (xs ys : List (List Int)) (i : Int) (K : Ex → St → Option A) : loopB Try.prog SR tb 23 4 0 (st23 xs ys i) K = body23 xs ys i K := by kernel_rfl
def Fit (xs : List (List Int)) : Prop := xs.length ≤ maxLen ∧ ∀ x ∈ xs, x.length ≤ maxLen
theorem rowAt_eq {xs : List (List Int)} {i : Nat} (h : i < xs.length) : rowAt xs i = ints xs[i] := by
  unfold rowAt
  rw [nth_map ints xs i h]
  rfl
theorem body23_eq {A : Type} {xs ys : List (List Int)} {i : Nat} (hx : i < xs.length) (hy : i < ys.length) (hm : Fit xs) (K : Ex → St → Option A) :
    body23 xs ys (i : Int) K = bif decide (xs[i] = ys[i]) then K .normal (st23 xs ys ((i + 1 : Nat) : Int)) else K .ret (rt23 false) := by
  have h1 : (i : Int) < (xs.length : Int) := by omega
  have h2 : (i : Int) < (ys.length : Int) := by omega
  have h3 : (i : Int).toNat * 1 = i := by omega
  have h4 : IntKind.i64.wrap ((i : Int) + 1) = ((i + 1 : Nat) : Int) := by
    rw [IntKind.wrap_i64]
    have : maxLen = 9223372036854775807 := rfl
    have := hm.1
    omega
  have h5 : Nat.blt i xs.length = true := Nat.ble_eq_true_of_le hx
  have h6 : Nat.blt i ys.length = true := Nat.ble_eq_true_of_le hy
  have h7 : G25 [ints xs[i], ints ys[i]] = true := isSo_true ⟨_, _, rfl, hm.2 _ (List.getElem_mem hx)⟩
  have h8 : ∀ z : List Int, isFzN (ints z) = true := fun z => rfl
  unfold body23
  simp only [h3, h4, lenA_map, rowAt_eq hx, rowAt_eq hy, h7, B25_eq, nth_map ints xs i hx, nth_map ints ys i hy, h8, decide_eq_true h1, decide_eq_true h2, decide_eq_true (Int.natCast_nonneg i), cond_true, guardK, Bool.and_self, h5, h6]
  cases decide (xs[i] = ys[i]) <;> rfl
theorem loop23 {xs ys : List (List Int)} (hl : xs.length = ys.length) (hm : Fit xs) : ∀ (d i n : Nat), i + d = xs.length → d < n →
    loopN (loopB Try.prog SR tb 23 4 0) n (st23 xs ys (i : Int)) pairE = some (if xs.drop i = ys.drop i then (.exit 0, st23 xs ys (xs.length : Int)) else (.ret, rt23 false)) := by
  intro d
  induction d with
  | zero =>
    intro i n hi hn
    obtain ⟨n, rfl⟩ : ∃ m, n = m + 1 := ⟨n - 1, by omega⟩
    have hi : i = xs.length := by omega
    subst hi
    rw [loopN_succ, b23]
    have h1 : ¬ ((xs.length : Int) < (xs.length : Int)) := by omega
    unfold body23
    rw [decide_eq_false h1]
    rw [List.drop_eq_nil_of_le (Nat.le_refl _), List.drop_eq_nil_of_le (by omega)]
    rfl
  | succ d ih =>
    intro i n hi hn
    obtain ⟨n, rfl⟩ : ∃ m, n = m + 1 := ⟨n - 1, by omega⟩
    have hx : i < xs.length := by omega
    have hy : i < ys.length := by omega
    rw [loopN_succ, b23, body23_eq hx hy hm]
    by_cases he : xs[i] = ys[i]
    · have e : (xs.drop i = ys.drop i) = (xs.drop (i + 1) = ys.drop (i + 1)) := by
        rw [List.drop_eq_getElem_cons hx, List.drop_eq_getElem_cons hy, List.cons.injEq, he]
        simp
      rw [decide_eq_true he]
      simp only [cond_true, e]
      exact ih (i + 1) n (by omega) (by omega)
    · have e : ¬ xs.drop i = ys.drop i := fun h => by
        rw [List.drop_eq_getElem_cons hx, List.drop_eq_getElem_cons hy, List.cons.injEq] at h
        exact he h.1
      rw [decide_eq_false he]
      simp only [cond_false]
      rw [if_neg e]
      rfl
noncomputable def S23 (xs ys : List (List Int)) (e : Ex) (s : St) : Orc := knowL Try.prog 23 4 ⟨[0, 1, 4, 5], []⟩ 0 (st23 xs ys 0) e s orc0
theorem mat_run (xs ys : List (List Int)) (h : Heap) : evCall Try.prog (stopAt 23 [3] orc0) tb 100 AV (.fn 23) (vwArgs Try.prog [] h (parsOf Try.prog 23) [rows xs, rows ys]) (mkHeap [] 0) .off rv =
    bif !((xs.length : Int) == (ys.length : Int)) then some (.bool false) else none := by kernel_rfl
theorem mat_run1 (xs ys : List (List Int)) (h : Heap) : evCall Try.prog (S23 xs ys (.exit 0) (st23 xs ys (xs.length : Int))) tb 100 AV (.fn 23) (vwArgs Try.prog [] h (parsOf Try.prog 23) [rows xs, rows ys]) (mkHeap [] 0) .off rv =
    bif !((xs.length : Int) == (ys.length : Int)) then some (.bool false) else bif sameSt (st23 xs ys 0) (st23 xs ys 0) then some (.bool true) else none := by kernel_rfl
theorem mat_run2 (xs ys : List (List Int)) (h : Heap) : evCall Try.prog (S23 xs ys .ret (rt23 false)) tb 100 AV (.fn 23) (vwArgs Try.prog [] h (parsOf Try.prog 23) [rows xs, rows ys]) (mkHeap [] 0) .off rv =
    bif !((xs.length : Int) == (ys.length : Int)) then some (.bool false) else bif sameSt (st23 xs ys 0) (st23 xs ys 0) then some (.bool false) else none := by kernel_rfl
theorem count23 : Nat.ble (countL 4 e23.code) 1 = true := by kernel_rfl
theorem norm23 : loopN0 tb 23 4 = some ⟨[0, 1, 4, 5], []⟩ := by kernel_rfl
theorem same_rows {xs ys : List (List Int)} (hm : Fit xs) : F 23 [rows xs, rows ys] (.bool (decide (xs = ys))) := by
  by_cases hl : xs.length = ys.length
  · have hl' : (!((xs.length : Int) == (ys.length : Int))) = false := by simp [hl]
    have hf := loop23 hl hm xs.length 0 rounds (by omega) (rounds_big hm.1)
    by_cases he : xs = ys
    · subst he
      refine .of (knowL_ok tbOk ⟨SR, SR_ok, hf.trans (by rw [if_pos rfl])⟩ ok0 (ep := e23) rfl norm23 count23) rfl fun h => (mat_run1 xs xs h).trans ?_
      rw [hl', sameSt_self]
      simp
    · refine .of (knowL_ok tbOk ⟨SR, SR_ok, hf.trans (by rw [if_neg (by simpa using he)])⟩ ok0 (ep := e23) rfl norm23 count23) rfl fun h => (mat_run2 xs ys h).trans ?_
      rw [hl', sameSt_self]
      simp [he]
  · refine .of (stopAt_ok ok0) rfl fun h => (mat_run xs ys h).trans ?_
    have hl' : (!((xs.length : Int) == (ys.length : Int))) = true := by
      simp only [Bool.not_eq_true', beq_eq_false_iff_ne]
      omega
    have he : xs ≠ ys := fun h => hl (by rw [h])
    rw [hl']
    simp [he]
end Go.Proofs.Ytokighfpmonjdaa
/- Whether frames are not too large (frames of the laws). -/
namespace Go.Proofs.Ytokighfpmonjdaa
open Go.Ev
set_option maxRecDepth 100000
def st13 (l : List (List Int)) (i : Int) : St := ⟨[rows l, .dead, .dead, int64 i] ++ repA .dead 19, mkHeap [] 3, [], .off⟩
def rt13 : St := ⟨[.dead, .dead, .bool false] ++ repA .dead 20, mkHeap [] 3, [], .off⟩
def body13 {A : Type} (l : List (List Int)) (i : Int) (K : Ex → St → Option A) : Option A :=
  bif decide (i < (l.length : Int)) then bif decide (i < 600) then
    guardK (decide (0 ≤ i) && decide (i < (l.length : Int))) (guardK (Nat.blt (i.toNat * 1) (lenA (l.map ints))) (guardK (isFzN (nth (l.map ints) (i.toNat * 1)))
      (bif decide ((fzL (nth (l.map ints) (i.toNat * 1)) : Int) > 12) then K .ret rt13 else K .normal (st13 l (IntKind.i64.wrap (i + 1))))))
  else K (.exit 0) (st13 l i) else K (.exit 0) (st13 l i)
theorem b13 {A : Type} (l : List (List Int)) (i : Int) (K : Ex → St → Option A) : loopB Try.prog orc0 tb 13 2 0 (st13 l i) K = body13 l i K := by kernel_rfl
theorem body13_eq {A : Type} {l : List (List Int)} {i : Nat} (h : i < l.length) (h6 : i < 600) (K : Ex → St → Option A) :
    body13 l (i : Int) K = bif decide (l[i].length > 12) then K .ret rt13 else K .normal (st13 l ((i + 1 : Nat) : Int)) := by
  have h1 : (i : Int) < (l.length : Int) := by omega
  have h2 : (i : Int) < 600 := by omega
  have h3 : (i : Int).toNat * 1 = i := by omega
  have h4 : IntKind.i64.wrap ((i : Int) + 1) = ((i + 1 : Nat) : Int) := by
    rw [IntKind.wrap_i64]
    omega
  have h5 : Nat.blt i l.length = true := Nat.ble_eq_true_of_le h
  have h7 : isFzN (ints l[i]) = true := rfl
  have h8 : fzL (ints l[i]) = l[i].length := rfl
  have h9 : decide ((l[i].length : Int) > 12) = decide (l[i].length > 12) := by
    rw [Bool.eq_iff_iff]
    simp only [decide_eq_true_eq]
    omega
  unfold body13
  simp only [h3, h4, lenA_map, nth_map ints l i h, h7, h8, h9, decide_eq_true h1, decide_eq_true h2, decide_eq_true (Int.natCast_nonneg i), cond_true, guardK, Bool.and_self, h5]
theorem loop13 {l : List (List Int)} : ∀ (d i n : Nat), i + d = min l.length 600 → d < n →
    loopN (loopB Try.prog orc0 tb 13 2 0) n (st13 l (i : Int)) pairE = some (if ∀ x ∈ (l.take 600).drop i, x.length ≤ 12 then (.exit 0, st13 l (min l.length 600 : Nat)) else (.ret, rt13)) := by
  intro d
  induction d with
  | zero =>
    intro i n hi hn
    obtain ⟨n, rfl⟩ : ∃ m, n = m + 1 := ⟨n - 1, by omega⟩
    have hi : i = min l.length 600 := by omega
    have e : (l.take 600).drop i = [] := List.drop_eq_nil_of_le (by rw [List.length_take]; omega)
    rw [loopN_succ, b13, e, if_pos (by simp), ← hi]
    unfold body13
    by_cases h1 : (i : Int) < (l.length : Int)
    · have h2 : ¬ (i : Int) < 600 := by omega
      rw [decide_eq_true h1, decide_eq_false h2]
      rfl
    · rw [decide_eq_false h1]
      rfl
  | succ d ih =>
    intro i n hi hn
    obtain ⟨n, rfl⟩ : ∃ m, n = m + 1 := ⟨n - 1, by omega⟩
    have hx : i < l.length := by omega
    have h6 : i < 600 := by omega
    have ht : i < (l.take 600).length := by rw [List.length_take]; omega
    have eg : (l.take 600)[i] = l[i] := by simp
    rw [loopN_succ, b13, body13_eq hx h6, List.drop_eq_getElem_cons ht, eg]
    by_cases hb : l[i].length > 12
    · rw [decide_eq_true hb, if_neg (by
        intro h
        have := h _ List.mem_cons_self
        omega)]
      rfl
    · have e : (∀ x ∈ l[i] :: (l.take 600).drop (i + 1), x.length ≤ 12) = (∀ x ∈ (l.take 600).drop (i + 1), x.length ≤ 12) := by
        rw [eq_iff_iff]
        simp only [List.mem_cons, forall_eq_or_imp]
        exact ⟨fun h => h.2, fun h => ⟨by omega, h⟩⟩
      rw [decide_eq_false hb]
      simp only [cond_false, e]
      exact ih (i + 1) n (by omega) (by omega)
noncomputable def S13 (l : List (List Int)) (e : Ex) (s : St) : Orc := knowL Try.prog 13 2 ⟨[0, 2, 3], []⟩ 0 (st13 l 0) e s orc0
theorem frames_run1 (l : List (List Int)) (m : Int) (h : Heap) : evCall Try.prog (S13 l (.exit 0) (st13 l m)) tb 100 AV (.fn 13) (vwArgs Try.prog [] h (parsOf Try.prog 13) [rows l]) (mkHeap [] 0) .off rv =
    bif sameSt (st13 l 0) (st13 l 0) then some (.bool (decide ((l.length : Int) ≤ 600))) else none := by kernel_rfl
theorem frames_run2 (l : List (List Int)) (h : Heap) : evCall Try.prog (S13 l .ret rt13) tb 100 AV (.fn 13) (vwArgs Try.prog [] h (parsOf Try.prog 13) [rows l]) (mkHeap [] 0) .off rv =
    bif sameSt (st13 l 0) (st13 l 0) then some (.bool false) else none := by kernel_rfl
theorem count13 : Nat.ble (countL 2 e13.code) 1 = true := by kernel_rfl
theorem norm13 : loopN0 tb 13 2 = some ⟨[0, 2, 3], []⟩ := by kernel_rfl
def Small (l : List (List Int)) : Prop := l.length ≤ 600 ∧ ∀ x ∈ l, x.length ≤ 12
theorem frames_small {l : List (List Int)} (hs : Small l) : F 13 [rows l] (.bool true) := by
  have hf := loop13 (l := l) (min l.length 600) 0 rounds (by omega) (by have : rounds = 100000000000000000000 := rfl; omega)
  have e : ∀ x ∈ (l.take 600).drop 0, x.length ≤ 12 := fun x hx => hs.2 x (List.mem_of_mem_take (by simpa using hx))
  refine .of (knowL_ok tbOk ⟨orc0, ok0, hf.trans (by rw [if_pos e])⟩ ok0 (ep := e13) rfl norm13 count13) rfl fun h => (frames_run1 l _ h).trans ?_
  have : (l.length : Int) ≤ 600 := by have := hs.1; omega
  rw [sameSt_self, decide_eq_true this]
  rfl
theorem frames_large {l : List (List Int)} (hs : ¬ Small l) : F 13 [rows l] (.bool false) := by
  have hf := loop13 (l := l) (min l.length 600) 0 rounds (by omega) (by have : rounds = 100000000000000000000 := rfl; omega)
  by_cases e : ∀ x ∈ (l.take 600).drop 0, x.length ≤ 12
  · refine .of (knowL_ok tbOk ⟨orc0, ok0, hf.trans (by rw [if_pos e])⟩ ok0 (ep := e13) rfl norm13 count13) rfl fun h => (frames_run1 l _ h).trans ?_
    have : ¬ (l.length : Int) ≤ 600 := fun hl => hs ⟨by omega, fun x hx => e x (by
      rw [List.drop_zero, List.take_of_length_le (by omega)]
      exact hx)⟩
    rw [sameSt_self, decide_eq_false this]
    rfl
  · refine .of (knowL_ok tbOk ⟨orc0, ok0, hf.trans (by rw [if_neg e])⟩ ok0 (ep := e13) rfl norm13 count13) rfl fun h => (frames_run2 l h).trans ?_
    rw [sameSt_self]
    rfl
end Go.Proofs.Ytokighfpmonjdaa
/- RingPlays: whether acts are not too large; the document's Counters. -/
namespace Go.Proofs.Ytokighfpmonjdaa
open Go.Ev
set_option maxRecDepth 100000
abbrev Act := Int × Int × List (List Int)
def flatAc : List Act → List AV
  | [] => []
  | t :: l => int64 t.1 :: int64 t.2.1 :: rows t.2.2 :: flatAc l
theorem flatAc_len : ∀ l : List Act, lenA (flatAc l) = l.length * 3
  | [] => rfl
  | t :: l => by
    have := flatAc_len l
    rw [lenA_eq] at this ⊢
    simp only [flatAc, List.length_cons, this]
    omega
theorem flatAc_nth : ∀ (l : List Act) (i : Nat) (h : i < l.length), nth (flatAc l) (i * 3) = int64 l[i].1 ∧ nth (flatAc l) (i * 3 + 1) = int64 l[i].2.1 ∧ nth (flatAc l) (i * 3 + 2) = rows l[i].2.2
  | t :: l, 0, _ => ⟨rfl, rfl, rfl⟩
  | t :: l, i + 1, h => by
    have h' : i < l.length := by simpa using h
    obtain ⟨a, b, c⟩ := flatAc_nth l i h'
    rw [show (i + 1) * 3 = i * 3 + 3 by omega]
    exact ⟨a, b, c⟩
abbrev acV (l : List Act) : AV := .fz (flatAc l) l.length false 3
def G13 (a : List AV) : Prop := ∃ xs, a = [rows xs]
noncomputable def V13 (a : List AV) : AV := .bool (isSo (Small (rowsOf (nth a 0))))
noncomputable def O13 (S : Orc) : Orc := knowW 13 (fun a => isSo (G13 a)) V13 S
theorem when13 (a : List AV) (h : isSo (G13 a) = true) : F 13 a (V13 a) := by
  obtain ⟨xs, rfl⟩ := isSo_iff.1 h
  have e : V13 [rows xs] = .bool (isSo (Small xs)) := by
    unfold V13
    show AV.bool (isSo (Small (rowsOf (rows xs)))) = _
    rw [rowsOf_rows]
  rw [e]
  by_cases hs : Small xs
  · rw [isSo_true hs]; exact frames_small hs
  · rw [show isSo (Small xs) = false from by cases h : isSo (Small xs) with | false => rfl | true => exact absurd (isSo_iff.1 h) hs]; exact frames_large hs
theorem O13_ok {S : Orc} (h : Ok S) : Ok (O13 S) := knowW_ok tbOk when13 h
def st27 (l : List Act) (n i : Int) : St := ⟨[acV l, .dead, .dead, int64 n, int64 i] ++ repA .dead 32, mkHeap [] 4, [], .off⟩
def rt27 : St := ⟨[.dead, .dead, .bool false, .dead, .dead] ++ repA .dead 32, mkHeap [] 4, [], .off⟩
abbrev frAt (l : List Act) (i : Int) : AV := nth (flatAc l) (i.toNat * 3 + 2)
def fldA {A : Type} (l : List Act) (i : Int) (x : Option A) : Option A := guardK (decide (0 ≤ i) && decide (i < (l.length : Int))) <| guardK (Nat.blt (i.toNat * 3 + 2) (lenA (flatAc l))) <| guardK (isFzN (frAt l i)) x
abbrev rowA (x : AV) : AV := .fz (fzC x) (fzL x) (fzE x) (fzS x)
theorem b27 {A : Type} (l : List Act) (n i : Int) (K : Ex → St → Option A) : loopB Try.prog (O13 orc0) tb 27 3 0 (st27 l n i) K = (bif decide (i < (l.length : Int)) then bif decide (i < 100) then fldA l i <| bif isSo (G13 [rowA (frAt l i)]) then bif !(isSo (Small (rowsOf (nth [rowA (frAt l i)] 0)))) then K .ret rt27 else fldA l i <| K .normal (st27 l (w64 (n + (fzL (frAt l i) : Int))) (w64 (i + 1))) else none else K (.exit 0) (st27 l n i) else K (.exit 0) (st27 l n i)) := by kernel_rfl
def N27 : Norm := ⟨[0, 2, 3, 4], []⟩
theorem norm27 : loopN0 tb 27 3 = some N27 := by kernel_rfl
theorem count27 : Nat.ble (countL 3 e27.code) 1 = true := by kernel_rfl
theorem run27 (l : List Act) (n i : Int) (h : Heap) : evCall Try.prog (knowL Try.prog 27 3 N27 0 (st27 l 0 0) (.exit 0) (st27 l n i) orc0) tb 100 AV (.fn 27) (vwArgs Try.prog [] h (parsOf Try.prog 27) [acV l]) (mkHeap [] 0) .off rv = bif sameSt (st27 l 0 0) (st27 l 0 0) then bif decide ((l.length : Int) ≤ 100) then some (.bool (decide (n ≤ 600))) else some (.bool false) else none := by kernel_rfl
theorem run27_ret (l : List Act) (h : Heap) : evCall Try.prog (knowL Try.prog 27 3 N27 0 (st27 l 0 0) .ret rt27 orc0) tb 100 AV (.fn 27) (vwArgs Try.prog [] h (parsOf Try.prog 27) [acV l]) (mkHeap [] 0) .off rv = bif sameSt (st27 l 0 0) (st27 l 0 0) then some (.bool false) else none := by kernel_rfl
theorem fldA_eq {A : Type} {l : List Act} {i : Nat} (h : i < l.length) (x : Option A) : fldA l (i : Int) x = x := by
  obtain ⟨a, b, c⟩ := flatAc_nth l i h
  have hF : isFzN (rows l[i].2.2) = true := rfl
  unfold fldA frAt
  rw [show (i : Int).toNat = i by omega, c, hF, flatAc_len, show Nat.blt (i * 3 + 2) (l.length * 3) = true from Nat.ble_eq_true_of_le (by omega), decide_eq_true (Int.natCast_nonneg i), decide_eq_true (by omega : (i : Int) < (l.length : Int))]
  rfl
theorem loop27 {l : List Act} : ∀ (d i Q : Nat) (n : Int), i + d = min l.length 100 → d < Q → ∃ r, loopN (loopB Try.prog (O13 orc0) tb 27 3 0) Q (st27 l n (i : Int)) pairE = some r ∧ (r = (.ret, rt27) ∨ (∃ n', r = (.exit 0, st27 l n' ((min l.length 100 : Nat) : Int))) ∧ ∀ x ∈ (l.take 100).drop i, Small x.2.2) := by
  intro d
  induction d with
  | zero =>
    intro i Q n hi hQ
    obtain ⟨Q, rfl⟩ : ∃ q, Q = q + 1 := ⟨Q - 1, by omega⟩
    have hi' : i = min l.length 100 := by omega
    have e : (l.take 100).drop i = [] := List.drop_eq_nil_of_le (by rw [List.length_take]; omega)
    refine ⟨_, ?_, Or.inr ⟨⟨n, rfl⟩, by rw [e]; simp⟩⟩
    rw [loopN_succ, b27, ← hi']
    by_cases h1 : (i : Int) < (l.length : Int)
    · rw [decide_eq_true h1, decide_eq_false (by omega : ¬ (i : Int) < 100)]; rfl
    · rw [decide_eq_false h1]; rfl
  | succ d ih =>
    intro i Q n hi hQ
    obtain ⟨Q, rfl⟩ : ∃ q, Q = q + 1 := ⟨Q - 1, by omega⟩
    have h : i < l.length := by omega
    have ht : i < (l.take 100).length := by rw [List.length_take]; omega
    have eg : (l.take 100)[i] = l[i] := by simp
    have ew : w64 ((i : Int) + 1) = ((i + 1 : Nat) : Int) := by unfold w64; rw [IntKind.wrap_i64]; omega
    obtain ⟨-, -, c⟩ := flatAc_nth l i h
    have ef : frAt l (i : Int) = rows l[i].2.2 := by
      show nth (flatAc l) ((i : Int).toNat * 3 + 2) = _
      rw [show (i : Int).toNat = i by omega, c]
    have eR : rowA (rows l[i].2.2) = rows l[i].2.2 := rfl
    have eN : rowsOf (nth [rows l[i].2.2] 0) = l[i].2.2 := rowsOf_rows _
    rw [loopN_succ, b27, fldA_eq h, fldA_eq h, ef, eR, isSo_true ⟨_, rfl⟩, eN, decide_eq_true (by omega : (i : Int) < (l.length : Int)), decide_eq_true (by omega : (i : Int) < 100), ew, List.drop_eq_getElem_cons ht, eg]
    by_cases hs : Small l[i].2.2
    · rw [isSo_true hs]
      obtain ⟨r, h1, h2⟩ := ih (i + 1) Q _ (by omega) (by omega)
      refine ⟨r, h1, ?_⟩
      rcases h2 with h2 | ⟨h2, h3⟩
      · exact Or.inl h2
      · refine Or.inr ⟨h2, fun x hx => ?_⟩
        rcases List.mem_cons.1 hx with rfl | hx
        · exact hs
        · exact h3 x hx
    · rw [show isSo (Small l[i].2.2) = false from by cases h : isSo (Small l[i].2.2) with | false => rfl | true => exact absurd (isSo_iff.1 h) hs]
      exact ⟨_, rfl, Or.inl rfl⟩
theorem acts_fact (l : List Act) : ∃ b, F 27 [acV l] (.bool b) ∧ (b = true → l.length ≤ 100 ∧ ∀ x ∈ l, Small x.2.2) := by
  have hr : rounds = 100000000000000000000 := rfl
  obtain ⟨r, h1, h2⟩ := loop27 (l := l) (min l.length 100) 0 rounds 0 (by omega) (by omega)
  rcases h2 with rfl | ⟨⟨n, rfl⟩, h2⟩
  · exact ⟨false, .of (knowL_ok tbOk ⟨_, O13_ok ok0, h1⟩ ok0 (ep := e27) rfl norm27 count27) rfl fun h => (run27_ret l h).trans (by rw [sameSt_self]; rfl), by simp⟩
  · by_cases hl : l.length ≤ 100
    · refine ⟨decide (n ≤ 600), .of (knowL_ok tbOk ⟨_, O13_ok ok0, h1⟩ ok0 (ep := e27) rfl norm27 count27) rfl fun h => (run27 l n _ h).trans (by rw [sameSt_self, decide_eq_true (by omega : (l.length : Int) ≤ 100)]; rfl), fun _ => ⟨hl, fun x hx => h2 x ?_⟩⟩
      rw [List.drop_zero, List.take_of_length_le hl]
      exact hx
    · exact ⟨false, .of (knowL_ok tbOk ⟨_, O13_ok ok0, h1⟩ ok0 (ep := e27) rfl norm27 count27) rfl fun h => (run27 l n _ h).trans (by rw [sameSt_self, decide_eq_false (by omega : ¬ (l.length : Int) ≤ 100)]; rfl), by simp⟩
end Go.Proofs.Ytokighfpmonjdaa
/- ring.Play: a round of its loop. -/
namespace Go.Proofs.Ytokighfpmonjdaa
open Go.Ev
set_option maxRecDepth 100000
abbrev Lst := Option (Nat × List AV)
def lvP (b : Nat) : Lst → AV
  | none => .sl none 0 0 true 0
  | some (m, _) => .gr (b, 0) (m + 1) 1
def blP (b : Nat) : Lst → List (Nat × Blk)
  | none => []
  | some (_, cs) => [(b, .cells true cs)]
abbrev stp (zs : List AV) (M : Nat) : AV := .fz zs M false 3
abbrev fnsB : Blk := .cells true [.fn 70 [] [], .fn 71 [] [], .fn 72 [] [], .fn 73 [] [], .fn 74 [] [], .fn 75 [] [], .fn 76 [] [], .fn 77 [] []]
def stP (ch : Int) (zs : List AV) (M : Nat) (i : Int) (g : Rg) (N : Nat) (L : List AV) (lc : List AV) (ln : Nat) (p q o : Lst) : St := ⟨repA .dead 14 ++ [.ptr (some (2, 0)), .ptr (some (15, 0)), .ptr (some (16, 0))] ++ repA .dead 39 ++ [stp zs M, int64 (M : Int), int64 i] ++ repA .dead 31,
  mkHeap (blP 28 o ++ blP 27 q ++ blP 26 p ++ [(16, fnsB), (15, .cells true [.ptr (some (2, 0)), .fz lc ln false 1, lvP 26 p, lvP 27 q, lvP 28 o]), (3, .cells true L), (2, .cells true (cellsG g (.gr (3, 0) N 1))), (1, .cells true [.ptr (some (0, 0))]), (0, .cells true (cellsG ⟨ch, 0, 0, false, 0, 0, 0, 0, false, 0, 0⟩ (.sl none 0 0 true 0)))]) 29, [], .off⟩
def turn {A : Type} (zs : List AV) (N : Nat) (i : Int) (f : Int → Int → Int → Option A) : Option A :=
  guardK (decide (0 ≤ i) && decide (i < (N : Int))) <| guardK (Nat.ble (i.toNat * 3 + 3) (lenA zs)) <|
  guardK (isIntK .i64 (nth zs (i.toNat * 3)) && (isIntK .i64 (nth zs (i.toNat * 3 + 1)) && (isIntK .i64 (nth zs (i.toNat * 3 + 1 + 1)) && true))) <|
  f (intOf (nth zs (i.toNat * 3))) (intOf (nth zs (i.toNat * 3 + 1))) (intOf (nth zs (i.toNat * 3 + 1 + 1)))
def body {A : Type} (zs : List AV) (M : Nat) (i : Int) (t00 t01 t02 t03 t10 t11 t12 t13 : Int → Option A) (ex : Option A) : Option A :=
  bif decide (i < (M : Int)) then turn zs M i fun w k n =>
    guardK (decide (0 ≤ w) && decide (w < 2)) <| bif w == 0 then
      guardK (decide (0 ≤ k) && decide (k < 4)) <| bif k == 0 then t00 n else bif k == 1 then t01 n else bif k == 2 then t02 n else bif k == 3 then t03 n else none
    else bif w == 1 then guardK (decide (0 ≤ k) && decide (k < 4)) <| bif k == 0 then t10 n else bif k == 1 then t11 n else bif k == 2 then t12 n else bif k == 3 then t13 n else none else none
  else ex
abbrev flP : Flat := ⟨[3, 26, 27, 28], [], []⟩
abbrev rowF (x : AV) : AV := .fz (fzC x) (fzL x) (fzE x) (fzS x)
def rowG {A : Type} (lc : List AV) (ln : Nat) (k : Int) (x : Option A) : Option A := guardK (decide (0 ≤ k) && decide (k < (ln : Int))) <| guardK (Nat.blt (k.toNat * 1) (lenA lc)) <| guardK (isFzN (nth lc (k.toNat * 1))) x
noncomputable abbrev a18 (n : Int) (x : AV) : List AV := vwArgs Try.prog [(3, 1), (2, 0)] none0 (parsOf Try.prog 18) [.ptr (some (2, 0)), int64 n, rowF x]
def lenL : Lst → Nat
  | none => 0
  | some (m, _) => m + 1
def alO : Lst → Bool → Bool
  | none, x => x
  | some (_, cs), x => allS cs && x
abbrev alP (p q o : Lst) (L : List AV) : Bool := alO o (alO q (alO p (allS L && true)))
def pushP {A : Type} (v : AV) (f : Lst → Option A) : Lst → Option A
  | none => f (some (0, [v]))
  | some (m, cs) => guardK (Nat.ble ((m + 1 + 1) * 24) limit && Nat.ble (m + 1 + 1) limit) <| guardK (Nat.ble (0 + (m + 1) * 1) (lenA cs)) <| f (some (m + 1, appA (takeA (dropA cs 0) ((m + 1) * 1)) [v]))
def catP {A : Type} (f : Lst → Option A) : Lst → Lst → Option A
  | none, none => f none
  | some (k, os), none => guardK (Nat.ble ((k + 1 + 0) * 24) limit && Nat.ble (k + 1 + 0) limit) <| f (some (k, os))
  | none, some (m, qs) => guardK (Nat.ble (0 + (m + 1) * 1) (lenA qs)) <| guardK (Nat.ble ((0 + (m + 1)) * 24) limit && Nat.ble (0 + (m + 1)) limit) <| f (some (m, takeA (dropA qs 0) ((m + 1) * 1)))
  | some (k, os), some (m, qs) => guardK (Nat.ble (0 + (m + 1) * 1) (lenA qs)) <| guardK (Nat.ble ((k + 1 + (m + 1)) * 24) limit && Nat.ble (k + 1 + (m + 1)) limit) <| guardK (Nat.ble (0 + (k + 1) * 1) (lenA os)) <| guardK (flatL (takeA (dropA qs 0) ((m + 1) * 1))) <|
      f (some (k + 1 + m, appA (takeA (dropA os 0) ((k + 1) * 1)) (takeA (dropA qs 0) ((m + 1) * 1))))
section
variable {A : Type} (ch : Int) (zs : List AV) (M : Nat) (i : Int) (g : Rg) (N : Nat) (fs : List (List Int)) (lc : List AV) (ln : Nat) (p q o : Lst) (K : Ex → St → Option A)
noncomputable def toP (g' : Rg) (fs' : List (List Int)) (lc' : List AV) (ln' : Nat) (p' q' o' : Lst) : Option A := guardK (alP p' q' o' (rowsL fs')) <| K .normal (stP ch zs M (w64 (i + 1)) g' N (rowsL fs') lc' ln' p' q' o')
noncomputable abbrev obP : List (Nat × Blk) := objG g N (rowsL fs)
noncomputable def flG (x : Option A) : Option A := guardK (allS (rowsL fs) && true && true) x
noncomputable def seeP (_ : Int) : Option A := flG fs <| bif isSo (G16 [pG] (obP g N fs)) then toP ch zs M i N K (seeG g) (fsOf (obP g N fs)) lc ln p q o else none
noncomputable def lookP (_ : Int) : Option A := flG fs <| bif isSo (G21 [pG] (obP g N fs)) then toP ch zs M i N K (lookG g) (fsOf (obP g N fs)) lc ln p q o else none
noncomputable def takeP (n : Int) : Option A := flG fs <| bif isSo (G22 [pG, int64 n] (obP g N fs)) then toP ch zs M i N K (takeS g n).1 (fsOf (obP g N fs)) lc ln p q o else none
noncomputable def claimP (n : Int) : Option A := flG fs <| bif isSo (G17 [pG, int64 (minI n (ln : Int))] (obP g N fs)) then toP ch zs M i N K (claimS N g (minI n (ln : Int))).1 (fsOf (obP g N fs)) lc ln p q o else none
noncomputable def commP (_ : Int) : Option A := bif g.wop then flG fs <| bif isSo (G19 [pG, int64 (lenL p : Int)] (obP g N fs)) then
    guardK (decide (0 ≤ (lenL p : Int))) <| guardK (Nat.ble ln ln) <| guardK (Nat.ble (lenL p) ln) <| toP ch zs M i N K (commS g (lenL p : Int)).1 (fsOf (obP g N fs)) (takeA (dropA lc (lenL p * 1)) ((ln - lenL p) * 1)) (ln - lenL p) none q o else none
  else toP ch zs M i N K g fs lc ln p q o
noncomputable def finP (_ : Int) : Option A := bif g.rop then flG fs <| bif isSo (G26 [pG, int64 (lenL q : Int)] (obP g N fs)) then
    catP (fun o' => toP ch zs M i N K (doneS g (lenL q : Int)).1 (fsOf (obP g N fs)) lc ln p none o') o q else none
  else toP ch zs M i N K g fs lc ln p q o
noncomputable def getP (_ : Int) : Option A := flG fs <| bif isSo (G24 [pG, int64 (lenL q : Int)] (obP g N fs)) then
    bif wErr g.rop g.rc (lenL q : Int) == 0 then pushP (ints (getL g (lenL q : Int) (fsOf (obP g N fs)))) (fun q' => toP ch zs M i N K g (fsOf (obP g N fs)) lc ln p q' o) q else toP ch zs M i N K g (fsOf (obP g N fs)) lc ln p q o
  else none
noncomputable abbrev aP : List AV := a18 (lenL p : Int) (nth lc ((minI (lenL p : Int) (w64 ((ln : Int) - 1))).toNat * 1))
noncomputable abbrev eP : Int := putE g (intOf (nth (aP lc ln p) 1)) (rowOf (nth (aP lc ln p) 2))
noncomputable abbrev lP : List (List Int) := putL g (intOf (nth (aP lc ln p) 1)) (rowOf (nth (aP lc ln p) 2)) (fsOf (obP g N fs))
noncomputable def putP (_ : Int) : Option A := bif decide ((ln : Int) > (lenL p : Int)) then rowG lc ln (minI (lenL p : Int) (w64 ((ln : Int) - 1))) <| flG fs <| bif isSo (G18 (aP lc ln p) (obP g N fs)) then
    bif eP g lc ln p == 0 then rowG lc ln (lenL p : Int) <| pushP (rowF (nth lc ((lenL p : Int).toNat * 1))) (fun p' => toP ch zs M i N K g (lP g N fs lc ln p) lc ln p' q o) p else toP ch zs M i N K g (lP g N fs lc ln p) lc ln p q o
  else none else toP ch zs M i N K g fs lc ln p q o
noncomputable def bodyP : Option A := body zs M i (seeP ch zs M i g N fs lc ln p q o K) (claimP ch zs M i g N fs lc ln p q o K) (putP ch zs M i g N fs lc ln p q o K) (commP ch zs M i g N fs lc ln p q o K)
  (lookP ch zs M i g N fs lc ln p q o K) (takeP ch zs M i g N fs lc ln p q o K) (getP ch zs M i g N fs lc ln p q o K) (finP ch zs M i g N fs lc ln p q o K) (guardK (alP p q o (rowsL fs)) <| K (.exit 1) (stP ch zs M i g N (rowsL fs) lc ln p q o))
noncomputable abbrev B12 (st : St) (K : Ex → St → Option A) : Option A := loopBG Try.prog (OG orc0) tb 32 12 flP 17 st K
end
end Go.Proofs.Ytokighfpmonjdaa
/- ring.Play: its run. -/
namespace Go.Proofs.Ytokighfpmonjdaa
open Go.Ev
set_option maxRecDepth 100000
abbrev shapeB (ch : Int) : Blk := .cells true (cellsG ⟨ch, 0, 0, false, 0, 0, 0, 0, false, 0, 0⟩ (.sl none 0 0 true 0))
abbrev hpP (ch : Int) (g : Rg) (N : Nat) (L : List AV) : List (Nat × Blk) := [(3, .cells true L), (2, .cells true (cellsG g (.gr (3, 0) N 1))), (1, .cells true [.ptr (some (0, 0))]), (0, shapeB ch)]
abbrev hpN (ch : Int) : List (Nat × Blk) := [(1, .cells true [.ptr (some (0, 0))]), (0, shapeB ch)]
def st79 (ch : Int) (g : Rg) (N : Nat) (L : List AV) (xs : List (List Int)) (i : Int) : St := ⟨[rows xs, .fn 67 [] [.ptr (some (1, 0))], .dead, .dead, .dead, .dead, .dead, int64 (xs.length : Int), int64 i] ++ repA .dead 10, mkHeap (hpP ch g N L) 10, [], .off⟩
def rt79 (ch : Int) (g : Rg) (N : Nat) (L : List AV) (i : Int) : St := ⟨[.dead, .dead, .dead, .dead, int64 i] ++ repA .dead 14, mkHeap (hpP ch g N L) 9, [], .off⟩
abbrev rwA (xs : List (List Int)) (i : Int) : AV := nth (xs.map ints) (i.toNat * 1)
def st88 (ch : Int) (g : Rg) (N : Nat) (L : List AV) (zs : List AV) (M : Nat) (i : Int) : St := ⟨[stp zs M, .fn 69 [] [], .dead, .dead, .dead, .dead, .dead, int64 (M : Int), int64 i] ++ repA .dead 10, mkHeap (hpP ch g N L) 15, [], .off⟩
def rt88 (ch : Int) (g : Rg) (N : Nat) (L : List AV) (i : Int) : St := ⟨[.dead, .dead, .dead, .dead, int64 i] ++ repA .dead 14, mkHeap (hpP ch g N L) 15, [], .off⟩
def sn79 (ch : Int) (xs : List (List Int)) (i : Int) : St := ⟨[rows xs, .fn 67 [] [.ptr (some (1, 0))], .dead, .dead, .dead, .dead, .dead, int64 (xs.length : Int), int64 i] ++ repA .dead 10, mkHeap (hpN ch) 10, [], .off⟩
def rn79 (ch : Int) (i : Int) : St := ⟨[.dead, .dead, .dead, .dead, int64 i] ++ repA .dead 14, mkHeap (hpN ch) 9, [], .off⟩
def N79 : Norm := ⟨[0, 1, 4, 7, 8], []⟩
theorem norm79 : loopN0 tb 79 2 = some N79 := by kernel_rfl
def N12 : Norm := ⟨[10, 11, 12, 14, 15, 16, 56, 57, 58], [(15, [2, 3, 4])]⟩
abbrev arg32 (n ch first : Int) (xs : List (List Int)) (zs : List AV) (M : Nat) : List AV := [int64 n, int64 ch, int64 first, rows xs, stp zs M]
noncomputable abbrev run32 (S : Orc) (n ch first : Int) (xs : List (List Int)) (zs : List AV) (M : Nat) : Option AV := evCall Try.prog S tb 100 AV (.fn 32) (arg32 n ch first xs zs M) (mkHeap [] 0) .off (viewK Try.prog (resOf Try.prog 32))
noncomputable def SNo (n ch first : Int) (S : Orc) : Orc := knowO Try.prog scNg 14 0 [] [8] [int64 n, int64 ch, int64 first] [] (.tup [.ptr none, int64 7]) [] [(none, tyPt Try.prog 30), (none, none)] S
noncomputable def SYes (n ch first : Int) (N : Nat) (L : List AV) (S : Orc) : Orc := knowO Try.prog scNg 14 0 [] [8] [int64 n, int64 ch, int64 first] [] (.tup [.ptr (some (0, 0)), int64 0]) [(0, .cells true (cellsG (g0 ch first) (.gr (8, 0) N 1))), (8, .cells true L)] psNg S
def res32 (xs : List (List Int)) (k e : Int) : AV := .tup [rows xs, int64 k, int64 e]
abbrev cd (n ch first : Int) : Prop := [int64 n, int64 ch, int64 first] = [int64 n, int64 ch, int64 first] ∧ ([] : List (Nat × Blk)) = []
theorem count79 : Nat.ble (countL 2 e79.code) 1 = true := by kernel_rfl
def outP (k : Int) : Lst → Option AV
  | none => some (res32 [] k 0)
  | some (m, os) => bif sameV (.gr (28, 0) (m + 1) 1) (.gr (28, 0) (m + 1) 1) then guardK (allS (dropA os 0) && true) <| some (.tup [.fz (fixLen ((m + 1) * 1) (dropA os 0)) (m + 1) false 1, int64 k, int64 0]) else none
end Go.Proofs.Ytokighfpmonjdaa
/- ring.Play: what a turn does. -/
namespace Go.Proofs.Ytokighfpmonjdaa
open Go.Ev
set_option maxRecDepth 100000
/-! ### Turns -/
abbrev Tn := Int × Int × Int
def flatS : List Tn → List AV
  | [] => []
  | t :: l => int64 t.1 :: int64 t.2.1 :: int64 t.2.2 :: flatS l
theorem flatS_len : ∀ l : List Tn, lenA (flatS l) = l.length * 3
  | [] => rfl
  | t :: l => by
    have := flatS_len l
    rw [lenA_eq] at this ⊢
    simp only [flatS, List.length_cons, this]
    omega
theorem flatS_nth : ∀ (l : List Tn) (i : Nat) (h : i < l.length), nth (flatS l) (i * 3) = int64 l[i].1 ∧ nth (flatS l) (i * 3 + 1) = int64 l[i].2.1 ∧ nth (flatS l) (i * 3 + 1 + 1) = int64 l[i].2.2
  | t :: l, 0, _ => ⟨rfl, rfl, rfl⟩
  | t :: l, i + 1, h => by
    have h' : i < l.length := by simpa using h
    obtain ⟨a, b, c⟩ := flatS_nth l i h'
    rw [show (i + 1) * 3 = i * 3 + 3 by omega]
    exact ⟨a, b, c⟩
/-! ### What Play holds -/
structure Pl where
  g : Rg
  fs : List (List Int)
  left : List (List Int)
  put : List (List Int)
  got : List (List Int)
  out : List (List Int)
def lst : List (List Int) → Lst
  | [] => none
  | x :: l => some (l.length, rowsL (x :: l))
theorem lenL_lst (l : List (List Int)) : lenL (lst l) = l.length := by cases l <;> rfl
theorem alO_lst (l : List (List Int)) (x : Bool) : alO (lst l) x = x := by
  cases l with
  | nil => rfl
  | cons a l =>
    show (allS (rowsL (a :: l)) && x) = x
    rw [allS_rows]
    rfl
def soP (ch : Int) (S : List Tn) (i : Nat) (P : Pl) : St := stP ch (flatS S) S.length (i : Int) P.g P.fs.length (rowsL P.fs) (rowsL P.left) P.left.length (lst P.put) (lst P.got) (lst P.out)
def stepP (P : Pl) (t : Tn) : Pl :=
  if t.1 = 0 then
    if t.2.1 = 0 then { P with g := seeG P.g }
    else if t.2.1 = 1 then { P with g := (claimS P.fs.length P.g (minI t.2.2 P.left.length)).1 }
    else if t.2.1 = 2 then
      if P.left.length > P.put.length then
        let f := P.left.getD P.put.length []
        let fs' := putL P.g P.put.length f P.fs
        if putE P.g P.put.length f = 0 then { P with fs := fs', put := P.put ++ [f] } else { P with fs := fs' }
      else P
    else if P.g.wop = true then { P with g := (commS P.g P.put.length).1, left := P.left.drop P.put.length, put := [] } else P
  else
    if t.2.1 = 0 then { P with g := lookG P.g }
    else if t.2.1 = 1 then { P with g := (takeS P.g t.2.2).1 }
    else if t.2.1 = 2 then if wErr P.g.rop P.g.rc P.got.length = 0 then { P with got := P.got ++ [getL P.g P.got.length P.fs] } else P
    else if P.g.rop = true then { P with g := (doneS P.g P.got.length).1, out := P.out ++ P.got, got := [] } else P
structure PlOk (P : Pl) : Prop where
  g : RgOk P.g P.fs
  left : ∀ f ∈ P.left, (f.length : Int) = P.g.ch
  ln : P.left.length ≤ 2000
  put : P.put.length ≤ P.left.length
  got : P.got.length ≤ 100000
  out : P.out.length ≤ 1000000
section
variable {A : Type}
theorem toP_eq (ch : Int) (S : List Tn) (i : Nat) (hi : i ≤ 1000000) (K : Ex → St → Option A) (g' : Rg) (fs' left' p' q' o' : List (List Int)) (N : Nat) (hN : N = fs'.length) (lc : List AV) (hlc : lc = rowsL left') (ln : Nat) (hln : ln = left'.length) :
    toP ch (flatS S) S.length (i : Int) N K g' fs' lc ln (lst p') (lst q') (lst o') = K .normal (soP ch S (i + 1) ⟨g', fs', left', p', q', o'⟩) := by
  subst hN hlc hln
  have e : alP (lst p') (lst q') (lst o') (rowsL fs') = true := by
    show alO (lst o') (alO (lst q') (alO (lst p') (allS (rowsL fs') && true))) = true
    rw [alO_lst, alO_lst, alO_lst, allS_rows]
    rfl
  unfold toP soP
  rw [e, show w64 ((i : Int) + 1) = ((i + 1 : Nat) : Int) from by unfold w64; rw [IntKind.wrap_i64]; omega]
  rfl
theorem flG_eq (fs : List (List Int)) (x : Option A) : flG fs x = x := by
  unfold flG
  rw [allS_rows]
  rfl
theorem lst_snoc (l : List (List Int)) (v : List Int) (hl : l.length ≤ 2000000) (f : Lst → Option A) : pushP (ints v) f (lst l) = f (lst (l ++ [v])) := by
  cases l with
  | nil => rfl
  | cons a l =>
    have hlim : limit = 140737488355328 := rfl
    have hl' : l.length + 1 ≤ 2000000 := by simpa using hl
    have e1 : (Nat.ble ((l.length + 1 + 1) * 24) limit && Nat.ble (l.length + 1 + 1) limit) = true := by
      rw [Bool.and_eq_true]
      exact ⟨Nat.ble_eq_true_of_le (by omega), Nat.ble_eq_true_of_le (by omega)⟩
    have e2 : Nat.ble (0 + (l.length + 1) * 1) (lenA (rowsL (a :: l))) = true := by
      rw [lenM]
      exact Nat.ble_eq_true_of_le (by simp)
    have e3 : appA (takeA (dropA (rowsL (a :: l)) 0) ((l.length + 1) * 1)) [ints v] = rowsL (a :: (l ++ [v])) := by
      have := csR_eq (v := ints v) (l := a :: l) (m := l.length) rfl
      rw [this]
      show (a :: l).map ints ++ [ints v] = ((a :: l) ++ [v]).map ints
      rw [List.map_append]
      rfl
    show guardK _ (guardK _ (f _)) = _
    rw [e1, e2, e3]
    show f (some (l.length + 1, rowsL (a :: (l ++ [v])))) = f (some ((l ++ [v]).length, rowsL (a :: (l ++ [v]))))
    rw [List.length_append]
    rfl
theorem rows_full (l : List (List Int)) (n : Nat) (h : l.length = n) : takeA (dropA (rowsL l) 0) (n * 1) = rowsL l := by
  rw [takeA_eq, dropA_eq, List.drop_zero, Nat.mul_one, List.take_of_length_le (by simp [h])]
theorem flatL_rows : ∀ l : List (List Int), flatL (rowsL l) = true
  | [] => rfl
  | x :: l => by
    have := flatL_rows l
    show (_ && flatL (rowsL l)) = true
    rw [this]
    rfl
theorem lst_cat (o q : List (List Int)) (ho : o.length ≤ 1000000) (hq : q.length ≤ 1000000) (f : Lst → Option A) : catP f (lst o) (lst q) = f (lst (o ++ q)) := by
  have hlim : limit = 140737488355328 := rfl
  cases q with
  | nil =>
    rw [List.append_nil]
    cases o with
    | nil => rfl
    | cons a o =>
      have ho' : o.length + 1 ≤ 1000000 := by simpa using ho
      have e1 : (Nat.ble ((o.length + 1 + 0) * 24) limit && Nat.ble (o.length + 1 + 0) limit) = true := by
        rw [Bool.and_eq_true]
        exact ⟨Nat.ble_eq_true_of_le (by omega), Nat.ble_eq_true_of_le (by omega)⟩
      show guardK _ _ = _
      rw [e1]
      rfl
  | cons b q =>
    have hq' : q.length + 1 ≤ 1000000 := by simpa using hq
    have s1 : Nat.ble (0 + (q.length + 1) * 1) (lenA (rowsL (b :: q))) = true := by
      rw [lenM]
      exact Nat.ble_eq_true_of_le (by simp)
    have s2 : takeA (dropA (rowsL (b :: q)) 0) ((q.length + 1) * 1) = rowsL (b :: q) := rows_full (b :: q) _ rfl
    cases o with
    | nil =>
      have e1 : (Nat.ble ((0 + (q.length + 1)) * 24) limit && Nat.ble (0 + (q.length + 1)) limit) = true := by
        rw [Bool.and_eq_true]
        exact ⟨Nat.ble_eq_true_of_le (by omega), Nat.ble_eq_true_of_le (by omega)⟩
      show guardK _ (guardK _ (f _)) = _
      rw [s1, e1, s2]
      rfl
    | cons a o =>
      have ho' : o.length + 1 ≤ 1000000 := by simpa using ho
      have e1 : (Nat.ble ((o.length + 1 + (q.length + 1)) * 24) limit && Nat.ble (o.length + 1 + (q.length + 1)) limit) = true := by
        rw [Bool.and_eq_true]
        exact ⟨Nat.ble_eq_true_of_le (by omega), Nat.ble_eq_true_of_le (by omega)⟩
      have s3 : Nat.ble (0 + (o.length + 1) * 1) (lenA (rowsL (a :: o))) = true := by
        rw [lenM]
        exact Nat.ble_eq_true_of_le (by simp)
      have s4 : takeA (dropA (rowsL (a :: o)) 0) ((o.length + 1) * 1) = rowsL (a :: o) := rows_full (a :: o) _ rfl
      have s5 : appA (rowsL (a :: o)) (rowsL (b :: q)) = rowsL (a :: (o ++ b :: q)) := by
        rw [appA_eq]
        show (a :: o).map ints ++ (b :: q).map ints = ((a :: o) ++ (b :: q)).map ints
        rw [List.map_append]
      show guardK _ (guardK _ (guardK _ (guardK _ (f _)))) = _
      rw [s1, e1, s3, s2, flatL_rows, s4, s5]
      show f (some (o.length + 1 + q.length, rowsL (a :: (o ++ b :: q)))) = f (some ((o ++ b :: q).length, rowsL (a :: (o ++ b :: q))))
      rw [List.length_append, List.length_cons]
      congr 3
      omega
end
end Go.Proofs.Ytokighfpmonjdaa
/- ring.Play: its loop. -/
namespace Go.Proofs.Ytokighfpmonjdaa
open Go.Ev
set_option maxRecDepth 100000
theorem a18_eq (n : Int) (f : List Int) : a18 n (ints f) = [pG, int64 n, ints f] := by kernel_rfl
section
variable {A : Type} {ch : Int} {S : List Tn} {i : Nat} {P : Pl}
theorem rowG_eq {fs : List (List Int)} {k : Nat} (h : k < fs.length) (x : Option A) : rowG (rowsL fs) fs.length (k : Int) x = x := by
  have hF : isFzN (ints fs[k]) = true := rfl
  unfold rowG
  rw [show (k : Int).toNat * 1 = k by omega, nthM ints fs k h, hF, lenM, show Nat.blt k fs.length = true from Nat.ble_eq_true_of_le h, decide_eq_true (Int.natCast_nonneg k), decide_eq_true (by omega : (k : Int) < (fs.length : Int))]
  rfl
end
end Go.Proofs.Ytokighfpmonjdaa
