/- ring.Play: its run. -/
import Derived.Test.YtokighfpmonjdaaJ20
namespace Go.Proofs.Ytokighfpmonjdaa
open Go.Ev
set_option maxRecDepth 100000
abbrev shapeB (ch : Int) : Blk := .cells true (cellsG ⟨ch, 0, 0, false, 0, 0, 0, 0, false, 0, 0⟩ (.sl none 0 0 true 0))
abbrev hpP (ch : Int) (g : Rg) (N : Nat) (L : List AV) : List (Nat × Blk) := [(3, .cells true L), (2, .cells true (cellsG g (.gr (3, 0) N 1))), (1, .cells true [.ptr (some (0, 0))]), (0, shapeB ch)]
abbrev hpN (ch : Int) : List (Nat × Blk) := [(1, .cells true [.ptr (some (0, 0))]), (0, shapeB ch)]
def st79 (ch : Int) (g : Rg) (N : Nat) (L : List AV) (xs : List (List Int)) (i : Int) : St := ⟨[rows xs, .fn 67 [] [.ptr (some (1, 0))], .dead, .dead, .dead, .dead, .dead, int64 (xs.length : Int), int64 i] ++ repA .dead 10, mkHeap (hpP ch g N L) 10, [], .off⟩
def rt79 (ch : Int) (g : Rg) (N : Nat) (L : List AV) (i : Int) : St := ⟨[.dead, .dead, .dead, .dead, int64 i] ++ repA .dead 14, mkHeap (hpP ch g N L) 9, [], .off⟩
abbrev rwA (xs : List (List Int)) (i : Int) : AV := nth (xs.map ints) (i.toNat * 1)
def st88 (ch : Int) (g : Rg) (N : Nat) (L : List AV) (zs : List AV) (M : Nat) (i : Int) : St := ⟨[stp zs M, .fn 69 [] [], .dead, .dead, .dead, .dead, .dead, int64 (M : Int), int64 i] ++ repA .dead 10, mkHeap (hpP ch g N L) 15, [], .off⟩
def rt88 (ch : Int) (g : Rg) (N : Nat) (L : List AV) (i : Int) : St := ⟨[.dead, .dead, .dead, .dead, int64 i] ++ repA .dead 14, mkHeap (hpP ch g N L) 15, [], .off⟩
def sn79 (ch : Int) (xs : List (List Int)) (i : Int) : St := ⟨[rows xs, .fn 67 [] [.ptr (some (1, 0))], .dead, .dead, .dead, .dead, .dead, int64 (xs.length : Int), int64 i] ++ repA .dead 10, mkHeap (hpN ch) 10, [], .off⟩
def rn79 (ch : Int) (i : Int) : St := ⟨[.dead, .dead, .dead, .dead, int64 i] ++ repA .dead 14, mkHeap (hpN ch) 9, [], .off⟩
def N79 : Norm := ⟨[0, 1, 4, 7, 8], []⟩
theorem norm79 : loopN0 tb 79 2 = some N79 := by kernel_rfl
theorem norm88 : loopN0 tb 88 2 = some N79 := by kernel_rfl
def N12 : Norm := ⟨[10, 11, 12, 14, 15, 16, 56, 57, 58], [(15, [2, 3, 4])]⟩
theorem norm12 : loopN0 tb 32 12 = some N12 := by kernel_rfl
abbrev arg32 (n ch first : Int) (xs : List (List Int)) (zs : List AV) (M : Nat) : List AV := [int64 n, int64 ch, int64 first, rows xs, stp zs M]
noncomputable abbrev run32 (S : Orc) (n ch first : Int) (xs : List (List Int)) (zs : List AV) (M : Nat) : Option AV := evCall Try.prog S tb 100 AV (.fn 32) (arg32 n ch first xs zs M) (mkHeap [] 0) .off (viewK Try.prog (resOf Try.prog 32))
noncomputable def SNo (n ch first : Int) (S : Orc) : Orc := knowO Try.prog scNg 14 0 [] [8] [int64 n, int64 ch, int64 first] [] (.tup [.ptr none, int64 7]) [] [(none, tyPt Try.prog 30), (none, none)] S
noncomputable def SYes (n ch first : Int) (N : Nat) (L : List AV) (S : Orc) : Orc := knowO Try.prog scNg 14 0 [] [8] [int64 n, int64 ch, int64 first] [] (.tup [.ptr (some (0, 0)), int64 0]) [(0, .cells true (cellsG (g0 ch first) (.gr (8, 0) N 1))), (8, .cells true L)] psNg S
def res32 (xs : List (List Int)) (k e : Int) : AV := .tup [rows xs, int64 k, int64 e]
abbrev cd (n ch first : Int) : Prop := [int64 n, int64 ch, int64 first] = [int64 n, int64 ch, int64 first] ∧ ([] : List (Nat × Blk)) = []
theorem count79 : Nat.ble (countL 2 e79.code) 1 = true := by kernel_rfl
theorem count88 : Nat.ble (countL 2 e88.code) 1 = true := by kernel_rfl
theorem count12 : Nat.ble (countL 12 e32.code) 1 = true := by kernel_rfl
theorem p32_no_ret (n ch first : Int) (xs : List (List Int)) (zs : List AV) (M : Nat) (i : Int) (t0 : St) : run32 (SNo n ch first (knowL Try.prog 79 2 N79 4 t0 .ret (rn79 ch i) orc0)) n ch first xs zs M = (bif isSo (cd n ch first) then bif sameSt (sn79 ch xs 0) t0 then bif decide (i ≥ 0) then some (res32 [] 0 1) else some (res32 [] 0 7) else none else none) := by kernel_rfl
theorem p32_no_ex (n ch first : Int) (xs : List (List Int)) (zs : List AV) (M : Nat) (i : Int) (t0 : St) : run32 (SNo n ch first (knowL Try.prog 79 2 N79 4 t0 (.exit 0) (sn79 ch xs i) orc0)) n ch first xs zs M = (bif isSo (cd n ch first) then bif sameSt (sn79 ch xs 0) t0 then some (res32 [] 0 7) else none else none) := by kernel_rfl
theorem p32_ret (n ch first : Int) (N : Nat) (L : List AV) (xs : List (List Int)) (zs : List AV) (M : Nat) (i : Int) (t0 : St) : run32 (SYes n ch first N L (knowLG Try.prog 79 2 N79 ⟨[3], [], []⟩ 4 t0 .ret (rt79 ch (g0 ch first) N L i) (stopAt 32 [5] orc0))) n ch first xs zs M = (bif isSo (cd n ch first) then guardK (allS L && true) <| bif sameSt (st79 ch (g0 ch first) N L xs 0) t0 then bif decide (i ≥ 0) then some (res32 [] 0 1) else none else none else none) := by kernel_rfl
theorem p32_88 (n ch first : Int) (N : Nat) (L : List AV) (xs : List (List Int)) (zs : List AV) (M : Nat) (i j : Int) (t0 t1 : St) : run32 (SYes n ch first N L (knowLG Try.prog 79 2 N79 ⟨[3], [], []⟩ 4 t0 (.exit 0) (st79 ch (g0 ch first) N L xs i) (knowLG Try.prog 88 2 N79 ⟨[3], [], []⟩ 10 t1 .ret (rt88 ch (g0 ch first) N L j) (stopAt 32 [7] orc0)))) n ch first xs zs M = (bif isSo (cd n ch first) then guardK (allS L && true) <| bif sameSt (st79 ch (g0 ch first) N L xs 0) t0 then guardK (allS L && true) <| bif sameSt (st88 ch (g0 ch first) N L zs M 0) t1 then bif decide (j ≥ 0) then some (res32 [] 0 7) else none else none else none else none) := by kernel_rfl
theorem p32_lim (n ch first : Int) (N : Nat) (L : List AV) (xs : List (List Int)) (zs : List AV) (M : Nat) (i j : Int) (t0 t1 : St) : run32 (SYes n ch first N L (knowLG Try.prog 79 2 N79 ⟨[3], [], []⟩ 4 t0 (.exit 0) (st79 ch (g0 ch first) N L xs i) (knowLG Try.prog 88 2 N79 ⟨[3], [], []⟩ 10 t1 (.exit 0) (st88 ch (g0 ch first) N L zs M j) (stopAt 32 [9] orc0)))) n ch first xs zs M = (bif isSo (cd n ch first) then guardK (allS L && true) <| bif sameSt (st79 ch (g0 ch first) N L xs 0) t0 then guardK (allS L && true) <| bif sameSt (st88 ch (g0 ch first) N L zs M 0) t1 then bif decide ((xs.length : Int) > 2000) then some (res32 [] 0 4) else bif decide ((M : Int) > 5000) then some (res32 [] 0 4) else none else none else none else none) := by kernel_rfl
def outP (k : Int) : Lst → Option AV
  | none => some (res32 [] k 0)
  | some (m, os) => bif sameV (.gr (28, 0) (m + 1) 1) (.gr (28, 0) (m + 1) 1) then guardK (allS (dropA os 0) && true) <| some (.tup [.fz (fixLen ((m + 1) * 1) (dropA os 0)) (m + 1) false 1, int64 k, int64 0]) else none
theorem p32_fin (n ch first : Int) (N : Nat) (L : List AV) (xs : List (List Int)) (zs : List AV) (M : Nat) (i j : Int) (t0 t1 : St) (t2 : St) (g1 : Rg) (L1 : List AV) (lc : List AV) (ln : Nat) (fi : Int) : ∀ (p q o : Lst), run32 (SYes n ch first N L (knowLG Try.prog 79 2 N79 ⟨[3], [], []⟩ 4 t0 (.exit 0) (st79 ch (g0 ch first) N L xs i) (knowLG Try.prog 88 2 N79 ⟨[3], [], []⟩ 10 t1 (.exit 0) (st88 ch (g0 ch first) N L zs M j) (knowLG Try.prog 32 12 N12 flP 17 t2 (.exit 1) (stP ch zs M fi g1 N L1 lc ln p q o) orc0)))) n ch first xs zs M =
    (bif isSo (cd n ch first) then guardK (allS L && true) <| bif sameSt (st79 ch (g0 ch first) N L xs 0) t0 then guardK (allS L && true) <| bif sameSt (st88 ch (g0 ch first) N L zs M 0) t1 then bif decide ((xs.length : Int) > 2000) then some (res32 [] 0 4) else bif decide ((M : Int) > 5000) then some (res32 [] 0 4) else guardK (allS L && true) <| bif sameSt (stP ch zs M 0 (g0 ch first) N L (xs.map ints) xs.length none none none) t2 then outP (aprt g1.wo g1.ro) o else none else none else none else none)
  | none, none, none => by kernel_rfl
  | none, none, some (l1, l2) => by kernel_rfl
  | none, some (k1, k2), none => by kernel_rfl
  | none, some (k1, k2), some (l1, l2) => by kernel_rfl
  | some (m1, m2), none, none => by kernel_rfl
  | some (m1, m2), none, some (l1, l2) => by kernel_rfl
  | some (m1, m2), some (k1, k2), none => by kernel_rfl
  | some (m1, m2), some (k1, k2), some (l1, l2) => by kernel_rfl
theorem b79 {A : Type} (ch : Int) (g : Rg) (N : Nat) (L : List AV) (xs : List (List Int)) (i : Int) (K : Ex → St → Option A) : loopBG Try.prog (OB orc0) tb 79 2 ⟨[3], [], []⟩ 4 (st79 ch g N L xs i) K =
    (bif decide (i < (xs.length : Int)) then rowG (xs.map ints) xs.length i <| bif ((fzL (rwA xs i) : Nat) : Int) == ch then bif isSo (is80 [rowF (rwA xs i), f81]) then bif !(!badR (rowOf (rowF (rwA xs i)))) then guardK (allS L && true) <| K .ret (rt79 ch g N L i) else guardK (allS L && true) <| K .normal (st79 ch g N L xs (w64 (i + 1))) else none else guardK (allS L && true) <| K .ret (rt79 ch g N L i) else guardK (allS L && true) <| K (.exit 0) (st79 ch g N L xs i)) := by kernel_rfl
theorem b79n {A : Type} (ch : Int) (xs : List (List Int)) (i : Int) (K : Ex → St → Option A) : loopB Try.prog (OB orc0) tb 79 2 4 (sn79 ch xs i) K =
    (bif decide (i < (xs.length : Int)) then rowG (xs.map ints) xs.length i <| bif ((fzL (rwA xs i) : Nat) : Int) == ch then bif isSo (is80 [rowF (rwA xs i), f81]) then bif !(!badR (rowOf (rowF (rwA xs i)))) then K .ret (rn79 ch i) else K .normal (sn79 ch xs (w64 (i + 1))) else none else K .ret (rn79 ch i) else K (.exit 0) (sn79 ch xs i)) := by kernel_rfl
theorem b88 {A : Type} (ch : Int) (g : Rg) (N : Nat) (L : List AV) (zs : List AV) (M : Nat) (i : Int) (K : Ex → St → Option A) : loopBG Try.prog orc0 tb 88 2 ⟨[3], [], []⟩ 10 (st88 ch g N L zs M i) K =
    (bif decide (i < (M : Int)) then turn zs M i fun w k n => bif decide (w < 0) then (guardK (allS L && true) <| K .ret (rt88 ch g N L i)) else bif decide (w > 1) then (guardK (allS L && true) <| K .ret (rt88 ch g N L i)) else bif decide (k < 0) then (guardK (allS L && true) <| K .ret (rt88 ch g N L i)) else bif decide (k ≥ 4) then (guardK (allS L && true) <| K .ret (rt88 ch g N L i)) else bif k == 1 then bif decide (n < 0) then (guardK (allS L && true) <| K .ret (rt88 ch g N L i)) else (guardK (allS L && true) <| K .normal (st88 ch g N L zs M (w64 (i + 1)))) else (guardK (allS L && true) <| K .normal (st88 ch g N L zs M (w64 (i + 1)))) else guardK (allS L && true) <| K (.exit 0) (st88 ch g N L zs M i)) := by kernel_rfl
end Go.Proofs.Ytokighfpmonjdaa
/- ring.Play: what a turn does. -/
namespace Go.Proofs.Ytokighfpmonjdaa
open Go.Ev
set_option maxRecDepth 100000
/-! ### Turns -/
abbrev Tn := Int × Int × Int
def flatS : List Tn → List AV
  | [] => []
  | t :: l => int64 t.1 :: int64 t.2.1 :: int64 t.2.2 :: flatS l
theorem flatS_len : ∀ l : List Tn, lenA (flatS l) = l.length * 3
  | [] => rfl
  | t :: l => by
    have := flatS_len l
    rw [lenA_eq] at this ⊢
    simp only [flatS, List.length_cons, this]
    omega
theorem flatS_nth : ∀ (l : List Tn) (i : Nat) (h : i < l.length), nth (flatS l) (i * 3) = int64 l[i].1 ∧ nth (flatS l) (i * 3 + 1) = int64 l[i].2.1 ∧ nth (flatS l) (i * 3 + 1 + 1) = int64 l[i].2.2
  | t :: l, 0, _ => ⟨rfl, rfl, rfl⟩
  | t :: l, i + 1, h => by
    have h' : i < l.length := by simpa using h
    obtain ⟨a, b, c⟩ := flatS_nth l i h'
    rw [show (i + 1) * 3 = i * 3 + 3 by omega]
    exact ⟨a, b, c⟩
theorem turn_eq {A : Type} {S : List Tn} {i : Nat} (h : i < S.length) (f : Int → Int → Int → Option A) : turn (flatS S) S.length (i : Int) f = f S[i].1 S[i].2.1 S[i].2.2 := by
  obtain ⟨a, b, c⟩ := flatS_nth S i h
  unfold turn
  rw [show (i : Int).toNat = i by omega, a, b, c, flatS_len, Nat.ble_eq_true_of_le (show i * 3 + 3 ≤ S.length * 3 by omega), decide_eq_true (Int.natCast_nonneg i), decide_eq_true (by omega : (i : Int) < (S.length : Int))]
  rfl
/-! ### What Play holds -/
structure Pl where
  g : Rg
  fs : List (List Int)
  left : List (List Int)
  put : List (List Int)
  got : List (List Int)
  out : List (List Int)
def lst : List (List Int) → Lst
  | [] => none
  | x :: l => some (l.length, rowsL (x :: l))
theorem lenL_lst (l : List (List Int)) : lenL (lst l) = l.length := by cases l <;> rfl
theorem alO_lst (l : List (List Int)) (x : Bool) : alO (lst l) x = x := by
  cases l with
  | nil => rfl
  | cons a l =>
    show (allS (rowsL (a :: l)) && x) = x
    rw [allS_rows]
    rfl
def soP (ch : Int) (S : List Tn) (i : Nat) (P : Pl) : St := stP ch (flatS S) S.length (i : Int) P.g P.fs.length (rowsL P.fs) (rowsL P.left) P.left.length (lst P.put) (lst P.got) (lst P.out)
def stepP (P : Pl) (t : Tn) : Pl :=
  if t.1 = 0 then
    if t.2.1 = 0 then { P with g := seeG P.g }
    else if t.2.1 = 1 then { P with g := (claimS P.fs.length P.g (minI t.2.2 P.left.length)).1 }
    else if t.2.1 = 2 then
      if P.left.length > P.put.length then
        let f := P.left.getD P.put.length []
        let fs' := putL P.g P.put.length f P.fs
        if putE P.g P.put.length f = 0 then { P with fs := fs', put := P.put ++ [f] } else { P with fs := fs' }
      else P
    else if P.g.wop = true then { P with g := (commS P.g P.put.length).1, left := P.left.drop P.put.length, put := [] } else P
  else
    if t.2.1 = 0 then { P with g := lookG P.g }
    else if t.2.1 = 1 then { P with g := (takeS P.g t.2.2).1 }
    else if t.2.1 = 2 then if wErr P.g.rop P.g.rc P.got.length = 0 then { P with got := P.got ++ [getL P.g P.got.length P.fs] } else P
    else if P.g.rop = true then { P with g := (doneS P.g P.got.length).1, out := P.out ++ P.got, got := [] } else P
structure PlOk (P : Pl) : Prop where
  g : RgOk P.g P.fs
  left : ∀ f ∈ P.left, (f.length : Int) = P.g.ch
  ln : P.left.length ≤ 2000
  put : P.put.length ≤ P.left.length
  got : P.got.length ≤ 100000
  out : P.out.length ≤ 1000000
section
variable {A : Type}
theorem toP_eq (ch : Int) (S : List Tn) (i : Nat) (hi : i ≤ 1000000) (K : Ex → St → Option A) (g' : Rg) (fs' left' p' q' o' : List (List Int)) (N : Nat) (hN : N = fs'.length) (lc : List AV) (hlc : lc = rowsL left') (ln : Nat) (hln : ln = left'.length) :
    toP ch (flatS S) S.length (i : Int) N K g' fs' lc ln (lst p') (lst q') (lst o') = K .normal (soP ch S (i + 1) ⟨g', fs', left', p', q', o'⟩) := by
  subst hN hlc hln
  have e : alP (lst p') (lst q') (lst o') (rowsL fs') = true := by
    show alO (lst o') (alO (lst q') (alO (lst p') (allS (rowsL fs') && true))) = true
    rw [alO_lst, alO_lst, alO_lst, allS_rows]
    rfl
  unfold toP soP
  rw [e, show w64 ((i : Int) + 1) = ((i + 1 : Nat) : Int) from by unfold w64; rw [IntKind.wrap_i64]; omega]
  rfl
theorem flG_eq (fs : List (List Int)) (x : Option A) : flG fs x = x := by
  unfold flG
  rw [allS_rows]
  rfl
theorem lst_snoc (l : List (List Int)) (v : List Int) (hl : l.length ≤ 2000000) (f : Lst → Option A) : pushP (ints v) f (lst l) = f (lst (l ++ [v])) := by
  cases l with
  | nil => rfl
  | cons a l =>
    have hlim : limit = 140737488355328 := rfl
    have hl' : l.length + 1 ≤ 2000000 := by simpa using hl
    have e1 : (Nat.ble ((l.length + 1 + 1) * 24) limit && Nat.ble (l.length + 1 + 1) limit) = true := by
      rw [Bool.and_eq_true]
      exact ⟨Nat.ble_eq_true_of_le (by omega), Nat.ble_eq_true_of_le (by omega)⟩
    have e2 : Nat.ble (0 + (l.length + 1) * 1) (lenA (rowsL (a :: l))) = true := by
      rw [lenM]
      exact Nat.ble_eq_true_of_le (by simp)
    have e3 : appA (takeA (dropA (rowsL (a :: l)) 0) ((l.length + 1) * 1)) [ints v] = rowsL (a :: (l ++ [v])) := by
      have := csR_eq (v := ints v) (l := a :: l) (m := l.length) rfl
      rw [this]
      show (a :: l).map ints ++ [ints v] = ((a :: l) ++ [v]).map ints
      rw [List.map_append]
      rfl
    show guardK _ (guardK _ (f _)) = _
    rw [e1, e2, e3]
    show f (some (l.length + 1, rowsL (a :: (l ++ [v])))) = f (some ((l ++ [v]).length, rowsL (a :: (l ++ [v]))))
    rw [List.length_append]
    rfl
theorem rows_full (l : List (List Int)) (n : Nat) (h : l.length = n) : takeA (dropA (rowsL l) 0) (n * 1) = rowsL l := by
  rw [takeA_eq, dropA_eq, List.drop_zero, Nat.mul_one, List.take_of_length_le (by simp [h])]
theorem flatL_rows : ∀ l : List (List Int), flatL (rowsL l) = true
  | [] => rfl
  | x :: l => by
    have := flatL_rows l
    show (_ && flatL (rowsL l)) = true
    rw [this]
    rfl
theorem lst_cat (o q : List (List Int)) (ho : o.length ≤ 1000000) (hq : q.length ≤ 1000000) (f : Lst → Option A) : catP f (lst o) (lst q) = f (lst (o ++ q)) := by
  have hlim : limit = 140737488355328 := rfl
  cases q with
  | nil =>
    rw [List.append_nil]
    cases o with
    | nil => rfl
    | cons a o =>
      have ho' : o.length + 1 ≤ 1000000 := by simpa using ho
      have e1 : (Nat.ble ((o.length + 1 + 0) * 24) limit && Nat.ble (o.length + 1 + 0) limit) = true := by
        rw [Bool.and_eq_true]
        exact ⟨Nat.ble_eq_true_of_le (by omega), Nat.ble_eq_true_of_le (by omega)⟩
      show guardK _ _ = _
      rw [e1]
      rfl
  | cons b q =>
    have hq' : q.length + 1 ≤ 1000000 := by simpa using hq
    have s1 : Nat.ble (0 + (q.length + 1) * 1) (lenA (rowsL (b :: q))) = true := by
      rw [lenM]
      exact Nat.ble_eq_true_of_le (by simp)
    have s2 : takeA (dropA (rowsL (b :: q)) 0) ((q.length + 1) * 1) = rowsL (b :: q) := rows_full (b :: q) _ rfl
    cases o with
    | nil =>
      have e1 : (Nat.ble ((0 + (q.length + 1)) * 24) limit && Nat.ble (0 + (q.length + 1)) limit) = true := by
        rw [Bool.and_eq_true]
        exact ⟨Nat.ble_eq_true_of_le (by omega), Nat.ble_eq_true_of_le (by omega)⟩
      show guardK _ (guardK _ (f _)) = _
      rw [s1, e1, s2]
      rfl
    | cons a o =>
      have ho' : o.length + 1 ≤ 1000000 := by simpa using ho
      have e1 : (Nat.ble ((o.length + 1 + (q.length + 1)) * 24) limit && Nat.ble (o.length + 1 + (q.length + 1)) limit) = true := by
        rw [Bool.and_eq_true]
        exact ⟨Nat.ble_eq_true_of_le (by omega), Nat.ble_eq_true_of_le (by omega)⟩
      have s3 : Nat.ble (0 + (o.length + 1) * 1) (lenA (rowsL (a :: o))) = true := by
        rw [lenM]
        exact Nat.ble_eq_true_of_le (by simp)
      have s4 : takeA (dropA (rowsL (a :: o)) 0) ((o.length + 1) * 1) = rowsL (a :: o) := rows_full (a :: o) _ rfl
      have s5 : appA (rowsL (a :: o)) (rowsL (b :: q)) = rowsL (a :: (o ++ b :: q)) := by
        rw [appA_eq]
        show (a :: o).map ints ++ (b :: q).map ints = ((a :: o) ++ (b :: q)).map ints
        rw [List.map_append]
      show guardK _ (guardK _ (guardK _ (guardK _ (f _)))) = _
      rw [s1, e1, s3, s2, flatL_rows, s4, s5]
      show f (some (o.length + 1 + q.length, rowsL (a :: (o ++ b :: q)))) = f (some ((o ++ b :: q).length, rowsL (a :: (o ++ b :: q))))
      rw [List.length_append, List.length_cons]
      congr 3
      omega
end
end Go.Proofs.Ytokighfpmonjdaa
/- ring.Play: its loop. -/
namespace Go.Proofs.Ytokighfpmonjdaa
open Go.Ev
set_option maxRecDepth 100000
theorem a18_eq (n : Int) (f : List Int) : a18 n (ints f) = [pG, int64 n, ints f] := by kernel_rfl
section
variable {A : Type} {ch : Int} {S : List Tn} {i : Nat} {P : Pl}
theorem rowG_eq {fs : List (List Int)} {k : Nat} (h : k < fs.length) (x : Option A) : rowG (rowsL fs) fs.length (k : Int) x = x := by
  have hF : isFzN (ints fs[k]) = true := rfl
  unfold rowG
  rw [show (k : Int).toNat * 1 = k by omega, nthM ints fs k h, hF, lenM, show Nat.blt k fs.length = true from Nat.ble_eq_true_of_le h, decide_eq_true (Int.natCast_nonneg k), decide_eq_true (by omega : (k : Int) < (fs.length : Int))]
  rfl
theorem see_turn (h : PlOk P) (hi : i ≤ 1000000) (n : Int) (K : Ex → St → Option A) : seeP ch (flatS S) S.length (i : Int) P.g P.fs.length P.fs (rowsL P.left) P.left.length (lst P.put) (lst P.got) (lst P.out) K n = K .normal (soP ch S (i + 1) ⟨seeG P.g, P.fs, P.left, P.put, P.got, P.out⟩) := by
  unfold seeP
  rw [flG_eq, isSo_true ⟨P.g, P.fs, rfl, rfl, h.g⟩, fsOf_obj]
  exact toP_eq ch S i hi K _ _ _ _ _ _ _ rfl _ rfl _ rfl
theorem look_turn (h : PlOk P) (hi : i ≤ 1000000) (n : Int) (K : Ex → St → Option A) : lookP ch (flatS S) S.length (i : Int) P.g P.fs.length P.fs (rowsL P.left) P.left.length (lst P.put) (lst P.got) (lst P.out) K n = K .normal (soP ch S (i + 1) ⟨lookG P.g, P.fs, P.left, P.put, P.got, P.out⟩) := by
  unfold lookP
  rw [flG_eq, isSo_true ⟨P.g, P.fs, rfl, rfl, h.g⟩, fsOf_obj]
  exact toP_eq ch S i hi K _ _ _ _ _ _ _ rfl _ rfl _ rfl
theorem take_turn (h : PlOk P) (hi : i ≤ 1000000) (n : Int) (K : Ex → St → Option A) : takeP ch (flatS S) S.length (i : Int) P.g P.fs.length P.fs (rowsL P.left) P.left.length (lst P.put) (lst P.got) (lst P.out) K n = K .normal (soP ch S (i + 1) ⟨(takeS P.g n).1, P.fs, P.left, P.put, P.got, P.out⟩) := by
  unfold takeP
  rw [flG_eq, isSo_true ⟨P.g, P.fs, n, rfl, rfl, h.g⟩, fsOf_obj]
  exact toP_eq ch S i hi K _ _ _ _ _ _ _ rfl _ rfl _ rfl
theorem claim_turn (h : PlOk P) (hi : i ≤ 1000000) (n : Int) (K : Ex → St → Option A) : claimP ch (flatS S) S.length (i : Int) P.g P.fs.length P.fs (rowsL P.left) P.left.length (lst P.put) (lst P.got) (lst P.out) K n = K .normal (soP ch S (i + 1) ⟨(claimS P.fs.length P.g (minI n (P.left.length : Int))).1, P.fs, P.left, P.put, P.got, P.out⟩) := by
  unfold claimP
  rw [flG_eq, isSo_true ⟨P.g, P.fs, _, rfl, rfl, h.g⟩, fsOf_obj]
  exact toP_eq ch S i hi K _ _ _ _ _ _ _ rfl _ rfl _ rfl
theorem comm_turn (h : PlOk P) (hi : i ≤ 1000000) (n : Int) (K : Ex → St → Option A) : commP ch (flatS S) S.length (i : Int) P.g P.fs.length P.fs (rowsL P.left) P.left.length (lst P.put) (lst P.got) (lst P.out) K n =
    K .normal (soP ch S (i + 1) (if P.g.wop = true then ⟨(commS P.g P.put.length).1, P.fs, P.left.drop P.put.length, [], P.got, P.out⟩ else P)) := by
  unfold commP
  have hp := h.put
  cases hw : P.g.wop with
  | false =>
    rw [if_neg (by simp)]
    exact toP_eq ch S i hi K _ _ _ _ _ _ _ rfl _ rfl _ rfl
  | true =>
    rw [if_pos rfl, lenL_lst, flG_eq, isSo_true ⟨P.g, P.fs, _, rfl, rfl, h.g⟩, fsOf_obj, decide_eq_true (Int.natCast_nonneg _), Nat.ble_eq_true_of_le (Nat.le_refl _), Nat.ble_eq_true_of_le hp]
    refine toP_eq (p' := []) ch S i hi K _ _ (P.left.drop P.put.length) _ _ _ rfl _ ?_ _ ?_
    · rw [takeA_eq, dropA_eq, Nat.mul_one, Nat.mul_one]
      show ((P.left.map ints).drop P.put.length).take (P.left.length - P.put.length) = (P.left.drop P.put.length).map ints
      rw [← List.map_drop, ← List.map_take, List.take_of_length_le (by rw [List.length_drop]; omega)]
    · rw [List.length_drop]
theorem fin_turn (h : PlOk P) (hi : i ≤ 1000000) (n : Int) (K : Ex → St → Option A) : finP ch (flatS S) S.length (i : Int) P.g P.fs.length P.fs (rowsL P.left) P.left.length (lst P.put) (lst P.got) (lst P.out) K n =
    K .normal (soP ch S (i + 1) (if P.g.rop = true then ⟨(doneS P.g P.got.length).1, P.fs, P.left, P.put, [], P.out ++ P.got⟩ else P)) := by
  unfold finP
  have hg := h.got
  have ho := h.out
  cases hw : P.g.rop with
  | false =>
    rw [if_neg (by simp)]
    exact toP_eq ch S i hi K _ _ _ _ _ _ _ rfl _ rfl _ rfl
  | true =>
    rw [if_pos rfl, lenL_lst, flG_eq, isSo_true ⟨P.g, P.fs, _, rfl, rfl, h.g⟩, fsOf_obj]
    simp only [cond_true]
    rw [lst_cat P.out P.got (by omega) (by omega)]
    exact toP_eq (q' := []) ch S i hi K _ _ _ _ _ _ rfl _ rfl _ rfl
theorem get_turn (h : PlOk P) (hi : i ≤ 1000000) (n : Int) (K : Ex → St → Option A) : getP ch (flatS S) S.length (i : Int) P.g P.fs.length P.fs (rowsL P.left) P.left.length (lst P.put) (lst P.got) (lst P.out) K n =
    K .normal (soP ch S (i + 1) (if wErr P.g.rop P.g.rc P.got.length = 0 then ⟨P.g, P.fs, P.left, P.put, P.got ++ [getL P.g P.got.length P.fs], P.out⟩ else P)) := by
  unfold getP
  have hg := h.got
  rw [lenL_lst, flG_eq, isSo_true ⟨P.g, P.fs, _, rfl, rfl, h.g⟩, fsOf_obj]
  by_cases he : wErr P.g.rop P.g.rc P.got.length = 0
  · rw [if_pos he, he]
    simp only [cond_true, beq_self_eq_true]
    rw [lst_snoc P.got _ (by omega)]
    exact toP_eq ch S i hi K _ _ _ _ _ _ _ rfl _ rfl _ rfl
  · rw [if_neg he, show (wErr P.g.rop P.g.rc P.got.length == 0) = false from by rw [beq_eq_false_iff_ne]; exact he]
    exact toP_eq ch S i hi K _ _ _ _ _ _ _ rfl _ rfl _ rfl
theorem put_turn (h : PlOk P) (hi : i ≤ 1000000) (n : Int) (K : Ex → St → Option A) : putP ch (flatS S) S.length (i : Int) P.g P.fs.length P.fs (rowsL P.left) P.left.length (lst P.put) (lst P.got) (lst P.out) K n =
    K .normal (soP ch S (i + 1) (if P.left.length > P.put.length then (if putE P.g P.put.length (P.left.getD P.put.length []) = 0 then ⟨P.g, putL P.g P.put.length (P.left.getD P.put.length []) P.fs, P.left, P.put ++ [P.left.getD P.put.length []], P.got, P.out⟩ else ⟨P.g, putL P.g P.put.length (P.left.getD P.put.length []) P.fs, P.left, P.put, P.got, P.out⟩) else P)) := by
  have hln := h.ln
  have hM : maxLen = 9223372036854775807 := rfl
  by_cases hlt : P.left.length > P.put.length
  rotate_left
  · rw [if_neg hlt]
    unfold putP
    rw [lenL_lst, decide_eq_false (by omega : ¬ (P.left.length : Int) > (P.put.length : Int))]
    exact toP_eq ch S i hi K _ _ _ _ _ _ _ rfl _ rfl _ rfl
  rw [if_pos hlt]
  have ew : w64 ((P.left.length : Int) - 1) = (P.left.length : Int) - 1 := by unfold w64; rw [IntKind.wrap_i64]; omega
  have em : minI (P.put.length : Int) (w64 ((P.left.length : Int) - 1)) = (P.put.length : Int) := by
    rw [ew]
    unfold minI
    rw [if_neg (by omega)]
  have eg : P.left.getD P.put.length [] = P.left[P.put.length] := by simp [List.getD, hlt]
  have en : nth (rowsL P.left) ((P.put.length : Int).toNat * 1) = ints (P.left.getD P.put.length []) := by
    rw [show (P.put.length : Int).toNat * 1 = P.put.length by omega, nthM ints P.left _ hlt, eg]
  have hrow : ((P.left.getD P.put.length []).length : Int) = P.g.ch := by rw [eg]; exact h.left _ (List.getElem_mem hlt)
  have hch := h.g.ch
  have ea : aP (rowsL P.left) P.left.length (lst P.put) = [pG, int64 (P.put.length : Int), ints (P.left.getD P.put.length [])] := by
    show a18 (lenL (lst P.put) : Int) (nth (rowsL P.left) ((minI (lenL (lst P.put) : Int) (w64 ((P.left.length : Int) - 1))).toNat * 1)) = _
    rw [lenL_lst, em, en]
    exact a18_eq _ _
  have hG : isSo (G18 [pG, int64 (P.put.length : Int), ints (P.left.getD P.put.length [])] (objG P.g P.fs.length (rowsL P.fs))) = true := isSo_true ⟨P.g, P.fs, _, _, rfl, rfl, h.g, by omega⟩
  have e1 : intOf (nth [pG, int64 (P.put.length : Int), ints (P.left.getD P.put.length [])] 1) = (P.put.length : Int) := rfl
  have e2 : rowOf (nth [pG, int64 (P.put.length : Int), ints (P.left.getD P.put.length [])] 2) = P.left.getD P.put.length [] := rowOf_ints _
  have eF : rowF (nth (rowsL P.left) ((P.put.length : Int).toNat * 1)) = ints (P.left.getD P.put.length []) := by rw [en]; rfl
  have hlen : (putL P.g P.put.length (P.left.getD P.put.length []) P.fs).length = P.fs.length := by
    unfold putL
    split <;> simp
  unfold putP eP lP
  rw [ea, e1, e2, lenL_lst, em, decide_eq_true (by omega : (P.left.length : Int) > (P.put.length : Int)), cond_true, rowG_eq hlt, flG_eq, hG, rowG_eq hlt, eF, fsOf_obj]
  by_cases he : putE P.g P.put.length (P.left.getD P.put.length []) = 0
  · rw [if_pos he, he]
    simp only [cond_true, beq_self_eq_true]
    rw [lst_snoc P.put _ (by have := h.put; omega)]
    exact toP_eq ch S i hi K _ _ _ _ _ _ _ hlen.symm _ rfl _ rfl
  · rw [if_neg he, show (putE P.g P.put.length (P.left.getD P.put.length []) == 0) = false from by rw [beq_eq_false_iff_ne]; exact he]
    exact toP_eq ch S i hi K _ _ _ _ _ _ _ hlen.symm _ rfl _ rfl
end
end Go.Proofs.Ytokighfpmonjdaa
/- ring.Play: all its turns. -/
namespace Go.Proofs.Ytokighfpmonjdaa
open Go.Ev
set_option maxRecDepth 100000
theorem aprt_eq {a b : Int} (ha : 0 ≤ a ∧ a < 65536) (hb : 0 ≤ b ∧ b < 65536) : aprt a b = (a - b + 65536) % 65536 := by
  have e1 : w64 (a - b) = a - b := by unfold w64; rw [IntKind.wrap_i64]; omega
  have e2 : w64 (a - b + 65536) = a - b + 65536 := by unfold w64; rw [IntKind.wrap_i64]; omega
  unfold aprt
  rw [e1, e2, Int.tmod_eq_emod_of_nonneg (by omega)]
theorem minI_le (a b : Int) : minI a b ≤ a ∧ minI a b ≤ b := by unfold minI; split <;> omega
section
variable {g : Rg} {fs : List (List Int)}
theorem RgOk.room (h : RgOk g fs) : roomG fs.length g ≤ 1024 := by
  obtain ⟨h1, h2, h3, h4, h5, h6, h7, h8, h9⟩ := h
  have e := aprt_eq h4 h6
  have e2 : roomG fs.length g = (fs.length : Int) - aprt g.wo g.wv := by unfold roomG w64; rw [IntKind.wrap_i64]; omega
  omega
theorem RgOk.fill (h : RgOk g fs) : 0 ≤ fillG g ∧ fillG g < 65536 := by
  obtain ⟨h1, h2, h3, h4, h5, h6, h7, h8, h9⟩ := h
  have e := aprt_eq h7 h5
  unfold fillG
  omega
theorem ok_see (h : RgOk g fs) : RgOk (seeG g) fs := ⟨h.ch, h.n, h.rows, h.wo, h.ro, h.ro, h.rv, h.wc, h.rc⟩
theorem ok_look (h : RgOk g fs) : RgOk (lookG g) fs := ⟨h.ch, h.n, h.rows, h.wo, h.ro, h.wv, h.wo, h.wc, h.rc⟩
theorem ok_claim (h : RgOk g fs) (n : Int) : RgOk (claimS fs.length g n).1 fs := by
  unfold claimS
  split
  · exact h
  · split
    · exact h
    · exact ⟨h.ch, h.n, h.rows, h.wo, h.ro, h.wv, h.rv, by have := h.room; have := minI_le n (roomG fs.length g); show minI n (roomG fs.length g) ≤ 65536; omega, h.rc⟩
theorem ok_take (h : RgOk g fs) (n : Int) : RgOk (takeS g n).1 fs := by
  unfold takeS
  split
  · exact h
  · split
    · exact h
    · exact ⟨h.ch, h.n, h.rows, h.wo, h.ro, h.wv, h.rv, h.wc, by have := h.fill; have := minI_le n (fillG g); show minI n (fillG g) ≤ 65536; omega⟩
theorem own_in {o n : Int} (ho : 0 ≤ o ∧ o < 65536) (hn : 0 ≤ n ∧ n ≤ 65536) : 0 ≤ (w64 (o + n)).tmod 65536 ∧ (w64 (o + n)).tmod 65536 < 65536 := by
  have e1 : w64 (o + n) = o + n := by unfold w64; rw [IntKind.wrap_i64]; omega
  rw [e1, Int.tmod_eq_emod_of_nonneg (by omega)]
  omega
theorem ok_comm (h : RgOk g fs) (n : Int) : RgOk (commS g n).1 fs := by
  unfold commS
  split
  · exact h
  · split
    · exact h
    · split
      · exact h
      · have := h.wc
        exact ⟨h.ch, h.n, h.rows, own_in h.wo (by omega), h.ro, h.wv, h.rv, by show (0 : Int) ≤ 65536; omega, h.rc⟩
theorem ok_done (h : RgOk g fs) (n : Int) : RgOk (doneS g n).1 fs := by
  unfold doneS
  split
  · exact h
  · split
    · exact h
    · split
      · exact h
      · have := h.rc
        exact ⟨h.ch, h.n, h.rows, h.wo, own_in h.ro (by omega), h.wv, h.rv, h.wc, by show (0 : Int) ≤ 65536; omega⟩
theorem putL_len (i : Int) (f : List Int) : (putL g i f fs).length = fs.length := by
  unfold putL
  split <;> simp
theorem ok_put (h : RgOk g fs) (i : Int) (f : List Int) : RgOk g (putL g i f fs) := by
  refine ⟨h.ch, by rw [putL_len]; exact h.n, fun r hr => ?_, h.wo, h.ro, h.wv, h.rv, h.wc, h.rc⟩
  unfold putL at hr
  split at hr
  · rename_i he
    rcases List.mem_or_eq_of_mem_set hr with h1 | h1
    · exact h.rows r h1
    · subst h1
      unfold putE at he
      split at he
      · omega
      · rename_i hb
        exact Classical.not_not.1 fun hne => hb (Or.inl hne)
  · exact h.rows r hr
theorem claim_ch (N : Nat) (n : Int) : (claimS N g n).1.ch = g.ch := by unfold claimS; split; rfl; split <;> rfl
theorem take_ch (n : Int) : (takeS g n).1.ch = g.ch := by unfold takeS; split; rfl; split <;> rfl
theorem comm_ch (n : Int) : (commS g n).1.ch = g.ch := by unfold commS; split; rfl; split; rfl; split <;> rfl
theorem done_ch (n : Int) : (doneS g n).1.ch = g.ch := by unfold doneS; split; rfl; split; rfl; split <;> rfl
end
def okT (t : Tn) : Prop := (t.1 = 0 ∨ t.1 = 1) ∧ (t.2.1 = 0 ∨ t.2.1 = 1 ∨ t.2.1 = 2 ∨ t.2.1 = 3)
theorem step_ok {P : Pl} {i : Nat} (h : PlOk P) (hi : i ≤ 5000) (hb : P.got.length + P.out.length ≤ i) {t : Tn} (ht : okT t) : PlOk (stepP P t) ∧ (stepP P t).got.length + (stepP P t).out.length ≤ i + 1 := by
  obtain ⟨w, k, n⟩ := t
  obtain ⟨hg, hl, hln, hp, hgo, hou⟩ := h
  have hd : ∀ m : Nat, ∀ f ∈ P.left.drop m, (f.length : Int) = P.g.ch := fun m f hf => hl f (List.mem_of_mem_drop hf)
  obtain ⟨h1 | h1, h2 | h2 | h2 | h2⟩ := ht <;> simp only at h1 h2 <;> subst h1 <;> subst h2
  · exact ⟨⟨ok_see hg, hl, hln, hp, hgo, hou⟩, by show P.got.length + P.out.length ≤ i + 1; omega⟩
  · refine ⟨⟨ok_claim hg _, fun f hf => ?_, hln, hp, hgo, hou⟩, by show P.got.length + P.out.length ≤ i + 1; omega⟩
    show (f.length : Int) = (claimS P.fs.length P.g (minI n P.left.length)).1.ch
    rw [claim_ch]
    exact hl f hf
  · show PlOk (if P.left.length > P.put.length then _ else _) ∧ _
    by_cases hlt : P.left.length > P.put.length
    · have e : stepP P (0, 2, n) = if putE P.g P.put.length (P.left.getD P.put.length []) = 0 then { P with fs := putL P.g P.put.length (P.left.getD P.put.length []) P.fs, put := P.put ++ [P.left.getD P.put.length []] } else { P with fs := putL P.g P.put.length (P.left.getD P.put.length []) P.fs } := by
        show (if P.left.length > P.put.length then _ else _) = _
        rw [if_pos hlt]
      show PlOk (stepP P (0, 2, n)) ∧ (stepP P (0, 2, n)).got.length + (stepP P (0, 2, n)).out.length ≤ i + 1
      rw [e]
      split
      · exact ⟨⟨ok_put hg _ _, hl, hln, by show (P.put ++ [_]).length ≤ P.left.length; rw [List.length_append]; show P.put.length + 1 ≤ P.left.length; omega, hgo, hou⟩, by show P.got.length + P.out.length ≤ i + 1; omega⟩
      · exact ⟨⟨ok_put hg _ _, hl, hln, hp, hgo, hou⟩, by show P.got.length + P.out.length ≤ i + 1; omega⟩
    · have e : stepP P (0, 2, n) = P := by
        show (if P.left.length > P.put.length then _ else _) = _
        rw [if_neg hlt]
      show PlOk (stepP P (0, 2, n)) ∧ (stepP P (0, 2, n)).got.length + (stepP P (0, 2, n)).out.length ≤ i + 1
      rw [e]
      exact ⟨⟨hg, hl, hln, hp, hgo, hou⟩, by omega⟩
  · have e : stepP P (0, 3, n) = if P.g.wop = true then { P with g := (commS P.g P.put.length).1, left := P.left.drop P.put.length, put := [] } else P := rfl
    rw [e]
    split
    · refine ⟨⟨ok_comm hg _, fun f hf => ?_, by show (P.left.drop P.put.length).length ≤ 2000; rw [List.length_drop]; omega, Nat.zero_le _, hgo, hou⟩, by show P.got.length + P.out.length ≤ i + 1; omega⟩
      show (f.length : Int) = (commS P.g P.put.length).1.ch
      rw [comm_ch]
      exact hd _ f hf
    · exact ⟨⟨hg, hl, hln, hp, hgo, hou⟩, by omega⟩
  · exact ⟨⟨ok_look hg, hl, hln, hp, hgo, hou⟩, by show P.got.length + P.out.length ≤ i + 1; omega⟩
  · refine ⟨⟨ok_take hg _, fun f hf => ?_, hln, hp, hgo, hou⟩, by show P.got.length + P.out.length ≤ i + 1; omega⟩
    show (f.length : Int) = (takeS P.g n).1.ch
    rw [take_ch]
    exact hl f hf
  · have e : stepP P (1, 2, n) = if wErr P.g.rop P.g.rc P.got.length = 0 then { P with got := P.got ++ [getL P.g P.got.length P.fs] } else P := rfl
    rw [e]
    split
    · exact ⟨⟨hg, hl, hln, hp, by show (P.got ++ [_]).length ≤ 100000; rw [List.length_append]; show P.got.length + 1 ≤ 100000; omega, hou⟩, by show (P.got ++ [_]).length + P.out.length ≤ i + 1; rw [List.length_append]; show P.got.length + 1 + P.out.length ≤ i + 1; omega⟩
    · exact ⟨⟨hg, hl, hln, hp, hgo, hou⟩, by omega⟩
  · have e : stepP P (1, 3, n) = if P.g.rop = true then { P with g := (doneS P.g P.got.length).1, out := P.out ++ P.got, got := [] } else P := rfl
    rw [e]
    split
    · refine ⟨⟨ok_done hg _, fun f hf => ?_, hln, hp, Nat.zero_le _, by show (P.out ++ P.got).length ≤ 1000000; rw [List.length_append]; omega⟩, by show 0 + (P.out ++ P.got).length ≤ i + 1; rw [List.length_append]; omega⟩
      show (f.length : Int) = (doneS P.g P.got.length).1.ch
      rw [done_ch]
      exact hl f hf
    · exact ⟨⟨hg, hl, hln, hp, hgo, hou⟩, by omega⟩
theorem roundP {A : Type} {ch : Int} {S : List Tn} {i : Nat} {P : Pl} (h : PlOk P) (hi : i < S.length) (hS : S.length ≤ 5000) (ht : okT S[i]) (K : Ex → St → Option A) : B12 (soP ch S i P) K = K .normal (soP ch S (i + 1) (stepP P S[i])) := by
  unfold soP
  rw [b12]
  unfold bodyP body
  rw [decide_eq_true (by omega : (i : Int) < (S.length : Int)), cond_true, turn_eq hi]
  generalize S[i] = t at ht ⊢
  obtain ⟨w, k, n⟩ := t
  obtain ⟨h1 | h1, h2 | h2 | h2 | h2⟩ := ht <;> simp only at h1 h2 <;> subst h1 <;> subst h2
  · exact see_turn h (by omega) n K
  · exact claim_turn h (by omega) n K
  · exact put_turn h (by omega) n K
  · exact comm_turn h (by omega) n K
  · exact look_turn h (by omega) n K
  · exact take_turn h (by omega) n K
  · exact get_turn h (by omega) n K
  · exact fin_turn h (by omega) n K
theorem loopP {ch : Int} {S : List Tn} (hS : S.length ≤ 5000) (hT : ∀ t ∈ S, okT t) : ∀ (d i Q : Nat) (P : Pl), i + d = S.length → d < Q → PlOk P → P.got.length + P.out.length ≤ i → loopN B12 Q (soP ch S i P) pairE = some (.exit 1, soP ch S S.length ((S.drop i).foldl stepP P)) := by
  intro d
  induction d with
  | zero =>
    intro i Q P hi hQ hP hb
    obtain ⟨Q, rfl⟩ : ∃ q, Q = q + 1 := ⟨Q - 1, by omega⟩
    have hi' : i = S.length := by omega
    subst hi'
    have e : alP (lst P.put) (lst P.got) (lst P.out) (rowsL P.fs) = true := by
      show alO (lst P.out) (alO (lst P.got) (alO (lst P.put) (allS (rowsL P.fs) && true))) = true
      rw [alO_lst, alO_lst, alO_lst, allS_rows]
      rfl
    rw [loopN_succ, List.drop_eq_nil_of_le (Nat.le_refl _)]
    show (B12 (stP ch (flatS S) S.length (S.length : Int) P.g P.fs.length (rowsL P.fs) (rowsL P.left) P.left.length (lst P.put) (lst P.got) (lst P.out)) _) = _
    rw [b12]
    unfold bodyP body
    rw [decide_eq_false (by omega : ¬ (S.length : Int) < (S.length : Int)), e]
    rfl
  | succ d ih =>
    intro i Q P hi hQ hP hb
    obtain ⟨Q, rfl⟩ : ∃ q, Q = q + 1 := ⟨Q - 1, by omega⟩
    have h : i < S.length := by omega
    have ht := hT _ (List.getElem_mem h)
    obtain ⟨h1, h2⟩ := step_ok (i := i) hP (by omega) hb ht
    rw [loopN_succ, roundP hP h hS ht, List.drop_eq_getElem_cons h, List.foldl_cons]
    exact ih (i + 1) Q _ (by omega) (by omega) h1 h2
end Go.Proofs.Ytokighfpmonjdaa
