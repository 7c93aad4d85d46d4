/- Oracles of Run, for saws, pulses and triangles, and of ints. -/
import Derived.Test.YthlmbnhelkbchaaUrE
import Derived.Test.YthlmbnhelkbchaaUiA
namespace Go.Proofs.Ythlmbnhelkbchaa
open Go.Ev
set_option maxRecDepth 100000
def rowOf : AV → List Int
  | .fz cs _ _ _ => cs.map intOf
  | _ => []
def rowsOf : AV → List (List Int)
  | .fz cs _ _ _ => cs.map rowOf
  | _ => []
theorem rowOf_ints (xs : List Int) : rowOf (ints xs) = xs := by
  show (xs.map int64).map intOf = xs
  rw [List.map_map]
  exact List.map_id'' (fun _ => rfl) xs
theorem rowsOf_lists (ls : List (List Int)) : rowsOf (lists ls) = ls := by
  show (ls.map ints).map rowOf = ls
  rw [List.map_map]
  exact List.map_id'' (fun x => rowOf_ints x) ls
def obOf (vs : List AV) : Ob := ⟨intOf (nth vs 0), intOf (nth vs 5), intOf (nth vs 6), intOf (nth vs 7), intOf (nth vs 8), intOf (nth vs 9), intOf (nth vs 11), intOf (nth vs 12), intOf (nth vs 13), boolOf (nth vs 14)⟩
theorem obOf_cells (k r : Int) (ui ua : List Int) (o : Ob) : obOf (cellsU k r ui ua o) = o := rfl
def putOb (vs : List AV) (o : Ob) : List AV := [int64 o.at', nth vs 1, nth vs 2, nth vs 3, nth vs 4, int64 o.frame, int64 o.told, int64 o.n, int64 o.rnd, int64 o.last, nth vs 10, int64 o.stage, int64 o.level, int64 o.frm, .bool o.gate]
theorem putOb_cells (k r : Int) (ui ua : List Int) (o o' : Ob) : putOb (cellsU k r ui ua o) o' = cellsU k r ui ua o' := rfl
def objOf : List (Nat × Blk) → List AV
  | (_, .cells _ vs) :: _ => vs
  | _ => []
/-- What a kind does in a round. -/
def FK (k : Int) (ls : List (List Int)) : Nat → Ob → Ob :=
  if k = 1 then F1 (ls.getD 0 []) else if k = 2 then F2 (ls.getD 0 []) (ls.getD 1 []) else F3 (ls.getD 0 [])
def res19 (a : List AV) (vs : List AV) : Ob × List Int := runO (intOf (nth vs 2)) (FK (intOf (nth vs 1)) (rowsOf (nth a 2))) 0 (intOf (nth a 1)).toNat (obOf vs)
noncomputable def V19 (a : List AV) (l : List (Nat × Blk)) : ORes := ((.tup [ints (res19 a (objOf l)).2, int64 0], [(0, .cells true (putOb (objOf l) (res19 a (objOf l)).1)), (0, .cells true (putOb (objOf l) (res19 a (objOf l)).1))]), psU)
theorem res19_eq (k r : Int) (ui ua : List Int) (o : Ob) (n : Nat) (ls : List (List Int)) : res19 (argU n ls) (cellsU k r ui ua o) = runO r (FK k ls) 0 n o := by
  unfold res19
  rw [obOf_cells]
  show runO r (FK k (rowsOf (lists ls))) 0 (intOf (int64 (n : Int))).toNat o = _
  rw [rowsOf_lists]
  rfl
theorem V19_eq (k r : Int) (ui ua : List Int) (o : Ob) (n : Nat) (ls : List (List Int)) : V19 (argU n ls) (objU k r ui ua o) = ((.tup [ints (runO r (FK k ls) 0 n o).2, int64 0], objU2 k r ui ua (runO r (FK k ls) 0 n o).1), psU) := by
  unfold V19
  have e : objOf (objU k r ui ua o) = cellsU k r ui ua o := rfl
  rw [e, res19_eq, putOb_cells]
def G19 (a : List AV) (l : List (Nat × Blk)) : Prop := ∃ k r o n, n ≤ 4096 ∧
  ((k = 1 ∧ ∃ u0 xs, a = argU (n : Nat) [xs] ∧ l = objU k r [u0] [] o ∧ xs.length = n) ∨ (k = 2 ∧ ∃ u0 u1 xs ys, a = argU (n : Nat) [xs, ys] ∧ l = objU k r [u0, u1] [] o ∧ xs.length = n ∧ ys.length = n) ∨
   (k = 3 ∧ ∃ u0 xs, a = argU (n : Nat) [xs] ∧ l = objU k r [u0] [] o ∧ xs.length = n))
theorem when19 (a : List AV) (l : List (Nat × Blk)) (h : G19 a l) : OFact Try.prog tb scU 19 1 [] a l (V19 a l).1.1 (V19 a l).1.2 (V19 a l).2 := by
  obtain ⟨k, r, o, n, hn, ⟨rfl, u0, xs, rfl, rfl, hx⟩ | ⟨rfl, u0, u1, xs, ys, rfl, rfl, hx, hy⟩ | ⟨rfl, u0, xs, rfl, rfl, hx⟩⟩ := h
  · rw [V19_eq]
    exact run_fact (OI_ok ok0) (round1' hx) (runs1 r u0 xs) hn (by simp [hx]) trivial
  · rw [V19_eq]
    exact run_fact (OI_ok ok0) (round2' hx hy) (runs2 r u0 u1 xs ys) hn (by simp [hx, hy]) trivial
  · rw [V19_eq]
    exact run_fact (OI_ok ok0) (round3' hx) (runs3 r u0 xs) hn (by simp [hx]) trivial
noncomputable def O19 (S : Orc) : Orc := knowOW Try.prog scU 19 1 [] [] G19 V19 S
theorem O19_ok {S : Orc} (h : Ok S) : Ok (O19 S) := knowOW_ok tbOk when19 h
def is20 (a : List AV) : Prop := ∃ xs ys, a = [ints xs, ints ys] ∧ xs.length ≤ maxLen
def V20 (a : List AV) : AV := .bool (decide (rowOf (nth a 0) = rowOf (nth a 1)))
theorem when20 (a : List AV) (h : isSo (is20 a) = true) : F 20 a (V20 a) := by
  obtain ⟨xs, ys, rfl, hl⟩ := isSo_iff.1 h
  have := same_ints (ys := ys) hl
  unfold V20
  show F 20 _ (.bool (decide (rowOf (ints xs) = rowOf (ints ys))))
  simp only [rowOf_ints]
  exact this
noncomputable def O20 (S : Orc) : Orc := knowW 20 (fun a => isSo (is20 a)) V20 S
theorem O20_ok {S : Orc} (h : Ok S) : Ok (O20 S) := knowW_ok tbOk when20 h
end Go.Proofs.Ythlmbnhelkbchaa
