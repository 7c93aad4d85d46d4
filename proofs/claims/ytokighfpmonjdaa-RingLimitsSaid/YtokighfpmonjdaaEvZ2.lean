/- Lists of numbers in blocks: what the kernel leaves standing, in plain terms. -/
import Derived.Test.YtokighfpmonjdaaEvZ1
import Derived.Test.YtokighfpmonjdaaEvY1
import Derived.Laws.BitsLemmas
namespace Go.Ev
theorem lenM {α : Type} (f : α → AV) (l : List α) : lenA (l.map f) = l.length := by rw [lenA_eq, List.length_map]
theorem nthM {α : Type} (f : α → AV) : ∀ (l : List α) (i : Nat) (h : i < l.length), nth (l.map f) i = f l[i]
  | x :: l, 0, _ => rfl
  | x :: l, i + 1, h => nthM f l i (by simpa using h)
theorem allS_ints : ∀ l : List Int, allS (l.map int64) = true
  | [] => rfl
  | x :: l => by simp only [List.map_cons, allS, allS_ints l]; rfl
theorem grow_ints {l : List Int} {m : Nat} {v : Int} (h : l.length = m + 1) : appA (takeA (dropA (l.map int64) 0) ((m + 1) * 1)) [int64 v] = (l ++ [v]).map int64 := by
  rw [appA_eq, takeA_eq, dropA_eq, List.drop_zero, Nat.mul_one, ← h, List.take_of_length_le (by simp)]
  simp
theorem fix_ints (l : List Int) : fixLen (l.length * 1) (dropA (l.map int64) 0) = l.map int64 := by
  rw [dropA_eq, List.drop_zero, Nat.mul_one]
  induction l with
  | nil => rfl
  | cons x l ih => simp only [List.length_cons, List.map_cons, fixLen, ih]
theorem rounds_gt {n : Nat} (h : n ≤ maxLen) : n < rounds := by
  have h1 : maxLen = 9223372036854775807 := rfl
  have h2 : rounds = 100000000000000000000 := rfl
  omega
/-- An element of a list is read. -/
def ldI {A : Type} (xs : List Int) (i : Int) (k : Int → Option A) : Option A :=
  guardK (decide (0 ≤ i) && decide (i < (xs.length : Int))) <| guardK (Nat.blt (i.toNat * 1) (lenA (xs.map int64))) <| guardK (isIntK .i64 (nth (xs.map int64) (i.toNat * 1))) <| k (intOf (nth (xs.map int64) (i.toNat * 1)))
theorem ldI_eq {A : Type} {xs : List Int} {i : Nat} (h : i < xs.length) (k : Int → Option A) : ldI xs (i : Int) k = k xs[i] := by
  have h1 : (i : Int) < (xs.length : Int) := by omega
  have h3 : (i : Int).toNat * 1 = i := by omega
  have h5 : Nat.blt i xs.length = true := Nat.ble_eq_true_of_le h
  unfold ldI
  simp only [h3, lenM, nthM int64 xs i h, decide_eq_true h1, decide_eq_true (Int.natCast_nonneg i), guardK, Bool.and_self, cond_true, h5, int64, intOf, isIntK, decide_true]
theorem wrapN {i : Nat} (h : i < 9223372036854775807) : IntKind.i64.wrap ((i : Int) + 1) = ((i + 1 : Nat) : Int) := by
  rw [IntKind.wrap_i64]
  omega
theorem limit_ok {n : Nat} (h : n ≤ 17592186044416) : (Nat.ble (n * 8) limit && Nat.ble n limit) = true := by
  have h1 : limit = 140737488355328 := rfl
  rw [Bool.and_eq_true]
  exact ⟨Nat.ble_eq_true_of_le (by omega), Nat.ble_eq_true_of_le (by omega)⟩
/-! ### A fact, asked for of what the arguments are just now -/
variable {P : Program} {tb : FuncId → Option FnP}
def FactC (P : Program) (tb : FuncId → Option FnP) (f : FuncId) (a : List AV) (v : AV) : Prop :=
  scalarV v = true ∧ ∃ S, OrcOk P tb S ∧ evCall P S tb 100 AV (.fn f) a (mkHeap [] 0) .off rv = some v
theorem Fact.now {f : FuncId} {a : List AV} {v : AV} (h : Fact P tb f a v) (e : vwArgs P [] none0 (parsOf P f) a = a) : FactC P tb f a v := by
  obtain ⟨h1, S, hS, h2⟩ := h
  have := h2 none0
  rw [e] at this
  exact ⟨h1, S, hS, this⟩
noncomputable def atC (P : Program) (f : FuncId) (a : List AV) (v : AV) : CallF := fun _ args h u K => match u with
  | .off => bif same (vwArgs P [] h (parsOf P f) args) a then K (.ret v) h .off else none
  | _ => none
theorem natF_atC {f : FuncId} {a : List AV} {v : AV} : NatF (atC P f a v) := by
  intro A B args h m K K' u hk
  unfold atC
  cases m <;> first | rfl | skip
  simp only
  cases same (vwArgs P [] h (parsOf P f) args) a <;> first | rfl | exact hk _ _ _
theorem fnSim_atC (hT : TbOk P tb) {f : FuncId} {a : List AV} {v : AV} (hf : FactC P tb f a v) : FnSim P (LP tb) f (atC P f a v) := by
  obtain ⟨hv, S, hS, hr⟩ := hf
  refine fnSim_pt hT fun A args h u K r hh => ?_
  unfold atC at hh
  cases u with
  | off =>
    simp only at hh
    cases hs : same (vwArgs P [] h (parsOf P f) args) a with
    | false => rw [hs] at hh; cases hh
    | true =>
      rw [hs] at hh
      have e : vwArgs P [] h (parsOf P f) args = a := by
        unfold same at hs
        simpa using hs
      exact ⟨rfl, S, a, v, hS, e, hr, hv, hh⟩
  | _ => cases hh
noncomputable def knowC (P : Program) (f : FuncId) (a : List AV) (v : AV) (S : Orc) : Orc := addF f (atC P f a v) S
theorem knowC_ok (hT : TbOk P tb) {S : Orc} {f : FuncId} {a : List AV} {v : AV} (hf : FactC P tb f a v) (hS : OrcOk P tb S) : OrcOk P tb (knowC P f a v S) := addF_ok (fnSim_atC hT hf) natF_atC hS
end Go.Ev
