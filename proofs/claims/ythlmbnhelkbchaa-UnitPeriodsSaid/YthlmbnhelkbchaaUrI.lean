/- New of a unit whose numbers are known. -/
import Derived.Test.YthlmbnhelkbchaaUcA
import Derived.Test.YthlmbnhelkbchaaEvZ2
namespace Go.Proofs.Ythlmbnhelkbchaa
open Go.Ev
set_option maxRecDepth 100000
def allInt : List AV → Bool
  | [] => true
  | v :: vs => isIntK .i64 v && allInt vs
theorem allInt_some : ∀ cs : List AV, allInt cs = true → ∃ xs : List Int, cs = xs.map int64
  | [], _ => ⟨[], rfl⟩
  | v :: vs, h => by
    simp only [allInt, Bool.and_eq_true] at h
    obtain ⟨xs, rfl⟩ := allInt_some vs h.2
    have h1 := h.1
    cases v <;> first | (cases h1; done) | skip
    rename_i k n
    have : k = .i64 := by
      simp only [isIntK, decide_eq_true_eq] at h1
      first | exact h1 | exact h1.symm
    subst this
    exact ⟨n :: xs, rfl⟩
def G49 : List AV → Bool
  | [.fz (c :: cs) len false 1] => Nat.beq (lenA (c :: cs)) len && allInt (c :: cs) && Nat.ble len 1000000
  | _ => false
theorem when49c (a : List AV) (h : G49 a = true) : FFact Try.prog tb 49 a (sameF1 a) := by
  refine when49 a (isSo_true ?_)
  unfold G49 at h
  split at h
  · rename_i c cs len
    simp only [Bool.and_eq_true] at h
    obtain ⟨ys, hy⟩ := allInt_some _ h.1.2
    have hl := Nat.eq_of_beq_eq_true h.1.1
    have hb := Nat.le_of_ble_eq_true h.2
    rw [hy] at hl ⊢
    cases ys with
    | nil => cases hy
    | cons y ys =>
      have e : lenA ((y :: ys).map int64) = ys.length + 1 := by rw [lenM]; rfl
      rw [e] at hl
      subst hl
      exact ⟨y, ys, rfl, by omega⟩
  · cases h
noncomputable def OC2 (S : Orc) : Orc := addF 49 (orF isEmptyA (emptyO 1) (whenO G49 sameF1)) S
theorem OC2_ok {S : Orc} (h : Ok S) : Ok (OC2 S) := by
  refine addF_ok (fnSim_or (fnSim_empty tbOk ok0 run49_nil ?_) (fnSim_whenF tbOk when49c)) (natF_or natF_empty natF_when) h
  obtain ⟨⟨v, g⟩, h1, h2⟩ := Option.map_eq_some_iff.1 run49_some
  simp only at h2
  subst h2
  exact ⟨_, _, _, _, g, h1⟩
noncomputable def ONw (S : Orc) : Orc := addF 18 (locF Try.prog (OC2 orc0) tb ⟨[], [(0, [])]⟩ 18) S
theorem ONw_ok {S : Orc} (h : Ok S) : Ok (ONw S) := addF_ok (fnSim_loc tbOk (OC2_ok ok0) _ 18) (natF_loc _ 18) h
end Go.Proofs.Ythlmbnhelkbchaa
