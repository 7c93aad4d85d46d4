/- slices.Clone of numbers. -/
import Derived.Test.YthlmbnhelkbchaaEvZ1
import Derived.Test.YthlmbnhelkbchaaBase
namespace Go.Proofs.Ythlmbnhelkbchaa
open Go.Ev
set_option maxRecDepth 100000
theorem run49_nil : ∃ p1 c1 e1 s1 g1, evCall Try.prog orc0 tb 100 (AV × Heap) (.fn 49) [.sl none 0 0 true 1] (mkHeap [] 0) .off pairK = some (.sl p1 0 c1 e1 s1, g1) := ⟨none, 0, true, 0, mkHeap [] 0, by kernel_rfl⟩
theorem run49_some : (evCall Try.prog orc0 tb 100 (AV × Heap) (.fn 49) [.sl (some (0, 0)) 0 0 false 1] (mkHeap [] 1) .off pairK).map (·.1) = some (.sl (some (1, 0)) 0 0 true 1) := by kernel_rfl
theorem run49 (x : Int) (xs : List Int) : evCall Try.prog orc0 tb 100 AV (.fn 49) [ints (x :: xs)] (mkHeap [] 0) .off (viewK Try.prog (resOf Try.prog 49)) = (
    guardK (Nat.ble ((0 + (x :: xs).length) * 8) limit && Nat.ble (0 + (x :: xs).length) limit) <| guardK (allS (dropA ((x :: xs).map int64) 0)) <| some (.fz (fixLen ((0 + (x :: xs).length) * 1) (dropA ((x :: xs).map int64) 0)) (0 + (x :: xs).length) false 1)) := by kernel_rfl
theorem args49 (xs : List Int) : vwArgs Try.prog [] none0 (parsOf Try.prog 49) [ints xs] = [ints xs] := by kernel_rfl
def is49 (a : List AV) : Prop := ∃ x xs, a = [ints (x :: xs)] ∧ xs.length ≤ 1000000
theorem when49 (a : List AV) (h : isSo (is49 a) = true) : FFact Try.prog tb 49 a (sameF1 a) := by
  obtain ⟨x, xs, rfl, hl⟩ := isSo_iff.1 h
  refine ⟨args49 _, orc0, ok0, (run49 x xs).trans ?_⟩
  have e1 : limit = 140737488355328 := rfl
  have e2 : (Nat.ble ((0 + (x :: xs).length) * 8) limit && Nat.ble (0 + (x :: xs).length) limit) = true := by
    rw [Bool.and_eq_true]
    simp only [List.length_cons]
    exact ⟨Nat.ble_eq_true_of_le (by omega), Nat.ble_eq_true_of_le (by omega)⟩
  have e3 : allS (dropA ((x :: xs).map int64) 0) = true := by rw [dropA_eq, List.drop_zero, allS_ints]
  rw [e2, e3, Nat.zero_add, fix_ints]
  rfl
noncomputable def OC (S : Orc) : Orc := addF 49 (cloneO 1 fun a => isSo (is49 a)) S
theorem OC_ok {S : Orc} (h : Ok S) : Ok (OC S) := by
  refine addF_ok (fnSim_or (fnSim_empty tbOk ok0 run49_nil ?_) (fnSim_whenF tbOk when49)) (natF_or natF_empty natF_when) h
  obtain ⟨⟨v, g⟩, h1, h2⟩ := Option.map_eq_some_iff.1 run49_some
  simp only at h2
  subst h2
  exact ⟨_, _, _, _, g, h1⟩
end Go.Proofs.Ythlmbnhelkbchaa
