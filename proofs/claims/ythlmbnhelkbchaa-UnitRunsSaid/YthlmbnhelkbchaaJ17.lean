/- slices.Clone of numbers. -/
import Derived.Test.YthlmbnhelkbchaaEvZ1
import Derived.Test.YthlmbnhelkbchaaBase
import Derived.Test.YthlmbnhelkbchaaEvZ2
import Derived.Test.YthlmbnhelkbchaaEvZ
namespace Go.Proofs.Ythlmbnhelkbchaa
open Go.Ev
set_option maxRecDepth 100000
theorem run49_nil : ∃ p1 c1 e1 s1 g1, evCall Try.prog orc0 tb 100 (AV × Heap) (.fn 49) [.sl none 0 0 true 1] (mkHeap [] 0) .off pairK = some (.sl p1 0 c1 e1 s1, g1) := ⟨none, 0, true, 0, mkHeap [] 0, by kernel_rfl⟩
theorem run49_some : (evCall Try.prog orc0 tb 100 (AV × Heap) (.fn 49) [.sl (some (0, 0)) 0 0 false 1] (mkHeap [] 1) .off pairK).map (·.1) = some (.sl (some (1, 0)) 0 0 true 1) := by kernel_rfl
theorem run49 (x : Int) (xs : List Int) : evCall Try.prog orc0 tb 100 AV (.fn 49) [ints (x :: xs)] (mkHeap [] 0) .off (viewK Try.prog (resOf Try.prog 49)) = (
    guardK (Nat.ble ((0 + (x :: xs).length) * 8) limit && Nat.ble (0 + (x :: xs).length) limit) <| guardK (allS (dropA ((x :: xs).map int64) 0)) <| some (.fz (fixLen ((0 + (x :: xs).length) * 1) (dropA ((x :: xs).map int64) 0)) (0 + (x :: xs).length) false 1)) := by kernel_rfl
theorem args49 (xs : List Int) : vwArgs Try.prog [] none0 (parsOf Try.prog 49) [ints xs] = [ints xs] := by kernel_rfl
def is49 (a : List AV) : Prop := ∃ x xs, a = [ints (x :: xs)] ∧ xs.length ≤ 1000000
theorem when49 (a : List AV) (h : isSo (is49 a) = true) : FFact Try.prog tb 49 a (sameF1 a) := by
  obtain ⟨x, xs, rfl, hl⟩ := isSo_iff.1 h
  refine ⟨args49 _, orc0, ok0, (run49 x xs).trans ?_⟩
  have e1 : limit = 140737488355328 := rfl
  have e2 : (Nat.ble ((0 + (x :: xs).length) * 8) limit && Nat.ble (0 + (x :: xs).length) limit) = true := by
    rw [Bool.and_eq_true]
    simp only [List.length_cons]
    exact ⟨Nat.ble_eq_true_of_le (by omega), Nat.ble_eq_true_of_le (by omega)⟩
  have e3 : allS (dropA ((x :: xs).map int64) 0) = true := by rw [dropA_eq, List.drop_zero, allS_ints]
  rw [e2, e3, Nat.zero_add, fix_ints]
  rfl
noncomputable def OC (S : Orc) : Orc := addF 49 (cloneO 1 fun a => isSo (is49 a)) S
theorem OC_ok {S : Orc} (h : Ok S) : Ok (OC S) := by
  refine addF_ok (fnSim_or (fnSim_empty tbOk ok0 run49_nil ?_) (fnSim_whenF tbOk when49)) (natF_or natF_empty natF_when) h
  obtain ⟨⟨v, g⟩, h1, h2⟩ := Option.map_eq_some_iff.1 run49_some
  simp only at h2
  subst h2
  exact ⟨_, _, _, _, g, h1⟩
end Go.Proofs.Ythlmbnhelkbchaa
/- New of a unit whose numbers are known. -/
namespace Go.Proofs.Ythlmbnhelkbchaa
open Go.Ev
set_option maxRecDepth 100000
def allInt : List AV → Bool
  | [] => true
  | v :: vs => isIntK .i64 v && allInt vs
theorem allInt_some : ∀ cs : List AV, allInt cs = true → ∃ xs : List Int, cs = xs.map int64
  | [], _ => ⟨[], rfl⟩
  | v :: vs, h => by
    simp only [allInt, Bool.and_eq_true] at h
    obtain ⟨xs, rfl⟩ := allInt_some vs h.2
    have h1 := h.1
    cases v <;> first | (cases h1; done) | skip
    rename_i k n
    have : k = .i64 := by
      simp only [isIntK, decide_eq_true_eq] at h1
      first | exact h1 | exact h1.symm
    subst this
    exact ⟨n :: xs, rfl⟩
def G49 : List AV → Bool
  | [.fz (c :: cs) len false 1] => Nat.beq (lenA (c :: cs)) len && allInt (c :: cs) && Nat.ble len 1000000
  | _ => false
theorem when49c (a : List AV) (h : G49 a = true) : FFact Try.prog tb 49 a (sameF1 a) := by
  refine when49 a (isSo_true ?_)
  unfold G49 at h
  split at h
  · rename_i c cs len
    simp only [Bool.and_eq_true] at h
    obtain ⟨ys, hy⟩ := allInt_some _ h.1.2
    have hl := Nat.eq_of_beq_eq_true h.1.1
    have hb := Nat.le_of_ble_eq_true h.2
    rw [hy] at hl ⊢
    cases ys with
    | nil => cases hy
    | cons y ys =>
      have e : lenA ((y :: ys).map int64) = ys.length + 1 := by rw [lenM]; rfl
      rw [e] at hl
      subst hl
      exact ⟨y, ys, rfl, by omega⟩
  · cases h
noncomputable def OC2 (S : Orc) : Orc := addF 49 (orF isEmptyA (emptyO 1) (whenO G49 sameF1)) S
theorem OC2_ok {S : Orc} (h : Ok S) : Ok (OC2 S) := by
  refine addF_ok (fnSim_or (fnSim_empty tbOk ok0 run49_nil ?_) (fnSim_whenF tbOk when49c)) (natF_or natF_empty natF_when) h
  obtain ⟨⟨v, g⟩, h1, h2⟩ := Option.map_eq_some_iff.1 run49_some
  simp only at h2
  subst h2
  exact ⟨_, _, _, _, g, h1⟩
noncomputable def ONw (S : Orc) : Orc := addF 18 (locF Try.prog (OC2 orc0) tb ⟨[], [(0, [])]⟩ 18) S
theorem ONw_ok {S : Orc} (h : Ok S) : Ok (ONw S) := addF_ok (fnSim_loc tbOk (OC2_ok ok0) _ 18) (natF_loc _ 18) h
end Go.Proofs.Ythlmbnhelkbchaa
/- UnitKinds, first part: the kinds' numbers and words; which kind a word is. -/
namespace Go.Proofs.Ythlmbnhelkbchaa
open Go.Ev
set_option maxRecDepth 100000
abbrev F (f : FuncId) (args : List AV) (v : AV) : Prop := Fact Try.prog tb f args v
theorem F.of {S : Orc} (hS : Ok S) {f : FuncId} {args : List AV} {v : AV} (hv : scalarV v = true) (h : ∀ h, evCall Try.prog S tb 100 AV (.fn f) (vwArgs Try.prog [] h (parsOf Try.prog f) args) (mkHeap [] 0) .off rv = some v) : F f args v := ⟨hv, S, hS, h⟩
theorem ins25_1 : F 25 [int64 1] (.tup [int64 1, int64 0, int64 0]) := .of ok0 rfl fun _ => by kernel_rfl
theorem ins26_1 : F 26 [int64 1] (.tup [int64 1, int64 0, int64 0]) := .of ok0 rfl fun _ => by kernel_rfl
theorem word27_1 : F 27 [int64 1] (.str [115, 97, 119]) := .of ok0 rfl fun _ => by kernel_rfl
theorem word28_1 : F 28 [int64 1] (.str [115, 97, 119]) := .of ok0 rfl fun _ => by kernel_rfl
theorem ins25_2 : F 25 [int64 2] (.tup [int64 2, int64 0, int64 0]) := .of ok0 rfl fun _ => by kernel_rfl
theorem ins26_2 : F 26 [int64 2] (.tup [int64 2, int64 0, int64 0]) := .of ok0 rfl fun _ => by kernel_rfl
theorem word27_2 : F 27 [int64 2] (.str [112, 117, 108, 115, 101]) := .of ok0 rfl fun _ => by kernel_rfl
theorem word28_2 : F 28 [int64 2] (.str [112, 117, 108, 115, 101]) := .of ok0 rfl fun _ => by kernel_rfl
theorem ins25_3 : F 25 [int64 3] (.tup [int64 1, int64 0, int64 0]) := .of ok0 rfl fun _ => by kernel_rfl
theorem ins26_3 : F 26 [int64 3] (.tup [int64 1, int64 0, int64 0]) := .of ok0 rfl fun _ => by kernel_rfl
theorem word27_3 : F 27 [int64 3] (.str [116, 114, 105]) := .of ok0 rfl fun _ => by kernel_rfl
theorem word28_3 : F 28 [int64 3] (.str [116, 114, 105]) := .of ok0 rfl fun _ => by kernel_rfl
theorem ins25_4 : F 25 [int64 4] (.tup [int64 0, int64 1, int64 0]) := .of ok0 rfl fun _ => by kernel_rfl
theorem ins26_4 : F 26 [int64 4] (.tup [int64 0, int64 1, int64 0]) := .of ok0 rfl fun _ => by kernel_rfl
theorem word27_4 : F 27 [int64 4] (.str [110, 111, 105, 115, 101]) := .of ok0 rfl fun _ => by kernel_rfl
theorem word28_4 : F 28 [int64 4] (.str [110, 111, 105, 115, 101]) := .of ok0 rfl fun _ => by kernel_rfl
theorem ins25_5 : F 25 [int64 5] (.tup [int64 0, int64 3, int64 0]) := .of ok0 rfl fun _ => by kernel_rfl
theorem ins26_5 : F 26 [int64 5] (.tup [int64 0, int64 3, int64 0]) := .of ok0 rfl fun _ => by kernel_rfl
theorem word27_5 : F 27 [int64 5] (.str [108, 105, 110, 101]) := .of ok0 rfl fun _ => by kernel_rfl
theorem word28_5 : F 28 [int64 5] (.str [108, 105, 110, 101]) := .of ok0 rfl fun _ => by kernel_rfl
theorem ins25_6 : F 25 [int64 6] (.tup [int64 1, int64 4, int64 0]) := .of ok0 rfl fun _ => by kernel_rfl
theorem ins26_6 : F 26 [int64 6] (.tup [int64 1, int64 4, int64 0]) := .of ok0 rfl fun _ => by kernel_rfl
theorem word27_6 : F 27 [int64 6] (.str [101, 110, 118]) := .of ok0 rfl fun _ => by kernel_rfl
theorem word28_6 : F 28 [int64 6] (.str [101, 110, 118]) := .of ok0 rfl fun _ => by kernel_rfl
theorem ins25_7 : F 25 [int64 7] (.tup [int64 2, int64 0, int64 0]) := .of ok0 rfl fun _ => by kernel_rfl
theorem ins26_7 : F 26 [int64 7] (.tup [int64 2, int64 0, int64 0]) := .of ok0 rfl fun _ => by kernel_rfl
theorem word27_7 : F 27 [int64 7] (.str [108, 111, 119]) := .of ok0 rfl fun _ => by kernel_rfl
theorem word28_7 : F 28 [int64 7] (.str [108, 111, 119]) := .of ok0 rfl fun _ => by kernel_rfl
theorem ins25_8 : F 25 [int64 8] (.tup [int64 2, int64 0, int64 0]) := .of ok0 rfl fun _ => by kernel_rfl
theorem ins26_8 : F 26 [int64 8] (.tup [int64 2, int64 0, int64 0]) := .of ok0 rfl fun _ => by kernel_rfl
theorem word27_8 : F 27 [int64 8] (.str [97, 100, 100]) := .of ok0 rfl fun _ => by kernel_rfl
theorem word28_8 : F 28 [int64 8] (.str [97, 100, 100]) := .of ok0 rfl fun _ => by kernel_rfl
theorem ins25_9 : F 25 [int64 9] (.tup [int64 2, int64 0, int64 0]) := .of ok0 rfl fun _ => by kernel_rfl
theorem ins26_9 : F 26 [int64 9] (.tup [int64 2, int64 0, int64 0]) := .of ok0 rfl fun _ => by kernel_rfl
theorem word27_9 : F 27 [int64 9] (.str [109, 117, 108]) := .of ok0 rfl fun _ => by kernel_rfl
theorem word28_9 : F 28 [int64 9] (.str [109, 117, 108]) := .of ok0 rfl fun _ => by kernel_rfl
theorem ins25_10 : F 25 [int64 10] (.tup [int64 2, int64 0, int64 0]) := .of ok0 rfl fun _ => by kernel_rfl
theorem ins26_10 : F 26 [int64 10] (.tup [int64 2, int64 0, int64 0]) := .of ok0 rfl fun _ => by kernel_rfl
theorem word27_10 : F 27 [int64 10] (.str [99, 108, 105, 112]) := .of ok0 rfl fun _ => by kernel_rfl
theorem word28_10 : F 28 [int64 10] (.str [99, 108, 105, 112]) := .of ok0 rfl fun _ => by kernel_rfl
theorem ins25_11 : F 25 [int64 11] (.tup [int64 1, int64 1, int64 0]) := .of ok0 rfl fun _ => by kernel_rfl
theorem ins26_11 : F 26 [int64 11] (.tup [int64 1, int64 1, int64 0]) := .of ok0 rfl fun _ => by kernel_rfl
theorem word27_11 : F 27 [int64 11] (.str [100, 101, 108, 97, 121]) := .of ok0 rfl fun _ => by kernel_rfl
theorem word28_11 : F 28 [int64 11] (.str [100, 101, 108, 97, 121]) := .of ok0 rfl fun _ => by kernel_rfl
theorem ins25_12 : F 25 [int64 12] (.tup [int64 0, int64 1, int64 0]) := .of ok0 rfl fun _ => by kernel_rfl
theorem ins26_12 : F 26 [int64 12] (.tup [int64 0, int64 1, int64 0]) := .of ok0 rfl fun _ => by kernel_rfl
theorem word27_12 : F 27 [int64 12] (.str [98, 117, 115]) := .of ok0 rfl fun _ => by kernel_rfl
theorem word28_12 : F 28 [int64 12] (.str [98, 117, 115]) := .of ok0 rfl fun _ => by kernel_rfl
theorem ins25_13 : F 25 [int64 13] (.tup [int64 1, int64 1, int64 0]) := .of ok0 rfl fun _ => by kernel_rfl
theorem ins26_13 : F 26 [int64 13] (.tup [int64 1, int64 1, int64 0]) := .of ok0 rfl fun _ => by kernel_rfl
theorem word27_13 : F 27 [int64 13] (.str [111, 117, 116]) := .of ok0 rfl fun _ => by kernel_rfl
theorem word28_13 : F 28 [int64 13] (.str [111, 117, 116]) := .of ok0 rfl fun _ => by kernel_rfl
theorem ins25_14 : F 25 [int64 14] (.tup [int64 0, int64 1, int64 0]) := .of ok0 rfl fun _ => by kernel_rfl
theorem ins26_14 : F 26 [int64 14] (.tup [int64 0, int64 1, int64 0]) := .of ok0 rfl fun _ => by kernel_rfl
theorem word27_14 : F 27 [int64 14] (.str [112, 97, 114, 97, 109]) := .of ok0 rfl fun _ => by kernel_rfl
theorem word28_14 : F 28 [int64 14] (.str [112, 97, 114, 97, 109]) := .of ok0 rfl fun _ => by kernel_rfl
theorem ins25_15 : F 25 [int64 15] (.tup [int64 0, int64 1, int64 0]) := .of ok0 rfl fun _ => by kernel_rfl
theorem ins26_15 : F 26 [int64 15] (.tup [int64 0, int64 1, int64 0]) := .of ok0 rfl fun _ => by kernel_rfl
theorem word27_15 : F 27 [int64 15] (.str [99, 111, 110, 115, 116]) := .of ok0 rfl fun _ => by kernel_rfl
theorem word28_15 : F 28 [int64 15] (.str [99, 111, 110, 115, 116]) := .of ok0 rfl fun _ => by kernel_rfl
/-- A number that is no kind. -/
def Out (k : Int) : Prop := k < 1 ∨ k > 15
theorem known_run (k : Int) (h : Heap) : evCall Try.prog orc0 tb 100 AV (.fn 59) (vwArgs Try.prog [] h (parsOf Try.prog 59) [int64 k]) (mkHeap [] 0) .off rv =
    bif decide (k ≥ 1) then some (.bool (decide (k ≤ 15))) else some (.bool false) := by kernel_rfl
theorem known_out {k : Int} (ho : Out k) : F 59 [int64 k] (.bool false) := .of ok0 rfl fun h => by
  rw [known_run]
  rcases ho with ho | ho
  · rw [decide_eq_false (by omega : ¬ k ≥ 1)]; rfl
  · rw [decide_eq_true (by omega : k ≥ 1), decide_eq_false (by omega : ¬ k ≤ 15)]; rfl
noncomputable def outO (k : Int) : Orc := know 59 [int64 k] (.bool false) orc0
theorem outO_ok {k : Int} (ho : Out k) : Ok (outO k) := know_ok tbOk (known_out ho) ok0
theorem ins25_run (k : Int) (h : Heap) : evCall Try.prog (outO k) tb 100 AV (.fn 25) (vwArgs Try.prog [] h (parsOf Try.prog 25) [int64 k]) (mkHeap [] 0) .off rv =
    bif same [int64 k] [int64 k] then some (.tup [int64 0, int64 0, int64 10]) else none := by kernel_rfl
theorem ins25_out {k : Int} (ho : Out k) : F 25 [int64 k] (.tup [int64 0, int64 0, int64 10]) := .of (outO_ok ho) rfl fun h => by rw [ins25_run, same_self]; rfl
theorem word27_run (k : Int) (h : Heap) : evCall Try.prog (outO k) tb 100 AV (.fn 27) (vwArgs Try.prog [] h (parsOf Try.prog 27) [int64 k]) (mkHeap [] 0) .off rv =
    bif same [int64 k] [int64 k] then some (.str []) else none := by kernel_rfl
theorem word27_out {k : Int} (ho : Out k) : F 27 [int64 k] (.str []) := .of (outO_ok ho) rfl fun h => by rw [word27_run, same_self]; rfl
theorem ins26_run (k : Int) (h : Heap) : evCall Try.prog (stopAt 26 [3] orc0) tb 100 AV (.fn 26) (vwArgs Try.prog [] h (parsOf Try.prog 26) [int64 k]) (mkHeap [] 0) .off rv =
    bif decide (k < 1) then some (.tup [int64 0, int64 0, int64 10]) else bif decide (k > 15) then some (.tup [int64 0, int64 0, int64 10]) else none := by kernel_rfl
theorem ins26_out {k : Int} (ho : Out k) : F 26 [int64 k] (.tup [int64 0, int64 0, int64 10]) := .of (stopAt_ok ok0) rfl fun h => by
  rw [ins26_run]
  rcases ho with ho | ho
  · rw [decide_eq_true ho]; rfl
  · rw [decide_eq_false (by omega : ¬ k < 1), decide_eq_true ho]; rfl
theorem word28_run (k : Int) (h : Heap) : evCall Try.prog (stopAt 28 [3] orc0) tb 100 AV (.fn 28) (vwArgs Try.prog [] h (parsOf Try.prog 28) [int64 k]) (mkHeap [] 0) .off rv =
    bif decide (k < 1) then some (.str []) else bif decide (k > 15) then some (.str []) else none := by kernel_rfl
theorem word28_out {k : Int} (ho : Out k) : F 28 [int64 k] (.str []) := .of (stopAt_ok ok0) rfl fun h => by
  rw [word28_run]
  rcases ho with ho | ho
  · rw [decide_eq_true ho]; rfl
  · rw [decide_eq_false (by omega : ¬ k < 1), decide_eq_true ho]; rfl
/-- What is told of a kind. -/
theorem kind_facts (k : Int) : ∃ (a b e : Int) (s : List UInt8), F 25 [int64 k] (.tup [int64 a, int64 b, int64 e]) ∧ F 26 [int64 k] (.tup [int64 a, int64 b, int64 e]) ∧ F 27 [int64 k] (.str s) ∧ F 28 [int64 k] (.str s) := by
  by_cases ho : Out k
  · exact ⟨_, _, _, _, ins25_out ho, ins26_out ho, word27_out ho, word28_out ho⟩
  · have : k = 1 ∨ k = 2 ∨ k = 3 ∨ k = 4 ∨ k = 5 ∨ k = 6 ∨ k = 7 ∨ k = 8 ∨ k = 9 ∨ k = 10 ∨ k = 11 ∨ k = 12 ∨ k = 13 ∨ k = 14 ∨ k = 15 := by
      unfold Out at ho
      omega
    rcases this with rfl | rfl | rfl | rfl | rfl | rfl | rfl | rfl | rfl | rfl | rfl | rfl | rfl | rfl | rfl
    · exact ⟨_, _, _, _, ins25_1, ins26_1, word27_1, word28_1⟩
    · exact ⟨_, _, _, _, ins25_2, ins26_2, word27_2, word28_2⟩
    · exact ⟨_, _, _, _, ins25_3, ins26_3, word27_3, word28_3⟩
    · exact ⟨_, _, _, _, ins25_4, ins26_4, word27_4, word28_4⟩
    · exact ⟨_, _, _, _, ins25_5, ins26_5, word27_5, word28_5⟩
    · exact ⟨_, _, _, _, ins25_6, ins26_6, word27_6, word28_6⟩
    · exact ⟨_, _, _, _, ins25_7, ins26_7, word27_7, word28_7⟩
    · exact ⟨_, _, _, _, ins25_8, ins26_8, word27_8, word28_8⟩
    · exact ⟨_, _, _, _, ins25_9, ins26_9, word27_9, word28_9⟩
    · exact ⟨_, _, _, _, ins25_10, ins26_10, word27_10, word28_10⟩
    · exact ⟨_, _, _, _, ins25_11, ins26_11, word27_11, word28_11⟩
    · exact ⟨_, _, _, _, ins25_12, ins26_12, word27_12, word28_12⟩
    · exact ⟨_, _, _, _, ins25_13, ins26_13, word27_13, word28_13⟩
    · exact ⟨_, _, _, _, ins25_14, ins26_14, word27_14, word28_14⟩
    · exact ⟨_, _, _, _, ins25_15, ins26_15, word27_15, word28_15⟩
def nameT (w : List UInt8) : Option AV := bif eqS w [115, 97, 119] then some (.tup [int64 1, int64 0]) else (bif eqS w [112, 117, 108, 115, 101] then some (.tup [int64 2, int64 0]) else (bif eqS w [116, 114, 105] then some (.tup [int64 3, int64 0]) else (bif eqS w [110, 111, 105, 115, 101] then some (.tup [int64 4, int64 0]) else (bif eqS w [108, 105, 110, 101] then some (.tup [int64 5, int64 0]) else (bif eqS w [101, 110, 118] then some (.tup [int64 6, int64 0]) else (bif eqS w [108, 111, 119] then some (.tup [int64 7, int64 0]) else (bif eqS w [97, 100, 100] then some (.tup [int64 8, int64 0]) else (bif eqS w [109, 117, 108] then some (.tup [int64 9, int64 0]) else (bif eqS w [99, 108, 105, 112] then some (.tup [int64 10, int64 0]) else (bif eqS w [100, 101, 108, 97, 121] then some (.tup [int64 11, int64 0]) else (bif eqS w [98, 117, 115] then some (.tup [int64 12, int64 0]) else (bif eqS w [111, 117, 116] then some (.tup [int64 13, int64 0]) else (bif eqS w [112, 97, 114, 97, 109] then some (.tup [int64 14, int64 0]) else (bif eqS w [99, 111, 110, 115, 116] then some (.tup [int64 15, int64 0]) else (some (.tup [int64 0, int64 5]))))))))))))))))
theorem kind31_run (w : List UInt8) (h : Heap) : evCall Try.prog orc0 tb 100 AV (.fn 31) (vwArgs Try.prog [] h (parsOf Try.prog 31) [.str w]) (mkHeap [] 0) .off rv =
    bif eqS [115, 97, 119] w then some (.tup [int64 1, int64 0]) else (bif eqS [112, 117, 108, 115, 101] w then some (.tup [int64 2, int64 0]) else (bif eqS [116, 114, 105] w then some (.tup [int64 3, int64 0]) else (bif eqS [110, 111, 105, 115, 101] w then some (.tup [int64 4, int64 0]) else (bif eqS [108, 105, 110, 101] w then some (.tup [int64 5, int64 0]) else (bif eqS [101, 110, 118] w then some (.tup [int64 6, int64 0]) else (bif eqS [108, 111, 119] w then some (.tup [int64 7, int64 0]) else (bif eqS [97, 100, 100] w then some (.tup [int64 8, int64 0]) else (bif eqS [109, 117, 108] w then some (.tup [int64 9, int64 0]) else (bif eqS [99, 108, 105, 112] w then some (.tup [int64 10, int64 0]) else (bif eqS [100, 101, 108, 97, 121] w then some (.tup [int64 11, int64 0]) else (bif eqS [98, 117, 115] w then some (.tup [int64 12, int64 0]) else (bif eqS [111, 117, 116] w then some (.tup [int64 13, int64 0]) else (bif eqS [112, 97, 114, 97, 109] w then some (.tup [int64 14, int64 0]) else (bif eqS [99, 111, 110, 115, 116] w then some (.tup [int64 15, int64 0]) else (some (.tup [int64 0, int64 5])))))))))))))))) := by kernel_rfl
theorem kind30_run (w : List UInt8) (h : Heap) : evCall Try.prog orc0 tb 100 AV (.fn 30) (vwArgs Try.prog [] h (parsOf Try.prog 30) [.str w]) (mkHeap [] 0) .off rv = nameT w := by kernel_rfl
theorem eqS_comm (a b : List UInt8) : eqS a b = eqS b a := by
  induction a generalizing b with
  | nil => cases b <;> rfl
  | cons x a ih =>
    cases b with
    | nil => rfl
    | cons y b =>
      simp only [eqS, ih b]
      congr 1
      rw [Bool.eq_iff_iff]
      simp only [beq_iff_eq]
      first | exact eq_comm | constructor <;> exact fun h => h.symm
theorem nameT_some (w : List UInt8) : ∃ a e, nameT w = some (.tup [int64 a, int64 e]) := by
  unfold nameT
  repeat (first | exact ⟨_, _, rfl⟩ | (cases eqS w _ <;> simp only [cond_true, cond_false] <;> first | exact ⟨_, _, rfl⟩ | skip))
theorem name_facts (w : List UInt8) : ∃ a e, F 30 [.str w] (.tup [int64 a, int64 e]) ∧ F 31 [.str w] (.tup [int64 a, int64 e]) := by
  obtain ⟨a, e, h⟩ := nameT_some w
  refine ⟨a, e, .of ok0 rfl fun h' => by rw [kind30_run, h], .of ok0 rfl fun h' => ?_⟩
  rw [kind31_run, ← h]
  unfold nameT
  simp only [eqS_comm w]
end Go.Proofs.Ythlmbnhelkbchaa
/- Numbers of units: what the small functions of numbers tell, in closed form. -/
namespace Go.Proofs.Ythlmbnhelkbchaa
open Go.Ev
set_option maxRecDepth 100000
/-- The numbers of a list of arguments. -/
def ar (a : List AV) (i : Nat) : Int := intOf (nth a i)
def isN1 (a : List AV) : Prop := ∃ x, a = [int64 x]
def isN2 (a : List AV) : Prop := ∃ x y, a = [int64 x, int64 y]
def isN3 (a : List AV) : Prop := ∃ x y z, a = [int64 x, int64 y, int64 z]
/-- kept -/
def kept (n lo hi : Int) : Int := maxI lo (minI hi n)
def V73 (a : List AV) : AV := int64 (kept (ar a 0) (ar a 1) (ar a 2))
theorem run73 (n lo hi : Int) (h : Heap) : evCall Try.prog orc0 tb 100 AV (.fn 73) (vwArgs Try.prog [] h (parsOf Try.prog 73) [int64 n, int64 lo, int64 hi]) (mkHeap [] 0) .off rv = some (int64 (kept n lo hi)) := by kernel_rfl
theorem when73 (a : List AV) (h : isSo (isN3 a) = true) : F 73 a (V73 a) := by
  obtain ⟨x, y, z, rfl⟩ := isSo_iff.1 h
  exact .of ok0 rfl fun h => run73 x y z h
/-- Into -/
def into (n lo hi : Int) : Int := bif decide (n < lo) then lo else bif decide (n > hi) then hi else n
def V47 (a : List AV) : AV := int64 (into (ar a 0) (ar a 1) (ar a 2))
theorem run47 (n lo hi : Int) (h : Heap) : evCall Try.prog orc0 tb 100 AV (.fn 47) (vwArgs Try.prog [] h (parsOf Try.prog 47) [int64 n, int64 lo, int64 hi]) (mkHeap [] 0) .off rv =
    bif decide (n < lo) then some (int64 lo) else bif decide (n > hi) then some (int64 hi) else some (int64 n) := by kernel_rfl
theorem when47 (a : List AV) (h : isSo (isN3 a) = true) : F 47 a (V47 a) := by
  obtain ⟨x, y, z, rfl⟩ := isSo_iff.1 h
  refine .of ok0 rfl fun h => (run47 x y z h).trans ?_
  show _ = some (int64 (into x y z))
  unfold into
  cases decide (x < y) <;> cases decide (x > z) <;> rfl
/-- Number -/
def num (n : Int) : Int := into n (-1099511627776) 1099511627776
def V16 (a : List AV) : AV := int64 (num (ar a 0))
noncomputable def O47 (S : Orc) : Orc := knowW 47 (fun a => isSo (isN3 a)) V47 S
theorem O47_ok {S : Orc} (h : Ok S) : Ok (O47 S) := knowW_ok tbOk when47 h
theorem run16 (n : Int) (h : Heap) : evCall Try.prog (O47 orc0) tb 100 AV (.fn 16) (vwArgs Try.prog [] h (parsOf Try.prog 16) [int64 n]) (mkHeap [] 0) .off rv =
    bif isSo (isN3 [int64 n, int64 (-1099511627776), int64 1099511627776]) then some (int64 (num n)) else none := by kernel_rfl
theorem when16 (a : List AV) (h : isSo (isN1 a) = true) : F 16 a (V16 a) := by
  obtain ⟨x, rfl⟩ := isSo_iff.1 h
  refine .of (O47_ok ok0) rfl fun h => (run16 x h).trans ?_
  rw [isSo_true ⟨_, _, _, rfl⟩]
  rfl
/-- size, sign -/
def sizeI (n : Int) : Int := maxI n (IntKind.i64.wrap (0 - n))
def signI (n : Int) : Int := bif decide (n < 0) then -1 else 1
def V104 (a : List AV) : AV := int64 (sizeI (ar a 0))
def V105 (a : List AV) : AV := int64 (signI (ar a 0))
theorem run104 (n : Int) (h : Heap) : evCall Try.prog orc0 tb 100 AV (.fn 104) (vwArgs Try.prog [] h (parsOf Try.prog 104) [int64 n]) (mkHeap [] 0) .off rv = some (int64 (sizeI n)) := by kernel_rfl
theorem when104 (a : List AV) (h : isSo (isN1 a) = true) : F 104 a (V104 a) := by
  obtain ⟨x, rfl⟩ := isSo_iff.1 h
  exact .of ok0 rfl fun h => run104 x h
theorem run105 (n : Int) (h : Heap) : evCall Try.prog orc0 tb 100 AV (.fn 105) (vwArgs Try.prog [] h (parsOf Try.prog 105) [int64 n]) (mkHeap [] 0) .off rv = bif decide (n < 0) then some (int64 (-1)) else some (int64 1) := by kernel_rfl
theorem when105 (a : List AV) (h : isSo (isN1 a) = true) : F 105 a (V105 a) := by
  obtain ⟨x, rfl⟩ := isSo_iff.1 h
  refine .of ok0 rfl fun h => (run105 x h).trans ?_
  show _ = some (int64 (signI x))
  unfold signI
  cases decide (x < 0) <;> rfl
/-- rounded, by One -/
def round1 (a : Int) : Int := bif decide (a < 0) then IntKind.i64.wrap (0 - (IntKind.i64.wrap ((IntKind.i64.wrap (IntKind.i64.wrap (0 - a) + 32768)).tdiv 65536))) else IntKind.i64.wrap ((IntKind.i64.wrap (a + 32768)).tdiv 65536)
def V68 (a : List AV) : AV := int64 (round1 (ar a 0))
def is68 (a : List AV) : Prop := ∃ x, a = [int64 x, int64 65536]
theorem run68 (n : Int) (h : Heap) : evCall Try.prog orc0 tb 100 AV (.fn 68) (vwArgs Try.prog [] h (parsOf Try.prog 68) [int64 n, int64 65536]) (mkHeap [] 0) .off rv =
    bif decide (n < 0) then some (int64 (IntKind.i64.wrap (0 - (IntKind.i64.wrap ((IntKind.i64.wrap (IntKind.i64.wrap (0 - n) + 32768)).tdiv 65536))))) else some (int64 (IntKind.i64.wrap ((IntKind.i64.wrap (n + 32768)).tdiv 65536))) := by kernel_rfl
theorem when68 (a : List AV) (h : isSo (is68 a) = true) : F 68 a (V68 a) := by
  obtain ⟨x, rfl⟩ := isSo_iff.1 h
  refine .of ok0 rfl fun h => (run68 x h).trans ?_
  show _ = some (int64 (round1 x))
  unfold round1
  cases decide (x < 0) <;> rfl
end Go.Proofs.Ythlmbnhelkbchaa
/- product, in closed form. -/
namespace Go.Proofs.Ythlmbnhelkbchaa
open Go.Ev
set_option maxRecDepth 100000
noncomputable def ON (S : Orc) : Orc := knowW 104 (fun a => isSo (isN1 a)) V104 (knowW 105 (fun a => isSo (isN1 a)) V105 (knowW 73 (fun a => isSo (isN3 a)) V73 (knowW 68 (fun a => isSo (is68 a)) V68 S)))
theorem ON_ok {S : Orc} (h : Ok S) : Ok (ON S) := knowW_ok tbOk when104 (knowW_ok tbOk when105 (knowW_ok tbOk when73 (knowW_ok tbOk when68 h)))
abbrev w64 (n : Int) : Int := IntKind.i64.wrap n
noncomputable def g1 (x : Int) (y : Option AV) : Option AV := bif isSo (isN1 [int64 x]) then y else none
noncomputable def g3 (x lo hi : Int) (y : Option AV) : Option AV := bif isSo (isN3 [int64 x, int64 lo, int64 hi]) then y else none
noncomputable def g68 (x : Int) (y : Option AV) : Option AV := bif isSo (is68 [int64 x, int64 65536]) then y else none
theorem g1_eq (x : Int) (y : Option AV) : g1 x y = y := by unfold g1; rw [isSo_true ⟨_, rfl⟩]; rfl
theorem g3_eq (x lo hi : Int) (y : Option AV) : g3 x lo hi y = y := by unfold g3; rw [isSo_true ⟨_, _, _, rfl⟩]; rfl
theorem g68_eq (x : Int) (y : Option AV) : g68 x y = y := by unfold g68; rw [isSo_true ⟨_, rfl⟩]; rfl
noncomputable def fin2 (w r : Int) : Option AV := g68 r (g3 (w64 (w + round1 r)) (-1099511627776) 1099511627776 (some (int64 (kept (w64 (w + round1 r)) (-1099511627776) 1099511627776))))
noncomputable def fin1 (w r : Int) : Option AV := bif decide (w < 0) then (bif decide (r > 0) then fin2 (w64 (w + 1)) (w64 (r - 65536)) else fin2 w r) else fin2 w r
noncomputable def rest1 (w r : Int) : Option AV := bif decide (w > 0) then (bif decide (r < 0) then fin1 (w64 (w - 1)) (w64 (r + 65536)) else fin1 w r) else fin1 w r
noncomputable def rest0 (a b : Int) : Option AV :=
  rest1 (w64 (w64 (w64 (w64 (a.tdiv 65536) * b) + w64 (a.tmod 65536 * w64 (b.tdiv 65536))) + w64 ((w64 (a.tmod 65536 * b.tmod 65536)).tdiv 65536))) ((w64 (a.tmod 65536 * b.tmod 65536)).tmod 65536)
noncomputable def big (ah b : Int) : Option AV := g1 ah (g1 b (g3 (w64 (w64 (signI ah * signI b) * 1099511627776)) (-1099511627776) 1099511627776 (some (int64 (kept (w64 (w64 (signI ah * signI b) * 1099511627776)) (-1099511627776) 1099511627776)))))
noncomputable def prodT (a b : Int) : Option AV :=
  g1 (w64 (a.tdiv 65536)) (bif decide (sizeI (w64 (a.tdiv 65536)) > 0) then g1 b (g1 (w64 (a.tdiv 65536)) (bif sizeI (w64 (a.tdiv 65536)) == 0 then none else
    bif decide (sizeI b > w64 ((2199023255552 : Int).tdiv (sizeI (w64 (a.tdiv 65536))))) then big (w64 (a.tdiv 65536)) b else rest0 a b)) else rest0 a b)
theorem run92 (a b : Int) (h : Heap) : evCall Try.prog (ON orc0) tb 100 AV (.fn 92) (vwArgs Try.prog [] h (parsOf Try.prog 92) [int64 a, int64 b]) (mkHeap [] 0) .off rv = prodT a b := by kernel_rfl
/-- The same as a number. -/
def fin2I (w r : Int) : Int := kept (w64 (w + round1 r)) (-1099511627776) 1099511627776
def fin1I (w r : Int) : Int := bif decide (w < 0) then (bif decide (r > 0) then fin2I (w64 (w + 1)) (w64 (r - 65536)) else fin2I w r) else fin2I w r
def rest1I (w r : Int) : Int := bif decide (w > 0) then (bif decide (r < 0) then fin1I (w64 (w - 1)) (w64 (r + 65536)) else fin1I w r) else fin1I w r
def rest0I (a b : Int) : Int :=
  rest1I (w64 (w64 (w64 (w64 (a.tdiv 65536) * b) + w64 (a.tmod 65536 * w64 (b.tdiv 65536))) + w64 ((w64 (a.tmod 65536 * b.tmod 65536)).tdiv 65536))) ((w64 (a.tmod 65536 * b.tmod 65536)).tmod 65536)
def bigI (ah b : Int) : Int := kept (w64 (w64 (signI ah * signI b) * 1099511627776)) (-1099511627776) 1099511627776
def prodI (a b : Int) : Int :=
  bif decide (sizeI (w64 (a.tdiv 65536)) > 0) && decide (sizeI b > w64 ((2199023255552 : Int).tdiv (sizeI (w64 (a.tdiv 65536))))) then bigI (w64 (a.tdiv 65536)) b else rest0I a b
theorem fin2_eq (w r : Int) : fin2 w r = some (int64 (fin2I w r)) := by unfold fin2; rw [g68_eq, g3_eq]; rfl
theorem fin1_eq (w r : Int) : fin1 w r = some (int64 (fin1I w r)) := by
  unfold fin1 fin1I
  simp only [fin2_eq]
  cases decide (w < 0) <;> cases decide (r > 0) <;> rfl
theorem rest1_eq (w r : Int) : rest1 w r = some (int64 (rest1I w r)) := by
  unfold rest1 rest1I
  simp only [fin1_eq]
  cases decide (w > 0) <;> cases decide (r < 0) <;> rfl
theorem big_eq (ah b : Int) : big ah b = some (int64 (bigI ah b)) := by unfold big; rw [g1_eq, g1_eq, g3_eq]; rfl
theorem prodT_eq (a b : Int) : prodT a b = some (int64 (prodI a b)) := by
  unfold prodT prodI
  simp only [g1_eq, big_eq]
  have hr : rest0 a b = some (int64 (rest0I a b)) := rest1_eq _ _
  rw [hr]
  by_cases h : sizeI (w64 (a.tdiv 65536)) > 0
  · have h0 : (sizeI (w64 (a.tdiv 65536)) == 0) = false := by
      simp only [beq_eq_false_iff_ne]
      omega
    rw [decide_eq_true h, h0]
    cases decide (sizeI b > w64 ((2199023255552 : Int).tdiv (sizeI (w64 (a.tdiv 65536))))) <;> rfl
  · rw [decide_eq_false h]
    rfl
def V92 (a : List AV) : AV := int64 (prodI (ar a 0) (ar a 1))
theorem when92 (a : List AV) (h : isSo (isN2 a) = true) : F 92 a (V92 a) := by
  obtain ⟨x, y, rfl⟩ := isSo_iff.1 h
  exact .of (ON_ok ok0) rfl fun h => (run92 x y h).trans (prodT_eq x y)
end Go.Proofs.Ythlmbnhelkbchaa
/- UnitLows: the loop of 'listed' for a low, in closed form. -/
namespace Go.Proofs.Ythlmbnhelkbchaa
open Go.Ev
set_option maxRecDepth 100000
noncomputable def OL (S : Orc) : Orc := addF 29 (locC Try.prog S tb 29) (knowW 73 (fun a => isSo (isN3 a)) V73 (knowW 68 (fun a => isSo (is68 a)) V68 S))
abbrev MM : Int := 1099511627776
def kMl (n : Int) : Int := kept n (-1099511627776) 1099511627776
def lowP (x w last : Int) : Int := w64 (w64 (kMl x - last) * kept (kMl w) 0 65536)
def lowV (x w last : Int) : Int := kMl (w64 (last + round1 (lowP x w last)))
def blk46 (w fr told last : Int) : List (Nat × Blk) := [(16, .cells true [int64 0, int64 7, int64 3, .gr (15, 0) 2 1, .sl none 0 0 true 0, int64 fr, int64 told, int64 0, int64 0, int64 last, .sl none 0 0 true 0, int64 0, int64 0, int64 0, .bool false]),
  (15, .cells true [int64 0, int64 0]), (14, .cells true []), (3, .cells true [int64 7, int64 3, .gr (15, 0) 2 1, .sl none 0 0 true 0]), (2, .cells true [int64 7, int64 3, .sl (some (0, 0)) 2 2 true 1, .sl none 0 0 true 0]), (1, .cells true [int64 w]), (0, .cells true [int64 0, int64 0])]
def st46 (w : Int) (xs : List Int) (i fr told last : Int) (o : AV) (l : List (Nat × Blk)) : St := ⟨[.dead, .dead, .sl (some (1, 0)) 1 1 true 1, .dead, .dead, .dead, .dead, .dead, .ptr (some (16, 0)), .dead, o] ++ repA .dead 15 ++ [ints xs, int64 (xs.length : Int), int64 i] ++ repA .dead 18, mkHeap (l ++ blk46 w fr told last) 25, [], .off⟩
def El {A : Type} (n : Int) (y : Option A) : Option A := bif n == n then y else none
noncomputable def h3l {A : Type} (x lo hi : Int) (y : Option A) : Option A := bif isSo (isN3 [int64 x, int64 lo, int64 hi]) then y else none
noncomputable def h68 {A : Type} (x : Int) (y : Option A) : Option A := bif isSo (is68 [int64 x, int64 65536]) then y else none
noncomputable def step46 {A : Type} (x w last : Int) (k : Int → Option A) : Option A :=
  h3l x (-1099511627776) 1099511627776 <| h3l w (-1099511627776) 1099511627776 <|
  h3l (kMl w) 0 65536 <| El last <| El (kMl x) <| El last <| h68 (lowP x w last) <| El last <| h3l (w64 (last + round1 (lowP x w last))) (-1099511627776) 1099511627776 <| k (lowV x w last)
theorem step46_eq {A : Type} (x w last : Int) (k : Int → Option A) : step46 x w last k = k (lowV x w last) := by
  have h : ∀ (x lo hi : Int) (y : Option A), h3l x lo hi y = y := fun x lo hi y => by unfold h3l; rw [isSo_true ⟨_, _, _, rfl⟩]; rfl
  have h' : ∀ (x : Int) (y : Option A), h68 x y = y := fun x y => by unfold h68; rw [isSo_true ⟨_, rfl⟩]; rfl
  have e : ∀ (n : Int) (y : Option A), El n y = y := fun n y => by unfold El; rw [beq_self_eq_true]; rfl
  unfold step46
  simp only [h, h', e]
noncomputable def body46 {A : Type} (w : Int) (xs : List Int) (i fr told last : Int) (cs : List AV) (m : Nat) (K : Ex → St → Option A) : Option A :=
  bif decide (i < (xs.length : Int)) then
    ldI xs i fun x => step46 x w last fun v =>
    guardK (Nat.ble ((m + 1 + 1) * 8) limit && Nat.ble (m + 1 + 1) limit) <| guardK (Nat.ble (0 + (m + 1) * 1) (lenA cs)) <| guardK (allS (appA (takeA (dropA cs 0) ((m + 1) * 1)) [int64 v]) && true) <|
    K .normal (st46 w xs (IntKind.i64.wrap (i + 1)) (IntKind.i64.wrap (fr + 1)) v v (.gr (21, 0) (m + 1 + 1) 1) [(21, .cells true (appA (takeA (dropA cs 0) ((m + 1) * 1)) [int64 v]))])
  else guardK (allS cs && true) (K (.exit 0) (st46 w xs i fr told last (.gr (21, 0) (m + 1) 1) [(21, .cells true cs)]))
theorem b46 {A : Type} (w : Int) (xs : List Int) (i fr told last : Int) (cs : List AV) (m : Nat) (K : Ex → St → Option A) :
    loopBF Try.prog (OL orc0) tb 46 8 [21] 17 (st46 w xs i fr told last (.gr (21, 0) (m + 1) 1) [(21, .cells true cs)]) K = body46 w xs i fr told last cs m K := by kernel_rfl
theorem b46_0 {A : Type} (w : Int) (xs : List Int) (i fr told last : Int) (K : Ex → St → Option A) :
    loopBF Try.prog (OL orc0) tb 46 8 [21] 17 (st46 w xs i fr told last (.sl none 0 0 true 0) []) K =
    bif decide (i < (xs.length : Int)) then
      ldI xs i fun x => step46 x w last fun v => K .normal (st46 w xs (IntKind.i64.wrap (i + 1)) (IntKind.i64.wrap (fr + 1)) v v (.gr (21, 0) 1 1) [(21, .cells true [int64 v])])
    else K (.exit 0) (st46 w xs i fr told last (.sl none 0 0 true 0) []) := by kernel_rfl
/-- What a low tells from a last number on. -/
def lows (w : Int) : Int → List Int → List Int
  | _, [] => []
  | last, x :: xs => lowV x w last :: lows w (lowV x w last) xs
def lastL (w : Int) : Int → List Int → Int
  | last, [] => last
  | last, x :: xs => lastL w (lowV x w last) xs
/-- The loop, behind its first round. -/
def so46 (w : Int) (xs : List Int) (i : Nat) (last : Int) (os : List Int) : St := st46 w xs (i : Int) (i : Int) last last (.gr (21, 0) os.length 1) [(21, .cells true (os.map int64))]
theorem loop46 {w : Int} {xs : List Int} (hm : xs.length ≤ 20000) : ∀ (d i n : Nat) (last : Int) (os : List Int), i + d = xs.length → d < n → os.length = i → 0 < i →
    loopN (loopBF Try.prog (OL orc0) tb 46 8 [21] 17) n (so46 w xs i last os) pairE = some (.exit 0, so46 w xs xs.length (lastL w last (xs.drop i)) (os ++ lows w last (xs.drop i))) := by
  intro d
  induction d with
  | zero =>
    intro i n last os hi hn ho h0
    obtain ⟨n, rfl⟩ : ∃ m, n = m + 1 := ⟨n - 1, by omega⟩
    obtain ⟨m, hom⟩ : ∃ m, os.length = m + 1 := ⟨os.length - 1, by omega⟩
    have hi : i = xs.length := by omega
    subst hi
    rw [loopN_succ]
    unfold so46
    rw [hom, b46]
    unfold body46
    rw [decide_eq_false (by omega : ¬ ((xs.length : Int) < (xs.length : Int))), List.drop_eq_nil_of_le (Nat.le_refl _)]
    simp only [allS_ints, Bool.and_self, guardK, cond_true, cond_false, lastL, lows, List.append_nil, hom]
    rfl
  | succ d ih =>
    intro i n last os hi hn ho h0
    obtain ⟨n, rfl⟩ : ∃ m, n = m + 1 := ⟨n - 1, by omega⟩
    obtain ⟨m, hom⟩ : ∃ m, os.length = m + 1 := ⟨os.length - 1, by omega⟩
    have hx : i < xs.length := by omega
    have ih' := ih (i + 1) n (lowV xs[i] w last) (os ++ [lowV xs[i] w last]) (by omega) (by omega) (by simp; omega) (by omega)
    rw [loopN_succ]
    unfold so46 at ih' ⊢
    rw [hom, b46]
    unfold body46
    rw [decide_eq_true (by omega : (i : Int) < (xs.length : Int)), cond_true, ldI_eq hx, step46_eq, limit_ok (by omega), grow_ints hom, allS_ints, lenM, hom, wrapN (by omega)]
    have e : Nat.ble (0 + (m + 1) * 1) (m + 1) = true := Nat.ble_eq_true_of_le (by omega)
    simp only [e, Bool.and_self, guardK, cond_true]
    rw [List.drop_eq_getElem_cons hx]
    simp only [lastL, lows]
    rw [List.append_cons os (lowV xs[i] w last) (lows w (lowV xs[i] w last) (List.drop (i + 1) xs))]
    have e2 : (os ++ [lowV xs[i] w last]).length = m + 1 + 1 := by simp [hom]
    rw [e2] at ih'
    exact ih'
theorem first46 {A : Type} (w x : Int) (xs : List Int) (K : Ex → St → Option A) :
    loopBF Try.prog (OL orc0) tb 46 8 [21] 17 (st46 w (x :: xs) 0 0 0 0 (.sl none 0 0 true 0) []) K = K .normal (so46 w (x :: xs) 1 (lowV x w 0) [lowV x w 0]) := by
  have h0 : (0 : Int) < ((x :: xs).length : Int) := by simp only [List.length_cons]; omega
  rw [b46_0, decide_eq_true h0, cond_true]
  have hx : 0 < (x :: xs).length := by simp
  have := ldI_eq hx (fun x' => step46 x' w 0 fun v => K .normal (st46 w (x :: xs) (IntKind.i64.wrap (0 + 1)) (IntKind.i64.wrap (0 + 1)) v v (.gr (21, 0) 1 1) [(21, .cells true [int64 v])]))
  refine this.trans ?_
  rw [step46_eq]
  rfl
theorem loop46_all {w x : Int} {xs : List Int} (hm : (x :: xs).length ≤ 20000) :
    loopN (loopBF Try.prog (OL orc0) tb 46 8 [21] 17) rounds (st46 w (x :: xs) 0 0 0 0 (.sl none 0 0 true 0) []) pairE = some (.exit 0, so46 w (x :: xs) (x :: xs).length (lastL w 0 (x :: xs)) (lows w 0 (x :: xs))) := by
  obtain ⟨n, hn⟩ : ∃ n, rounds = n + 1 := ⟨99999999999999999999, rfl⟩
  have hr : rounds = 100000000000000000000 := rfl
  have hl := loop46 (w := w) hm xs.length 1 n (lowV x w 0) [lowV x w 0] (by simp only [List.length_cons]; omega) (by simp only [List.length_cons] at hm; omega) rfl (by omega)
  rw [hn, loopN_succ, first46]
  exact hl
theorem loop46_nil {w : Int} : loopN (loopBF Try.prog (OL orc0) tb 46 8 [21] 17) rounds (st46 w [] 0 0 0 0 (.sl none 0 0 true 0) []) pairE = some (.exit 0, st46 w [] 0 0 0 0 (.sl none 0 0 true 0) []) := by
  obtain ⟨n, hn⟩ : ∃ n, rounds = n + 1 := ⟨99999999999999999999, rfl⟩
  rw [hn, loopN_succ, b46_0]
  rfl
theorem OL_ok {S : Orc} (h : Ok S) : Ok (OL S) := addF_ok (fnSim_locC tbOk h 29) (natF_locC 29) (knowW_ok tbOk when73 (knowW_ok tbOk when68 h))
def N46 : Norm := ⟨[2, 6, 7, 8, 10, 26, 27, 28], []⟩
noncomputable def S15 (w : Int) (xs : List Int) (s1 : St) : Orc := knowLF Try.prog 46 8 N46 [21] 17 (st46 w xs 0 0 0 0 (.sl none 0 0 true 0) []) (.exit 0) s1 (OL orc0)
theorem count46 : Nat.ble (countL 8 e46.code) 1 = true := by kernel_rfl
theorem norm46 : loopN0 tb 46 8 = some N46 := by kernel_rfl
theorem S15_ok {w : Int} {xs : List Int} {s1 : St} (h : loopN (loopBF Try.prog (OL orc0) tb 46 8 [21] 17) rounds (st46 w xs 0 0 0 0 (.sl none 0 0 true 0) []) pairE = some (.exit 0, s1)) : Ok (S15 w xs s1) :=
  knowLF_ok tbOk (LFact.flat (OL_ok ok0) h) (OL_ok ok0) (ep := e46) rfl norm46 count46
theorem run15 (w x last : Int) (xs : List Int) (cs : List AV) (m : Nat) :
    evCall Try.prog (S15 w (x :: xs) (st46 w (x :: xs) ((x :: xs).length : Int) ((x :: xs).length : Int) last last (.gr (21, 0) (m + 1) 1) [(21, .cells true cs)])) tb 100 AV (.fn 15) [int64 w, ints (x :: xs)] (mkHeap [] 0) .off (viewK Try.prog (resOf Try.prog 15)) =
    bif decide (((x :: xs).length : Int) > 20000) then some (.tup [.fz [] 0 false 1, int64 4]) else bif sameSt (st46 w (x :: xs) 0 0 0 0 (.sl none 0 0 true 0) []) (st46 w (x :: xs) 0 0 0 0 (.sl none 0 0 true 0) []) then guardK (allS (dropA cs 0) && true) (some (.tup [.fz (fixLen ((m + 1) * 1) (dropA cs 0)) (m + 1) false 1, int64 0])) else none := by kernel_rfl
theorem run15_nil (w : Int) :
    evCall Try.prog (S15 w [] (st46 w [] 0 0 0 0 (.sl none 0 0 true 0) [])) tb 100 AV (.fn 15) [int64 w, ints []] (mkHeap [] 0) .off (viewK Try.prog (resOf Try.prog 15)) =
    bif sameSt (st46 w [] 0 0 0 0 (.sl none 0 0 true 0) []) (st46 w [] 0 0 0 0 (.sl none 0 0 true 0) []) then some (.tup [.fz [] 0 false 1, int64 0]) else none := by kernel_rfl
theorem args15 (w : Int) (xs : List Int) : vwArgs Try.prog [] none0 (parsOf Try.prog 15) [int64 w, ints xs] = [int64 w, ints xs] := by kernel_rfl
theorem lows_len (w : Int) : ∀ (xs : List Int) (last : Int), (lows w last xs).length = xs.length
  | [], _ => rfl
  | x :: xs, _ => by simp only [lows, List.length_cons, lows_len w xs]
/-- What unit.Low tells. -/
theorem low_fact {w : Int} {xs : List Int} (hm : xs.length ≤ 20000) : FFact Try.prog tb 15 [int64 w, ints xs] (.tup [ints (lows w 0 xs), int64 0]) := by
  refine ⟨args15 w xs, ?_⟩
  cases xs with
  | nil => exact ⟨_, S15_ok loop46_nil, by rw [run15_nil, sameSt_self]; rfl⟩
  | cons x xs =>
    refine ⟨_, S15_ok (loop46_all (w := w) hm), ?_⟩
    unfold so46
    have hl : (lows w 0 (x :: xs)).length = xs.length + 1 := by rw [lows_len]; rfl
    rw [hl, run15, sameSt_self, decide_eq_false (by omega : ¬ (((x :: xs).length : Int) > 20000))]
    have e := fix_ints (lows w 0 (x :: xs))
    rw [hl] at e
    have e2 : allS (dropA ((lows w 0 (x :: xs)).map int64) 0) = true := by rw [dropA_eq, List.drop_zero, allS_ints]
    rw [e, e2]
    simp only [cond_false, cond_true, guardK, Bool.and_self]
    unfold ints
    rw [hl]
end Go.Proofs.Ythlmbnhelkbchaa
/- The law's own example: awake. -/
namespace Go.Proofs.Ythlmbnhelkbchaa
open Go.Ev
set_option maxRecDepth 100000
theorem awake_run (h : Heap) : evCall Try.prog orc0 tb 100 AV (.fn 12) (vwArgs Try.prog [] h (parsOf Try.prog 12) []) (mkHeap [] 0) .off rv = some (.bool true) := by kernel_rfl
theorem awake_fact : F 12 [] (.bool true) := .of ok0 rfl awake_run
end Go.Proofs.Ythlmbnhelkbchaa
