/- UnitKinds, first part: the kinds' numbers and words; which kind a word is. -/
import Derived.Test.YthlmbnhelkbchaaBase
import Derived.Test.YthlmbnhelkbchaaEvZ
namespace Go.Proofs.Ythlmbnhelkbchaa
open Go.Ev
set_option maxRecDepth 100000
abbrev F (f : FuncId) (args : List AV) (v : AV) : Prop := Fact Try.prog tb f args v
theorem F.of {S : Orc} (hS : Ok S) {f : FuncId} {args : List AV} {v : AV} (hv : scalarV v = true) (h : ∀ h, evCall Try.prog S tb 100 AV (.fn f) (vwArgs Try.prog [] h (parsOf Try.prog f) args) (mkHeap [] 0) .off rv = some v) : F f args v := ⟨hv, S, hS, h⟩
theorem ins25_1 : F 25 [int64 1] (.tup [int64 1, int64 0, int64 0]) := .of ok0 rfl fun _ => by kernel_rfl
theorem ins26_1 : F 26 [int64 1] (.tup [int64 1, int64 0, int64 0]) := .of ok0 rfl fun _ => by kernel_rfl
theorem word27_1 : F 27 [int64 1] (.str [115, 97, 119]) := .of ok0 rfl fun _ => by kernel_rfl
theorem word28_1 : F 28 [int64 1] (.str [115, 97, 119]) := .of ok0 rfl fun _ => by kernel_rfl
theorem ins25_2 : F 25 [int64 2] (.tup [int64 2, int64 0, int64 0]) := .of ok0 rfl fun _ => by kernel_rfl
theorem ins26_2 : F 26 [int64 2] (.tup [int64 2, int64 0, int64 0]) := .of ok0 rfl fun _ => by kernel_rfl
theorem word27_2 : F 27 [int64 2] (.str [112, 117, 108, 115, 101]) := .of ok0 rfl fun _ => by kernel_rfl
theorem word28_2 : F 28 [int64 2] (.str [112, 117, 108, 115, 101]) := .of ok0 rfl fun _ => by kernel_rfl
theorem ins25_3 : F 25 [int64 3] (.tup [int64 1, int64 0, int64 0]) := .of ok0 rfl fun _ => by kernel_rfl
theorem ins26_3 : F 26 [int64 3] (.tup [int64 1, int64 0, int64 0]) := .of ok0 rfl fun _ => by kernel_rfl
theorem word27_3 : F 27 [int64 3] (.str [116, 114, 105]) := .of ok0 rfl fun _ => by kernel_rfl
theorem word28_3 : F 28 [int64 3] (.str [116, 114, 105]) := .of ok0 rfl fun _ => by kernel_rfl
theorem ins25_4 : F 25 [int64 4] (.tup [int64 0, int64 1, int64 0]) := .of ok0 rfl fun _ => by kernel_rfl
theorem ins26_4 : F 26 [int64 4] (.tup [int64 0, int64 1, int64 0]) := .of ok0 rfl fun _ => by kernel_rfl
theorem word27_4 : F 27 [int64 4] (.str [110, 111, 105, 115, 101]) := .of ok0 rfl fun _ => by kernel_rfl
theorem word28_4 : F 28 [int64 4] (.str [110, 111, 105, 115, 101]) := .of ok0 rfl fun _ => by kernel_rfl
theorem ins25_5 : F 25 [int64 5] (.tup [int64 0, int64 3, int64 0]) := .of ok0 rfl fun _ => by kernel_rfl
theorem ins26_5 : F 26 [int64 5] (.tup [int64 0, int64 3, int64 0]) := .of ok0 rfl fun _ => by kernel_rfl
theorem word27_5 : F 27 [int64 5] (.str [108, 105, 110, 101]) := .of ok0 rfl fun _ => by kernel_rfl
theorem word28_5 : F 28 [int64 5] (.str [108, 105, 110, 101]) := .of ok0 rfl fun _ => by kernel_rfl
theorem ins25_6 : F 25 [int64 6] (.tup [int64 1, int64 4, int64 0]) := .of ok0 rfl fun _ => by kernel_rfl
theorem ins26_6 : F 26 [int64 6] (.tup [int64 1, int64 4, int64 0]) := .of ok0 rfl fun _ => by kernel_rfl
theorem word27_6 : F 27 [int64 6] (.str [101, 110, 118]) := .of ok0 rfl fun _ => by kernel_rfl
theorem word28_6 : F 28 [int64 6] (.str [101, 110, 118]) := .of ok0 rfl fun _ => by kernel_rfl
theorem ins25_7 : F 25 [int64 7] (.tup [int64 2, int64 0, int64 0]) := .of ok0 rfl fun _ => by kernel_rfl
theorem ins26_7 : F 26 [int64 7] (.tup [int64 2, int64 0, int64 0]) := .of ok0 rfl fun _ => by kernel_rfl
theorem word27_7 : F 27 [int64 7] (.str [108, 111, 119]) := .of ok0 rfl fun _ => by kernel_rfl
theorem word28_7 : F 28 [int64 7] (.str [108, 111, 119]) := .of ok0 rfl fun _ => by kernel_rfl
theorem ins25_8 : F 25 [int64 8] (.tup [int64 2, int64 0, int64 0]) := .of ok0 rfl fun _ => by kernel_rfl
theorem ins26_8 : F 26 [int64 8] (.tup [int64 2, int64 0, int64 0]) := .of ok0 rfl fun _ => by kernel_rfl
theorem word27_8 : F 27 [int64 8] (.str [97, 100, 100]) := .of ok0 rfl fun _ => by kernel_rfl
theorem word28_8 : F 28 [int64 8] (.str [97, 100, 100]) := .of ok0 rfl fun _ => by kernel_rfl
theorem ins25_9 : F 25 [int64 9] (.tup [int64 2, int64 0, int64 0]) := .of ok0 rfl fun _ => by kernel_rfl
theorem ins26_9 : F 26 [int64 9] (.tup [int64 2, int64 0, int64 0]) := .of ok0 rfl fun _ => by kernel_rfl
theorem word27_9 : F 27 [int64 9] (.str [109, 117, 108]) := .of ok0 rfl fun _ => by kernel_rfl
theorem word28_9 : F 28 [int64 9] (.str [109, 117, 108]) := .of ok0 rfl fun _ => by kernel_rfl
theorem ins25_10 : F 25 [int64 10] (.tup [int64 2, int64 0, int64 0]) := .of ok0 rfl fun _ => by kernel_rfl
theorem ins26_10 : F 26 [int64 10] (.tup [int64 2, int64 0, int64 0]) := .of ok0 rfl fun _ => by kernel_rfl
theorem word27_10 : F 27 [int64 10] (.str [99, 108, 105, 112]) := .of ok0 rfl fun _ => by kernel_rfl
theorem word28_10 : F 28 [int64 10] (.str [99, 108, 105, 112]) := .of ok0 rfl fun _ => by kernel_rfl
theorem ins25_11 : F 25 [int64 11] (.tup [int64 1, int64 1, int64 0]) := .of ok0 rfl fun _ => by kernel_rfl
theorem ins26_11 : F 26 [int64 11] (.tup [int64 1, int64 1, int64 0]) := .of ok0 rfl fun _ => by kernel_rfl
theorem word27_11 : F 27 [int64 11] (.str [100, 101, 108, 97, 121]) := .of ok0 rfl fun _ => by kernel_rfl
theorem word28_11 : F 28 [int64 11] (.str [100, 101, 108, 97, 121]) := .of ok0 rfl fun _ => by kernel_rfl
theorem ins25_12 : F 25 [int64 12] (.tup [int64 0, int64 1, int64 0]) := .of ok0 rfl fun _ => by kernel_rfl
theorem ins26_12 : F 26 [int64 12] (.tup [int64 0, int64 1, int64 0]) := .of ok0 rfl fun _ => by kernel_rfl
theorem word27_12 : F 27 [int64 12] (.str [98, 117, 115]) := .of ok0 rfl fun _ => by kernel_rfl
theorem word28_12 : F 28 [int64 12] (.str [98, 117, 115]) := .of ok0 rfl fun _ => by kernel_rfl
theorem ins25_13 : F 25 [int64 13] (.tup [int64 1, int64 1, int64 0]) := .of ok0 rfl fun _ => by kernel_rfl
theorem ins26_13 : F 26 [int64 13] (.tup [int64 1, int64 1, int64 0]) := .of ok0 rfl fun _ => by kernel_rfl
theorem word27_13 : F 27 [int64 13] (.str [111, 117, 116]) := .of ok0 rfl fun _ => by kernel_rfl
theorem word28_13 : F 28 [int64 13] (.str [111, 117, 116]) := .of ok0 rfl fun _ => by kernel_rfl
theorem ins25_14 : F 25 [int64 14] (.tup [int64 0, int64 1, int64 0]) := .of ok0 rfl fun _ => by kernel_rfl
theorem ins26_14 : F 26 [int64 14] (.tup [int64 0, int64 1, int64 0]) := .of ok0 rfl fun _ => by kernel_rfl
theorem word27_14 : F 27 [int64 14] (.str [112, 97, 114, 97, 109]) := .of ok0 rfl fun _ => by kernel_rfl
theorem word28_14 : F 28 [int64 14] (.str [112, 97, 114, 97, 109]) := .of ok0 rfl fun _ => by kernel_rfl
theorem ins25_15 : F 25 [int64 15] (.tup [int64 0, int64 1, int64 0]) := .of ok0 rfl fun _ => by kernel_rfl
theorem ins26_15 : F 26 [int64 15] (.tup [int64 0, int64 1, int64 0]) := .of ok0 rfl fun _ => by kernel_rfl
theorem word27_15 : F 27 [int64 15] (.str [99, 111, 110, 115, 116]) := .of ok0 rfl fun _ => by kernel_rfl
theorem word28_15 : F 28 [int64 15] (.str [99, 111, 110, 115, 116]) := .of ok0 rfl fun _ => by kernel_rfl
/-- A number that is no kind. -/
def Out (k : Int) : Prop := k < 1 ∨ k > 15
theorem known_run (k : Int) (h : Heap) : evCall Try.prog orc0 tb 100 AV (.fn 59) (vwArgs Try.prog [] h (parsOf Try.prog 59) [int64 k]) (mkHeap [] 0) .off rv =
    bif decide (k ≥ 1) then some (.bool (decide (k ≤ 15))) else some (.bool false) := by kernel_rfl
theorem known_out {k : Int} (ho : Out k) : F 59 [int64 k] (.bool false) := .of ok0 rfl fun h => by
  rw [known_run]
  rcases ho with ho | ho
  · rw [decide_eq_false (by omega : ¬ k ≥ 1)]; rfl
  · rw [decide_eq_true (by omega : k ≥ 1), decide_eq_false (by omega : ¬ k ≤ 15)]; rfl
noncomputable def outO (k : Int) : Orc := know 59 [int64 k] (.bool false) orc0
theorem outO_ok {k : Int} (ho : Out k) : Ok (outO k) := know_ok tbOk (known_out ho) ok0
theorem ins25_run (k : Int) (h : Heap) : evCall Try.prog (outO k) tb 100 AV (.fn 25) (vwArgs Try.prog [] h (parsOf Try.prog 25) [int64 k]) (mkHeap [] 0) .off rv =
    bif same [int64 k] [int64 k] then some (.tup [int64 0, int64 0, int64 10]) else none := by kernel_rfl
theorem ins25_out {k : Int} (ho : Out k) : F 25 [int64 k] (.tup [int64 0, int64 0, int64 10]) := .of (outO_ok ho) rfl fun h => by rw [ins25_run, same_self]; rfl
theorem word27_run (k : Int) (h : Heap) : evCall Try.prog (outO k) tb 100 AV (.fn 27) (vwArgs Try.prog [] h (parsOf Try.prog 27) [int64 k]) (mkHeap [] 0) .off rv =
    bif same [int64 k] [int64 k] then some (.str []) else none := by kernel_rfl
theorem word27_out {k : Int} (ho : Out k) : F 27 [int64 k] (.str []) := .of (outO_ok ho) rfl fun h => by rw [word27_run, same_self]; rfl
theorem ins26_run (k : Int) (h : Heap) : evCall Try.prog (stopAt 26 [3] orc0) tb 100 AV (.fn 26) (vwArgs Try.prog [] h (parsOf Try.prog 26) [int64 k]) (mkHeap [] 0) .off rv =
    bif decide (k < 1) then some (.tup [int64 0, int64 0, int64 10]) else bif decide (k > 15) then some (.tup [int64 0, int64 0, int64 10]) else none := by kernel_rfl
theorem ins26_out {k : Int} (ho : Out k) : F 26 [int64 k] (.tup [int64 0, int64 0, int64 10]) := .of (stopAt_ok ok0) rfl fun h => by
  rw [ins26_run]
  rcases ho with ho | ho
  · rw [decide_eq_true ho]; rfl
  · rw [decide_eq_false (by omega : ¬ k < 1), decide_eq_true ho]; rfl
theorem word28_run (k : Int) (h : Heap) : evCall Try.prog (stopAt 28 [3] orc0) tb 100 AV (.fn 28) (vwArgs Try.prog [] h (parsOf Try.prog 28) [int64 k]) (mkHeap [] 0) .off rv =
    bif decide (k < 1) then some (.str []) else bif decide (k > 15) then some (.str []) else none := by kernel_rfl
theorem word28_out {k : Int} (ho : Out k) : F 28 [int64 k] (.str []) := .of (stopAt_ok ok0) rfl fun h => by
  rw [word28_run]
  rcases ho with ho | ho
  · rw [decide_eq_true ho]; rfl
  · rw [decide_eq_false (by omega : ¬ k < 1), decide_eq_true ho]; rfl
/-- What is told of a kind. -/
theorem kind_facts (k : Int) : ∃ (a b e : Int) (s : List UInt8), F 25 [int64 k] (.tup [int64 a, int64 b, int64 e]) ∧ F 26 [int64 k] (.tup [int64 a, int64 b, int64 e]) ∧ F 27 [int64 k] (.str s) ∧ F 28 [int64 k] (.str s) := by
  by_cases ho : Out k
  · exact ⟨_, _, _, _, ins25_out ho, ins26_out ho, word27_out ho, word28_out ho⟩
  · have : k = 1 ∨ k = 2 ∨ k = 3 ∨ k = 4 ∨ k = 5 ∨ k = 6 ∨ k = 7 ∨ k = 8 ∨ k = 9 ∨ k = 10 ∨ k = 11 ∨ k = 12 ∨ k = 13 ∨ k = 14 ∨ k = 15 := by
      unfold Out at ho
      omega
    rcases this with rfl | rfl | rfl | rfl | rfl | rfl | rfl | rfl | rfl | rfl | rfl | rfl | rfl | rfl | rfl
    · exact ⟨_, _, _, _, ins25_1, ins26_1, word27_1, word28_1⟩
    · exact ⟨_, _, _, _, ins25_2, ins26_2, word27_2, word28_2⟩
    · exact ⟨_, _, _, _, ins25_3, ins26_3, word27_3, word28_3⟩
    · exact ⟨_, _, _, _, ins25_4, ins26_4, word27_4, word28_4⟩
    · exact ⟨_, _, _, _, ins25_5, ins26_5, word27_5, word28_5⟩
    · exact ⟨_, _, _, _, ins25_6, ins26_6, word27_6, word28_6⟩
    · exact ⟨_, _, _, _, ins25_7, ins26_7, word27_7, word28_7⟩
    · exact ⟨_, _, _, _, ins25_8, ins26_8, word27_8, word28_8⟩
    · exact ⟨_, _, _, _, ins25_9, ins26_9, word27_9, word28_9⟩
    · exact ⟨_, _, _, _, ins25_10, ins26_10, word27_10, word28_10⟩
    · exact ⟨_, _, _, _, ins25_11, ins26_11, word27_11, word28_11⟩
    · exact ⟨_, _, _, _, ins25_12, ins26_12, word27_12, word28_12⟩
    · exact ⟨_, _, _, _, ins25_13, ins26_13, word27_13, word28_13⟩
    · exact ⟨_, _, _, _, ins25_14, ins26_14, word27_14, word28_14⟩
    · exact ⟨_, _, _, _, ins25_15, ins26_15, word27_15, word28_15⟩
def nameT (w : List UInt8) : Option AV := bif eqS w [115, 97, 119] then some (.tup [int64 1, int64 0]) else (bif eqS w [112, 117, 108, 115, 101] then some (.tup [int64 2, int64 0]) else (bif eqS w [116, 114, 105] then some (.tup [int64 3, int64 0]) else (bif eqS w [110, 111, 105, 115, 101] then some (.tup [int64 4, int64 0]) else (bif eqS w [108, 105, 110, 101] then some (.tup [int64 5, int64 0]) else (bif eqS w [101, 110, 118] then some (.tup [int64 6, int64 0]) else (bif eqS w [108, 111, 119] then some (.tup [int64 7, int64 0]) else (bif eqS w [97, 100, 100] then some (.tup [int64 8, int64 0]) else (bif eqS w [109, 117, 108] then some (.tup [int64 9, int64 0]) else (bif eqS w [99, 108, 105, 112] then some (.tup [int64 10, int64 0]) else (bif eqS w [100, 101, 108, 97, 121] then some (.tup [int64 11, int64 0]) else (bif eqS w [98, 117, 115] then some (.tup [int64 12, int64 0]) else (bif eqS w [111, 117, 116] then some (.tup [int64 13, int64 0]) else (bif eqS w [112, 97, 114, 97, 109] then some (.tup [int64 14, int64 0]) else (bif eqS w [99, 111, 110, 115, 116] then some (.tup [int64 15, int64 0]) else (some (.tup [int64 0, int64 5]))))))))))))))))
theorem kind31_run (w : List UInt8) (h : Heap) : evCall Try.prog orc0 tb 100 AV (.fn 31) (vwArgs Try.prog [] h (parsOf Try.prog 31) [.str w]) (mkHeap [] 0) .off rv =
    bif eqS [115, 97, 119] w then some (.tup [int64 1, int64 0]) else (bif eqS [112, 117, 108, 115, 101] w then some (.tup [int64 2, int64 0]) else (bif eqS [116, 114, 105] w then some (.tup [int64 3, int64 0]) else (bif eqS [110, 111, 105, 115, 101] w then some (.tup [int64 4, int64 0]) else (bif eqS [108, 105, 110, 101] w then some (.tup [int64 5, int64 0]) else (bif eqS [101, 110, 118] w then some (.tup [int64 6, int64 0]) else (bif eqS [108, 111, 119] w then some (.tup [int64 7, int64 0]) else (bif eqS [97, 100, 100] w then some (.tup [int64 8, int64 0]) else (bif eqS [109, 117, 108] w then some (.tup [int64 9, int64 0]) else (bif eqS [99, 108, 105, 112] w then some (.tup [int64 10, int64 0]) else (bif eqS [100, 101, 108, 97, 121] w then some (.tup [int64 11, int64 0]) else (bif eqS [98, 117, 115] w then some (.tup [int64 12, int64 0]) else (bif eqS [111, 117, 116] w then some (.tup [int64 13, int64 0]) else (bif eqS [112, 97, 114, 97, 109] w then some (.tup [int64 14, int64 0]) else (bif eqS [99, 111, 110, 115, 116] w then some (.tup [int64 15, int64 0]) else (some (.tup [int64 0, int64 5])))))))))))))))) := by kernel_rfl
theorem kind30_run (w : List UInt8) (h : Heap) : evCall Try.prog orc0 tb 100 AV (.fn 30) (vwArgs Try.prog [] h (parsOf Try.prog 30) [.str w]) (mkHeap [] 0) .off rv = nameT w := by kernel_rfl
theorem eqS_comm (a b : List UInt8) : eqS a b = eqS b a := by
  induction a generalizing b with
  | nil => cases b <;> rfl
  | cons x a ih =>
    cases b with
    | nil => rfl
    | cons y b =>
      simp only [eqS, ih b]
      congr 1
      rw [Bool.eq_iff_iff]
      simp only [beq_iff_eq]
      first | exact eq_comm | constructor <;> exact fun h => h.symm
theorem nameT_some (w : List UInt8) : ∃ a e, nameT w = some (.tup [int64 a, int64 e]) := by
  unfold nameT
  repeat (first | exact ⟨_, _, rfl⟩ | (cases eqS w _ <;> simp only [cond_true, cond_false] <;> first | exact ⟨_, _, rfl⟩ | skip))
theorem name_facts (w : List UInt8) : ∃ a e, F 30 [.str w] (.tup [int64 a, int64 e]) ∧ F 31 [.str w] (.tup [int64 a, int64 e]) := by
  obtain ⟨a, e, h⟩ := nameT_some w
  refine ⟨a, e, .of ok0 rfl fun h' => by rw [kind30_run, h], .of ok0 rfl fun h' => ?_⟩
  rw [kind31_run, ← h]
  unfold nameT
  simp only [eqS_comm w]
end Go.Proofs.Ythlmbnhelkbchaa
