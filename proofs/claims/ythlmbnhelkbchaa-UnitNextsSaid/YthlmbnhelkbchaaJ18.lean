/- slices.Clone of numbers. -/
import Derived.Test.YthlmbnhelkbchaaEvZ1
import Derived.Test.YthlmbnhelkbchaaBase
import Derived.Test.YthlmbnhelkbchaaEvZ2
import Derived.Test.YthlmbnhelkbchaaEvZ
namespace Go.Proofs.Ythlmbnhelkbchaa
open Go.Ev
set_option maxRecDepth 100000
theorem run49_nil : ∃ p1 c1 e1 s1 g1, evCall Try.prog orc0 tb 100 (AV × Heap) (.fn 49) [.sl none 0 0 true 1] (mkHeap [] 0) .off pairK = some (.sl p1 0 c1 e1 s1, g1) := ⟨none, 0, true, 0, mkHeap [] 0, by kernel_rfl⟩
theorem run49_some : (evCall Try.prog orc0 tb 100 (AV × Heap) (.fn 49) [.sl (some (0, 0)) 0 0 false 1] (mkHeap [] 1) .off pairK).map (·.1) = some (.sl (some (1, 0)) 0 0 true 1) := by kernel_rfl
theorem run49 (x : Int) (xs : List Int) : evCall Try.prog orc0 tb 100 AV (.fn 49) [ints (x :: xs)] (mkHeap [] 0) .off (viewK Try.prog (resOf Try.prog 49)) = (
    guardK (Nat.ble ((0 + (x :: xs).length) * 8) limit && Nat.ble (0 + (x :: xs).length) limit) <| guardK (allS (dropA ((x :: xs).map int64) 0)) <| some (.fz (fixLen ((0 + (x :: xs).length) * 1) (dropA ((x :: xs).map int64) 0)) (0 + (x :: xs).length) false 1)) := by kernel_rfl
theorem args49 (xs : List Int) : vwArgs Try.prog [] none0 (parsOf Try.prog 49) [ints xs] = [ints xs] := by kernel_rfl
def is49 (a : List AV) : Prop := ∃ x xs, a = [ints (x :: xs)] ∧ xs.length ≤ 1000000
theorem when49 (a : List AV) (h : isSo (is49 a) = true) : FFact Try.prog tb 49 a (sameF1 a) := by
  obtain ⟨x, xs, rfl, hl⟩ := isSo_iff.1 h
  refine ⟨args49 _, orc0, ok0, (run49 x xs).trans ?_⟩
  have e1 : limit = 140737488355328 := rfl
  have e2 : (Nat.ble ((0 + (x :: xs).length) * 8) limit && Nat.ble (0 + (x :: xs).length) limit) = true := by
    rw [Bool.and_eq_true]
    simp only [List.length_cons]
    exact ⟨Nat.ble_eq_true_of_le (by omega), Nat.ble_eq_true_of_le (by omega)⟩
  have e3 : allS (dropA ((x :: xs).map int64) 0) = true := by rw [dropA_eq, List.drop_zero, allS_ints]
  rw [e2, e3, Nat.zero_add, fix_ints]
  rfl
noncomputable def OC (S : Orc) : Orc := addF 49 (cloneO 1 fun a => isSo (is49 a)) S
end Go.Proofs.Ythlmbnhelkbchaa
/- New of a unit whose numbers are known. -/
namespace Go.Proofs.Ythlmbnhelkbchaa
open Go.Ev
set_option maxRecDepth 100000
def allInt : List AV → Bool
  | [] => true
  | v :: vs => isIntK .i64 v && allInt vs
theorem allInt_some : ∀ cs : List AV, allInt cs = true → ∃ xs : List Int, cs = xs.map int64
  | [], _ => ⟨[], rfl⟩
  | v :: vs, h => by
    simp only [allInt, Bool.and_eq_true] at h
    obtain ⟨xs, rfl⟩ := allInt_some vs h.2
    have h1 := h.1
    cases v <;> first | (cases h1; done) | skip
    rename_i k n
    have : k = .i64 := by
      simp only [isIntK, decide_eq_true_eq] at h1
      first | exact h1 | exact h1.symm
    subst this
    exact ⟨n :: xs, rfl⟩
def G49 : List AV → Bool
  | [.fz (c :: cs) len false 1] => Nat.beq (lenA (c :: cs)) len && allInt (c :: cs) && Nat.ble len 1000000
  | _ => false
theorem when49c (a : List AV) (h : G49 a = true) : FFact Try.prog tb 49 a (sameF1 a) := by
  refine when49 a (isSo_true ?_)
  unfold G49 at h
  split at h
  · rename_i c cs len
    simp only [Bool.and_eq_true] at h
    obtain ⟨ys, hy⟩ := allInt_some _ h.1.2
    have hl := Nat.eq_of_beq_eq_true h.1.1
    have hb := Nat.le_of_ble_eq_true h.2
    rw [hy] at hl ⊢
    cases ys with
    | nil => cases hy
    | cons y ys =>
      have e : lenA ((y :: ys).map int64) = ys.length + 1 := by rw [lenM]; rfl
      rw [e] at hl
      subst hl
      exact ⟨y, ys, rfl, by omega⟩
  · cases h
noncomputable def OC2 (S : Orc) : Orc := addF 49 (orF isEmptyA (emptyO 1) (whenO G49 sameF1)) S
theorem OC2_ok {S : Orc} (h : Ok S) : Ok (OC2 S) := by
  refine addF_ok (fnSim_or (fnSim_empty tbOk ok0 run49_nil ?_) (fnSim_whenF tbOk when49c)) (natF_or natF_empty natF_when) h
  obtain ⟨⟨v, g⟩, h1, h2⟩ := Option.map_eq_some_iff.1 run49_some
  simp only at h2
  subst h2
  exact ⟨_, _, _, _, g, h1⟩
noncomputable def ONw (S : Orc) : Orc := addF 18 (locF Try.prog (OC2 orc0) tb ⟨[], [(0, [])]⟩ 18) S
end Go.Proofs.Ythlmbnhelkbchaa
/- UnitKinds, first part: the kinds' numbers and words; which kind a word is. -/
namespace Go.Proofs.Ythlmbnhelkbchaa
open Go.Ev
set_option maxRecDepth 100000
abbrev F (f : FuncId) (args : List AV) (v : AV) : Prop := Fact Try.prog tb f args v
theorem F.of {S : Orc} (hS : Ok S) {f : FuncId} {args : List AV} {v : AV} (hv : scalarV v = true) (h : ∀ h, evCall Try.prog S tb 100 AV (.fn f) (vwArgs Try.prog [] h (parsOf Try.prog f) args) (mkHeap [] 0) .off rv = some v) : F f args v := ⟨hv, S, hS, h⟩
def Out (k : Int) : Prop := k < 1 ∨ k > 15
theorem known_run (k : Int) (h : Heap) : evCall Try.prog orc0 tb 100 AV (.fn 59) (vwArgs Try.prog [] h (parsOf Try.prog 59) [int64 k]) (mkHeap [] 0) .off rv =
    bif decide (k ≥ 1) then some (.bool (decide (k ≤ 15))) else some (.bool false) := by kernel_rfl
theorem known_out {k : Int} (ho : Out k) : F 59 [int64 k] (.bool false) := .of ok0 rfl fun h => by
  rw [known_run]
  rcases ho with ho | ho
  · rw [decide_eq_false (by omega : ¬ k ≥ 1)]; rfl
  · rw [decide_eq_true (by omega : k ≥ 1), decide_eq_false (by omega : ¬ k ≤ 15)]; rfl
noncomputable def outO (k : Int) : Orc := know 59 [int64 k] (.bool false) orc0
theorem outO_ok {k : Int} (ho : Out k) : Ok (outO k) := know_ok tbOk (known_out ho) ok0
theorem ins26_run (k : Int) (h : Heap) : evCall Try.prog (stopAt 26 [3] orc0) tb 100 AV (.fn 26) (vwArgs Try.prog [] h (parsOf Try.prog 26) [int64 k]) (mkHeap [] 0) .off rv =
    bif decide (k < 1) then some (.tup [int64 0, int64 0, int64 10]) else bif decide (k > 15) then some (.tup [int64 0, int64 0, int64 10]) else none := by kernel_rfl
theorem ins26_out {k : Int} (ho : Out k) : F 26 [int64 k] (.tup [int64 0, int64 0, int64 10]) := .of (stopAt_ok ok0) rfl fun h => by
  rw [ins26_run]
  rcases ho with ho | ho
  · rw [decide_eq_true ho]; rfl
  · rw [decide_eq_false (by omega : ¬ k < 1), decide_eq_true ho]; rfl
def nameT (w : List UInt8) : Option AV := bif eqS w [115, 97, 119] then some (.tup [int64 1, int64 0]) else (bif eqS w [112, 117, 108, 115, 101] then some (.tup [int64 2, int64 0]) else (bif eqS w [116, 114, 105] then some (.tup [int64 3, int64 0]) else (bif eqS w [110, 111, 105, 115, 101] then some (.tup [int64 4, int64 0]) else (bif eqS w [108, 105, 110, 101] then some (.tup [int64 5, int64 0]) else (bif eqS w [101, 110, 118] then some (.tup [int64 6, int64 0]) else (bif eqS w [108, 111, 119] then some (.tup [int64 7, int64 0]) else (bif eqS w [97, 100, 100] then some (.tup [int64 8, int64 0]) else (bif eqS w [109, 117, 108] then some (.tup [int64 9, int64 0]) else (bif eqS w [99, 108, 105, 112] then some (.tup [int64 10, int64 0]) else (bif eqS w [100, 101, 108, 97, 121] then some (.tup [int64 11, int64 0]) else (bif eqS w [98, 117, 115] then some (.tup [int64 12, int64 0]) else (bif eqS w [111, 117, 116] then some (.tup [int64 13, int64 0]) else (bif eqS w [112, 97, 114, 97, 109] then some (.tup [int64 14, int64 0]) else (bif eqS w [99, 111, 110, 115, 116] then some (.tup [int64 15, int64 0]) else (some (.tup [int64 0, int64 5]))))))))))))))))
end Go.Proofs.Ythlmbnhelkbchaa
/- Numbers of units: what the small functions of numbers tell, in closed form. -/
namespace Go.Proofs.Ythlmbnhelkbchaa
open Go.Ev
set_option maxRecDepth 100000
def ar (a : List AV) (i : Nat) : Int := intOf (nth a i)
def isN1 (a : List AV) : Prop := ∃ x, a = [int64 x]
def isN2 (a : List AV) : Prop := ∃ x y, a = [int64 x, int64 y]
def isN3 (a : List AV) : Prop := ∃ x y z, a = [int64 x, int64 y, int64 z]
def kept (n lo hi : Int) : Int := maxI lo (minI hi n)
def V73 (a : List AV) : AV := int64 (kept (ar a 0) (ar a 1) (ar a 2))
theorem run73 (n lo hi : Int) (h : Heap) : evCall Try.prog orc0 tb 100 AV (.fn 73) (vwArgs Try.prog [] h (parsOf Try.prog 73) [int64 n, int64 lo, int64 hi]) (mkHeap [] 0) .off rv = some (int64 (kept n lo hi)) := by kernel_rfl
theorem when73 (a : List AV) (h : isSo (isN3 a) = true) : F 73 a (V73 a) := by
  obtain ⟨x, y, z, rfl⟩ := isSo_iff.1 h
  exact .of ok0 rfl fun h => run73 x y z h
def into (n lo hi : Int) : Int := bif decide (n < lo) then lo else bif decide (n > hi) then hi else n
def V47 (a : List AV) : AV := int64 (into (ar a 0) (ar a 1) (ar a 2))
theorem run47 (n lo hi : Int) (h : Heap) : evCall Try.prog orc0 tb 100 AV (.fn 47) (vwArgs Try.prog [] h (parsOf Try.prog 47) [int64 n, int64 lo, int64 hi]) (mkHeap [] 0) .off rv =
    bif decide (n < lo) then some (int64 lo) else bif decide (n > hi) then some (int64 hi) else some (int64 n) := by kernel_rfl
theorem when47 (a : List AV) (h : isSo (isN3 a) = true) : F 47 a (V47 a) := by
  obtain ⟨x, y, z, rfl⟩ := isSo_iff.1 h
  refine .of ok0 rfl fun h => (run47 x y z h).trans ?_
  show _ = some (int64 (into x y z))
  unfold into
  cases decide (x < y) <;> cases decide (x > z) <;> rfl
def num (n : Int) : Int := into n (-1099511627776) 1099511627776
def V16 (a : List AV) : AV := int64 (num (ar a 0))
noncomputable def O47 (S : Orc) : Orc := knowW 47 (fun a => isSo (isN3 a)) V47 S
theorem O47_ok {S : Orc} (h : Ok S) : Ok (O47 S) := knowW_ok tbOk when47 h
theorem run16 (n : Int) (h : Heap) : evCall Try.prog (O47 orc0) tb 100 AV (.fn 16) (vwArgs Try.prog [] h (parsOf Try.prog 16) [int64 n]) (mkHeap [] 0) .off rv =
    bif isSo (isN3 [int64 n, int64 (-1099511627776), int64 1099511627776]) then some (int64 (num n)) else none := by kernel_rfl
theorem when16 (a : List AV) (h : isSo (isN1 a) = true) : F 16 a (V16 a) := by
  obtain ⟨x, rfl⟩ := isSo_iff.1 h
  refine .of (O47_ok ok0) rfl fun h => (run16 x h).trans ?_
  rw [isSo_true ⟨_, _, _, rfl⟩]
  rfl
def sizeI (n : Int) : Int := maxI n (IntKind.i64.wrap (0 - n))
def signI (n : Int) : Int := bif decide (n < 0) then -1 else 1
def V104 (a : List AV) : AV := int64 (sizeI (ar a 0))
def V105 (a : List AV) : AV := int64 (signI (ar a 0))
theorem run104 (n : Int) (h : Heap) : evCall Try.prog orc0 tb 100 AV (.fn 104) (vwArgs Try.prog [] h (parsOf Try.prog 104) [int64 n]) (mkHeap [] 0) .off rv = some (int64 (sizeI n)) := by kernel_rfl
theorem when104 (a : List AV) (h : isSo (isN1 a) = true) : F 104 a (V104 a) := by
  obtain ⟨x, rfl⟩ := isSo_iff.1 h
  exact .of ok0 rfl fun h => run104 x h
theorem run105 (n : Int) (h : Heap) : evCall Try.prog orc0 tb 100 AV (.fn 105) (vwArgs Try.prog [] h (parsOf Try.prog 105) [int64 n]) (mkHeap [] 0) .off rv = bif decide (n < 0) then some (int64 (-1)) else some (int64 1) := by kernel_rfl
theorem when105 (a : List AV) (h : isSo (isN1 a) = true) : F 105 a (V105 a) := by
  obtain ⟨x, rfl⟩ := isSo_iff.1 h
  refine .of ok0 rfl fun h => (run105 x h).trans ?_
  show _ = some (int64 (signI x))
  unfold signI
  cases decide (x < 0) <;> rfl
def round1 (a : Int) : Int := bif decide (a < 0) then IntKind.i64.wrap (0 - (IntKind.i64.wrap ((IntKind.i64.wrap (IntKind.i64.wrap (0 - a) + 32768)).tdiv 65536))) else IntKind.i64.wrap ((IntKind.i64.wrap (a + 32768)).tdiv 65536)
def V68 (a : List AV) : AV := int64 (round1 (ar a 0))
def is68 (a : List AV) : Prop := ∃ x, a = [int64 x, int64 65536]
theorem run68 (n : Int) (h : Heap) : evCall Try.prog orc0 tb 100 AV (.fn 68) (vwArgs Try.prog [] h (parsOf Try.prog 68) [int64 n, int64 65536]) (mkHeap [] 0) .off rv =
    bif decide (n < 0) then some (int64 (IntKind.i64.wrap (0 - (IntKind.i64.wrap ((IntKind.i64.wrap (IntKind.i64.wrap (0 - n) + 32768)).tdiv 65536))))) else some (int64 (IntKind.i64.wrap ((IntKind.i64.wrap (n + 32768)).tdiv 65536))) := by kernel_rfl
theorem when68 (a : List AV) (h : isSo (is68 a) = true) : F 68 a (V68 a) := by
  obtain ⟨x, rfl⟩ := isSo_iff.1 h
  refine .of ok0 rfl fun h => (run68 x h).trans ?_
  show _ = some (int64 (round1 x))
  unfold round1
  cases decide (x < 0) <;> rfl
end Go.Proofs.Ythlmbnhelkbchaa
/- product, in closed form. -/
namespace Go.Proofs.Ythlmbnhelkbchaa
open Go.Ev
set_option maxRecDepth 100000
noncomputable def ON (S : Orc) : Orc := knowW 104 (fun a => isSo (isN1 a)) V104 (knowW 105 (fun a => isSo (isN1 a)) V105 (knowW 73 (fun a => isSo (isN3 a)) V73 (knowW 68 (fun a => isSo (is68 a)) V68 S)))
theorem ON_ok {S : Orc} (h : Ok S) : Ok (ON S) := knowW_ok tbOk when104 (knowW_ok tbOk when105 (knowW_ok tbOk when73 (knowW_ok tbOk when68 h)))
abbrev w64 (n : Int) : Int := IntKind.i64.wrap n
noncomputable def g1 (x : Int) (y : Option AV) : Option AV := bif isSo (isN1 [int64 x]) then y else none
noncomputable def g3 (x lo hi : Int) (y : Option AV) : Option AV := bif isSo (isN3 [int64 x, int64 lo, int64 hi]) then y else none
noncomputable def g68 (x : Int) (y : Option AV) : Option AV := bif isSo (is68 [int64 x, int64 65536]) then y else none
theorem g1_eq (x : Int) (y : Option AV) : g1 x y = y := by unfold g1; rw [isSo_true ⟨_, rfl⟩]; rfl
theorem g3_eq (x lo hi : Int) (y : Option AV) : g3 x lo hi y = y := by unfold g3; rw [isSo_true ⟨_, _, _, rfl⟩]; rfl
theorem g68_eq (x : Int) (y : Option AV) : g68 x y = y := by unfold g68; rw [isSo_true ⟨_, rfl⟩]; rfl
noncomputable def fin2 (w r : Int) : Option AV := g68 r (g3 (w64 (w + round1 r)) (-1099511627776) 1099511627776 (some (int64 (kept (w64 (w + round1 r)) (-1099511627776) 1099511627776))))
noncomputable def fin1 (w r : Int) : Option AV := bif decide (w < 0) then (bif decide (r > 0) then fin2 (w64 (w + 1)) (w64 (r - 65536)) else fin2 w r) else fin2 w r
noncomputable def rest1 (w r : Int) : Option AV := bif decide (w > 0) then (bif decide (r < 0) then fin1 (w64 (w - 1)) (w64 (r + 65536)) else fin1 w r) else fin1 w r
noncomputable def rest0 (a b : Int) : Option AV :=
  rest1 (w64 (w64 (w64 (w64 (a.tdiv 65536) * b) + w64 (a.tmod 65536 * w64 (b.tdiv 65536))) + w64 ((w64 (a.tmod 65536 * b.tmod 65536)).tdiv 65536))) ((w64 (a.tmod 65536 * b.tmod 65536)).tmod 65536)
noncomputable def big (ah b : Int) : Option AV := g1 ah (g1 b (g3 (w64 (w64 (signI ah * signI b) * 1099511627776)) (-1099511627776) 1099511627776 (some (int64 (kept (w64 (w64 (signI ah * signI b) * 1099511627776)) (-1099511627776) 1099511627776)))))
noncomputable def prodT (a b : Int) : Option AV :=
  g1 (w64 (a.tdiv 65536)) (bif decide (sizeI (w64 (a.tdiv 65536)) > 0) then g1 b (g1 (w64 (a.tdiv 65536)) (bif sizeI (w64 (a.tdiv 65536)) == 0 then none else
    bif decide (sizeI b > w64 ((2199023255552 : Int).tdiv (sizeI (w64 (a.tdiv 65536))))) then big (w64 (a.tdiv 65536)) b else rest0 a b)) else rest0 a b)
theorem run92 (a b : Int) (h : Heap) : evCall Try.prog (ON orc0) tb 100 AV (.fn 92) (vwArgs Try.prog [] h (parsOf Try.prog 92) [int64 a, int64 b]) (mkHeap [] 0) .off rv = prodT a b := by kernel_rfl
def fin2I (w r : Int) : Int := kept (w64 (w + round1 r)) (-1099511627776) 1099511627776
def fin1I (w r : Int) : Int := bif decide (w < 0) then (bif decide (r > 0) then fin2I (w64 (w + 1)) (w64 (r - 65536)) else fin2I w r) else fin2I w r
def rest1I (w r : Int) : Int := bif decide (w > 0) then (bif decide (r < 0) then fin1I (w64 (w - 1)) (w64 (r + 65536)) else fin1I w r) else fin1I w r
def rest0I (a b : Int) : Int :=
  rest1I (w64 (w64 (w64 (w64 (a.tdiv 65536) * b) + w64 (a.tmod 65536 * w64 (b.tdiv 65536))) + w64 ((w64 (a.tmod 65536 * b.tmod 65536)).tdiv 65536))) ((w64 (a.tmod 65536 * b.tmod 65536)).tmod 65536)
def bigI (ah b : Int) : Int := kept (w64 (w64 (signI ah * signI b) * 1099511627776)) (-1099511627776) 1099511627776
def prodI (a b : Int) : Int :=
  bif decide (sizeI (w64 (a.tdiv 65536)) > 0) && decide (sizeI b > w64 ((2199023255552 : Int).tdiv (sizeI (w64 (a.tdiv 65536))))) then bigI (w64 (a.tdiv 65536)) b else rest0I a b
theorem fin2_eq (w r : Int) : fin2 w r = some (int64 (fin2I w r)) := by unfold fin2; rw [g68_eq, g3_eq]; rfl
theorem fin1_eq (w r : Int) : fin1 w r = some (int64 (fin1I w r)) := by
  unfold fin1 fin1I
  simp only [fin2_eq]
  cases decide (w < 0) <;> cases decide (r > 0) <;> rfl
theorem rest1_eq (w r : Int) : rest1 w r = some (int64 (rest1I w r)) := by
  unfold rest1 rest1I
  simp only [fin1_eq]
  cases decide (w > 0) <;> cases decide (r < 0) <;> rfl
theorem big_eq (ah b : Int) : big ah b = some (int64 (bigI ah b)) := by unfold big; rw [g1_eq, g1_eq, g3_eq]; rfl
theorem prodT_eq (a b : Int) : prodT a b = some (int64 (prodI a b)) := by
  unfold prodT prodI
  simp only [g1_eq, big_eq]
  have hr : rest0 a b = some (int64 (rest0I a b)) := rest1_eq _ _
  rw [hr]
  by_cases h : sizeI (w64 (a.tdiv 65536)) > 0
  · have h0 : (sizeI (w64 (a.tdiv 65536)) == 0) = false := by
      simp only [beq_eq_false_iff_ne]
      omega
    rw [decide_eq_true h, h0]
    cases decide (sizeI b > w64 ((2199023255552 : Int).tdiv (sizeI (w64 (a.tdiv 65536))))) <;> rfl
  · rw [decide_eq_false h]
    rfl
def V92 (a : List AV) : AV := int64 (prodI (ar a 0) (ar a 1))
theorem when92 (a : List AV) (h : isSo (isN2 a) = true) : F 92 a (V92 a) := by
  obtain ⟨x, y, rfl⟩ := isSo_iff.1 h
  exact .of (ON_ok ok0) rfl fun h => (run92 x y h).trans (prodT_eq x y)
end Go.Proofs.Ythlmbnhelkbchaa
/- UnitLows: the loop of 'listed' for a low, in closed form. -/
namespace Go.Proofs.Ythlmbnhelkbchaa
open Go.Ev
set_option maxRecDepth 100000
noncomputable def OL (S : Orc) : Orc := addF 29 (locC Try.prog S tb 29) (knowW 73 (fun a => isSo (isN3 a)) V73 (knowW 68 (fun a => isSo (is68 a)) V68 S))
abbrev MM : Int := 1099511627776
def kMl (n : Int) : Int := kept n (-1099511627776) 1099511627776
def lowP (x w last : Int) : Int := w64 (w64 (kMl x - last) * kept (kMl w) 0 65536)
def lowV (x w last : Int) : Int := kMl (w64 (last + round1 (lowP x w last)))
def blk46 (w fr told last : Int) : List (Nat × Blk) := [(16, .cells true [int64 0, int64 7, int64 3, .gr (15, 0) 2 1, .sl none 0 0 true 0, int64 fr, int64 told, int64 0, int64 0, int64 last, .sl none 0 0 true 0, int64 0, int64 0, int64 0, .bool false]),
  (15, .cells true [int64 0, int64 0]), (14, .cells true []), (3, .cells true [int64 7, int64 3, .gr (15, 0) 2 1, .sl none 0 0 true 0]), (2, .cells true [int64 7, int64 3, .sl (some (0, 0)) 2 2 true 1, .sl none 0 0 true 0]), (1, .cells true [int64 w]), (0, .cells true [int64 0, int64 0])]
def st46 (w : Int) (xs : List Int) (i fr told last : Int) (o : AV) (l : List (Nat × Blk)) : St := ⟨[.dead, .dead, .sl (some (1, 0)) 1 1 true 1, .dead, .dead, .dead, .dead, .dead, .ptr (some (16, 0)), .dead, o] ++ repA .dead 15 ++ [ints xs, int64 (xs.length : Int), int64 i] ++ repA .dead 18, mkHeap (l ++ blk46 w fr told last) 25, [], .off⟩
def El {A : Type} (n : Int) (y : Option A) : Option A := bif n == n then y else none
noncomputable def h3l {A : Type} (x lo hi : Int) (y : Option A) : Option A := bif isSo (isN3 [int64 x, int64 lo, int64 hi]) then y else none
noncomputable def h68 {A : Type} (x : Int) (y : Option A) : Option A := bif isSo (is68 [int64 x, int64 65536]) then y else none
noncomputable def step46 {A : Type} (x w last : Int) (k : Int → Option A) : Option A :=
  h3l x (-1099511627776) 1099511627776 <| h3l w (-1099511627776) 1099511627776 <|
  h3l (kMl w) 0 65536 <| El last <| El (kMl x) <| El last <| h68 (lowP x w last) <| El last <| h3l (w64 (last + round1 (lowP x w last))) (-1099511627776) 1099511627776 <| k (lowV x w last)
theorem step46_eq {A : Type} (x w last : Int) (k : Int → Option A) : step46 x w last k = k (lowV x w last) := by
  have h : ∀ (x lo hi : Int) (y : Option A), h3l x lo hi y = y := fun x lo hi y => by unfold h3l; rw [isSo_true ⟨_, _, _, rfl⟩]; rfl
  have h' : ∀ (x : Int) (y : Option A), h68 x y = y := fun x y => by unfold h68; rw [isSo_true ⟨_, rfl⟩]; rfl
  have e : ∀ (n : Int) (y : Option A), El n y = y := fun n y => by unfold El; rw [beq_self_eq_true]; rfl
  unfold step46
  simp only [h, h', e]
noncomputable def body46 {A : Type} (w : Int) (xs : List Int) (i fr told last : Int) (cs : List AV) (m : Nat) (K : Ex → St → Option A) : Option A :=
  bif decide (i < (xs.length : Int)) then
    ldI xs i fun x => step46 x w last fun v =>
    guardK (Nat.ble ((m + 1 + 1) * 8) limit && Nat.ble (m + 1 + 1) limit) <| guardK (Nat.ble (0 + (m + 1) * 1) (lenA cs)) <| guardK (allS (appA (takeA (dropA cs 0) ((m + 1) * 1)) [int64 v]) && true) <|
    K .normal (st46 w xs (IntKind.i64.wrap (i + 1)) (IntKind.i64.wrap (fr + 1)) v v (.gr (21, 0) (m + 1 + 1) 1) [(21, .cells true (appA (takeA (dropA cs 0) ((m + 1) * 1)) [int64 v]))])
  else guardK (allS cs && true) (K (.exit 0) (st46 w xs i fr told last (.gr (21, 0) (m + 1) 1) [(21, .cells true cs)]))
theorem b46 {A : Type} (w : Int) (xs : List Int) (i fr told last : Int) (cs : List AV) (m : Nat) (K : Ex → St → Option A) :
    loopBF Try.prog (OL orc0) tb 46 8 [21] 17 (st46 w xs i fr told last (.gr (21, 0) (m + 1) 1) [(21, .cells true cs)]) K = body46 w xs i fr told last cs m K := by kernel_rfl
theorem b46_0 {A : Type} (w : Int) (xs : List Int) (i fr told last : Int) (K : Ex → St → Option A) :
    loopBF Try.prog (OL orc0) tb 46 8 [21] 17 (st46 w xs i fr told last (.sl none 0 0 true 0) []) K =
    bif decide (i < (xs.length : Int)) then
      ldI xs i fun x => step46 x w last fun v => K .normal (st46 w xs (IntKind.i64.wrap (i + 1)) (IntKind.i64.wrap (fr + 1)) v v (.gr (21, 0) 1 1) [(21, .cells true [int64 v])])
    else K (.exit 0) (st46 w xs i fr told last (.sl none 0 0 true 0) []) := by kernel_rfl
def lows (w : Int) : Int → List Int → List Int
  | _, [] => []
  | last, x :: xs => lowV x w last :: lows w (lowV x w last) xs
def lastL (w : Int) : Int → List Int → Int
  | last, [] => last
  | last, x :: xs => lastL w (lowV x w last) xs
def so46 (w : Int) (xs : List Int) (i : Nat) (last : Int) (os : List Int) : St := st46 w xs (i : Int) (i : Int) last last (.gr (21, 0) os.length 1) [(21, .cells true (os.map int64))]
theorem loop46 {w : Int} {xs : List Int} (hm : xs.length ≤ 20000) : ∀ (d i n : Nat) (last : Int) (os : List Int), i + d = xs.length → d < n → os.length = i → 0 < i →
    loopN (loopBF Try.prog (OL orc0) tb 46 8 [21] 17) n (so46 w xs i last os) pairE = some (.exit 0, so46 w xs xs.length (lastL w last (xs.drop i)) (os ++ lows w last (xs.drop i))) := by
  intro d
  induction d with
  | zero =>
    intro i n last os hi hn ho h0
    obtain ⟨n, rfl⟩ : ∃ m, n = m + 1 := ⟨n - 1, by omega⟩
    obtain ⟨m, hom⟩ : ∃ m, os.length = m + 1 := ⟨os.length - 1, by omega⟩
    have hi : i = xs.length := by omega
    subst hi
    rw [loopN_succ]
    unfold so46
    rw [hom, b46]
    unfold body46
    rw [decide_eq_false (by omega : ¬ ((xs.length : Int) < (xs.length : Int))), List.drop_eq_nil_of_le (Nat.le_refl _)]
    simp only [allS_ints, Bool.and_self, guardK, cond_true, cond_false, lastL, lows, List.append_nil, hom]
    rfl
  | succ d ih =>
    intro i n last os hi hn ho h0
    obtain ⟨n, rfl⟩ : ∃ m, n = m + 1 := ⟨n - 1, by omega⟩
    obtain ⟨m, hom⟩ : ∃ m, os.length = m + 1 := ⟨os.length - 1, by omega⟩
    have hx : i < xs.length := by omega
    have ih' := ih (i + 1) n (lowV xs[i] w last) (os ++ [lowV xs[i] w last]) (by omega) (by omega) (by simp; omega) (by omega)
    rw [loopN_succ]
    unfold so46 at ih' ⊢
    rw [hom, b46]
    unfold body46
    rw [decide_eq_true (by omega : (i : Int) < (xs.length : Int)), cond_true, ldI_eq hx, step46_eq, limit_ok (by omega), grow_ints hom, allS_ints, lenM, hom, wrapN (by omega)]
    have e : Nat.ble (0 + (m + 1) * 1) (m + 1) = true := Nat.ble_eq_true_of_le (by omega)
    simp only [e, Bool.and_self, guardK, cond_true]
    rw [List.drop_eq_getElem_cons hx]
    simp only [lastL, lows]
    rw [List.append_cons os (lowV xs[i] w last) (lows w (lowV xs[i] w last) (List.drop (i + 1) xs))]
    have e2 : (os ++ [lowV xs[i] w last]).length = m + 1 + 1 := by simp [hom]
    rw [e2] at ih'
    exact ih'
theorem first46 {A : Type} (w x : Int) (xs : List Int) (K : Ex → St → Option A) :
    loopBF Try.prog (OL orc0) tb 46 8 [21] 17 (st46 w (x :: xs) 0 0 0 0 (.sl none 0 0 true 0) []) K = K .normal (so46 w (x :: xs) 1 (lowV x w 0) [lowV x w 0]) := by
  have h0 : (0 : Int) < ((x :: xs).length : Int) := by simp only [List.length_cons]; omega
  rw [b46_0, decide_eq_true h0, cond_true]
  have hx : 0 < (x :: xs).length := by simp
  have := ldI_eq hx (fun x' => step46 x' w 0 fun v => K .normal (st46 w (x :: xs) (IntKind.i64.wrap (0 + 1)) (IntKind.i64.wrap (0 + 1)) v v (.gr (21, 0) 1 1) [(21, .cells true [int64 v])]))
  refine this.trans ?_
  rw [step46_eq]
  rfl
theorem loop46_all {w x : Int} {xs : List Int} (hm : (x :: xs).length ≤ 20000) :
    loopN (loopBF Try.prog (OL orc0) tb 46 8 [21] 17) rounds (st46 w (x :: xs) 0 0 0 0 (.sl none 0 0 true 0) []) pairE = some (.exit 0, so46 w (x :: xs) (x :: xs).length (lastL w 0 (x :: xs)) (lows w 0 (x :: xs))) := by
  obtain ⟨n, hn⟩ : ∃ n, rounds = n + 1 := ⟨99999999999999999999, rfl⟩
  have hr : rounds = 100000000000000000000 := rfl
  have hl := loop46 (w := w) hm xs.length 1 n (lowV x w 0) [lowV x w 0] (by simp only [List.length_cons]; omega) (by simp only [List.length_cons] at hm; omega) rfl (by omega)
  rw [hn, loopN_succ, first46]
  exact hl
theorem loop46_nil {w : Int} : loopN (loopBF Try.prog (OL orc0) tb 46 8 [21] 17) rounds (st46 w [] 0 0 0 0 (.sl none 0 0 true 0) []) pairE = some (.exit 0, st46 w [] 0 0 0 0 (.sl none 0 0 true 0) []) := by
  obtain ⟨n, hn⟩ : ∃ n, rounds = n + 1 := ⟨99999999999999999999, rfl⟩
  rw [hn, loopN_succ, b46_0]
  rfl
theorem OL_ok {S : Orc} (h : Ok S) : Ok (OL S) := addF_ok (fnSim_locC tbOk h 29) (natF_locC 29) (knowW_ok tbOk when73 (knowW_ok tbOk when68 h))
def N46 : Norm := ⟨[2, 6, 7, 8, 10, 26, 27, 28], []⟩
noncomputable def S15 (w : Int) (xs : List Int) (s1 : St) : Orc := knowLF Try.prog 46 8 N46 [21] 17 (st46 w xs 0 0 0 0 (.sl none 0 0 true 0) []) (.exit 0) s1 (OL orc0)
theorem count46 : Nat.ble (countL 8 e46.code) 1 = true := by kernel_rfl
theorem norm46 : loopN0 tb 46 8 = some N46 := by kernel_rfl
theorem S15_ok {w : Int} {xs : List Int} {s1 : St} (h : loopN (loopBF Try.prog (OL orc0) tb 46 8 [21] 17) rounds (st46 w xs 0 0 0 0 (.sl none 0 0 true 0) []) pairE = some (.exit 0, s1)) : Ok (S15 w xs s1) :=
  knowLF_ok tbOk (LFact.flat (OL_ok ok0) h) (OL_ok ok0) (ep := e46) rfl norm46 count46
theorem run15 (w x last : Int) (xs : List Int) (cs : List AV) (m : Nat) :
    evCall Try.prog (S15 w (x :: xs) (st46 w (x :: xs) ((x :: xs).length : Int) ((x :: xs).length : Int) last last (.gr (21, 0) (m + 1) 1) [(21, .cells true cs)])) tb 100 AV (.fn 15) [int64 w, ints (x :: xs)] (mkHeap [] 0) .off (viewK Try.prog (resOf Try.prog 15)) =
    bif decide (((x :: xs).length : Int) > 20000) then some (.tup [.fz [] 0 false 1, int64 4]) else bif sameSt (st46 w (x :: xs) 0 0 0 0 (.sl none 0 0 true 0) []) (st46 w (x :: xs) 0 0 0 0 (.sl none 0 0 true 0) []) then guardK (allS (dropA cs 0) && true) (some (.tup [.fz (fixLen ((m + 1) * 1) (dropA cs 0)) (m + 1) false 1, int64 0])) else none := by kernel_rfl
theorem run15_nil (w : Int) :
    evCall Try.prog (S15 w [] (st46 w [] 0 0 0 0 (.sl none 0 0 true 0) [])) tb 100 AV (.fn 15) [int64 w, ints []] (mkHeap [] 0) .off (viewK Try.prog (resOf Try.prog 15)) =
    bif sameSt (st46 w [] 0 0 0 0 (.sl none 0 0 true 0) []) (st46 w [] 0 0 0 0 (.sl none 0 0 true 0) []) then some (.tup [.fz [] 0 false 1, int64 0]) else none := by kernel_rfl
theorem args15 (w : Int) (xs : List Int) : vwArgs Try.prog [] none0 (parsOf Try.prog 15) [int64 w, ints xs] = [int64 w, ints xs] := by kernel_rfl
theorem lows_len (w : Int) : ∀ (xs : List Int) (last : Int), (lows w last xs).length = xs.length
  | [], _ => rfl
  | x :: xs, _ => by simp only [lows, List.length_cons, lows_len w xs]
theorem low_fact {w : Int} {xs : List Int} (hm : xs.length ≤ 20000) : FFact Try.prog tb 15 [int64 w, ints xs] (.tup [ints (lows w 0 xs), int64 0]) := by
  refine ⟨args15 w xs, ?_⟩
  cases xs with
  | nil => exact ⟨_, S15_ok loop46_nil, by rw [run15_nil, sameSt_self]; rfl⟩
  | cons x xs =>
    refine ⟨_, S15_ok (loop46_all (w := w) hm), ?_⟩
    unfold so46
    have hl : (lows w 0 (x :: xs)).length = xs.length + 1 := by rw [lows_len]; rfl
    rw [hl, run15, sameSt_self, decide_eq_false (by omega : ¬ (((x :: xs).length : Int) > 20000))]
    have e := fix_ints (lows w 0 (x :: xs))
    rw [hl] at e
    have e2 : allS (dropA ((lows w 0 (x :: xs)).map int64) 0) = true := by rw [dropA_eq, List.drop_zero, allS_ints]
    rw [e, e2]
    simp only [cond_false, cond_true, guardK, Bool.and_self]
    unfold ints
    rw [hl]
end Go.Proofs.Ythlmbnhelkbchaa
/- The law's own example: awake. -/
namespace Go.Proofs.Ythlmbnhelkbchaa
open Go.Ev
set_option maxRecDepth 100000
theorem awake_run (h : Heap) : evCall Try.prog orc0 tb 100 AV (.fn 12) (vwArgs Try.prog [] h (parsOf Try.prog 12) []) (mkHeap [] 0) .off rv = some (.bool true) := by kernel_rfl
theorem awake_fact : F 12 [] (.bool true) := .of ok0 rfl awake_run
end Go.Proofs.Ythlmbnhelkbchaa
/- UnitLows: the law's own loop. -/
namespace Go.Proofs.Ythlmbnhelkbchaa
open Go.Ev
set_option maxRecDepth 100000
def st4 (w : Int) (xs ys : List Int) (i lo hi : Int) : St := ⟨[int64 w, ints xs, .dead, .dead, .dead, ints ys, .dead, int64 lo, int64 hi, int64 i] ++ repA .dead 75, mkHeap [] 7, [], .off⟩
noncomputable def O4 (S : Orc) : Orc := stopAt 4 [15] (knowW 16 (fun a => isSo (isN1 a)) V16 S)
noncomputable def h1 {A : Type} (x : Int) (y : Option A) : Option A := bif isSo (isN1 [int64 x]) then y else none
noncomputable def body4 {A : Type} (w : Int) (xs ys : List Int) (i lo hi : Int) (K : Ex → St → Option A) : Option A :=
  bif decide (i < (ys.length : Int)) then
    ldI xs i fun x => h1 x <|
    let go : Option A := K .normal (st4 w xs ys (IntKind.i64.wrap (i + 1)) (minI lo (num x)) (maxI hi (num x)))
    let three : Option A := bif decide (w ≤ 0) then ldI ys i fun y => bif !(y == 0) then none else go else go
    ldI ys i fun y => bif decide (y < minI lo (num x)) then none else
    ldI ys i fun y => bif decide (y > maxI hi (num x)) then none else
    bif decide (w ≥ 65536) then ldI ys i fun y => bif !(y == num x) then none else three else three
  else K (.exit 0) (st4 w xs ys i lo hi)
theorem b4 {A : Type} (w : Int) (xs ys : List Int) (i lo hi : Int) (K : Ex → St → Option A) :
    loopB Try.prog (O4 orc0) tb 4 10 0 (st4 w xs ys i lo hi) K = body4 w xs ys i lo hi K := by kernel_rfl
def okL (w : Int) : Int → Int → List Int → List Int → Prop
  | lo, hi, x :: xs, y :: ys => (minI lo (num x) ≤ y ∧ y ≤ maxI hi (num x) ∧ (w ≥ 65536 → y = num x) ∧ (w ≤ 0 → y = 0)) ∧ okL w (minI lo (num x)) (maxI hi (num x)) xs ys
  | _, _, _, _ => True
theorem h1_eq {A : Type} (x : Int) (y : Option A) : h1 x y = y := by unfold h1; rw [isSo_true ⟨_, rfl⟩]; rfl
theorem body4_eq {A : Type} {w : Int} {xs ys : List Int} {i : Nat} {lo hi : Int} (hx : i < xs.length) (hy : i < ys.length) (hm : ys.length ≤ 20000) (h : okL w lo hi (xs.drop i) (ys.drop i)) (K : Ex → St → Option A) :
    body4 w xs ys (i : Int) lo hi K = K .normal (st4 w xs ys ((i + 1 : Nat) : Int) (minI lo (num xs[i])) (maxI hi (num xs[i]))) := by
  rw [List.drop_eq_getElem_cons hx, List.drop_eq_getElem_cons hy] at h
  obtain ⟨⟨g1, g2, g3, g4⟩, _⟩ := h
  unfold body4
  rw [decide_eq_true (by omega : (i : Int) < (ys.length : Int)), cond_true]
  simp only [ldI_eq hx, ldI_eq hy, h1_eq, wrapN (by omega : i < 9223372036854775807)]
  rw [decide_eq_false (by omega : ¬ ys[i] < minI lo (num xs[i])), cond_false, decide_eq_false (by omega : ¬ ys[i] > maxI hi (num xs[i])), cond_false]
  have h0 : (bif decide (w ≤ 0) then bif !(ys[i] == 0) then none else K .normal (st4 w xs ys ((i + 1 : Nat) : Int) (minI lo (num xs[i])) (maxI hi (num xs[i]))) else K .normal (st4 w xs ys ((i + 1 : Nat) : Int) (minI lo (num xs[i])) (maxI hi (num xs[i])))) = K .normal (st4 w xs ys ((i + 1 : Nat) : Int) (minI lo (num xs[i])) (maxI hi (num xs[i]))) := by
    by_cases hw : w ≤ 0
    · rw [decide_eq_true hw, cond_true, g4 hw]; rfl
    · rw [decide_eq_false hw]; rfl
  simp only [h0]
  by_cases hw : w ≥ 65536
  · rw [decide_eq_true hw, cond_true, g3 hw, beq_self_eq_true]; rfl
  · rw [decide_eq_false hw]; rfl
theorem loop4 {w : Int} {xs ys : List Int} (hl : xs.length = ys.length) (hm : ys.length ≤ 20000) : ∀ (d i n : Nat) (lo hi : Int), i + d = ys.length → d < n → okL w lo hi (xs.drop i) (ys.drop i) →
    ∃ lo' hi', loopN (loopB Try.prog (O4 orc0) tb 4 10 0) n (st4 w xs ys (i : Int) lo hi) pairE = some (.exit 0, st4 w xs ys (ys.length : Int) lo' hi') := by
  intro d
  induction d with
  | zero =>
    intro i n lo hi hi' hn h
    obtain ⟨n, rfl⟩ : ∃ m, n = m + 1 := ⟨n - 1, by omega⟩
    have hi : i = ys.length := by omega
    subst hi
    refine ⟨lo, hi, ?_⟩
    rw [loopN_succ, b4]
    unfold body4
    rw [decide_eq_false (by omega : ¬ ((ys.length : Int) < (ys.length : Int)))]
    rfl
  | succ d ih =>
    intro i n lo hi hi' hn h
    obtain ⟨n, rfl⟩ : ∃ m, n = m + 1 := ⟨n - 1, by omega⟩
    have hy : i < ys.length := by omega
    have hx : i < xs.length := by omega
    rw [loopN_succ, b4, body4_eq hx hy hm h]
    rw [List.drop_eq_getElem_cons hx, List.drop_eq_getElem_cons hy] at h
    exact ih (i + 1) n _ _ (by omega) (by omega) h.2
theorem O4_ok {S : Orc} (h : Ok S) : Ok (O4 S) := stopAt_ok (knowW_ok tbOk when16 h)
def N4 : Norm := ⟨[0, 1, 4, 5, 7, 8, 9], []⟩
noncomputable def SL (w : Int) (xs ys : List Int) (s1 : St) : Orc := know 12 [] (.bool true) (knowF 15 [int64 w, ints xs] (.tup [ints ys, int64 0]) (knowL Try.prog 4 10 N4 0 (st4 w xs ys 0 0 0) (.exit 0) s1 orc0))
theorem count4 : Nat.ble (countL 10 e4.code) 1 = true := by kernel_rfl
theorem norm4 : loopN0 tb 4 10 = some N4 := by kernel_rfl
theorem low_run (w : Int) (xs ys : List Int) (lo hi : Int) :
    evCall Try.prog (SL w xs ys (st4 w xs ys (ys.length : Int) lo hi)) tb 100 Bool (.fn 4) [int64 w, ints xs] ⟨fun _ => none, 0⟩ .off done =
    bif same [] [] then bif decide ((xs.length : Int) > 2000) then some true else bif same [int64 w, ints xs] [int64 w, ints xs] then bif !((ys.length : Int) == (xs.length : Int)) then some false else
      bif sameSt (st4 w xs ys 0 0 0) (st4 w xs ys 0 0 0) then some true else none else none else none := by kernel_rfl
theorem low_run0 (w : Int) (xs : List Int) :
    evCall Try.prog (know 12 [] (.bool true) (stopAt 4 [5] orc0)) tb 100 Bool (.fn 4) [int64 w, ints xs] ⟨fun _ => none, 0⟩ .off done =
    bif same [] [] then bif decide ((xs.length : Int) > 2000) then some true else none else none := by kernel_rfl
/-! ### The plain law -/
theorem round1_eq {p : Int} (h1 : -1152921504606846976 ≤ p) (h2 : p ≤ 1152921504606846976) : round1 p = if p < 0 then -((-p + 32768) / 65536) else (p + 32768) / 65536 := by
  unfold round1
  by_cases h : p < 0
  · rw [decide_eq_true h, if_pos h, cond_true]
    have e1 : IntKind.i64.wrap (0 - p) = -p := by rw [IntKind.wrap_i64]; omega
    have e2 : IntKind.i64.wrap (-p + 32768) = -p + 32768 := by rw [IntKind.wrap_i64]; omega
    rw [e1, e2, Int.tdiv_eq_ediv_of_nonneg (by omega)]
    rw [IntKind.wrap_i64, IntKind.wrap_i64]
    omega
  · rw [decide_eq_false h, if_neg h, cond_false]
    have e2 : IntKind.i64.wrap (p + 32768) = p + 32768 := by rw [IntKind.wrap_i64]; omega
    rw [e2, Int.tdiv_eq_ediv_of_nonneg (by omega), IntKind.wrap_i64]
    omega
theorem kept_b (n lo hi : Int) (h : lo ≤ hi) : lo ≤ kept n lo hi ∧ kept n lo hi ≤ hi ∧ (n ≤ lo → kept n lo hi = lo) ∧ (hi ≤ n → kept n lo hi = hi) ∧ (lo ≤ n → n ≤ hi → kept n lo hi = n) := by
  unfold kept maxI minI
  split <;> split <;> omega
theorem num_eq (x : Int) : num x = kMl x := by
  unfold num into kMl kept maxI minI
  by_cases h1 : x < -1099511627776
  · rw [decide_eq_true h1]
    simp only [cond_true]
    split <;> split <;> omega
  · rw [decide_eq_false h1, cond_false]
    by_cases h2 : x > 1099511627776
    · rw [decide_eq_true h2, cond_true]
      split <;> split <;> omega
    · rw [decide_eq_false h2, cond_false]
      split <;> split <;> omega
theorem lowV_eq {x w last : Int} (h1 : -1099511627776 ≤ last) (h2 : last ≤ 1099511627776) :
    (kMl x ≤ last → kMl x ≤ lowV x w last ∧ lowV x w last ≤ last) ∧ (last ≤ kMl x → last ≤ lowV x w last ∧ lowV x w last ≤ kMl x) ∧ (w ≥ 65536 → lowV x w last = kMl x) ∧ (w ≤ 0 → lowV x w last = last) := by
  obtain ⟨a1, a2, -, -, -⟩ := kept_b x (-1099511627776) 1099511627776 (by omega)
  obtain ⟨c1, c2, c3, c4, c5⟩ := kept_b w (-1099511627776) 1099511627776 (by omega)
  obtain ⟨b1, b2, b3, b4, b5⟩ := kept_b (kMl w) 0 65536 (by omega)
  have hk : lowP x w last = (kMl x - last) * kept (kMl w) 0 65536 := by
    unfold lowP w64
    have e : IntKind.i64.wrap (kMl x - last) = kMl x - last := by
      rw [IntKind.wrap_i64]
      unfold kMl
      omega
    rw [e]
    have f1 : (kMl x - last) * kept (kMl w) 0 65536 ≤ 2199023255552 * 65536 := by
      rcases Int.le_total (kMl x - last) 0 with h | h
      · have := Int.mul_nonneg (show 0 ≤ -(kMl x - last) by omega) b1
        rw [Int.neg_mul] at this
        omega
      · exact Int.mul_le_mul (by unfold kMl; omega) b2 b1 (by omega)
    have f2 : -(2199023255552 * 65536) ≤ (kMl x - last) * kept (kMl w) 0 65536 := by
      rcases Int.le_total (kMl x - last) 0 with h | h
      · have := Int.mul_le_mul (show -(kMl x - last) ≤ 2199023255552 by unfold kMl; omega) b2 b1 (by omega)
        rw [Int.neg_mul] at this
        omega
      · have := Int.mul_nonneg h b1
        omega
    rw [IntKind.wrap_i64]
    omega
  have hd1 : -2199023255552 ≤ kMl x - last := by unfold kMl; omega
  have hd2 : kMl x - last ≤ 2199023255552 := by unfold kMl; omega
  have ha1 : -1099511627776 ≤ kMl x := a1
  have ha2 : kMl x ≤ 1099511627776 := a2
  generalize hw : kept (kMl w) 0 65536 = q at *
  generalize hx : kMl x = a at *
  -- the product lies between
  have g1 : a - last ≤ 0 → (a - last) * 65536 ≤ (a - last) * q ∧ (a - last) * q ≤ 0 := fun h => by
    have := Int.mul_le_mul_of_nonneg_left b2 (show 0 ≤ -(a - last) by omega)
    have := Int.mul_nonneg (show 0 ≤ -(a - last) by omega) b1
    rw [Int.neg_mul] at *
    rw [Int.neg_mul] at *
    omega
  have g2 : 0 ≤ a - last → 0 ≤ (a - last) * q ∧ (a - last) * q ≤ (a - last) * 65536 := fun h => ⟨Int.mul_nonneg h b1, Int.mul_le_mul_of_nonneg_left b2 h⟩
  have hv : lowV x w last = last + round1 ((a - last) * q) := by
    unfold lowV w64
    rw [hk]
    have hb : -2199023255552 * 65536 ≤ (a - last) * q ∧ (a - last) * q ≤ 2199023255552 * 65536 := by
      rcases Int.le_total (a - last) 0 with h | h
      · have := g1 h; omega
      · have := g2 h; omega
    have hr := round1_eq (p := (a - last) * q) (by omega) (by omega)
    have hin : -1099511627776 ≤ last + round1 ((a - last) * q) ∧ last + round1 ((a - last) * q) ≤ 1099511627776 := by
      rw [hr]
      rcases Int.le_total (a - last) 0 with h | h
      · have := g1 h
        split <;> omega
      · have := g2 h
        split <;> omega
    have e : IntKind.i64.wrap (last + round1 ((a - last) * q)) = last + round1 ((a - last) * q) := by
      rw [IntKind.wrap_i64]
      omega
    rw [e]
    exact (kept_b _ (-1099511627776) 1099511627776 (by omega)).2.2.2.2 hin.1 hin.2
  rw [hv]
  have hb : -2199023255552 * 65536 ≤ (a - last) * q ∧ (a - last) * q ≤ 2199023255552 * 65536 := by
    rcases Int.le_total (a - last) 0 with h | h
    · have := g1 h; omega
    · have := g2 h; omega
  rw [round1_eq (p := (a - last) * q) (by omega) (by omega)]
  refine ⟨fun h => ?_, fun h => ?_, fun h => ?_, fun h => ?_⟩
  · have := g1 (by omega)
    split <;> omega
  · have := g2 (by omega)
    split <;> omega
  · have hq : q = 65536 := by
      refine b4 ?_
      unfold kMl
      rcases Int.le_total 1099511627776 w with h' | h'
      · rw [c4 h']; omega
      · rw [c5 (by omega) h']; omega
    rw [hq]
    split <;> omega
  · have hq : q = 0 := by
      refine b3 ?_
      unfold kMl
      rcases Int.le_total w (-1099511627776) with h' | h'
      · rw [c3 h']; omega
      · rw [c5 h' (by omega)]; omega
    rw [hq]
    split <;> omega
theorem lows_ok (w : Int) : ∀ (xs : List Int) (lo hi last : Int), lo ≤ last → last ≤ hi → -1099511627776 ≤ last → last ≤ 1099511627776 → (w ≤ 0 → last = 0) → okL w lo hi xs (lows w last xs)
  | [], _, _, _, _, _, _, _, _ => trivial
  | x :: xs, lo, hi, last, h1, h2, h3l, h4, h5 => by
    obtain ⟨k1, k2, k3, k4⟩ := lowV_eq (x := x) (w := w) h3l h4
    obtain ⟨a1, a2, -, -, -⟩ := kept_b x (-1099511627776) 1099511627776 (by omega)
    have a1 : -1099511627776 ≤ kMl x := a1
    have a2 : kMl x ≤ 1099511627776 := a2
    have m1 : minI lo (num x) ≤ lo ∧ minI lo (num x) ≤ kMl x ∧ (minI lo (num x) = lo ∨ minI lo (num x) = kMl x) := by
      rw [num_eq]; unfold minI; split <;> omega
    have m2 : hi ≤ maxI hi (num x) ∧ kMl x ≤ maxI hi (num x) := by
      rw [num_eq]; unfold maxI; split <;> omega
    rcases Int.le_total (kMl x) last with h | h
    · have := k1 h
      exact ⟨⟨by omega, by omega, fun hw => by rw [num_eq]; exact k3 hw, fun hw => by rw [k4 hw]; exact h5 hw⟩, lows_ok w xs _ _ _ (by omega) (by omega) (by omega) (by omega) (fun hw => by rw [k4 hw]; exact h5 hw)⟩
    · have := k2 h
      exact ⟨⟨by omega, by omega, fun hw => by rw [num_eq]; exact k3 hw, fun hw => by rw [k4 hw]; exact h5 hw⟩, lows_ok w xs _ _ _ (by omega) (by omega) (by omega) (by omega) (fun hw => by rw [k4 hw]; exact h5 hw)⟩
theorem law {H : Type} {k0 k1 : Nat} {d0 d1 : DataW H} (w0 : WT Try.prog k0 3 d0) (w1 : WT Try.prog k1 22 d1) :
    ∃ S, Ok S ∧ evCall Try.prog S tb 100 Bool (.fn 4) [dVal Try.prog k0 3 d0, dVal Try.prog k1 22 d1] ⟨fun _ => none, 0⟩ .off done = some true := by
  obtain ⟨w, e0, _⟩ := WT.vint (by kernel_rfl) w0
  obtain ⟨xs, e1, _⟩ := WT.vints (e := 3) (by kernel_rfl) (by kernel_rfl) (by kernel_rfl) w1
  rw [e0, e1]
  by_cases hm : (xs.length : Int) > 2000
  · refine ⟨_, know_ok tbOk awake_fact (stopAt_ok ok0), (low_run0 w xs).trans ?_⟩
    rw [same_self, decide_eq_true hm]; rfl
  · have hl := lows_len w xs 0
    obtain ⟨lo, hi, hr⟩ := loop4 (w := w) (xs := xs) (ys := lows w 0 xs) hl.symm (by omega) (lows w 0 xs).length 0 rounds 0 0 (by omega) (rounds_gt (by have : maxLen = 9223372036854775807 := rfl; omega)) (lows_ok w xs 0 0 0 (by omega) (by omega) (by omega) (by omega) (fun _ => rfl))
    refine ⟨_, know_ok tbOk awake_fact (knowF_ok tbOk (low_fact (by omega)) (knowL_ok tbOk ⟨O4 orc0, O4_ok ok0, hr⟩ ok0 (ep := e4) rfl norm4 count4)), (low_run w xs (lows w 0 xs) lo hi).trans ?_⟩
    rw [same_self, same_self, sameSt_self, decide_eq_false hm, hl]
    simp
end Go.Proofs.Ythlmbnhelkbchaa
/- magnitude, Mul64, in closed form. -/
namespace Go.Proofs.Ythlmbnhelkbchaa
open Go.Ev
set_option maxRecDepth 100000
abbrev u64 (n : Int) : AV := .int .u64 n
abbrev wu (n : Int) : Int := IntKind.u64.wrap n
def magI (n : Int) : Int := bif decide (n < 0) then wu (IntKind.i64.wrap (0 - n)) else wu n
theorem run100 (n : Int) (h : Heap) : evCall Try.prog orc0 tb 100 AV (.fn 100) (vwArgs Try.prog [] h (parsOf Try.prog 100) [int64 n]) (mkHeap [] 0) .off rv =
    bif decide (n < 0) then some (u64 (wu (IntKind.i64.wrap (0 - n)))) else some (u64 (wu n)) := by kernel_rfl
def lo32 (a : Int) : Int := wu ((BitVec.ofInt 64 a &&& BitVec.ofInt 64 4294967295).toNat : Int)
def hi32 (a : Int) : Int := a.fdiv (2 ^ 32)
def mulT (x y : Int) : Int := wu (wu (hi32 x * lo32 y) + hi32 (wu (lo32 x * lo32 y)))
def mulHi (x y : Int) : Int := wu (wu (wu (hi32 x * hi32 y) + hi32 (mulT x y)) + hi32 (wu (lo32 (mulT x y) + wu (lo32 x * hi32 y))))
theorem run99 (x y : Int) (h : Heap) : evCall Try.prog orc0 tb 100 AV (.fn 99) (vwArgs Try.prog [] h (parsOf Try.prog 99) [u64 x, u64 y]) (mkHeap [] 0) .off rv = some (.tup [u64 (mulHi x y), u64 (wu (x * y))]) := by kernel_rfl
end Go.Proofs.Ythlmbnhelkbchaa
