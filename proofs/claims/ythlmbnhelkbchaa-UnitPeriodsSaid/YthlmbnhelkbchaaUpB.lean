/- product, in closed form. -/
import Derived.Test.YthlmbnhelkbchaaUpA
namespace Go.Proofs.Ythlmbnhelkbchaa
open Go.Ev
set_option maxRecDepth 100000
noncomputable def ON (S : Orc) : Orc := knowW 104 (fun a => isSo (isN1 a)) V104 (knowW 105 (fun a => isSo (isN1 a)) V105 (knowW 73 (fun a => isSo (isN3 a)) V73 (knowW 68 (fun a => isSo (is68 a)) V68 S)))
theorem ON_ok {S : Orc} (h : Ok S) : Ok (ON S) := knowW_ok tbOk when104 (knowW_ok tbOk when105 (knowW_ok tbOk when73 (knowW_ok tbOk when68 h)))
abbrev w64 (n : Int) : Int := IntKind.i64.wrap n
noncomputable def g1 (x : Int) (y : Option AV) : Option AV := bif isSo (isN1 [int64 x]) then y else none
noncomputable def g3 (x lo hi : Int) (y : Option AV) : Option AV := bif isSo (isN3 [int64 x, int64 lo, int64 hi]) then y else none
noncomputable def g68 (x : Int) (y : Option AV) : Option AV := bif isSo (is68 [int64 x, int64 65536]) then y else none
theorem g1_eq (x : Int) (y : Option AV) : g1 x y = y := by unfold g1; rw [isSo_true ⟨_, rfl⟩]; rfl
theorem g3_eq (x lo hi : Int) (y : Option AV) : g3 x lo hi y = y := by unfold g3; rw [isSo_true ⟨_, _, _, rfl⟩]; rfl
theorem g68_eq (x : Int) (y : Option AV) : g68 x y = y := by unfold g68; rw [isSo_true ⟨_, rfl⟩]; rfl
noncomputable def fin2 (w r : Int) : Option AV := g68 r (g3 (w64 (w + round1 r)) (-1099511627776) 1099511627776 (some (int64 (kept (w64 (w + round1 r)) (-1099511627776) 1099511627776))))
noncomputable def fin1 (w r : Int) : Option AV := bif decide (w < 0) then (bif decide (r > 0) then fin2 (w64 (w + 1)) (w64 (r - 65536)) else fin2 w r) else fin2 w r
noncomputable def rest1 (w r : Int) : Option AV := bif decide (w > 0) then (bif decide (r < 0) then fin1 (w64 (w - 1)) (w64 (r + 65536)) else fin1 w r) else fin1 w r
noncomputable def rest0 (a b : Int) : Option AV :=
  rest1 (w64 (w64 (w64 (w64 (a.tdiv 65536) * b) + w64 (a.tmod 65536 * w64 (b.tdiv 65536))) + w64 ((w64 (a.tmod 65536 * b.tmod 65536)).tdiv 65536))) ((w64 (a.tmod 65536 * b.tmod 65536)).tmod 65536)
noncomputable def big (ah b : Int) : Option AV := g1 ah (g1 b (g3 (w64 (w64 (signI ah * signI b) * 1099511627776)) (-1099511627776) 1099511627776 (some (int64 (kept (w64 (w64 (signI ah * signI b) * 1099511627776)) (-1099511627776) 1099511627776)))))
noncomputable def prodT (a b : Int) : Option AV :=
  g1 (w64 (a.tdiv 65536)) (bif decide (sizeI (w64 (a.tdiv 65536)) > 0) then g1 b (g1 (w64 (a.tdiv 65536)) (bif sizeI (w64 (a.tdiv 65536)) == 0 then none else
    bif decide (sizeI b > w64 ((2199023255552 : Int).tdiv (sizeI (w64 (a.tdiv 65536))))) then big (w64 (a.tdiv 65536)) b else rest0 a b)) else rest0 a b)
theorem run92 (a b : Int) (h : Heap) : evCall Try.prog (ON orc0) tb 100 AV (.fn 92) (vwArgs Try.prog [] h (parsOf Try.prog 92) [int64 a, int64 b]) (mkHeap [] 0) .off rv = prodT a b := by kernel_rfl
/-- The same as a number. -/
def fin2I (w r : Int) : Int := kept (w64 (w + round1 r)) (-1099511627776) 1099511627776
def fin1I (w r : Int) : Int := bif decide (w < 0) then (bif decide (r > 0) then fin2I (w64 (w + 1)) (w64 (r - 65536)) else fin2I w r) else fin2I w r
def rest1I (w r : Int) : Int := bif decide (w > 0) then (bif decide (r < 0) then fin1I (w64 (w - 1)) (w64 (r + 65536)) else fin1I w r) else fin1I w r
def rest0I (a b : Int) : Int :=
  rest1I (w64 (w64 (w64 (w64 (a.tdiv 65536) * b) + w64 (a.tmod 65536 * w64 (b.tdiv 65536))) + w64 ((w64 (a.tmod 65536 * b.tmod 65536)).tdiv 65536))) ((w64 (a.tmod 65536 * b.tmod 65536)).tmod 65536)
def bigI (ah b : Int) : Int := kept (w64 (w64 (signI ah * signI b) * 1099511627776)) (-1099511627776) 1099511627776
def prodI (a b : Int) : Int :=
  bif decide (sizeI (w64 (a.tdiv 65536)) > 0) && decide (sizeI b > w64 ((2199023255552 : Int).tdiv (sizeI (w64 (a.tdiv 65536))))) then bigI (w64 (a.tdiv 65536)) b else rest0I a b
theorem fin2_eq (w r : Int) : fin2 w r = some (int64 (fin2I w r)) := by unfold fin2; rw [g68_eq, g3_eq]; rfl
theorem fin1_eq (w r : Int) : fin1 w r = some (int64 (fin1I w r)) := by
  unfold fin1 fin1I
  simp only [fin2_eq]
  cases decide (w < 0) <;> cases decide (r > 0) <;> rfl
theorem rest1_eq (w r : Int) : rest1 w r = some (int64 (rest1I w r)) := by
  unfold rest1 rest1I
  simp only [fin1_eq]
  cases decide (w > 0) <;> cases decide (r < 0) <;> rfl
theorem big_eq (ah b : Int) : big ah b = some (int64 (bigI ah b)) := by unfold big; rw [g1_eq, g1_eq, g3_eq]; rfl
theorem prodT_eq (a b : Int) : prodT a b = some (int64 (prodI a b)) := by
  unfold prodT prodI
  simp only [g1_eq, big_eq]
  have hr : rest0 a b = some (int64 (rest0I a b)) := rest1_eq _ _
  rw [hr]
  by_cases h : sizeI (w64 (a.tdiv 65536)) > 0
  · have h0 : (sizeI (w64 (a.tdiv 65536)) == 0) = false := by
      simp only [beq_eq_false_iff_ne]
      omega
    rw [decide_eq_true h, h0]
    cases decide (sizeI b > w64 ((2199023255552 : Int).tdiv (sizeI (w64 (a.tdiv 65536))))) <;> rfl
  · rw [decide_eq_false h]
    rfl
def V92 (a : List AV) : AV := int64 (prodI (ar a 0) (ar a 1))
theorem when92 (a : List AV) (h : isSo (isN2 a) = true) : F 92 a (V92 a) := by
  obtain ⟨x, y, rfl⟩ := isSo_iff.1 h
  exact .of (ON_ok ok0) rfl fun h => (run92 x y h).trans (prodT_eq x y)
end Go.Proofs.Ythlmbnhelkbchaa
