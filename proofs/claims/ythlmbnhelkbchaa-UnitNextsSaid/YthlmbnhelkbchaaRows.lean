/-
  No cell of these rows narrows 'for every input' (looked for: loops, veiled, ifaces, maps, wideKeys, modest, calm, conditions, laid).
  DERIVED. THE GIVEN ROWS OF THIS SEAT. 9 by the template 'for every input the law returns true; each argument reads behind the call as it read before'; 0 by the template 'total and deterministic' (their statements: YthlmbnhelkbchaaTotals.lean).
  GIVEN WITH THE SEED: the statements are not yours to turn. If you find one false, say at which input.
  Laid BY PROGRAM, IN A SANDBOX (cutbox-rows.mjs): the forced cells as the released guide's own fill.sh prints them over the translation 6c57862a47ff0c1f… (all of the seat's roots in one cut). By AI agents, Wed Nov 11 2026. No macro, syntax, notation, axiom, sorry.
-/
import Derived.Test.YthlmbnhelkbchaaChecked
import GoSem.Claim
import GoSem.ClaimJoined
import GoSem.ClaimMapViews
import Derived.JoinedTies
import Derived.KernelRfl
namespace Go.Proofs.Ythlmbnhelkbchaa
/- THE CELL 'sum', in the pinned program and in every row, IS THE sha256 OF THE DUMP (.gsa) THAT YthlmbnhelkbchaaProg.lean LOADS. Nothing in Lean hashes anything: it is a label: what it is worth is what the hold of that sum in a sandbox is worth. -/
noncomputable def Try.pinned : Pinned := { name := "ythlmbnhelkbchaa", sum := "6c57862a47ff0c1f07ab748307e1eed3cc9ed172cc5f8efea6515a8f8579dc82", checked := Try.checked }
namespace Rows
def none {H : Type} : Left H := { results := [], args := [] }

/-- 'continuolaw26.UnitEnvelopes': WHATEVER THE INPUT: true; the input reads as it did. -/
def unitEnvelopesSpec : ChangeSpec := { name := "unitEnvelopes", fn := fun _ => fun
  | [d1, d2] => { results := [.lit (.bool true)], args := [d1, d2] }
  | _ => none }
def unitEnvelopesRow : OpenClaim := { program := "ythlmbnhelkbchaa", sum := "6c57862a47ff0c1f07ab748307e1eed3cc9ed172cc5f8efea6515a8f8579dc82", func := "continuo/continuolaw26.UnitEnvelopes", spec := "unitEnvelopes", unfollowed := true, recurses := true, apart := false }
def UnitEnvelopesSaid : Prop := unitEnvelopesRow.holds Try.pinned (OpenSpec.ofChange unitEnvelopesSpec)

/-- ITS FALSE NEIGHBOUR: 'it returns false'. Refute it at one input. -/
def unitEnvelopesWrong : ChangeSpec := { name := "unitEnvelopes", fn := fun _ => fun
  | [d1, d2] => { results := [.lit (.bool false)], args := [d1, d2] }
  | _ => none }
def UnitEnvelopesWrongFalsely : Prop := unitEnvelopesRow.holds Try.pinned (OpenSpec.ofChange unitEnvelopesWrong)

/-- 'continuolaw26.UnitLows': WHATEVER THE INPUT: true; the input reads as it did. -/
def unitLowsSpec : ChangeSpec := { name := "unitLows", fn := fun _ => fun
  | [d1, d2] => { results := [.lit (.bool true)], args := [d1, d2] }
  | _ => none }
def unitLowsRow : OpenClaim := { program := "ythlmbnhelkbchaa", sum := "6c57862a47ff0c1f07ab748307e1eed3cc9ed172cc5f8efea6515a8f8579dc82", func := "continuo/continuolaw26.UnitLows", spec := "unitLows", unfollowed := true, recurses := true, apart := false }
def UnitLowsSaid : Prop := unitLowsRow.holds Try.pinned (OpenSpec.ofChange unitLowsSpec)

/-- ITS FALSE NEIGHBOUR: 'it returns false'. Refute it at one input. -/
def unitLowsWrong : ChangeSpec := { name := "unitLows", fn := fun _ => fun
  | [d1, d2] => { results := [.lit (.bool false)], args := [d1, d2] }
  | _ => none }
def UnitLowsWrongFalsely : Prop := unitLowsRow.holds Try.pinned (OpenSpec.ofChange unitLowsWrong)

/-- 'continuolaw26.UnitPeriods': WHATEVER THE INPUT: true; the input reads as it did. -/
def unitPeriodsSpec : ChangeSpec := { name := "unitPeriods", fn := fun _ => fun
  | [d1, d2] => { results := [.lit (.bool true)], args := [d1, d2] }
  | _ => none }
def unitPeriodsRow : OpenClaim := { program := "ythlmbnhelkbchaa", sum := "6c57862a47ff0c1f07ab748307e1eed3cc9ed172cc5f8efea6515a8f8579dc82", func := "continuo/continuolaw26.UnitPeriods", spec := "unitPeriods", unfollowed := true, recurses := true, apart := false }
def UnitPeriodsSaid : Prop := unitPeriodsRow.holds Try.pinned (OpenSpec.ofChange unitPeriodsSpec)

/-- ITS FALSE NEIGHBOUR: 'it returns false'. Refute it at one input. -/
def unitPeriodsWrong : ChangeSpec := { name := "unitPeriods", fn := fun _ => fun
  | [d1, d2] => { results := [.lit (.bool false)], args := [d1, d2] }
  | _ => none }
def UnitPeriodsWrongFalsely : Prop := unitPeriodsRow.holds Try.pinned (OpenSpec.ofChange unitPeriodsWrong)

/-- 'continuolaw26.UnitNothing': WHATEVER THE INPUT: true; the input reads as it did. -/
def unitNothingSpec : ChangeSpec := { name := "unitNothing", fn := fun _ => fun
  | [d1, d2] => { results := [.lit (.bool true)], args := [d1, d2] }
  | _ => none }
def unitNothingRow : OpenClaim := { program := "ythlmbnhelkbchaa", sum := "6c57862a47ff0c1f07ab748307e1eed3cc9ed172cc5f8efea6515a8f8579dc82", func := "continuo/continuolaw26.UnitNothing", spec := "unitNothing", unfollowed := true, recurses := true, apart := false }
def UnitNothingSaid : Prop := unitNothingRow.holds Try.pinned (OpenSpec.ofChange unitNothingSpec)

/-- ITS FALSE NEIGHBOUR: 'it returns false'. Refute it at one input. -/
def unitNothingWrong : ChangeSpec := { name := "unitNothing", fn := fun _ => fun
  | [d1, d2] => { results := [.lit (.bool false)], args := [d1, d2] }
  | _ => none }
def UnitNothingWrongFalsely : Prop := unitNothingRow.holds Try.pinned (OpenSpec.ofChange unitNothingWrong)

/-- 'continuolaw26.UnitKinds': WHATEVER THE INPUT: true; the input reads as it did. -/
def unitKindsSpec : ChangeSpec := { name := "unitKinds", fn := fun _ => fun
  | [d1, d2, d3] => { results := [.lit (.bool true)], args := [d1, d2, d3] }
  | _ => none }
def unitKindsRow : OpenClaim := { program := "ythlmbnhelkbchaa", sum := "6c57862a47ff0c1f07ab748307e1eed3cc9ed172cc5f8efea6515a8f8579dc82", func := "continuo/continuolaw26.UnitKinds", spec := "unitKinds", unfollowed := true, recurses := true, apart := false }
def UnitKindsSaid : Prop := unitKindsRow.holds Try.pinned (OpenSpec.ofChange unitKindsSpec)

/-- ITS FALSE NEIGHBOUR: 'it returns false'. Refute it at one input. -/
def unitKindsWrong : ChangeSpec := { name := "unitKinds", fn := fun _ => fun
  | [d1, d2, d3] => { results := [.lit (.bool false)], args := [d1, d2, d3] }
  | _ => none }
def UnitKindsWrongFalsely : Prop := unitKindsRow.holds Try.pinned (OpenSpec.ofChange unitKindsWrong)

/-- 'continuolaw26.UnitNexts': WHATEVER THE INPUT: true; the input reads as it did. -/
def unitNextsSpec : ChangeSpec := { name := "unitNexts", fn := fun _ => fun
  | [d1, d2, d3] => { results := [.lit (.bool true)], args := [d1, d2, d3] }
  | _ => none }
def unitNextsRow : OpenClaim := { program := "ythlmbnhelkbchaa", sum := "6c57862a47ff0c1f07ab748307e1eed3cc9ed172cc5f8efea6515a8f8579dc82", func := "continuo/continuolaw26.UnitNexts", spec := "unitNexts", inPlace := ["math/bits.Add64"], unfollowed := true, recurses := true, named := ["math/bits.divideError", "math/bits.overflowError"], apart := false }
def UnitNextsSaid : Prop := unitNextsRow.holds Try.pinned (OpenSpec.ofChange unitNextsSpec)

/-- ITS FALSE NEIGHBOUR: 'it returns false'. Refute it at one input. -/
def unitNextsWrong : ChangeSpec := { name := "unitNexts", fn := fun _ => fun
  | [d1, d2, d3] => { results := [.lit (.bool false)], args := [d1, d2, d3] }
  | _ => none }
def UnitNextsWrongFalsely : Prop := unitNextsRow.holds Try.pinned (OpenSpec.ofChange unitNextsWrong)

/-- 'continuolaw26.UnitPlain': WHATEVER THE INPUT: true; the input reads as it did. -/
def unitPlainSpec : ChangeSpec := { name := "unitPlain", fn := fun _ => fun
  | [d1, d2, d3] => { results := [.lit (.bool true)], args := [d1, d2, d3] }
  | _ => none }
def unitPlainRow : OpenClaim := { program := "ythlmbnhelkbchaa", sum := "6c57862a47ff0c1f07ab748307e1eed3cc9ed172cc5f8efea6515a8f8579dc82", func := "continuo/continuolaw26.UnitPlain", spec := "unitPlain", inPlace := ["math/bits.Add64"], unfollowed := true, recurses := true, named := ["math/bits.divideError", "math/bits.overflowError"], apart := false }
def UnitPlainSaid : Prop := unitPlainRow.holds Try.pinned (OpenSpec.ofChange unitPlainSpec)

/-- ITS FALSE NEIGHBOUR: 'it returns false'. Refute it at one input. -/
def unitPlainWrong : ChangeSpec := { name := "unitPlain", fn := fun _ => fun
  | [d1, d2, d3] => { results := [.lit (.bool false)], args := [d1, d2, d3] }
  | _ => none }
def UnitPlainWrongFalsely : Prop := unitPlainRow.holds Try.pinned (OpenSpec.ofChange unitPlainWrong)

/-- 'continuolaw26.UnitRuns': WHATEVER THE INPUT: true; the input reads as it did. -/
def unitRunsSpec : ChangeSpec := { name := "unitRuns", fn := fun _ => fun
  | [d1, d2, d3, d4] => { results := [.lit (.bool true)], args := [d1, d2, d3, d4] }
  | _ => none }
def unitRunsRow : OpenClaim := { program := "ythlmbnhelkbchaa", sum := "6c57862a47ff0c1f07ab748307e1eed3cc9ed172cc5f8efea6515a8f8579dc82", func := "continuo/continuolaw26.UnitRuns", spec := "unitRuns", inPlace := ["math/bits.Add64"], unfollowed := true, recurses := true, named := ["math/bits.divideError", "math/bits.overflowError"], apart := false }
def UnitRunsSaid : Prop := unitRunsRow.holds Try.pinned (OpenSpec.ofChange unitRunsSpec)

/-- ITS FALSE NEIGHBOUR: 'it returns false'. Refute it at one input. -/
def unitRunsWrong : ChangeSpec := { name := "unitRuns", fn := fun _ => fun
  | [d1, d2, d3, d4] => { results := [.lit (.bool false)], args := [d1, d2, d3, d4] }
  | _ => none }
def UnitRunsWrongFalsely : Prop := unitRunsRow.holds Try.pinned (OpenSpec.ofChange unitRunsWrong)

/-- 'continuolaw26.UnitNumbers': WHATEVER THE INPUT: true; the input reads as it did. -/
def unitNumbersSpec : ChangeSpec := { name := "unitNumbers", fn := fun _ => fun
  | [d1, d2, d3, d4, d5, d6] => { results := [.lit (.bool true)], args := [d1, d2, d3, d4, d5, d6] }
  | _ => none }
def unitNumbersRow : OpenClaim := { program := "ythlmbnhelkbchaa", sum := "6c57862a47ff0c1f07ab748307e1eed3cc9ed172cc5f8efea6515a8f8579dc82", func := "continuo/continuolaw26.UnitNumbers", spec := "unitNumbers", inPlace := ["math/bits.Add64"], unfollowed := true, recurses := true, named := ["math/bits.divideError", "math/bits.overflowError"], apart := false }
def UnitNumbersSaid : Prop := unitNumbersRow.holds Try.pinned (OpenSpec.ofChange unitNumbersSpec)

/-- ITS FALSE NEIGHBOUR: 'it returns false'. Refute it at one input. -/
def unitNumbersWrong : ChangeSpec := { name := "unitNumbers", fn := fun _ => fun
  | [d1, d2, d3, d4, d5, d6] => { results := [.lit (.bool false)], args := [d1, d2, d3, d4, d5, d6] }
  | _ => none }
def UnitNumbersWrongFalsely : Prop := unitNumbersRow.holds Try.pinned (OpenSpec.ofChange unitNumbersWrong)

/- THE SECOND FORM. 'bulk': how many values and letters a reading holds, each counted each time it is reached (what is shared counts as often as it is met; a slice's spare places count too). A statement '..UptoSaid' is the law's where the arguments, and the package variables that the reading takes, are together of bulk at most 1048576: NARROWER than '..Said'. Prove '..Said' where nothing that the law and all that it calls make is longer than what came in: it says more and counts as full. Else prove '..UptoSaid'. A law counts once. -/
mutual
def uptoBulk {H : Type} : DataW H → Nat
  | .lit (.string bytes) => bytes.length + 1
  | .lit _ => 1
  | .nil => 1
  | .ptr d => uptoBulk d + 1
  | .slice elems spare => uptoBulkAll elems + uptoBulkAll spare + 1
  | .agg parts => uptoBulkAll parts + 1
  | .iface _ d => uptoBulk d + 1
  | .map entries => uptoBulkEntries entries + 1
  | .held _ => 1
def uptoBulkAll {H : Type} : List (DataW H) → Nat
  | [] => 0
  | d :: r => uptoBulk d + uptoBulkAll r
def uptoBulkEntries {H : Type} : List (Lit × DataW H) → Nat
  | [] => 0
  | x :: r => uptoBulkEntry x + uptoBulkEntries r
def uptoBulkEntry {H : Type} : Lit × DataW H → Nat
  | (.string bytes, d) => bytes.length + uptoBulk d + 1
  | (_, d) => uptoBulk d + 1
 end
def uptoSmall : (H : Type) → List (DataW H) → Bool := fun _ ds => decide (uptoBulkAll ds ≤ 1048576)
def OpenSpec.upto (s : _root_.Go.ChangeSpec) : _root_.Go.OpenSpec := { _root_.Go.OpenSpec.ofChange s with cond := some uptoSmall }

/-- 'continuolaw26.UnitEnvelopes', WHERE WHAT IT READS IS OF BULK AT MOST 1048576: true; the input reads as it did. -/
def unitEnvelopesUptoRow : OpenClaim := { program := "ythlmbnhelkbchaa", sum := "6c57862a47ff0c1f07ab748307e1eed3cc9ed172cc5f8efea6515a8f8579dc82", func := "continuo/continuolaw26.UnitEnvelopes", spec := "unitEnvelopes", unfollowed := true, recurses := true, apart := false, narrowed := true }
def UnitEnvelopesUptoSaid : Prop := unitEnvelopesUptoRow.holds Try.pinned (OpenSpec.upto unitEnvelopesSpec)

/-- 'continuolaw26.UnitLows', WHERE WHAT IT READS IS OF BULK AT MOST 1048576: true; the input reads as it did. -/
def unitLowsUptoRow : OpenClaim := { program := "ythlmbnhelkbchaa", sum := "6c57862a47ff0c1f07ab748307e1eed3cc9ed172cc5f8efea6515a8f8579dc82", func := "continuo/continuolaw26.UnitLows", spec := "unitLows", unfollowed := true, recurses := true, apart := false, narrowed := true }
def UnitLowsUptoSaid : Prop := unitLowsUptoRow.holds Try.pinned (OpenSpec.upto unitLowsSpec)

/-- 'continuolaw26.UnitPeriods', WHERE WHAT IT READS IS OF BULK AT MOST 1048576: true; the input reads as it did. -/
def unitPeriodsUptoRow : OpenClaim := { program := "ythlmbnhelkbchaa", sum := "6c57862a47ff0c1f07ab748307e1eed3cc9ed172cc5f8efea6515a8f8579dc82", func := "continuo/continuolaw26.UnitPeriods", spec := "unitPeriods", unfollowed := true, recurses := true, apart := false, narrowed := true }
def UnitPeriodsUptoSaid : Prop := unitPeriodsUptoRow.holds Try.pinned (OpenSpec.upto unitPeriodsSpec)

/-- 'continuolaw26.UnitNothing', WHERE WHAT IT READS IS OF BULK AT MOST 1048576: true; the input reads as it did. -/
def unitNothingUptoRow : OpenClaim := { program := "ythlmbnhelkbchaa", sum := "6c57862a47ff0c1f07ab748307e1eed3cc9ed172cc5f8efea6515a8f8579dc82", func := "continuo/continuolaw26.UnitNothing", spec := "unitNothing", unfollowed := true, recurses := true, apart := false, narrowed := true }
def UnitNothingUptoSaid : Prop := unitNothingUptoRow.holds Try.pinned (OpenSpec.upto unitNothingSpec)

/-- 'continuolaw26.UnitKinds', WHERE WHAT IT READS IS OF BULK AT MOST 1048576: true; the input reads as it did. -/
def unitKindsUptoRow : OpenClaim := { program := "ythlmbnhelkbchaa", sum := "6c57862a47ff0c1f07ab748307e1eed3cc9ed172cc5f8efea6515a8f8579dc82", func := "continuo/continuolaw26.UnitKinds", spec := "unitKinds", unfollowed := true, recurses := true, apart := false, narrowed := true }
def UnitKindsUptoSaid : Prop := unitKindsUptoRow.holds Try.pinned (OpenSpec.upto unitKindsSpec)

/-- 'continuolaw26.UnitNexts', WHERE WHAT IT READS IS OF BULK AT MOST 1048576: true; the input reads as it did. -/
def unitNextsUptoRow : OpenClaim := { program := "ythlmbnhelkbchaa", sum := "6c57862a47ff0c1f07ab748307e1eed3cc9ed172cc5f8efea6515a8f8579dc82", func := "continuo/continuolaw26.UnitNexts", spec := "unitNexts", inPlace := ["math/bits.Add64"], unfollowed := true, recurses := true, named := ["math/bits.divideError", "math/bits.overflowError"], apart := false, narrowed := true }
def UnitNextsUptoSaid : Prop := unitNextsUptoRow.holds Try.pinned (OpenSpec.upto unitNextsSpec)

/-- 'continuolaw26.UnitPlain', WHERE WHAT IT READS IS OF BULK AT MOST 1048576: true; the input reads as it did. -/
def unitPlainUptoRow : OpenClaim := { program := "ythlmbnhelkbchaa", sum := "6c57862a47ff0c1f07ab748307e1eed3cc9ed172cc5f8efea6515a8f8579dc82", func := "continuo/continuolaw26.UnitPlain", spec := "unitPlain", inPlace := ["math/bits.Add64"], unfollowed := true, recurses := true, named := ["math/bits.divideError", "math/bits.overflowError"], apart := false, narrowed := true }
def UnitPlainUptoSaid : Prop := unitPlainUptoRow.holds Try.pinned (OpenSpec.upto unitPlainSpec)

/-- 'continuolaw26.UnitRuns', WHERE WHAT IT READS IS OF BULK AT MOST 1048576: true; the input reads as it did. -/
def unitRunsUptoRow : OpenClaim := { program := "ythlmbnhelkbchaa", sum := "6c57862a47ff0c1f07ab748307e1eed3cc9ed172cc5f8efea6515a8f8579dc82", func := "continuo/continuolaw26.UnitRuns", spec := "unitRuns", inPlace := ["math/bits.Add64"], unfollowed := true, recurses := true, named := ["math/bits.divideError", "math/bits.overflowError"], apart := false, narrowed := true }
def UnitRunsUptoSaid : Prop := unitRunsUptoRow.holds Try.pinned (OpenSpec.upto unitRunsSpec)

/-- 'continuolaw26.UnitNumbers', WHERE WHAT IT READS IS OF BULK AT MOST 1048576: true; the input reads as it did. -/
def unitNumbersUptoRow : OpenClaim := { program := "ythlmbnhelkbchaa", sum := "6c57862a47ff0c1f07ab748307e1eed3cc9ed172cc5f8efea6515a8f8579dc82", func := "continuo/continuolaw26.UnitNumbers", spec := "unitNumbers", inPlace := ["math/bits.Add64"], unfollowed := true, recurses := true, named := ["math/bits.divideError", "math/bits.overflowError"], apart := false, narrowed := true }
def UnitNumbersUptoSaid : Prop := unitNumbersUptoRow.holds Try.pinned (OpenSpec.upto unitNumbersSpec)

end Rows
end Go.Proofs.Ythlmbnhelkbchaa
