/-
  No cell of these rows narrows 'for every input' (looked for: loops, veiled, ifaces, maps, wideKeys, modest, calm, conditions, laid).
  DERIVED. THE GIVEN ROWS OF THIS SEAT. 7 by the template 'for every input the law returns true; each argument reads behind the call as it read before'; 0 by the template 'total and deterministic' (their statements: YtglbonibdjdiaaaTotals.lean).
  GIVEN WITH THE SEED: the statements are not yours to turn. If you find one false, say at which input.
  Laid BY PROGRAM, IN A SANDBOX (cutbox-rows.mjs): the forced cells as the released guide's own fill.sh prints them over the translation f4419b3c2512f993… (all of the seat's roots in one cut). By AI agents, Wed Nov 11 2026. No macro, syntax, notation, axiom, sorry.
-/
import Derived.Test.YtglbonibdjdiaaaChecked
import GoSem.Claim
import GoSem.ClaimJoined
import GoSem.ClaimMapViews
import Derived.JoinedTies
import Derived.KernelRfl
namespace Go.Proofs.Ytglbonibdjdiaaa
/- THE CELL 'sum', in the pinned program and in every row, IS THE sha256 OF THE DUMP (.gsa) THAT YtglbonibdjdiaaaProg.lean LOADS. Nothing in Lean hashes anything: it is a label: what it is worth is what the hold of that sum in a sandbox is worth. -/
noncomputable def Try.pinned : Pinned := { name := "ytglbonibdjdiaaa", sum := "f4419b3c2512f99357b4215b7dab7691adcd1f93b467b7f27d318534a9f6bcd6", checked := Try.checked }
namespace Rows
def none {H : Type} : Left H := { results := [], args := [] }

/-- 'continuolaw20.RelayBytes': WHATEVER THE INPUT: true; the input reads as it did. -/
def relayBytesSpec : ChangeSpec := { name := "relayBytes", fn := fun _ => fun
  | [d1, d2, d3, d4] => { results := [.lit (.bool true)], args := [d1, d2, d3, d4] }
  | _ => none }
def relayBytesRow : OpenClaim := { program := "ytglbonibdjdiaaa", sum := "f4419b3c2512f99357b4215b7dab7691adcd1f93b467b7f27d318534a9f6bcd6", func := "continuo/continuolaw20.RelayBytes", spec := "relayBytes", unfollowed := true, recurses := true, apart := false }
def RelayBytesSaid : Prop := relayBytesRow.holds Try.pinned (OpenSpec.ofChange relayBytesSpec)

/-- ITS FALSE NEIGHBOUR: 'it returns false'. Refute it at one input. -/
def relayBytesWrong : ChangeSpec := { name := "relayBytes", fn := fun _ => fun
  | [d1, d2, d3, d4] => { results := [.lit (.bool false)], args := [d1, d2, d3, d4] }
  | _ => none }
def RelayBytesWrongFalsely : Prop := relayBytesRow.holds Try.pinned (OpenSpec.ofChange relayBytesWrong)

/-- 'continuolaw20.RelayAhead': WHATEVER THE INPUT: true; the input reads as it did. -/
def relayAheadSpec : ChangeSpec := { name := "relayAhead", fn := fun _ => fun
  | [d1, d2] => { results := [.lit (.bool true)], args := [d1, d2] }
  | _ => none }
def relayAheadRow : OpenClaim := { program := "ytglbonibdjdiaaa", sum := "f4419b3c2512f99357b4215b7dab7691adcd1f93b467b7f27d318534a9f6bcd6", func := "continuo/continuolaw20.RelayAhead", spec := "relayAhead", unfollowed := true, recurses := true, apart := false }
def RelayAheadSaid : Prop := relayAheadRow.holds Try.pinned (OpenSpec.ofChange relayAheadSpec)

/-- ITS FALSE NEIGHBOUR: 'it returns false'. Refute it at one input. -/
def relayAheadWrong : ChangeSpec := { name := "relayAhead", fn := fun _ => fun
  | [d1, d2] => { results := [.lit (.bool false)], args := [d1, d2] }
  | _ => none }
def RelayAheadWrongFalsely : Prop := relayAheadRow.holds Try.pinned (OpenSpec.ofChange relayAheadWrong)

/-- 'continuolaw20.RelayCut': WHATEVER THE INPUT: true; the input reads as it did. -/
def relayCutSpec : ChangeSpec := { name := "relayCut", fn := fun _ => fun
  | [d1, d2, d3, d4, d5, d6] => { results := [.lit (.bool true)], args := [d1, d2, d3, d4, d5, d6] }
  | _ => none }
def relayCutRow : OpenClaim := { program := "ytglbonibdjdiaaa", sum := "f4419b3c2512f99357b4215b7dab7691adcd1f93b467b7f27d318534a9f6bcd6", func := "continuo/continuolaw20.RelayCut", spec := "relayCut", unfollowed := true, recurses := true, apart := false }
def RelayCutSaid : Prop := relayCutRow.holds Try.pinned (OpenSpec.ofChange relayCutSpec)

/-- ITS FALSE NEIGHBOUR: 'it returns false'. Refute it at one input. -/
def relayCutWrong : ChangeSpec := { name := "relayCut", fn := fun _ => fun
  | [d1, d2, d3, d4, d5, d6] => { results := [.lit (.bool false)], args := [d1, d2, d3, d4, d5, d6] }
  | _ => none }
def RelayCutWrongFalsely : Prop := relayCutRow.holds Try.pinned (OpenSpec.ofChange relayCutWrong)

/-- 'continuolaw20.RelayPlays': WHATEVER THE INPUT: true; the input reads as it did. -/
def relayPlaysSpec : ChangeSpec := { name := "relayPlays", fn := fun _ => fun
  | [d1, d2, d3, d4, d5] => { results := [.lit (.bool true)], args := [d1, d2, d3, d4, d5] }
  | _ => none }
def relayPlaysRow : OpenClaim := { program := "ytglbonibdjdiaaa", sum := "f4419b3c2512f99357b4215b7dab7691adcd1f93b467b7f27d318534a9f6bcd6", func := "continuo/continuolaw20.RelayPlays", spec := "relayPlays", unfollowed := true, recurses := true, apart := false }
def RelayPlaysSaid : Prop := relayPlaysRow.holds Try.pinned (OpenSpec.ofChange relayPlaysSpec)

/-- ITS FALSE NEIGHBOUR: 'it returns false'. Refute it at one input. -/
def relayPlaysWrong : ChangeSpec := { name := "relayPlays", fn := fun _ => fun
  | [d1, d2, d3, d4, d5] => { results := [.lit (.bool false)], args := [d1, d2, d3, d4, d5] }
  | _ => none }
def RelayPlaysWrongFalsely : Prop := relayPlaysRow.holds Try.pinned (OpenSpec.ofChange relayPlaysWrong)

/-- 'continuolaw20.RelayWhole': WHATEVER THE INPUT: true; the input reads as it did. -/
def relayWholeSpec : ChangeSpec := { name := "relayWhole", fn := fun _ => fun
  | [d1, d2, d3, d4, d5, d6] => { results := [.lit (.bool true)], args := [d1, d2, d3, d4, d5, d6] }
  | _ => none }
def relayWholeRow : OpenClaim := { program := "ytglbonibdjdiaaa", sum := "f4419b3c2512f99357b4215b7dab7691adcd1f93b467b7f27d318534a9f6bcd6", func := "continuo/continuolaw20.RelayWhole", spec := "relayWhole", unfollowed := true, recurses := true, apart := false }
def RelayWholeSaid : Prop := relayWholeRow.holds Try.pinned (OpenSpec.ofChange relayWholeSpec)

/-- ITS FALSE NEIGHBOUR: 'it returns false'. Refute it at one input. -/
def relayWholeWrong : ChangeSpec := { name := "relayWhole", fn := fun _ => fun
  | [d1, d2, d3, d4, d5, d6] => { results := [.lit (.bool false)], args := [d1, d2, d3, d4, d5, d6] }
  | _ => none }
def RelayWholeWrongFalsely : Prop := relayWholeRow.holds Try.pinned (OpenSpec.ofChange relayWholeWrong)

/-- 'continuolaw20.RelaySends': WHATEVER THE INPUT: true; the input reads as it did. -/
def relaySendsSpec : ChangeSpec := { name := "relaySends", fn := fun _ => fun
  | [d1, d2, d3, d4, d5, d6] => { results := [.lit (.bool true)], args := [d1, d2, d3, d4, d5, d6] }
  | _ => none }
def relaySendsRow : OpenClaim := { program := "ytglbonibdjdiaaa", sum := "f4419b3c2512f99357b4215b7dab7691adcd1f93b467b7f27d318534a9f6bcd6", func := "continuo/continuolaw20.RelaySends", spec := "relaySends", unfollowed := true, recurses := true, apart := false }
def RelaySendsSaid : Prop := relaySendsRow.holds Try.pinned (OpenSpec.ofChange relaySendsSpec)

/-- ITS FALSE NEIGHBOUR: 'it returns false'. Refute it at one input. -/
def relaySendsWrong : ChangeSpec := { name := "relaySends", fn := fun _ => fun
  | [d1, d2, d3, d4, d5, d6] => { results := [.lit (.bool false)], args := [d1, d2, d3, d4, d5, d6] }
  | _ => none }
def RelaySendsWrongFalsely : Prop := relaySendsRow.holds Try.pinned (OpenSpec.ofChange relaySendsWrong)

/-- 'continuolaw20.RelayNothing': WHATEVER THE INPUT: true; the input reads as it did. -/
def relayNothingSpec : ChangeSpec := { name := "relayNothing", fn := fun _ => fun
  | [d1, d2] => { results := [.lit (.bool true)], args := [d1, d2] }
  | _ => none }
def relayNothingRow : OpenClaim := { program := "ytglbonibdjdiaaa", sum := "f4419b3c2512f99357b4215b7dab7691adcd1f93b467b7f27d318534a9f6bcd6", func := "continuo/continuolaw20.RelayNothing", spec := "relayNothing", unfollowed := true, recurses := true, apart := false }
def RelayNothingSaid : Prop := relayNothingRow.holds Try.pinned (OpenSpec.ofChange relayNothingSpec)

/-- ITS FALSE NEIGHBOUR: 'it returns false'. Refute it at one input. -/
def relayNothingWrong : ChangeSpec := { name := "relayNothing", fn := fun _ => fun
  | [d1, d2] => { results := [.lit (.bool false)], args := [d1, d2] }
  | _ => none }
def RelayNothingWrongFalsely : Prop := relayNothingRow.holds Try.pinned (OpenSpec.ofChange relayNothingWrong)

/- THE SECOND FORM. 'bulk': how many values and letters a reading holds, each counted each time it is reached (what is shared counts as often as it is met; a slice's spare places count too). A statement '..UptoSaid' is the law's where the arguments, and the package variables that the reading takes, are together of bulk at most 1048576: NARROWER than '..Said'. Prove '..Said' where nothing that the law and all that it calls make is longer than what came in: it says more and counts as full. Else prove '..UptoSaid'. A law counts once. -/
mutual
def uptoBulk {H : Type} : DataW H → Nat
  | .lit (.string bytes) => bytes.length + 1
  | .lit _ => 1
  | .nil => 1
  | .ptr d => uptoBulk d + 1
  | .slice elems spare => uptoBulkAll elems + uptoBulkAll spare + 1
  | .agg parts => uptoBulkAll parts + 1
  | .iface _ d => uptoBulk d + 1
  | .map entries => uptoBulkEntries entries + 1
  | .held _ => 1
def uptoBulkAll {H : Type} : List (DataW H) → Nat
  | [] => 0
  | d :: r => uptoBulk d + uptoBulkAll r
def uptoBulkEntries {H : Type} : List (Lit × DataW H) → Nat
  | [] => 0
  | x :: r => uptoBulkEntry x + uptoBulkEntries r
def uptoBulkEntry {H : Type} : Lit × DataW H → Nat
  | (.string bytes, d) => bytes.length + uptoBulk d + 1
  | (_, d) => uptoBulk d + 1
 end
def uptoSmall : (H : Type) → List (DataW H) → Bool := fun _ ds => decide (uptoBulkAll ds ≤ 1048576)
def OpenSpec.upto (s : _root_.Go.ChangeSpec) : _root_.Go.OpenSpec := { _root_.Go.OpenSpec.ofChange s with cond := some uptoSmall }

/-- 'continuolaw20.RelayBytes', WHERE WHAT IT READS IS OF BULK AT MOST 1048576: true; the input reads as it did. -/
def relayBytesUptoRow : OpenClaim := { program := "ytglbonibdjdiaaa", sum := "f4419b3c2512f99357b4215b7dab7691adcd1f93b467b7f27d318534a9f6bcd6", func := "continuo/continuolaw20.RelayBytes", spec := "relayBytes", unfollowed := true, recurses := true, apart := false, narrowed := true }
def RelayBytesUptoSaid : Prop := relayBytesUptoRow.holds Try.pinned (OpenSpec.upto relayBytesSpec)

/-- 'continuolaw20.RelayAhead', WHERE WHAT IT READS IS OF BULK AT MOST 1048576: true; the input reads as it did. -/
def relayAheadUptoRow : OpenClaim := { program := "ytglbonibdjdiaaa", sum := "f4419b3c2512f99357b4215b7dab7691adcd1f93b467b7f27d318534a9f6bcd6", func := "continuo/continuolaw20.RelayAhead", spec := "relayAhead", unfollowed := true, recurses := true, apart := false, narrowed := true }
def RelayAheadUptoSaid : Prop := relayAheadUptoRow.holds Try.pinned (OpenSpec.upto relayAheadSpec)

/-- 'continuolaw20.RelayCut', WHERE WHAT IT READS IS OF BULK AT MOST 1048576: true; the input reads as it did. -/
def relayCutUptoRow : OpenClaim := { program := "ytglbonibdjdiaaa", sum := "f4419b3c2512f99357b4215b7dab7691adcd1f93b467b7f27d318534a9f6bcd6", func := "continuo/continuolaw20.RelayCut", spec := "relayCut", unfollowed := true, recurses := true, apart := false, narrowed := true }
def RelayCutUptoSaid : Prop := relayCutUptoRow.holds Try.pinned (OpenSpec.upto relayCutSpec)

/-- 'continuolaw20.RelayPlays', WHERE WHAT IT READS IS OF BULK AT MOST 1048576: true; the input reads as it did. -/
def relayPlaysUptoRow : OpenClaim := { program := "ytglbonibdjdiaaa", sum := "f4419b3c2512f99357b4215b7dab7691adcd1f93b467b7f27d318534a9f6bcd6", func := "continuo/continuolaw20.RelayPlays", spec := "relayPlays", unfollowed := true, recurses := true, apart := false, narrowed := true }
def RelayPlaysUptoSaid : Prop := relayPlaysUptoRow.holds Try.pinned (OpenSpec.upto relayPlaysSpec)

/-- 'continuolaw20.RelayWhole', WHERE WHAT IT READS IS OF BULK AT MOST 1048576: true; the input reads as it did. -/
def relayWholeUptoRow : OpenClaim := { program := "ytglbonibdjdiaaa", sum := "f4419b3c2512f99357b4215b7dab7691adcd1f93b467b7f27d318534a9f6bcd6", func := "continuo/continuolaw20.RelayWhole", spec := "relayWhole", unfollowed := true, recurses := true, apart := false, narrowed := true }
def RelayWholeUptoSaid : Prop := relayWholeUptoRow.holds Try.pinned (OpenSpec.upto relayWholeSpec)

/-- 'continuolaw20.RelaySends', WHERE WHAT IT READS IS OF BULK AT MOST 1048576: true; the input reads as it did. -/
def relaySendsUptoRow : OpenClaim := { program := "ytglbonibdjdiaaa", sum := "f4419b3c2512f99357b4215b7dab7691adcd1f93b467b7f27d318534a9f6bcd6", func := "continuo/continuolaw20.RelaySends", spec := "relaySends", unfollowed := true, recurses := true, apart := false, narrowed := true }
def RelaySendsUptoSaid : Prop := relaySendsUptoRow.holds Try.pinned (OpenSpec.upto relaySendsSpec)

/-- 'continuolaw20.RelayNothing', WHERE WHAT IT READS IS OF BULK AT MOST 1048576: true; the input reads as it did. -/
def relayNothingUptoRow : OpenClaim := { program := "ytglbonibdjdiaaa", sum := "f4419b3c2512f99357b4215b7dab7691adcd1f93b467b7f27d318534a9f6bcd6", func := "continuo/continuolaw20.RelayNothing", spec := "relayNothing", unfollowed := true, recurses := true, apart := false, narrowed := true }
def RelayNothingUptoSaid : Prop := relayNothingUptoRow.holds Try.pinned (OpenSpec.upto relayNothingSpec)

end Rows
end Go.Proofs.Ytglbonibdjdiaaa
