/- What all laws of a chapter need. -/
import Derived.Test.YtokighfpmonjdaaPlan
import Derived.Test.YtokighfpmonjdaaEvY1
import Derived.Laws.BitsLemmas
namespace Go.Proofs.Ytokighfpmonjdaa
open Go.Ev
set_option maxRecDepth 100000
noncomputable def yes : CallF := fun _ args h u K => match args, u with
  | [], .off => K (.ret (.bool true)) h .off
  | _, _ => none
noncomputable def done : Out → Heap → Md → Option Bool := fun out _ _ => match out with | .ret (.bool b) => some b | _ => none
abbrev Ok (S : Orc) : Prop := OrcOk Try.prog tb S
theorem ok0 : Ok orc0 := orc0_ok
end Go.Proofs.Ytokighfpmonjdaa
