/- RingCounts, first part: what the functions that it calls answer. -/
import Derived.Test.YtokighfpmonjdaaPlan
namespace Go.Proofs.Ytokighfpmonjdaa
open Go.Ev
set_option maxRecDepth 100000

theorem fnSim_eq {P : Program} {S : FuncId → Option CallF} {tb : FuncId → Option FnP} (hT : TbOk P tb) (hSm : ∀ f g, S f = some g → FnSim P (LP tb) f g) {f : FuncId} {g : CallF} (k : Nat)
    (he : ∀ (A : Type) args h u K (r : A), g A args h u K = some r → evCall P S tb k A (.fn f) args h u K = some r) : FnSim P (LP tb) f g :=
  fun A K r args h u args' ρ Z w kind cs₀ cs hL hg hr ha hcs => (callSim_of hT hSm k).fn A K r f args h u args' ρ Z w kind cs₀ cs hL (he A args h u K r hg) hr ha hcs

def inW (n : Int) : Bool := decide (n ≥ 0) && decide (n < 65536)
def dif (w r : Int) : Int := (IntKind.i64.wrap (IntKind.i64.wrap (w - r) + 65536)).tmod 65536
def fl (w r : Int) : Int := bif inW w && inW r then dif w r else 0
def fe (w r : Int) : Int := bif inW w && inW r then 0 else 7
def szA (n : Int) : Bool := decide (n ≥ 1) && (decide (n ≤ 1024) && (IntKind.i64.wrap (↑(BitVec.ofInt 64 n &&& BitVec.ofInt 64 (IntKind.i64.wrap (n - 1))).toNat : Int) == 0))
def szB (n : Int) : Bool := (1 == n) || ((2 == n) || ((4 == n) || ((8 == n) || ((16 == n) || ((32 == n) || ((64 == n) || ((128 == n) || ((256 == n) || ((512 == n) || (1024 == n))))))))))
def rl (s : Bool) (n w r : Int) : Int := bif s && (inW w && inW r) then (bif decide (dif w r > n) then 0 else IntKind.i64.wrap (n - dif w r)) else 0
def re (s : Bool) (n w r : Int) : Int := bif s && (inW w && inW r) then (bif decide (dif w r > n) then 11 else 0) else 7
noncomputable def two : CallF := fun _ args h u K => match args, u with
  | [.int .i64 w, .int .i64 r], .off => K (.ret (.tup [.int .i64 (fl w r), .int .i64 (fe w r)])) h .off
  | _, _ => none
noncomputable def threeA : CallF := fun _ args h u K => match args, u with
  | [.int .i64 n, .int .i64 w, .int .i64 r], .off => K (.ret (.tup [.int .i64 (rl (szA n) n w r), .int .i64 (re (szA n) n w r)])) h .off
  | _, _ => none
noncomputable def threeB : CallF := fun _ args h u K => match args, u with
  | [.int .i64 n, .int .i64 w, .int .i64 r], .off => K (.ret (.tup [.int .i64 (rl (szB n) n w r), .int .i64 (re (szB n) n w r)])) h .off
  | _, _ => none
noncomputable def oneB : CallF := fun _ args h u K => match args, u with
  | [.int .i64 n], .off => K (.ret (.bool (szB n))) h .off
  | _, _ => none
noncomputable def oneA : CallF := fun _ args h u K => match args, u with
  | [.int .i64 n], .off => K (.ret (.bool (szA n))) h .off
  | _, _ => none
noncomputable def yes : CallF := fun _ args h u K => match args, u with
  | [], .off => K (.ret (.bool true)) h .off
  | _, _ => none
noncomputable abbrev S0 : FuncId → Option CallF := fun _ => none
noncomputable def S1 : FuncId → Option CallF := fun f => bif Nat.beq f 8 then some two else bif Nat.beq f 9 then some two else bif Nat.beq f 37 then some oneA else bif Nat.beq f 38 then some oneB else bif Nat.beq f 12 then some yes else none
noncomputable def S2 : FuncId → Option CallF := fun f => bif Nat.beq f 10 then some threeA else bif Nat.beq f 11 then some threeB else S1 f
noncomputable def done : Out → Heap → Md → Option Bool := fun out _ _ => match out with | .ret (.bool b) => some b | _ => none
end Go.Proofs.Ytokighfpmonjdaa
