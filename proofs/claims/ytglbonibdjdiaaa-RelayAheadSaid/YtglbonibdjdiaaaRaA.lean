/- RelayAhead, first part: what the functions that it calls answer; the run tells true. -/
import Derived.Test.YtglbonibdjdiaaaPlan
import Derived.Laws.BitsLemmas
namespace Go.Proofs.Ytglbonibdjdiaaa
open Go.Ev
set_option maxRecDepth 100000
theorem fnSim_eq {P : Program} {S : FuncId → Option CallF} {tb : FuncId → Option FnP} (hT : TbOk P tb) (hSm : ∀ f g, S f = some g → FnSim P (LP tb) f g) {f : FuncId} {g : CallF} (k : Nat)
    (he : ∀ (A : Type) args h u K (r : A), g A args h u K = some r → evCall P S tb k A (.fn f) args h u K = some r) : FnSim P (LP tb) f g :=
  fun A K r args h u args' ρ Z w kind cs₀ cs hL hg hr ha hcs => (callSim_of hT hSm k).fn A K r f args h u args' ρ Z w kind cs₀ cs hL (he A args h u K r hg) hr ha hcs
def inA (n : Int) : Bool := !decide (n < 0) && !decide (n ≥ 65536)
def inB (n : Int) : Bool := !decide (n < 0) && !decide (n > 65535)
def arA (n r : Int) : Int := (IntKind.i64.wrap ((IntKind.i64.wrap (r - n)).tmod 65536 + 65536)).tmod 65536
def arB (n r : Int) : Int := IntKind.i64.wrap (↑(BitVec.ofInt 64 (IntKind.i64.wrap (r - n)) &&& BitVec.ofInt 64 65535).toNat : Int)
def turn (x : Int) : Int := bif decide (x ≥ 32768) then IntKind.i64.wrap (x - 65536) else x
noncomputable def twoA : CallF := fun _ args h u K => match args, u with
  | [.int .i64 n, .int .i64 r], .off => K (.ret (.tup [.int .i64 (bif inA n && inA r then turn (arA n r) else 0), .int .i64 (bif inA n && inA r then 0 else 7)])) h .off
  | _, _ => none
noncomputable def twoB : CallF := fun _ args h u K => match args, u with
  | [.int .i64 n, .int .i64 r], .off => K (.ret (.tup [.int .i64 (bif inB n && inB r then turn (arB n r) else 0), .int .i64 (bif inB n && inB r then 0 else 7)])) h .off
  | _, _ => none
noncomputable def yes : CallF := fun _ args h u K => match args, u with
  | [], .off => K (.ret (.bool true)) h .off
  | _, _ => none
noncomputable abbrev S0 : FuncId → Option CallF := fun _ => none
noncomputable def S1 : FuncId → Option CallF := fun f => bif Nat.beq f 21 then some twoA else bif Nat.beq f 22 then some twoB else bif Nat.beq f 10 then some yes else none
noncomputable def done : Out → Heap → Md → Option Bool := fun out _ _ => match out with | .ret (.bool b) => some b | _ => none
section
variable {A : Type} (k : Nat) (n r : Int) (h : Heap) (K : Out → Heap → Md → Option A)
theorem n21 : evCall Try.prog S0 tb (k + 5) A (.fn 21) [.int .i64 n, .int .i64 r] h .off K =
  bif decide (n < 0) then K (.ret (.tup [.int .i64 0, .int .i64 7])) h .off else bif decide (n ≥ 65536) then K (.ret (.tup [.int .i64 0, .int .i64 7])) h .off else
  bif decide (r < 0) then K (.ret (.tup [.int .i64 0, .int .i64 7])) h .off else bif decide (r ≥ 65536) then K (.ret (.tup [.int .i64 0, .int .i64 7])) h .off else
  bif decide (arA n r ≥ 32768) then K (.ret (.tup [.int .i64 (IntKind.i64.wrap (arA n r - 65536)), .int .i64 0])) h .off else K (.ret (.tup [.int .i64 (arA n r), .int .i64 0])) h .off := by kernel_rfl
theorem n22 : evCall Try.prog S0 tb (k + 5) A (.fn 22) [.int .i64 n, .int .i64 r] h .off K =
  bif decide (n < 0) then K (.ret (.tup [.int .i64 0, .int .i64 7])) h .off else bif decide (n > 65535) then K (.ret (.tup [.int .i64 0, .int .i64 7])) h .off else
  bif decide (r < 0) then K (.ret (.tup [.int .i64 0, .int .i64 7])) h .off else bif decide (r > 65535) then K (.ret (.tup [.int .i64 0, .int .i64 7])) h .off else
  bif decide (arB n r ≥ 32768) then K (.ret (.tup [.int .i64 (IntKind.i64.wrap (arB n r - 65536)), .int .i64 0])) h .off else K (.ret (.tup [.int .i64 (arB n r), .int .i64 0])) h .off := by kernel_rfl
end
theorem n4 (a b : Int) (h : Heap) : evCall Try.prog S1 tb 100 Bool (.fn 4) [.int .i64 a, .int .i64 b] h .off done =
  bif (bif inA a && inA b then turn (arA a b) else 0) == (bif inB a && inB b then turn (arB a b) else 0) then some ((bif inA a && inA b then (0 : Int) else 7) == (bif inB a && inB b then 0 else 7)) else some false := by kernel_rfl
theorem awake_run : evCall Try.prog S0 tb 100 AV (.fn 10) [] ⟨fun _ => none, 0⟩ .off (fun out _ _ => match out with | .ret v => some v | .pan _ => none) = some (.bool true) := by kernel_rfl
theorem in_eq (n : Int) : inA n = inB n := by
  unfold inA inB
  rw [Bool.eq_iff_iff]
  simp
  omega
theorem mask16 (n : Int) : ((BitVec.ofInt 64 n &&& BitVec.ofInt 64 65535).toNat : Int) = n % 65536 := by
  have h1 : (BitVec.ofInt 64 65535).toNat = 2 ^ 16 - 1 := by decide
  rw [BitVec.toNat_and, h1, Nat.and_two_pow_sub_one_eq_mod, BitVec.toNat_ofInt]
  omega
theorem ar_eq (n r : Int) (hn : inB n = true) (hr : inB r = true) : arA n r = arB n r := by
  unfold inB at hn hr
  simp at hn hr
  have h1 : IntKind.i64.wrap (r - n) = r - n := by rw [IntKind.wrap_i64]; omega
  have h2 : arB n r = (r - n) % 65536 := by
    unfold arB
    rw [mask16, h1, IntKind.wrap_i64]
    omega
  have h3 : (r - n).tmod 65536 = r - n := by
    by_cases h : 0 ≤ r - n
    · rw [Int.tmod_eq_emod_of_nonneg h]; omega
    · have : (r - n) = -(n - r) := by omega
      rw [this, Int.neg_tmod, Int.tmod_eq_emod_of_nonneg (by omega)]; omega
  have h4 : IntKind.i64.wrap (r - n + 65536) = r - n + 65536 := by rw [IntKind.wrap_i64]; omega
  rw [h2]
  unfold arA
  rw [h1, h3, h4, Int.tmod_eq_emod_of_nonneg (by omega)]
  omega
theorem law (a b : Int) (h : Heap) : evCall Try.prog S1 tb 100 Bool (.fn 4) [.int .i64 a, .int .i64 b] h .off done = some true := by
  rw [n4, in_eq a, in_eq b]
  cases h1 : inB a <;> cases h2 : inB b <;> simp
  rw [ar_eq a b h1 h2]; simp
end Go.Proofs.Ytglbonibdjdiaaa
