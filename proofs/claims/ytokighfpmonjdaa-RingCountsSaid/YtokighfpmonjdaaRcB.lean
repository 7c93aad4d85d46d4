/- RingCounts, second part: the runs, and that they tell true. -/
import Derived.Test.YtokighfpmonjdaaRcA
import Derived.Laws.BitsLemmas
namespace Go.Proofs.Ytokighfpmonjdaa
open Go.Ev
set_option maxRecDepth 100000
section
variable {A : Type} (k : Nat) (n w r : Int) (h : Heap) (K : Out → Heap → Md → Option A)
theorem n8 : evCall Try.prog S0 tb (k + 5) A (.fn 8) [.int .i64 w, .int .i64 r] h .off K =
  bif decide (w ≥ 0) then bif !decide (w < 65536) then K (.ret (.tup [.int .i64 0, .int .i64 7])) h .off else
    bif decide (r ≥ 0) then bif !decide (r < 65536) then K (.ret (.tup [.int .i64 0, .int .i64 7])) h .off else K (.ret (.tup [.int .i64 (dif w r), .int .i64 0])) h .off
    else K (.ret (.tup [.int .i64 0, .int .i64 7])) h .off
  else K (.ret (.tup [.int .i64 0, .int .i64 7])) h .off := by kernel_rfl
theorem n9 : evCall Try.prog S0 tb (k + 5) A (.fn 9) [.int .i64 w, .int .i64 r] h .off K =
  bif decide (w ≥ 0) then bif !decide (w < 65536) then K (.ret (.tup [.int .i64 0, .int .i64 7])) h .off else
    bif decide (r ≥ 0) then bif !decide (r < 65536) then K (.ret (.tup [.int .i64 0, .int .i64 7])) h .off else K (.ret (.tup [.int .i64 (dif w r), .int .i64 0])) h .off
    else K (.ret (.tup [.int .i64 0, .int .i64 7])) h .off
  else K (.ret (.tup [.int .i64 0, .int .i64 7])) h .off := by kernel_rfl
theorem n37 : evCall Try.prog S0 tb (k + 5) A (.fn 37) [.int .i64 n] h .off K =
  bif decide (n ≥ 1) then bif decide (n ≤ 1024) then K (.ret (.bool (IntKind.i64.wrap (↑(BitVec.ofInt 64 n &&& BitVec.ofInt 64 (IntKind.i64.wrap (n - 1))).toNat : Int) == 0))) h .off
    else K (.ret (.bool false)) h .off else K (.ret (.bool false)) h .off := by kernel_rfl
theorem n38 : evCall Try.prog S0 tb (k + 5) A (.fn 38) [.int .i64 n] h .off K =
  bif 1 == n then K (.ret (.bool true)) h .off else bif 2 == n then K (.ret (.bool true)) h .off else bif 4 == n then K (.ret (.bool true)) h .off else bif 8 == n then K (.ret (.bool true)) h .off
  else bif 16 == n then K (.ret (.bool true)) h .off else bif 32 == n then K (.ret (.bool true)) h .off else bif 64 == n then K (.ret (.bool true)) h .off else bif 128 == n then K (.ret (.bool true)) h .off
  else bif 256 == n then K (.ret (.bool true)) h .off else bif 512 == n then K (.ret (.bool true)) h .off else bif 1024 == n then K (.ret (.bool true)) h .off else K (.ret (.bool false)) h .off := by kernel_rfl
theorem n10 : evCall Try.prog S1 tb (k + 5) A (.fn 10) [.int .i64 n, .int .i64 w, .int .i64 r] h .off K =
  bif !szA n then K (.ret (.tup [.int .i64 0, .int .i64 7])) h .off else
  bif decide (w ≥ 0) then bif !decide (w < 65536) then K (.ret (.tup [.int .i64 0, .int .i64 7])) h .off else
    bif decide (r ≥ 0) then bif !decide (r < 65536) then K (.ret (.tup [.int .i64 0, .int .i64 7])) h .off else
      bif decide (dif w r > n) then K (.ret (.tup [.int .i64 0, .int .i64 11])) h .off else K (.ret (.tup [.int .i64 (IntKind.i64.wrap (n - dif w r)), .int .i64 0])) h .off
    else K (.ret (.tup [.int .i64 0, .int .i64 7])) h .off
  else K (.ret (.tup [.int .i64 0, .int .i64 7])) h .off := by kernel_rfl
theorem n11 : evCall Try.prog S1 tb (k + 5) A (.fn 11) [.int .i64 n, .int .i64 w, .int .i64 r] h .off K =
  bif fe w r != 0 then K (.ret (.tup [.int .i64 0, .int .i64 7])) h .off else bif !szB n then K (.ret (.tup [.int .i64 0, .int .i64 7])) h .off else
  bif decide (fl w r > n) then K (.ret (.tup [.int .i64 0, .int .i64 11])) h .off else K (.ret (.tup [.int .i64 (IntKind.i64.wrap (n - fl w r)), .int .i64 0])) h .off := by kernel_rfl
end
theorem n3 (a b c : Int) (h : Heap) : evCall Try.prog S2 tb 100 Bool (.fn 3) [.int .i64 a, .int .i64 b, .int .i64 c] h .off done =
  bif fl b c != fl b c then some false else bif fe b c != fe b c then some false else bif rl (szA a) a b c != rl (szB a) a b c then some false else
  bif re (szA a) a b c != re (szB a) a b c then some false else bif re (szA a) a b c != 0 then some true else
  bif IntKind.i64.wrap (fl b c + rl (szA a) a b c) == a then some true else some false := by kernel_rfl
theorem awake_run : evCall Try.prog S0 tb 100 AV (.fn 12) [] ⟨fun _ => none, 0⟩ .off (fun out _ _ => match out with | .ret v => some v | .pan _ => none) = some (.bool true) := by kernel_rfl

theorem sz_all : (List.range 1025).all (fun i => szA (i : Int) == szB (i : Int)) = true := by kernel_rfl
theorem sz_eq (n : Int) : szA n = szB n := by
  by_cases h : 0 ≤ n ∧ n ≤ 1024
  · have := List.all_eq_true.1 sz_all n.toNat (List.mem_range.2 (by omega))
    rw [beq_iff_eq, show ((n.toNat : Nat) : Int) = n by omega] at this
    exact this
  · have h1 : szA n = false := by
      unfold szA
      by_cases h2 : n ≥ 1
      · have : ¬ n ≤ 1024 := by omega
        simp [this]
      · simp [h2]
    have h2 : szB n = false := by
      unfold szB
      simp only [Bool.or_eq_false_iff, beq_eq_false_iff_ne]
      omega
    rw [h1, h2]
theorem dif_in (w r : Int) (hw : inW w = true) (hr : inW r = true) : 0 ≤ dif w r ∧ dif w r < 65536 := by
  unfold inW at hw hr
  simp only [Bool.and_eq_true, decide_eq_true_eq] at hw hr
  have h1 : IntKind.i64.wrap (w - r) = w - r := by rw [IntKind.wrap_i64]; omega
  have h2 : IntKind.i64.wrap (w - r + 65536) = w - r + 65536 := by rw [IntKind.wrap_i64]; omega
  unfold dif
  rw [h1, h2, Int.tmod_eq_emod_of_nonneg (by omega)]
  omega
theorem law (a b c : Int) (h : Heap) : evCall Try.prog S2 tb 100 Bool (.fn 3) [.int .i64 a, .int .i64 b, .int .i64 c] h .off done = some true := by
  rw [n3, sz_eq a]
  simp only [bne_self_eq_false, cond_false]
  cases hr : (re (szB a) a b c != 0) with
  | true => rfl
  | false =>
    simp only [cond_false]
    have hr : re (szB a) a b c = 0 := by simpa using hr
    have hs : szB a = true ∧ inW b = true ∧ inW c = true ∧ ¬ dif b c > a := by
      unfold re at hr
      cases h1 : szB a <;> cases h2 : inW b <;> cases h3 : inW c <;> cases h4 : decide (dif b c > a) <;> simp [h1, h2, h3, h4] at hr ⊢ <;> simpa using h4
    obtain ⟨h1, h2, h3, h4⟩ := hs
    have hd := dif_in b c h2 h3
    have ha : a ≤ 1024 := by
      rw [← sz_eq] at h1
      unfold szA at h1
      simp only [Bool.and_eq_true, decide_eq_true_eq] at h1
      exact h1.2.1
    have hf : fl b c = dif b c := by simp [fl, h2, h3]
    have hl : rl (szB a) a b c = IntKind.i64.wrap (a - dif b c) := by simp [rl, h1, h2, h3, h4]
    have h5 : IntKind.i64.wrap (a - dif b c) = a - dif b c := by rw [IntKind.wrap_i64]; omega
    have h6 : IntKind.i64.wrap (dif b c + (a - dif b c)) = a := by rw [IntKind.wrap_i64]; omega
    rw [hf, hl, h5, h6]
    simp

theorem none1 : ∀ f g, S0 f = some g → FnSim Try.prog (LP tb) f g := fun f g h => by cases h
theorem s8 : FnSim Try.prog (LP tb) 8 two := fnSim_eq tbOk none1 100 fun A args h u K r hg => by
  unfold two at hg
  split at hg
  · rename_i w r
    rw [n8 95]
    rw [← hg]
    unfold fl fe inW
    cases h1 : decide (w ≥ 0) <;> cases h2 : decide (w < 65536) <;> cases h3 : decide (r ≥ 0) <;> cases h4 : decide (r < 65536) <;> rfl
  · cases hg
theorem s9 : FnSim Try.prog (LP tb) 9 two := fnSim_eq tbOk none1 100 fun A args h u K r hg => by
  unfold two at hg
  split at hg
  · rename_i w r
    rw [n9 95]
    rw [← hg]
    unfold fl fe inW
    cases h1 : decide (w ≥ 0) <;> cases h2 : decide (w < 65536) <;> cases h3 : decide (r ≥ 0) <;> cases h4 : decide (r < 65536) <;> rfl
  · cases hg
theorem s37 : FnSim Try.prog (LP tb) 37 oneA := fnSim_eq tbOk none1 100 fun A args h u K r hg => by
  unfold oneA at hg
  split at hg
  · rename_i n
    rw [n37 95, ← hg]
    unfold szA
    cases h1 : decide (n ≥ 1) <;> cases h2 : decide (n ≤ 1024) <;> rfl
  · cases hg
theorem s38 : FnSim Try.prog (LP tb) 38 oneB := fnSim_eq tbOk none1 100 fun A args h u K r hg => by
  unfold oneB at hg
  split at hg
  · rename_i n
    rw [n38 95, ← hg]
    unfold szB
    cases (1 == n) <;> cases (2 == n) <;> cases (4 == n) <;> cases (8 == n) <;> cases (16 == n) <;> cases (32 == n) <;> cases (64 == n) <;> cases (128 == n) <;> cases (256 == n) <;> cases (512 == n) <;> cases (1024 == n) <;> rfl
  · cases hg
theorem s12 : FnSim Try.prog (LP tb) 12 yes := fnSim_closed tbOk none1 rfl 100 awake_run
theorem some1 : ∀ f g, S1 f = some g → FnSim Try.prog (LP tb) f g := fun f g h => by
  have hb : ∀ {x y : Nat}, Nat.beq x y = true → x = y := Nat.eq_of_beq_eq_true
  unfold S1 at h
  cases h8 : Nat.beq f 8 with
  | true => rw [h8] at h; cases h; exact hb h8 ▸ s8
  | false =>
  cases h9 : Nat.beq f 9 with
  | true => rw [h8, h9] at h; cases h; exact hb h9 ▸ s9
  | false =>
  cases h37 : Nat.beq f 37 with
  | true => rw [h8, h9, h37] at h; cases h; exact hb h37 ▸ s37
  | false =>
  cases h38 : Nat.beq f 38 with
  | true => rw [h8, h9, h37, h38] at h; cases h; exact hb h38 ▸ s38
  | false =>
  cases h12 : Nat.beq f 12 with
  | true => rw [h8, h9, h37, h38, h12] at h; cases h; exact hb h12 ▸ s12
  | false => rw [h8, h9, h37, h38, h12] at h; cases h
theorem s10 : FnSim Try.prog (LP tb) 10 threeA := fnSim_eq tbOk some1 100 fun A args h u K r hg => by
  unfold threeA at hg
  split at hg
  · rename_i n w r
    rw [n10 95, ← hg]
    unfold rl re inW
    cases szA n <;> cases h1 : decide (w ≥ 0) <;> cases h2 : decide (w < 65536) <;> cases h3 : decide (r ≥ 0) <;> cases h4 : decide (r < 65536) <;> cases h5 : decide (dif w r > n) <;> rfl
  · cases hg
theorem s11 : FnSim Try.prog (LP tb) 11 threeB := fnSim_eq tbOk some1 100 fun A args h u K r hg => by
  unfold threeB at hg
  split at hg
  · rename_i n w r
    rw [n11 95, ← hg]
    unfold rl re fl fe
    cases szB n <;> cases h1 : inW w <;> cases h2 : inW r <;> cases h5 : decide (dif w r > n) <;> first | rfl | simp [h5]
  · cases hg
theorem some2 : ∀ f g, S2 f = some g → FnSim Try.prog (LP tb) f g := fun f g h => by
  have hb : ∀ {x y : Nat}, Nat.beq x y = true → x = y := Nat.eq_of_beq_eq_true
  unfold S2 at h
  cases h8 : Nat.beq f 10 with
  | true => rw [h8] at h; cases h; exact hb h8 ▸ s10
  | false =>
  cases h9 : Nat.beq f 11 with
  | true => rw [h8, h9] at h; cases h; exact hb h9 ▸ s11
  | false => rw [h8, h9] at h; exact some1 f g h
theorem law_calls (a b c : Int) (w : World) : Calls Try.prog 3 #[.int .i64 a, .int .i64 b, .int .i64 c] w fun e w' => e = .returned (.bool true) ∧ Low ⟨fun q => q < w.heap.size, fun q => q < w.heap.size, fun _ h => h, LP tb⟩ w w' :=
  calls_of_run tbOk some2 (ρ := fun _ => none) (h := ⟨fun _ => none, 0⟩) rfl 100 (law a b c _) ⟨fun b x hb => (by cases hb), fun b b' x x' p p' hb => (by cases hb), fun q hq => hq, fun _ _ => rfl⟩
    (.cons (.int _ _) (.cons (.int _ _) (.cons (.int _ _) (.nil _))))
end Go.Proofs.Ytokighfpmonjdaa
