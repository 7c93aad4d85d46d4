/- RingTurns: the law. -/
import Derived.Test.YtokighfpmonjdaaJ24
namespace Go.Proofs.Ytokighfpmonjdaa
open Go.Ev
set_option maxRecDepth 100000
noncomputable abbrev run6 (S : Orc) (n ch fi ot : Int) (xs : List (List Int)) (zs : List AV) (M : Nat) : Option Bool := evCall Try.prog S tb 100 Bool (.fn 6) [int64 n, int64 ch, int64 fi, int64 ot, rows xs, stp zs M] ⟨fun _ => none, 0⟩ .off done
abbrev andW (ot : Int) : Int := IntKind.i64.wrap (↑(BitVec.ofInt 64 ot &&& BitVec.ofInt 64 65535).toNat : Int)
noncomputable abbrev S6 (xs : List (List Int)) (b : Bool) (S : Orc) : Orc := know 12 [] (.bool true) (know 13 [rows xs] (.bool b) (O6 S))
noncomputable def is12 (x : Option Bool) : Option Bool := bif same [] [] then x else none
theorem is12_eq (x : Option Bool) : is12 x = x := bif_t (same_self _)
noncomputable def pre6 (xs : List (List Int)) (M : Nat) (b : Bool) (x : Option Bool) : Option Bool := bif same [rows xs] [rows xs] then bif !b then is12 (some true) else bif decide ((M : Int) > 300) then is12 (some true) else x else none
theorem law6_0 (n ch fi ot : Int) (xs : List (List Int)) (zs : List AV) (M : Nat) (b : Bool) : run6 (S6 xs b (stopAt 6 [3] orc0)) n ch fi ot xs zs M = pre6 xs M b none := by kernel_rfl
theorem law6_1 (n ch fi ot : Int) (xs : List (List Int)) (zs : List AV) (M : Nat) (b : Bool) : run6 (S6 xs b orc0) n ch fi ot xs zs M = (pre6 xs M b <| 
  bif isSo (G32 (arg32 n ch fi xs zs M)) then bif isSo (G32 (arg32 n ch fi xs zs M)) then bif isSo (G23m [rows (pV (arg32 n ch fi xs zs M)).1, rows (pV (arg32 n ch fi xs zs M)).1]) then
    bif !((pV (arg32 n ch fi xs zs M)).2.1 == (pV (arg32 n ch fi xs zs M)).2.1) then some false else bif !((pV (arg32 n ch fi xs zs M)).2.2 == (pV (arg32 n ch fi xs zs M)).2.2) then some false else
    bif !((pV (arg32 n ch fi xs zs M)).2.2 == 0) then is12 (some true) else
    bif decide (((pV (arg32 n ch fi xs zs M)).1.length : Int) > (xs.length : Int)) then some false else
    guardK (decide (0 ≤ ((pV (arg32 n ch fi xs zs M)).1.length : Int))) <| guardK (Nat.ble (pV (arg32 n ch fi xs zs M)).1.length xs.length) <|
    bif isSo (G23m [rows (pV (arg32 n ch fi xs zs M)).1, .fz (takeA (dropA (xs.map ints) 0) ((pV (arg32 n ch fi xs zs M)).1.length * 1)) (pV (arg32 n ch fi xs zs M)).1.length false 1]) then
    bif decide (w64 (((pV (arg32 n ch fi xs zs M)).1.length : Int) + (pV (arg32 n ch fi xs zs M)).2.1) > (xs.length : Int)) then some false else
    bif isSo (G32 (arg32 n ch (andW ot) xs zs M)) then bif isSo (G23m [rows (pV (arg32 n ch fi xs zs M)).1, rows (pV (arg32 n ch (andW ot) xs zs M)).1]) then
    bif (pV (arg32 n ch fi xs zs M)).2.1 == (pV (arg32 n ch (andW ot) xs zs M)).2.1 then bif (pV (arg32 n ch (andW ot) xs zs M)).2.2 == 0 then is12 (some true) else some false else some false else none else none else none
  else none else none else none) := by kernel_rfl
theorem andW_in (ot : Int) : 0 ≤ andW ot ∧ andW ot < 65536 := by
  have h1 : (BitVec.ofInt 64 ot &&& BitVec.ofInt 64 65535).toNat ≤ 65535 := by
    rw [BitVec.toNat_and]
    exact Nat.and_le_right
  unfold andW
  rw [IntKind.wrap_i64]
  omega
theorem dVal_struct {H : Type} {P : Program} {t : TypeId} {l : List (Nat × TypeId)} (hl : structOf P t = some l) (k : Nat) (d : DataW H) : dVal P k t d = .agg (dCells P k t d) := by
  unfold structOf at hl
  split at hl
  · rename_i fs ht
    unfold dVal
    rw [ht]
  · cases hl
theorem pass_cells {H : Type} {k : Nat} {d : DataW H} (h : WT Try.prog k 100 d) : ∃ t : Tn, dCells Try.prog k 100 d = [int64 t.1, int64 t.2.1, int64 t.2.2] ∧ True := by
  have hl : structOf Try.prog 100 = some [(0, 3), (1, 3), (2, 3)] := by kernel_rfl
  obtain ⟨k', ds, h1, h2, h3⟩ := WT.struct hl h
  rw [dVal_struct hl] at h3
  injection h3 with h3
  match ds, h1, h2, h3 with
  | [x, y, z], _, h2, h3 =>
    obtain ⟨a, ea, _⟩ := WT.int (j := .i64) (by kernel_rfl) (h2 0 (0, 3) x rfl rfl)
    obtain ⟨b, eb, _⟩ := WT.int (j := .i64) (by kernel_rfl) (h2 1 (1, 3) y rfl rfl)
    obtain ⟨c, ec, _⟩ := WT.int (j := .i64) (by kernel_rfl) (h2 2 (2, 3) z rfl rfl)
    refine ⟨(a, b, c), ?_, trivial⟩
    have hc : Try.prog.cellsOf 100 = 3 := by kernel_rfl
    rw [h3]
    simp only [List.zip_cons_cons, List.zip_nil_right, List.map_cons, List.map_nil]
    simp only at ea eb ec
    rw [ea, eb, ec, hc]
    rfl
theorem catA_flat : ∀ S : List Tn, catA (S.map fun t => [int64 t.1, int64 t.2.1, int64 t.2.2]) = flatS S
  | [] => rfl
  | t :: S => by
    have := catA_flat S
    rw [List.map_cons]
    show appA [int64 t.1, int64 t.2.1, int64 t.2.2] (catA _) = _
    rw [this]
    rfl
theorem law_arg {H : Type} {k : Nat} {d : DataW H} (h : WT Try.prog k 60 d) : ∃ S : List Tn, dVal Try.prog k 60 d = stp (flatS S) S.length := by
  have ht : Try.prog.underlying 60 = some (.slice 100) := by kernel_rfl
  obtain ⟨l, h1, h2, h3⟩ := WT.slice ht (fun t : Tn => [int64 t.1, int64 t.2.1, int64 t.2.2]) (fun _ => True) (fun k d h => pass_cells h) h
  refine ⟨l, dVal_one ?_ (by simp [ht]) (by simp [ht])⟩
  have hc : Try.prog.cellsOf 100 = 3 := by kernel_rfl
  rw [h1, catA_flat, hc]
theorem playV_small {n ch fi : Int} {xs : List (List Int)} {S : List Tn} (hx : Small xs) (hS : S.length ≤ 300) :
    (playV n ch fi xs S).2.2 ≠ 0 ∨ ∃ r w : Nat, (playV n ch fi xs S).1 = xs.take r ∧ r ≤ w ∧ w ≤ xs.length ∧ (playV n ch fi xs S).2.1 = (w : Int) - r ∧ ∀ o : Int, 0 ≤ o → o < 65536 → playV n ch o xs S = playV n ch fi xs S := by
  unfold playV
  by_cases h1 : xs.any (badF ch) = true
  · left; rw [if_pos h1]; decide
  rw [if_neg h1]
  by_cases h2 : okN n ch fi = false
  · left; rw [if_pos h2]; decide
  rw [if_neg h2]
  by_cases h3 : S.any badT = true
  · left; rw [if_pos h3]; decide
  rw [if_neg h3]
  have hx1 := hx.1
  rw [if_neg (by omega)]
  right
  have hT : ∀ t ∈ S, okU t := fun t h' => okU_of (by have := List.any_eq_false.1 (by simpa using h3 : S.any badT = false) t h'; simpa using this)
  have hI := inv_fold S ab0 (inv0 n.toNat xs.length) hT
  refine ⟨_, _, rfl, by have := hI.r; omega, hI.r.2.2.2.1, rfl, fun o h0 h6 => ?_⟩
  have ho : ¬ okN n ch o = false := by
    have : okN n ch fi = true := by simpa using h2
    unfold okN inW at this ⊢
    simp only [Bool.and_eq_true, decide_eq_true_eq] at this
    simp [this, h0, h6]
  rw [if_neg h1, if_neg ho]
theorem law {H : Type} {k0 k1 k2 k3 k4 k5 : Nat} {d0 d1 d2 d3 d4 d5 : DataW H} (w0 : WT Try.prog k0 3 d0) (w1 : WT Try.prog k1 3 d1) (w2 : WT Try.prog k2 3 d2) (w3 : WT Try.prog k3 3 d3) (w4 : WT Try.prog k4 28 d4) (w5 : WT Try.prog k5 60 d5) :
    ∃ S, Ok S ∧ evCall Try.prog S tb 100 Bool (.fn 6) [dVal Try.prog k0 3 d0, dVal Try.prog k1 3 d1, dVal Try.prog k2 3 d2, dVal Try.prog k3 3 d3, dVal Try.prog k4 28 d4, dVal Try.prog k5 60 d5] ⟨fun _ => none, 0⟩ .off done = some true := by
  obtain ⟨n, e0, _⟩ := WT.vint (by kernel_rfl) w0
  obtain ⟨ch, e1, _⟩ := WT.vint (by kernel_rfl) w1
  obtain ⟨fi, e2, _⟩ := WT.vint (by kernel_rfl) w2
  obtain ⟨ot, e3, _⟩ := WT.vint (by kernel_rfl) w3
  obtain ⟨xs, e4, hx1, hx2⟩ := WT.vrows (e := 33) (f := 3) (by kernel_rfl) (by kernel_rfl) (by kernel_rfl) (by kernel_rfl) (by kernel_rfl) w4
  obtain ⟨S, e5⟩ := law_arg w5
  rw [e0, e1, e2, e3, e4, e5]
  have hM : maxLen = 9223372036854775807 := rfl
  have hp : ∀ (b : Bool) (x : Option Bool), pre6 xs S.length b x = (bif !b then some true else bif decide ((S.length : Int) > 300) then some true else x) := fun b x => by
    unfold pre6
    rw [is12_eq]
    exact bif_t (same_self _)
  by_cases hs : Small xs
  rotate_left
  · refine ⟨_, know_ok tbOk awake_fact (know_ok tbOk (frames_large hs) (O6_ok (stopAt_ok ok0))), (law6_0 n ch fi ot xs (flatS S) S.length false).trans ?_⟩
    rw [hp]
    rfl
  by_cases hS : S.length ≤ 300
  rotate_left
  · refine ⟨_, know_ok tbOk awake_fact (know_ok tbOk (frames_small hs) (O6_ok (stopAt_ok ok0))), (law6_0 n ch fi ot xs (flatS S) S.length true).trans ?_⟩
    rw [hp, decide_eq_true (by omega : (S.length : Int) > 300)]
    rfl
  refine ⟨_, know_ok tbOk awake_fact (know_ok tbOk (frames_small hs) (O6_ok ok0)), (law6_1 n ch fi ot xs (flatS S) S.length true).trans ?_⟩
  have g1 : isSo (G32 (arg32 n ch fi xs (flatS S) S.length)) = true := isSo_true ⟨_, _, _, _, _, rfl, hs, hS⟩
  have g2 : isSo (G32 (arg32 n ch (andW ot) xs (flatS S) S.length)) = true := isSo_true ⟨_, _, _, _, _, rfl, hs, hS⟩
  rw [hp, decide_eq_false (by omega : ¬ (S.length : Int) > 300), g1, g2, pV_eq, pV_eq, is12_eq]
  have hw := andW_in ot
  have hs1 := hs.1
  have hfit : Fit xs := ⟨hx1, fun x hx => (hx2 x hx).1⟩
  have fin : ∀ ys : List (List Int), (∀ f ∈ ys, f ∈ xs) → ys.length ≤ xs.length → isSo (G23m [rows ys, rows ys]) = true := fun ys h hl => isSo_true ⟨_, _, rfl, rfl, by omega, fun f hf => hfit.2 f (h f hf)⟩
  rcases playV_small (n := n) (ch := ch) (fi := fi) hs hS with h | ⟨r, w, h1, h2, h3, h4, h5⟩
  · have hg : isSo (G23m [rows (playV n ch fi xs S).1, rows (playV n ch fi xs S).1]) = true := by
      have : (playV n ch fi xs S).1 = [] ∨ (playV n ch fi xs S).2.2 = 0 := by
        unfold playV
        split
        · exact Or.inl rfl
        · split
          · exact Or.inl rfl
          · split
            · exact Or.inl rfl
            · split
              · exact Or.inl rfl
              · exact Or.inr rfl
      rw [this.resolve_right h]
      exact fin [] (by simp) (by simp)
    rw [hg, beq_self_eq_true, beq_self_eq_true, show ((playV n ch fi xs S).2.2 == 0) = false from by rw [beq_eq_false_iff_ne]; exact h]
    rfl
  · rw [h5 _ hw.1 hw.2]
    have hl : (playV n ch fi xs S).1.length = r := by rw [h1, List.length_take]; omega
    have hg : isSo (G23m [rows (playV n ch fi xs S).1, rows (playV n ch fi xs S).1]) = true := by
      rw [h1]
      exact fin _ (fun f hf => List.mem_of_mem_take hf) (by rw [List.length_take]; omega)
    have ev : AV.fz (takeA (dropA (xs.map ints) 0) ((playV n ch fi xs S).1.length * 1)) (playV n ch fi xs S).1.length false 1 = rows (playV n ch fi xs S).1 := by
      rw [hl, h1, takeA_eq, dropA_eq, List.drop_zero, Nat.mul_one]
      unfold rows
      rw [List.map_take, List.length_take, Nat.min_eq_left (by omega)]
    have ew : w64 (((playV n ch fi xs S).1.length : Int) + (playV n ch fi xs S).2.1) = (w : Int) := by
      rw [hl, h4, w64_in (by omega)]
      omega
    rw [hg, ev, hg, ew, beq_self_eq_true, beq_self_eq_true, hl, decide_eq_false (by omega : ¬ (r : Int) > (xs.length : Int)), decide_eq_false (by omega : ¬ (w : Int) > (xs.length : Int)), decide_eq_true (Int.natCast_nonneg r), Nat.ble_eq_true_of_le (by omega : r ≤ xs.length)]
    cases h0 : (playV n ch fi xs S).2.2 == 0 <;> rfl
end Go.Proofs.Ytokighfpmonjdaa
