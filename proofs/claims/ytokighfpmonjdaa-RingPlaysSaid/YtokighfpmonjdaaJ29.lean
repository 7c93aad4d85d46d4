/- RingPlays: both rings told of by one. -/
import Derived.Test.YtokighfpmonjdaaJ24
namespace Go.Proofs.Ytokighfpmonjdaa
open Go.Ev
set_option maxRecDepth 100000
theorem w64_i {x : Int} (h : -9000000000000000000 ≤ x ∧ x ≤ 9000000000000000000) : w64 x = x := by unfold w64; rw [IntKind.wrap_i64]; omega
structure Rs where
  W : Nat
  R : Nat
  se : Nat
  lo : Nat
  cl : Int
  ta : Int
  cs : List (List Int)
def gR (c first : Nat) (a : Rs) : Rg := ⟨c, ((first + a.W) % 65536 : Nat), ((first + a.se) % 65536 : Nat), decide (0 ≤ a.cl), max 0 a.cl, 0, ((first + a.R) % 65536 : Nat), ((first + a.lo) % 65536 : Nat), decide (0 ≤ a.ta), max 0 a.ta, 0⟩
def sR (n c first : Nat) (a : Rs) : Rf := ⟨n, c, first, a.W, a.R, a.se, a.lo, a.cl, a.ta, a.cs⟩
structure IR (n c first B : Nat) (a : Rs) : Prop where
  dvd : n ∣ 65536
  hn : 1 ≤ n ∧ n ≤ 1024
  hc : 1 ≤ c ∧ c ≤ 8
  fi : first < 65536
  len : a.cs.length = n
  rows : ∀ f ∈ a.cs, f.length = c
  ord : a.se ≤ a.R ∧ a.R ≤ a.lo ∧ a.lo ≤ a.W ∧ a.W ≤ a.se + n
  cl : a.cl = -1 ∨ (0 ≤ a.cl ∧ (a.W : Int) + a.cl ≤ (a.se : Int) + n)
  ta : a.ta = -1 ∨ (0 ≤ a.ta ∧ (a.R : Int) + a.ta ≤ a.lo)
  bnd : a.W ≤ B
theorem minI_e (a b : Int) : minI a b = min a b := by unfold minI; split <;> omega
theorem aprt_B {f x y : Nat} (h : y ≤ x) (hx : x < y + 65536) : aprt ((f + x) % 65536 : Nat) ((f + y) % 65536 : Nat) = (x : Int) - y := by
  rw [aprt_eq (by omega) (by omega)]
  omega
theorem own_B {f x p : Nat} (hp : p ≤ 65536) : (w64 (((f + x) % 65536 : Nat) + (p : Int))).tmod 65536 = ((f + (x + p)) % 65536 : Nat) := by
  rw [w64_i (by omega), Int.tmod_eq_emod_of_nonneg (by omega)]
  omega
theorem plc_B {f x p n : Nat} (hp : p ≤ 65536) (hn : n ∣ 65536) : ((w64 (((f + x) % 65536 : Nat) + (p : Int))).tmod (n : Int)).toNat = (f + (x + p)) % n := by
  have e : ((f + x) % 65536 + p) % n = (f + (x + p)) % n := by
    rw [Nat.add_mod, Nat.mod_mod_of_dvd _ hn, ← Nat.add_mod, Nat.add_assoc]
  rw [w64_i (by omega), Int.tmod_eq_emod_of_nonneg (by omega)]
  rw [show (((f + x) % 65536 : Nat) + (p : Int)) = (((f + x) % 65536 + p : Nat) : Int) by omega]
  rw [← e]
  rfl
theorem plc_F {f x p n : Nat} (hf : f < 65536) (hx : x ≤ 100000000) (hp : p ≤ 65536) : ((w64 ((f : Int) + w64 ((x : Int) + (p : Int)))).tmod (n : Int)).toNat = (f + (x + p)) % n := by
  rw [w64_i (x := (x : Int) + p) (by omega), w64_i (by omega), Int.tmod_eq_emod_of_nonneg (by omega)]
  rw [show (f : Int) + ((x : Int) + p) = ((f + (x + p) : Nat) : Int) by omega]
  rfl
section
variable {n c first B : Nat} {a : Rs}
theorem IR.rg (h : IR n c first B a) : RgOk (gR c first a) a.cs := by
  have h1 := h.hn
  have h2 := h.hc
  have h3 := h.len
  have h4 := h.ord
  have h5 := h.cl
  have h6 := h.ta
  refine ⟨?_, ?_, fun f hf => ?_, ?_, ?_, ?_, ?_, ?_, ?_⟩
  · show (1 : Int) ≤ c ∧ (c : Int) ≤ 8; omega
  · omega
  · show (f.length : Int) = c; rw [h.rows f hf]
  · show (0 : Int) ≤ ((first + a.W) % 65536 : Nat) ∧ (((first + a.W) % 65536 : Nat) : Int) < 65536; omega
  · show (0 : Int) ≤ ((first + a.R) % 65536 : Nat) ∧ (((first + a.R) % 65536 : Nat) : Int) < 65536; omega
  · show (0 : Int) ≤ ((first + a.se) % 65536 : Nat) ∧ (((first + a.se) % 65536 : Nat) : Int) < 65536; omega
  · show (0 : Int) ≤ ((first + a.lo) % 65536 : Nat) ∧ (((first + a.lo) % 65536 : Nat) : Int) < 65536; omega
  · show max 0 a.cl ≤ 65536; omega
  · show max 0 a.ta ≤ 65536; omega
theorem IR.rf (h : IR n c first B a) (hB : B ≤ 100000000) : RfOk (sR n c first a) := by
  have h1 := h.hn
  have h2 := h.hc
  have h3 := h.len
  have h4 := h.ord
  have h5 := h.cl
  have h6 := h.ta
  have h7 := h.fi
  have h8 := h.bnd
  refine ⟨?_, ?_, fun f hf => ?_, ?_, ?_, ?_, ?_, ?_⟩
  · show (1 : Int) ≤ c ∧ (c : Int) ≤ 8; omega
  · show (n : Int) = (a.cs.length : Int) ∧ 1 ≤ a.cs.length ∧ a.cs.length ≤ 1024; omega
  · show (f.length : Int) = c; rw [h.rows f hf]
  · show (0 : Int) ≤ first ∧ (first : Int) < 65536; omega
  · show (0 : Int) ≤ a.W ∧ (a.W : Int) ≤ 100000000; omega
  · show (0 : Int) ≤ a.R ∧ (a.R : Int) ≤ 100000000; omega
  · show a.cl ≤ 65536; omega
  · show a.ta ≤ 65536; omega
theorem cnt_B {x : Nat} (hf : first < 65536) (hx : x ≤ 100000000) : cntF (sR n c first a) x = ((first + x) % 65536 : Nat) := by
  show (w64 ((first : Int) + x)).tmod 65536 = _
  rw [w64_i (by omega), Int.tmod_eq_emod_of_nonneg (by omega)]
  omega
theorem maxI_e (a b : Int) : maxI a b = max a b := by unfold maxI; split <;> omega
theorem ask_ok {A : Type} (h : IR n c first B a) (hB : B ≤ 100000000) (x : Option A) : askT (gR c first a) (sR n c first a) x = x := by
  have h1 := h.fi
  have h2 := h.ord
  have h3 := h.bnd
  unfold askT
  rw [rfOf_agg, isSo_true ⟨_, rfl⟩]
  have e1 : ((gR c first a).wo == cntF (sR n c first a) (sR n c first a).w) = true := by rw [beq_iff_eq]; exact (cnt_B (x := a.W) h1 (by omega)).symm
  have e2 : ((gR c first a).ro == cntF (sR n c first a) (sR n c first a).r) = true := by rw [beq_iff_eq]; exact (cnt_B (x := a.R) h1 (by omega)).symm
  have e3 : ((gR c first a).wv == cntF (sR n c first a) (sR n c first a).se) = true := by rw [beq_iff_eq]; exact (cnt_B (x := a.se) h1 (by omega)).symm
  have e4 : ((gR c first a).rv == cntF (sR n c first a) (sR n c first a).lo) = true := by rw [beq_iff_eq]; exact (cnt_B (x := a.lo) h1 (by omega)).symm
  have e5 : ((gR c first a).wc == maxI 0 (sR n c first a).cl) = true := by rw [beq_iff_eq, maxI_e]; rfl
  have e6 : ((gR c first a).rc == maxI 0 (sR n c first a).ta) = true := by rw [beq_iff_eq, maxI_e]; rfl
  rw [e1, e2, e3, e4, e5, e6]
  rfl
theorem room_G (h : IR n c first B a) : roomG n (gR c first a) = (n : Int) - ((a.W : Int) - a.se) := by
  have h1 := h.hn
  have h2 := h.ord
  show w64 ((n : Int) - aprt ((first + a.W) % 65536 : Nat) ((first + a.se) % 65536 : Nat)) = _
  rw [aprt_B (by omega) (by omega), w64_i (by omega)]
theorem room_F (h : IR n c first B a) (hB : B ≤ 100000000) : roomF (sR n c first a) = (n : Int) - ((a.W : Int) - a.se) := by
  have h1 := h.hn
  have h2 := h.ord
  have h3 := h.bnd
  show w64 ((n : Int) - w64 ((a.W : Int) - a.se)) = _
  rw [w64_i (x := (a.W : Int) - a.se) (by omega), w64_i (by omega)]
theorem fill_G (h : IR n c first B a) : fillG (gR c first a) = (a.lo : Int) - a.R := by
  have h1 := h.hn
  have h2 := h.ord
  exact aprt_B (by omega) (by omega)
theorem fill_F (h : IR n c first B a) (hB : B ≤ 100000000) : fillF (sR n c first a) = (a.lo : Int) - a.R := by
  have h2 := h.ord
  have h3 := h.bnd
  show w64 ((a.lo : Int) - a.R) = _
  exact w64_i (by omega)
theorem IR.see (h : IR n c first B a) : IR n c first B { a with se := a.R } := by
  have h2 := h.ord
  have h3 := h.cl
  exact ⟨h.dvd, h.hn, h.hc, h.fi, h.len, h.rows, by show a.R ≤ a.R ∧ a.R ≤ a.lo ∧ a.lo ≤ a.W ∧ a.W ≤ a.R + n; omega, by show a.cl = -1 ∨ (0 ≤ a.cl ∧ (a.W : Int) + a.cl ≤ (a.R : Int) + n); omega, h.ta, h.bnd⟩
theorem IR.look (h : IR n c first B a) : IR n c first B { a with lo := a.W } := by
  have h2 := h.ord
  have h3 := h.ta
  exact ⟨h.dvd, h.hn, h.hc, h.fi, h.len, h.rows, by show a.se ≤ a.R ∧ a.R ≤ a.W ∧ a.W ≤ a.W ∧ a.W ≤ a.se + n; omega, h.cl, by show a.ta = -1 ∨ (0 ≤ a.ta ∧ (a.R : Int) + a.ta ≤ a.W); omega, h.bnd⟩
theorem IR.mono (h : IR n c first B a) {B' : Nat} (hB : B ≤ B') : IR n c first B' a := ⟨h.dvd, h.hn, h.hc, h.fi, h.len, h.rows, h.ord, h.cl, h.ta, Nat.le_trans h.bnd hB⟩
end
end Go.Proofs.Ytokighfpmonjdaa
/- RingPlays: what each turn does to both rings. -/
namespace Go.Proofs.Ytokighfpmonjdaa
open Go.Ev
set_option maxRecDepth 100000
set_option linter.unusedVariables false
section
variable {n c first B m : Nat} {a : Rs} {A : Type}
def Turn (n c first B : Nat) (x : (Rg → List (List Int) → Rf → Bool → Option A) → Option A) : Prop := ∃ b : Rs, IR n c first (B + 1024) b ∧ ∀ to : Rg → List (List Int) → Rf → Bool → Option A, x to = to (gR c first b) b.cs (sR n c first b) true
theorem beq_t {x y : Int} (h : x = y) : (x == y) = true := by rw [h]; exact beq_self_eq_true _
theorem turn0 (h : IR n c first B a) (hB : B ≤ 10000000) (hm : m + 1 = n) : Turn (A := A) n c first B fun to => kt0 m (gR c first a) a.cs (sR n c first a) to := by
  have h' := h.see
  refine ⟨_, h'.mono (Nat.le_add_right _ _), fun to => ?_⟩
  show kt0 m (gR c first a) a.cs (sR n c first a) to = _
  unfold kt0
  have er : roomG (m + 1) (seeG (gR c first a)) = roomF (seeF (sR n c first a)) := by rw [hm]; exact (room_G h').trans (room_F h' (by omega)).symm
  rw [flG_eq, isSo_true ⟨_, _, rfl, by rw [h.len, hm], h.rg⟩, isSo_true ⟨_, rfl⟩, rfOf_agg, fsOf_obj, beq_t er]
  exact ask_ok h' (by omega) _
theorem turn4 (h : IR n c first B a) (hB : B ≤ 10000000) (hm : m + 1 = n) : Turn (A := A) n c first B fun to => kt4 m (gR c first a) a.cs (sR n c first a) to := by
  have h' := h.look
  refine ⟨_, h'.mono (Nat.le_add_right _ _), fun to => ?_⟩
  show kt4 m (gR c first a) a.cs (sR n c first a) to = _
  unfold kt4
  have er : fillG (lookG (gR c first a)) = fillF (lookF (sR n c first a)) := (fill_G h').trans (fill_F h' (by omega)).symm
  rw [flG_eq, isSo_true ⟨_, _, rfl, by rw [h.len, hm], h.rg⟩, isSo_true ⟨_, rfl⟩, rfOf_agg, fsOf_obj, beq_t er]
  exact ask_ok h' (by omega) _
theorem turn1 (h : IR n c first B a) (hB : B ≤ 10000000) (hm : m + 1 = n) (k : Int) : Turn (A := A) n c first B fun to => kt1 m (gR c first a) a.cs (sR n c first a) to k := by
  have hn := h.hn
  have ho := h.ord
  have eG := room_G h
  have eF := room_F h (by omega)
  obtain ⟨b, hb, e1, e2, e3⟩ : ∃ b, IR n c first B b ∧ claimS (m + 1) (gR c first a) k = (gR c first b, (claimS (m + 1) (gR c first a) k).2.1, (claimS (m + 1) (gR c first a) k).2.2) ∧ claF (sR n c first a) k = (sR n c first b, (claimS (m + 1) (gR c first a) k).2.1, (claimS (m + 1) (gR c first a) k).2.2) ∧ b.cs = a.cs := by
    unfold claimS claF
    by_cases h1 : k < 0
    · rw [if_pos h1, if_pos h1]; exact ⟨a, h, rfl, rfl, rfl⟩
    rw [if_neg h1, if_neg h1]
    by_cases h2 : a.cl ≥ 0
    · rw [if_pos (show (gR c first a).wop = true from decide_eq_true h2), if_pos (show (sR n c first a).cl ≥ 0 from h2)]; exact ⟨a, h, rfl, rfl, rfl⟩
    rw [if_neg (show ¬ (gR c first a).wop = true from by show ¬ decide (0 ≤ a.cl) = true; rw [decide_eq_true_eq]; exact h2), if_neg (show ¬ (sR n c first a).cl ≥ 0 from h2), hm, eG, eF]
    have hv : 0 ≤ minI k ((n : Int) - ((a.W : Int) - a.se)) ∧ minI k ((n : Int) - ((a.W : Int) - a.se)) ≤ (n : Int) - ((a.W : Int) - a.se) := by rw [minI_e]; omega
    refine ⟨{ a with cl := minI k ((n : Int) - ((a.W : Int) - a.se)) }, ⟨h.dvd, h.hn, h.hc, h.fi, h.len, h.rows, h.ord, Or.inr ?_, h.ta, h.bnd⟩, ?_, rfl, rfl⟩
    · show 0 ≤ minI k ((n : Int) - ((a.W : Int) - a.se)) ∧ (a.W : Int) + minI k ((n : Int) - ((a.W : Int) - a.se)) ≤ (a.se : Int) + n
      omega
    · unfold claimG
      rw [eG]
      generalize minI k ((n : Int) - ((a.W : Int) - a.se)) = v at hv
      unfold gR
      simp only [decide_eq_true hv.1, show max 0 v = v by omega]
  refine ⟨b, hb.mono (Nat.le_add_right _ _), fun to => ?_⟩
  show kt1 m (gR c first a) a.cs (sR n c first a) to k = _
  unfold kt1
  rw [flG_eq, isSo_true ⟨_, _, _, rfl, by rw [h.len, hm], h.rg⟩, isSo_true ⟨_, _, rfl⟩, rfOf_agg, fsOf_obj, e2, e1]
  simp only [beq_self_eq_true, cond_true, Bool.not_true, cond_false]
  rw [ask_ok hb (by omega), e3]
theorem turn5 (h : IR n c first B a) (hB : B ≤ 10000000) (hm : m + 1 = n) (k : Int) : Turn (A := A) n c first B fun to => kt5 m (gR c first a) a.cs (sR n c first a) to k := by
  have hn := h.hn
  have ho := h.ord
  have eG := fill_G h
  have eF := fill_F h (by omega)
  obtain ⟨b, hb, e1, e2, e3⟩ : ∃ b, IR n c first B b ∧ takeS (gR c first a) k = (gR c first b, (takeS (gR c first a) k).2.1, (takeS (gR c first a) k).2.2) ∧ takF (sR n c first a) k = (sR n c first b, (takeS (gR c first a) k).2.1, (takeS (gR c first a) k).2.2) ∧ b.cs = a.cs := by
    unfold takeS takF
    by_cases h1 : k < 0
    · rw [if_pos h1, if_pos h1]; exact ⟨a, h, rfl, rfl, rfl⟩
    rw [if_neg h1, if_neg h1]
    by_cases h2 : a.ta ≥ 0
    · rw [if_pos (show (gR c first a).rop = true from decide_eq_true h2), if_pos (show (sR n c first a).ta ≥ 0 from h2)]; exact ⟨a, h, rfl, rfl, rfl⟩
    rw [if_neg (show ¬ (gR c first a).rop = true from by show ¬ decide (0 ≤ a.ta) = true; rw [decide_eq_true_eq]; exact h2), if_neg (show ¬ (sR n c first a).ta ≥ 0 from h2), eG, eF]
    have hv : 0 ≤ minI k ((a.lo : Int) - a.R) ∧ minI k ((a.lo : Int) - a.R) ≤ (a.lo : Int) - a.R := by rw [minI_e]; omega
    refine ⟨{ a with ta := minI k ((a.lo : Int) - a.R) }, ⟨h.dvd, h.hn, h.hc, h.fi, h.len, h.rows, h.ord, h.cl, Or.inr ?_, h.bnd⟩, ?_, rfl, rfl⟩
    · show 0 ≤ minI k ((a.lo : Int) - a.R) ∧ (a.R : Int) + minI k ((a.lo : Int) - a.R) ≤ (a.lo : Int)
      omega
    · unfold takeG
      rw [eG]
      generalize minI k ((a.lo : Int) - a.R) = v at hv
      unfold gR
      simp only [decide_eq_true hv.1, show max 0 v = v by omega]
  refine ⟨b, hb.mono (Nat.le_add_right _ _), fun to => ?_⟩
  show kt5 m (gR c first a) a.cs (sR n c first a) to k = _
  unfold kt5
  rw [flG_eq, isSo_true ⟨_, _, _, rfl, by rw [h.len, hm], h.rg⟩, isSo_true ⟨_, _, rfl⟩, rfOf_agg, fsOf_obj, e2, e1]
  simp only [beq_self_eq_true, cond_true, Bool.not_true, cond_false]
  rw [ask_ok hb (by omega), e3]
theorem turn3 (h : IR n c first B a) (hB : B ≤ 10000000) (hm : m + 1 = n) (k : Int) : Turn (A := A) n c first B fun to => kt3 m (gR c first a) a.cs (sR n c first a) to k := by
  have hn := h.hn
  have ho := h.ord
  have hc := h.cl
  have hb := h.bnd
  obtain ⟨b, hb, e1, e2, e3⟩ : ∃ b, IR n c first (B + 1024) b ∧ commS (gR c first a) k = (gR c first b, (commS (gR c first a) k).2) ∧ comF (sR n c first a) k = (sR n c first b, (commS (gR c first a) k).2) ∧ b.cs = a.cs := by
    have h' := h.mono (Nat.le_add_right B 1024)
    unfold commS comF
    by_cases h1 : k < 0
    · rw [if_pos h1, if_pos h1]; exact ⟨a, h', rfl, rfl, rfl⟩
    rw [if_neg h1, if_neg h1]
    by_cases h2 : a.cl < 0
    · rw [if_pos (show (gR c first a).wop = false from decide_eq_false (by omega)), if_pos (show (sR n c first a).cl < 0 from h2)]; exact ⟨a, h', rfl, rfl, rfl⟩
    rw [if_neg (show ¬ (gR c first a).wop = false from by show ¬ decide (0 ≤ a.cl) = false; rw [decide_eq_true (by omega)]; simp), if_neg (show ¬ (sR n c first a).cl < 0 from h2)]
    by_cases h3 : k > a.cl
    · rw [if_pos (show k > (gR c first a).wc from by show k > max 0 a.cl; omega), if_pos (show k > (sR n c first a).cl from h3)]; exact ⟨a, h', rfl, rfl, rfl⟩
    rw [if_neg (show ¬ k > (gR c first a).wc from by show ¬ k > max 0 a.cl; omega), if_neg (show ¬ k > (sR n c first a).cl from h3)]
    obtain ⟨k, rfl⟩ : ∃ j : Nat, k = j := ⟨k.toNat, by omega⟩
    refine ⟨{ a with W := a.W + k, cl := -1 }, ⟨h.dvd, h.hn, h.hc, h.fi, h.len, h.rows, ?_, Or.inl rfl, h.ta, ?_⟩, ?_, ?_, rfl⟩
    · show a.se ≤ a.R ∧ a.R ≤ a.lo ∧ a.lo ≤ a.W + k ∧ a.W + k ≤ a.se + n; omega
    · show a.W + k ≤ B + 1024; omega
    · have eo : (w64 ((gR c first a).wo + (k : Int))).tmod 65536 = ((first + (a.W + k)) % 65536 : Nat) := own_B (by omega)
      unfold commG
      rw [eo]
      rfl
    · have ew : w64 ((a.W : Int) + (k : Int)) = ((a.W + k : Nat) : Int) := by rw [w64_i (by omega)]; omega
      show ((⟨n, c, first, w64 ((a.W : Int) + (k : Int)), a.R, a.se, a.lo, -1, a.ta, a.cs⟩ : Rf), (0 : Int)) = _
      rw [ew]
      rfl
  refine ⟨b, hb, fun to => ?_⟩
  show kt3 m (gR c first a) a.cs (sR n c first a) to k = _
  unfold kt3
  rw [isSo_true ⟨_, _, rfl⟩, rfOf_agg, flG_eq, isSo_true ⟨_, _, _, rfl, by rw [h.len, hm], h.rg⟩, fsOf_obj, e2, e1]
  simp only [beq_self_eq_true, cond_true, Bool.not_true, cond_false]
  rw [ask_ok hb (by omega), e3]
theorem turn7 (h : IR n c first B a) (hB : B ≤ 10000000) (hm : m + 1 = n) (k : Int) : Turn (A := A) n c first B fun to => kt7 m (gR c first a) a.cs (sR n c first a) to k := by
  have hn := h.hn
  have ho := h.ord
  have hc := h.ta
  have hb := h.bnd
  obtain ⟨b, hb, e1, e2, e3⟩ : ∃ b, IR n c first (B + 1024) b ∧ doneS (gR c first a) k = (gR c first b, (doneS (gR c first a) k).2) ∧ donF (sR n c first a) k = (sR n c first b, (doneS (gR c first a) k).2) ∧ b.cs = a.cs := by
    have h' := h.mono (Nat.le_add_right B 1024)
    unfold doneS donF
    by_cases h1 : k < 0
    · rw [if_pos h1, if_pos h1]; exact ⟨a, h', rfl, rfl, rfl⟩
    rw [if_neg h1, if_neg h1]
    by_cases h2 : a.ta < 0
    · rw [if_pos (show (gR c first a).rop = false from decide_eq_false (by omega)), if_pos (show (sR n c first a).ta < 0 from h2)]; exact ⟨a, h', rfl, rfl, rfl⟩
    rw [if_neg (show ¬ (gR c first a).rop = false from by show ¬ decide (0 ≤ a.ta) = false; rw [decide_eq_true (by omega)]; simp), if_neg (show ¬ (sR n c first a).ta < 0 from h2)]
    by_cases h3 : k > a.ta
    · rw [if_pos (show k > (gR c first a).rc from by show k > max 0 a.ta; omega), if_pos (show k > (sR n c first a).ta from h3)]; exact ⟨a, h', rfl, rfl, rfl⟩
    rw [if_neg (show ¬ k > (gR c first a).rc from by show ¬ k > max 0 a.ta; omega), if_neg (show ¬ k > (sR n c first a).ta from h3)]
    obtain ⟨k, rfl⟩ : ∃ j : Nat, k = j := ⟨k.toNat, by omega⟩
    refine ⟨{ a with R := a.R + k, ta := -1 }, ⟨h.dvd, h.hn, h.hc, h.fi, h.len, h.rows, ?_, h.cl, Or.inl rfl, h'.bnd⟩, ?_, ?_, rfl⟩
    · show a.se ≤ a.R + k ∧ a.R + k ≤ a.lo ∧ a.lo ≤ a.W ∧ a.W ≤ a.se + n; omega
    · have eo : (w64 ((gR c first a).ro + (k : Int))).tmod 65536 = ((first + (a.R + k)) % 65536 : Nat) := own_B (by omega)
      unfold doneG
      rw [eo]
      rfl
    · have ew : w64 ((a.R : Int) + (k : Int)) = ((a.R + k : Nat) : Int) := by rw [w64_i (by omega)]; omega
      show ((⟨n, c, first, a.W, w64 ((a.R : Int) + (k : Int)), a.se, a.lo, a.cl, -1, a.cs⟩ : Rf), (0 : Int)) = _
      rw [ew]
      rfl
  refine ⟨b, hb, fun to => ?_⟩
  show kt7 m (gR c first a) a.cs (sR n c first a) to k = _
  unfold kt7
  rw [isSo_true ⟨_, _, rfl⟩, rfOf_agg, flG_eq, isSo_true ⟨_, _, _, rfl, by rw [h.len, hm], h.rg⟩, fsOf_obj, e2, e1]
  simp only [beq_self_eq_true, cond_true, Bool.not_true, cond_false]
  rw [ask_ok hb (by omega), e3]
end
end Go.Proofs.Ytokighfpmonjdaa
/- RingPlays: what a frame's turn does to both rings. -/
namespace Go.Proofs.Ytokighfpmonjdaa
open Go.Ev
set_option maxRecDepth 100000
set_option linter.unusedVariables false
section
variable {n c first B m : Nat} {a : Rs} {A : Type}
theorem wErr_eq (x k : Int) : wErr (decide (0 ≤ x)) (max 0 x) k = if k < 0 then 7 else if x < 0 then 9 else if k ≥ x then 7 else 0 := by
  unfold wErr
  by_cases h1 : k < 0
  · rw [if_pos h1, if_pos h1]
  rw [if_neg h1, if_neg h1]
  by_cases h2 : x < 0
  · rw [if_pos (decide_eq_false (by omega)), if_pos h2]
  rw [if_neg (by rw [decide_eq_true (by omega)]; simp), if_neg h2, show max 0 x = x by omega]
theorem get_eq (h : IR n c first B a) (hB : B ≤ 10000000) (k : Int) : wErr (gR c first a).rop (gR c first a).rc k = getEF (sR n c first a) k ∧ getL (gR c first a) k a.cs = getRF (sR n c first a) k ∧ (getRF (sR n c first a) k).length ≤ 8 := by
  have hn := h.hn
  have ho := h.ord
  have ht := h.ta
  have hb := h.bnd
  have e1 : wErr (gR c first a).rop (gR c first a).rc k = getEF (sR n c first a) k := wErr_eq a.ta k
  refine ⟨e1, ?_, ?_⟩
  · unfold getL getRF
    rw [e1]
    by_cases h0 : getEF (sR n c first a) k = 0
    rotate_left
    · rw [if_neg h0, if_neg h0]
    rw [if_pos h0, if_pos h0]
    have hk : 0 ≤ k ∧ k < a.ta := by
      unfold getEF at h0
      have h0 : (if k < 0 then (7 : Int) else if a.ta < 0 then 9 else if k ≥ a.ta then 7 else 0) = 0 := h0
      split at h0
      · omega
      · split at h0
        · omega
        · split at h0 <;> omega
    obtain ⟨k, rfl⟩ : ∃ j : Nat, k = j := ⟨k.toNat, by omega⟩
    have e2 : (plcR (gR c first a) a.cs.length (k : Int)).toNat = (first + (a.R + k)) % n := by rw [h.len]; exact plc_B (by omega) h.dvd
    have e3 : (plcF (sR n c first a) (k : Int)).toNat = (first + (a.R + k)) % n := plc_F h.fi (by omega) (by omega)
    rw [e2, e3]
    rfl
  · unfold getRF
    split
    · rcases Nat.lt_or_ge (plcF (sR n c first a) k).toNat a.cs.length with hl | hl
      · have : (sR n c first a).cs.getD (plcF (sR n c first a) k).toNat [] = a.cs[(plcF (sR n c first a) k).toNat] := by
          show a.cs.getD _ [] = _
          simp [List.getD, hl]
        rw [this, h.rows _ (List.getElem_mem hl)]
        exact h.hc.2
      · have : (sR n c first a).cs.getD (plcF (sR n c first a) k).toNat [] = [] := by
          show a.cs.getD _ [] = _
          simp [List.getD, hl]
        rw [this]
        simp
    · simp
theorem turn6 (h : IR n c first B a) (hB : B ≤ 10000000) (hm : m + 1 = n) (k : Int) : Turn (A := A) n c first B fun to => kt6 m (gR c first a) a.cs (sR n c first a) to k := by
  have hM : maxLen = 9223372036854775807 := rfl
  obtain ⟨e1, e2, e3⟩ := get_eq h hB k
  refine ⟨a, h.mono (Nat.le_add_right _ _), fun to => ?_⟩
  show kt6 m (gR c first a) a.cs (sR n c first a) to k = _
  unfold kt6
  rw [flG_eq, isSo_true ⟨_, _, _, rfl, by rw [h.len, hm], h.rg⟩, isSo_true ⟨_, _, rfl, h.rf (by omega)⟩, rfOf_agg, fsOf_obj, e1, e2, isSo_true ⟨_, _, rfl, rfl, by omega⟩]
  simp only [beq_self_eq_true, cond_true, Bool.not_true, cond_false]
  exact ask_ok h (by omega) _
/-! ### Put -/
theorem put_eq (h : IR n c first B a) (hB : B ≤ 10000000) (k : Int) (f : List Int) : putE (gR c first a) k f = putFE (sR n c first a) k f ∧
    ∃ b, IR n c first B b ∧ gR c first b = gR c first a ∧ b.cs = putL (gR c first a) k f a.cs ∧ putF (sR n c first a) k f = sR n c first b := by
  have hn := h.hn
  have ho := h.ord
  have hc := h.cl
  have hb := h.bnd
  have e1 : putE (gR c first a) k f = putFE (sR n c first a) k f := by
    unfold putE putFE
    by_cases h1 : badR f = true ∨ (f.length : Int) ≠ (c : Int)
    · rw [if_pos (show (f.length : Int) ≠ (gR c first a).ch ∨ badR f = true from h1.symm), if_pos (show badR f = true ∨ (f.length : Int) ≠ (sR n c first a).ch from h1)]
    · rw [if_neg (show ¬ ((f.length : Int) ≠ (gR c first a).ch ∨ badR f = true) from fun q => h1 q.symm), if_neg (show ¬ (badR f = true ∨ (f.length : Int) ≠ (sR n c first a).ch) from h1)]
      exact wErr_eq a.cl k
  refine ⟨e1, ?_⟩
  unfold putL putF
  rw [e1]
  by_cases h0 : putFE (sR n c first a) k f = 0
  rotate_left
  · rw [if_neg h0, if_neg h0]; exact ⟨a, h, rfl, rfl, rfl⟩
  rw [if_pos h0, if_pos h0]
  have h0' : (if badR f = true ∨ (f.length : Int) ≠ (c : Int) then (1 : Int) else if k < 0 then 7 else if a.cl < 0 then 9 else if k ≥ a.cl then 7 else 0) = 0 := h0
  have hk : (f.length : Int) = c ∧ 0 ≤ k ∧ k < a.cl := by
    split at h0'
    · omega
    · rename_i hq
      have hl : (f.length : Int) = c := Classical.not_not.1 fun q => hq (Or.inr q)
      split at h0'
      · omega
      · split at h0'
        · omega
        · split at h0' <;> omega
  obtain ⟨hl, hk0, hk1⟩ := hk
  obtain ⟨k, rfl⟩ : ∃ j : Nat, k = j := ⟨k.toNat, by omega⟩
  have e2 : (plcW (gR c first a) a.cs.length (k : Int)).toNat = (first + (a.W + k)) % n := by rw [h.len]; exact plc_B (by omega) h.dvd
  have e3 : (plW (sR n c first a) (k : Int)).toNat = (first + (a.W + k)) % n := plc_F h.fi (by omega) (by omega)
  refine ⟨{ a with cs := a.cs.set ((first + (a.W + k)) % n) f }, ⟨h.dvd, h.hn, h.hc, h.fi, by rw [List.length_set]; exact h.len, fun g hg => ?_, h.ord, h.cl, h.ta, h.bnd⟩, rfl, by rw [e2], by rw [e3]; rfl⟩
  rcases List.mem_or_eq_of_mem_set hg with h1 | h1
  · exact h.rows g h1
  · rw [h1]; omega
theorem turn2 (h : IR n c first B a) (hB : B ≤ 10000000) (hm : m + 1 = n) (k : Int) (xs : List (List Int)) (hx : Small xs) (a18 : Int → AV → List AV) (h18 : ∀ k f, a18 k (ints f) = [pG, int64 k, ints f]) : Turn (A := A) n c first B fun to => kt2 m (gR c first a) a.cs (sR n c first a) to a18 k (rows xs) := by
  have hM : maxLen = 9223372036854775807 := rfl
  have key : ∀ (f : List Int) (X : AV), f.length ≤ 1000000 → (X = ints f ∨ f = [] ∧ X = nilL) → rowOf X = f ∧ isSo (G56n [aggF (sR n c first a), int64 k, X]) = true ∧ isSo (G18 [pG, int64 k, ints f] (ob (gR c first a) (m + 1) a.cs)) = true := fun f X hf hX => by
    refine ⟨?_, isSo_true ⟨_, k, f, ?_, h.rf (by omega), hf⟩, isSo_true ⟨_, _, _, f, rfl, by rw [h.len, hm], h.rg, by omega⟩⟩
    · rcases hX with rfl | ⟨rfl, rfl⟩
      · exact rowOf_ints f
      · rfl
    · rcases hX with rfl | ⟨rfl, rfl⟩
      · exact Or.inl rfl
      · exact Or.inr ⟨rfl, rfl⟩
  obtain ⟨f, X, hf, hX, hT⟩ : ∃ (f : List Int) (X : AV), f.length ≤ 1000000 ∧ (X = ints f ∨ f = [] ∧ X = nilL) ∧ ∀ to : Rg → List (List Int) → Rf → Bool → Option A, kt2 m (gR c first a) a.cs (sR n c first a) to a18 k (rows xs) =
      (bif isSo (G56n [aggF (sR n c first a), int64 k, X]) then flG a.cs <| bif isSo (G18 [pG, int64 k, ints f] (ob (gR c first a) (m + 1) a.cs)) then bif !(putE (gR c first a) (intOf (nth [pG, int64 k, ints f] 1)) (rowOf (nth [pG, int64 k, ints f] 2)) == putFE (rfOf (aggF (sR n c first a))) k (rowOf X)) then none else askT (gR c first a) (putF (rfOf (aggF (sR n c first a))) k (rowOf X)) (to (gR c first a) (putL (gR c first a) (intOf (nth [pG, int64 k, ints f] 1)) (rowOf (nth [pG, int64 k, ints f] 2)) (fsOf (ob (gR c first a) (m + 1) a.cs))) (putF (rfOf (aggF (sR n c first a))) k (rowOf X)) (putE (gR c first a) (intOf (nth [pG, int64 k, ints f] 1)) (rowOf (nth [pG, int64 k, ints f] 2)) == putFE (rfOf (aggF (sR n c first a))) k (rowOf X))) else none else none) := by
    cases xs with
    | nil => exact ⟨[], nilL, by simp, Or.inr ⟨rfl, rfl⟩, fun to => rfl⟩
    | cons y ys =>
      have hy := hx.2 y List.mem_cons_self
      refine ⟨y, ints y, by omega, Or.inl rfl, fun to => ?_⟩
      have e0 : rowA (nth (fzC (rows (y :: ys))) (0 * 1)) = ints y := rfl
      unfold kt2
      rw [e0, h18, decide_eq_true (show ((fzL (rows (y :: ys)) : Nat) : Int) > 0 from by show ((ys.length + 1 : Nat) : Int) > 0; omega), cond_true]
      rfl
  obtain ⟨k1, k2, k3⟩ := key f X hf hX
  obtain ⟨e1, b, hb, e2, e3, e4⟩ := put_eq h hB k f
  refine ⟨b, hb.mono (Nat.le_add_right _ _), fun to => (hT to).trans ?_⟩
  have e5 : intOf (nth [pG, int64 k, ints f] 1) = k := rfl
  have e6 : rowOf (nth [pG, int64 k, ints f] 2) = f := rowOf_ints f
  rw [k2, k3, flG_eq, rfOf_agg, fsOf_obj, e5, e6, k1, e1, e4, ← e3, ← e2]
  simp only [beq_self_eq_true, cond_true, Bool.not_true, cond_false]
  exact ask_ok hb (by omega) _
end
end Go.Proofs.Ytokighfpmonjdaa
/- RingPlays: Write and Read do alike to both rings. -/
namespace Go.Proofs.Ytokighfpmonjdaa
open Go.Ev
set_option maxRecDepth 100000
set_option linter.unusedVariables false
section
variable {n c first B m : Nat} {a : Rs} {A : Type}
theorem see_gR (a : Rs) : seeG (gR c first a) = gR c first { a with se := a.R } := rfl
theorem look_gR (a : Rs) : lookG (gR c first a) = gR c first { a with lo := a.W } := rfl
theorem see_sR (a : Rs) : seeF (sR n c first a) = sR n c first { a with se := a.R } := rfl
theorem look_sR (a : Rs) : lookF (sR n c first a) = sR n c first { a with lo := a.W } := rfl
theorem room_see (h : IR n c first B a) : roomG a.cs.length (seeG (gR c first a)) = (n : Int) - ((a.W : Int) - a.R) := by
  have := room_G h.see
  rw [h.len, see_gR, this]
theorem room_seeF (h : IR n c first B a) (hB : B ≤ 100000000) : roomF (seeF (sR n c first a)) = (n : Int) - ((a.W : Int) - a.R) := by
  have := room_F h.see hB
  rw [see_sR, this]
theorem fill_look (h : IR n c first B a) : fillG (lookG (gR c first a)) = (a.W : Int) - a.R := by
  have := fill_G h.look
  rw [look_gR, this]
theorem fill_lookF (h : IR n c first B a) (hB : B ≤ 100000000) : fillF (lookF (sR n c first a)) = (a.W : Int) - a.R := by
  have := fill_F h.look hB
  rw [look_sR, this]
theorem puts_eq {g : Rg} {s : Rf} {W k : Nat} (hn : n ∣ 65536) (hf : first < 65536) (hW : W ≤ 100000000) (g1 : g.wo = ((first + W) % 65536 : Nat)) (g2 : g.wop = true) (g3 : g.wc = (k : Int)) (g4 : g.ch = c) (hk : k ≤ 65536) (s1 : s.fi = first) (s2 : s.w = W) (s3 : s.n = n) :
    ∀ (l : List (List Int)) (j : Nat) (cs : List (List Int)), j + l.length ≤ k → cs.length = n → (∀ y ∈ l, y.length = c ∧ badR y = false) → putW g j l cs = putsF s j l cs
  | [], _, _, _, _, _ => rfl
  | y :: l, j, cs, hj, hc, hy => by
    obtain ⟨y1, y2⟩ := hy y List.mem_cons_self
    have hj' : j + (l.length + 1) ≤ k := hj
    have e1 : putE g (j : Int) y = 0 := by
      unfold putE
      rw [if_neg (by rw [g4, y1, y2]; simp), g2, g3]
      unfold wErr
      rw [if_neg (by omega), if_neg (by simp), if_neg (by omega)]
    have e2 : (plcW g cs.length (j : Int)).toNat = (first + (W + j)) % n := by
      unfold plcW
      rw [hc, g1]
      exact plc_B (by omega) hn
    have e3 : (plW s (j : Int)).toNat = (first + (W + j)) % n := by
      unfold plW
      rw [s1, s2, s3]
      exact plc_F hf hW (by omega)
    show putW g (j + 1) l (putL g (j : Int) y cs) = putsF s (j + 1) l (cs.set (plW s (j : Int)).toNat y)
    unfold putL
    rw [if_pos e1, e2, e3]
    exact puts_eq hn hf hW g1 g2 g3 g4 hk s1 s2 s3 l (j + 1) _ (by omega) (by rw [List.length_set]; exact hc) fun z hz => hy z (List.mem_cons_of_mem _ hz)
theorem putsF_rows {s : Rf} : ∀ (l : List (List Int)) (j : Nat) (cs : List (List Int)), (∀ y ∈ l, y.length = c) → (∀ y ∈ cs, y.length = c) → ∀ y ∈ putsF s j l cs, y.length = c
  | [], _, _, _, h, y, hy => h y hy
  | z :: l, j, cs, hl, h, y, hy => by
    refine putsF_rows l (j + 1) _ (fun w hw => hl w (List.mem_cons_of_mem _ hw)) (fun w hw => ?_) y hy
    rcases List.mem_or_eq_of_mem_set hw with h1 | h1
    · exact h w h1
    · rw [h1]; exact hl z List.mem_cons_self
theorem wr_eq (h : IR n c first B a) (hB : B ≤ 10000000) (xs : List (List Int)) (hx : xs.length ≤ 1000000) : ∃ (b : Rs) (p e : Int), IR n c first (B + 1024) b ∧ wrS (gR c first a) a.cs xs = ((gR c first b, b.cs), p, e) ∧ wrF (sR n c first a) xs = (sR n c first b, p, e) := by
  have hn := h.hn
  have ho := h.ord
  have hc := h.cl
  have hb := h.bnd
  have h' := h.mono (Nat.le_add_right B 1024)
  unfold wrS wrF
  by_cases h1 : xs.any (badF (c : Int)) = true
  · rw [if_pos (show xs.any (badF (gR c first a).ch) = true from h1), if_pos (show xs.any (badF (sR n c first a).ch) = true from h1)]
    exact ⟨a, _, _, h', rfl, rfl⟩
  rw [if_neg (show ¬ xs.any (badF (gR c first a).ch) = true from h1), if_neg (show ¬ xs.any (badF (sR n c first a).ch) = true from h1)]
  by_cases h2 : a.cl ≥ 0
  · rw [if_pos (show (gR c first a).wop = true from decide_eq_true h2), if_pos (show (sR n c first a).cl ≥ 0 from h2)]
    exact ⟨a, _, _, h', rfl, rfl⟩
  have hop : ¬ (gR c first a).wop = true := by show ¬ decide (0 ≤ a.cl) = true; rw [decide_eq_true_eq]; exact h2
  rw [if_neg hop, if_neg (show ¬ (sR n c first a).cl ≥ 0 from h2)]
  have eG := room_see h
  have eF := room_seeF h (by omega)
  have eC : claimS a.cs.length (seeG (gR c first a)) (xs.length : Int) = (claimG a.cs.length (seeG (gR c first a)) (xs.length : Int), minI (xs.length : Int) ((n : Int) - ((a.W : Int) - a.R)), 0) := by
    unfold claimS
    rw [if_neg (by omega), if_neg (show ¬ (seeG (gR c first a)).wop = true from hop), eG]
  rw [eC, eF]
  obtain ⟨k, hk⟩ : ∃ k : Nat, minI (xs.length : Int) ((n : Int) - ((a.W : Int) - a.R)) = k := ⟨(minI (xs.length : Int) ((n : Int) - ((a.W : Int) - a.R))).toNat, by rw [minI_e]; omega⟩
  have hk2 : minI ((n : Int) - ((a.W : Int) - a.R)) (xs.length : Int) = k := by rw [minI_e] at hk ⊢; omega
  have hk3 : k ≤ xs.length ∧ (k : Int) ≤ (n : Int) - ((a.W : Int) - a.R) := by rw [minI_e] at hk; omega
  rw [hk, hk2]
  have hcl : a.cl = -1 := by omega
  have eg : claimG a.cs.length (seeG (gR c first a)) (xs.length : Int) = ⟨c, ((first + a.W) % 65536 : Nat), ((first + a.R) % 65536 : Nat), true, k, 0, ((first + a.R) % 65536 : Nat), ((first + a.lo) % 65536 : Nat), decide (0 ≤ a.ta), max 0 a.ta, 0⟩ := by
    unfold claimG
    rw [eG, hk]
    rfl
  rw [eg]
  generalize hg : (⟨c, ((first + a.W) % 65536 : Nat), ((first + a.R) % 65536 : Nat), true, k, 0, ((first + a.R) % 65536 : Nat), ((first + a.lo) % 65536 : Nat), decide (0 ≤ a.ta), max 0 a.ta, 0⟩ : Rg) = g2
  have hval : ∀ y ∈ xs.take k, y.length = c ∧ badR y = false := fun y hy => by
    have := List.any_eq_false.1 (by simpa using h1 : xs.any (badF (c : Int)) = false) y (List.mem_of_mem_take hy)
    unfold badF at this
    simp only [Bool.or_eq_true, Bool.not_eq_true', beq_eq_false_iff_ne, not_or] at this
    exact ⟨by omega, by cases q : badR y with | false => rfl | true => exact absurd q this.2⟩
  have ep : putW g2 0 (xs.take k) a.cs = putsF (seeF (sR n c first a)) 0 (xs.take k) a.cs := by
    refine puts_eq (k := k) (W := a.W) h.dvd h.fi (by omega) (by rw [← hg]) (by rw [← hg]) (by rw [← hg]) (by rw [← hg]) (by omega) rfl rfl rfl (xs.take k) 0 a.cs (by rw [List.length_take]; omega) h.len hval
  have ec : commS g2 (k : Int) = (commG g2 (k : Int), 0) := by
    unfold commS
    rw [if_neg (by omega), if_neg (by rw [← hg]; simp), if_neg (by rw [← hg]; show ¬ (k : Int) > (k : Int); omega)]
  have e0 : (k : Int).toNat = k := Int.toNat_natCast k
  refine ⟨{ a with W := a.W + k, se := a.R, cs := putsF (seeF (sR n c first a)) 0 (xs.take k) a.cs }, k, 0, ⟨h.dvd, h.hn, h.hc, h.fi, ?_, ?_, ?_, Or.inl hcl, h.ta, ?_⟩, ?_, ?_⟩
  · exact (putsF_len _ _ _ _).trans h.len
  · exact putsF_rows (xs.take k) 0 a.cs (fun y hy => (hval y hy).1) h.rows
  · show a.R ≤ a.R ∧ a.R ≤ a.lo ∧ a.lo ≤ a.W + k ∧ a.W + k ≤ a.R + n; omega
  · show a.W + k ≤ B + 1024; omega
  · have eo : (w64 ((g2).wo + (k : Int))).tmod 65536 = ((first + (a.W + k)) % 65536 : Nat) := by rw [← hg]; exact own_B (by omega)
    rw [e0, ep, ec]
    unfold commG
    rw [eo, ← hg]
    show ((_, _), _, _) = ((gR c first _, _), _, _)
    unfold gR
    simp only [hcl]
    rfl
  · have ew : w64 ((a.W : Int) + (k : Int)) = ((a.W + k : Nat) : Int) := by rw [w64_i (by omega)]; omega
    rw [e0]
    show ((⟨n, c, first, w64 ((a.W : Int) + (k : Int)), a.R, a.R, a.lo, a.cl, a.ta, putsF (seeF (sR n c first a)) 0 (xs.take k) a.cs⟩ : Rf), (k : Int), (0 : Int)) = _
    rw [ew]
    rfl
theorem rd_eq (h : IR n c first B a) (hB : B ≤ 10000000) (k : Int) : ∃ (b : Rs) (o : List (List Int)) (e : Int), IR n c first B b ∧ rdS (gR c first a) a.cs k = (gR c first b, o, e) ∧ rdF (sR n c first a) k = (sR n c first b, o, e) ∧ b.cs = a.cs ∧ Fit o := by
  have hM : maxLen = 9223372036854775807 := rfl
  have hn := h.hn
  have ho := h.ord
  have ht := h.ta
  have hb := h.bnd
  unfold rdS rdF
  by_cases h1 : k < 0
  · rw [if_pos h1, if_pos h1]; exact ⟨a, [], 7, h, rfl, rfl, rfl, Nat.zero_le _, by simp⟩
  rw [if_neg h1, if_neg h1]
  by_cases h2 : a.ta ≥ 0
  · rw [if_pos (show (gR c first a).rop = true from decide_eq_true h2), if_pos (show (sR n c first a).ta ≥ 0 from h2)]; exact ⟨a, [], 9, h, rfl, rfl, rfl, Nat.zero_le _, by simp⟩
  have hop : ¬ (gR c first a).rop = true := by show ¬ decide (0 ≤ a.ta) = true; rw [decide_eq_true_eq]; exact h2
  rw [if_neg hop, if_neg (show ¬ (sR n c first a).ta ≥ 0 from h2)]
  have eG := fill_look h
  have eF := fill_lookF h (by omega)
  obtain ⟨j, hj⟩ : ∃ j : Nat, minI k ((a.W : Int) - a.R) = j := ⟨(minI k ((a.W : Int) - a.R)).toNat, by rw [minI_e]; omega⟩
  have hj2 : (j : Int) ≤ (a.W : Int) - a.R := by rw [minI_e] at hj; omega
  have eT : takeS (lookG (gR c first a)) k = (takeG (lookG (gR c first a)) k, (j : Int), 0) := by
    unfold takeS
    rw [if_neg h1, if_neg (show ¬ (lookG (gR c first a)).rop = true from hop), eG, hj]
  rw [eT, eF, hj]
  have eg : takeG (lookG (gR c first a)) k = gR c first { a with lo := a.W, ta := (j : Int) } := by
    unfold takeG
    rw [eG, hj]
    unfold gR
    simp only [decide_eq_true (Int.natCast_nonneg j), show max 0 (j : Int) = j by omega]
    rfl
  have hT : IR n c first B { a with lo := a.W, ta := (j : Int) } := ⟨h.dvd, h.hn, h.hc, h.fi, h.len, h.rows, by show a.se ≤ a.R ∧ a.R ≤ a.W ∧ a.W ≤ a.W ∧ a.W ≤ a.se + n; omega, h.cl, Or.inr (by show 0 ≤ (j : Int) ∧ (a.R : Int) + (j : Int) ≤ a.W; omega), h.bnd⟩
  have ecm : doneS (gR c first { a with lo := a.W, ta := (j : Int) }) (j : Int) = (doneG (gR c first { a with lo := a.W, ta := (j : Int) }) (j : Int), 0) := by
    unfold doneS
    rw [if_neg (by omega), if_neg (show ¬ (gR c first { a with lo := a.W, ta := (j : Int) }).rop = false from by show ¬ decide (0 ≤ (j : Int)) = false; rw [decide_eq_true (Int.natCast_nonneg j)]; simp), if_neg (show ¬ (j : Int) > (gR c first { a with lo := a.W, ta := (j : Int) }).rc from by show ¬ (j : Int) > max 0 (j : Int); omega)]
  have e0 : (j : Int).toNat = j := Int.toNat_natCast j
  have e0' : (max 0 (j : Int)).toNat = j := by omega
  have eo : outR (gR c first { a with lo := a.W, ta := (j : Int) }) a.cs j = outF (lookF (sR n c first a)) j := by
    unfold outR outF
    refine List.map_congr_left fun i hi => ?_
    have hi : i < j := List.mem_range.1 hi
    obtain ⟨g1, g2, g3⟩ := get_eq hT hB (i : Int)
    have e1 : getEF (sR n c first { a with lo := a.W, ta := (j : Int) }) (i : Int) = 0 := by
      show (if (i : Int) < 0 then (7 : Int) else if (j : Int) < 0 then 9 else if (i : Int) ≥ (j : Int) then 7 else 0) = 0
      rw [if_neg (by omega), if_neg (by omega), if_neg (by omega)]
    refine g2.trans ?_
    unfold getRF
    rw [if_pos e1]
    rfl
  have hfit : Fit (outF (lookF (sR n c first a)) j) := by
    refine ⟨by rw [outF_len]; omega, fun f hf => ?_⟩
    unfold outF at hf
    obtain ⟨i, hi, rfl⟩ := List.mem_map.1 hf
    rcases Nat.lt_or_ge (rdP (lookF (sR n c first a)) (i : Int)).toNat a.cs.length with hl | hl
    · have : (lookF (sR n c first a)).cs.getD (rdP (lookF (sR n c first a)) (i : Int)).toNat [] = a.cs[(rdP (lookF (sR n c first a)) (i : Int)).toNat] := by
        show a.cs.getD _ [] = _
        simp [List.getD, hl]
      rw [this, h.rows _ (List.getElem_mem hl)]
      have := h.hc
      omega
    · have : (lookF (sR n c first a)).cs.getD (rdP (lookF (sR n c first a)) (i : Int)).toNat [] = [] := by
        show a.cs.getD _ [] = _
        simp [List.getD, hl]
      rw [this]
      simp
  refine ⟨{ a with R := a.R + j, lo := a.W, ta := -1 }, outF (lookF (sR n c first a)) j, 0, ⟨h.dvd, h.hn, h.hc, h.fi, h.len, h.rows, ?_, h.cl, Or.inl rfl, h.bnd⟩, ?_, ?_, rfl, hfit⟩
  · show a.se ≤ a.R + j ∧ a.R + j ≤ a.W ∧ a.W ≤ a.W ∧ a.W ≤ a.se + n; omega
  · have eow : (w64 ((gR c first { a with lo := a.W, ta := (j : Int) }).ro + (j : Int))).tmod 65536 = ((first + (a.R + j)) % 65536 : Nat) := own_B (by omega)
    rw [e0, eg, ecm, eo]
    unfold doneG
    rw [eow]
    rfl
  · have ew : w64 ((a.R : Int) + (j : Int)) = ((a.R + j : Nat) : Int) := by rw [w64_i (by omega)]; omega
    rw [e0']
    show ((⟨n, c, first, a.W, w64 ((a.R : Int) + (j : Int)), a.se, a.W, a.cl, a.ta, a.cs⟩ : Rf), outF (lookF (sR n c first a)) j, (0 : Int)) = _
    rw [ew]
    have hta : a.ta = -1 := by omega
    rw [hta]
    rfl
theorem fine_of {xs : List (List Int)} (hx : Small xs) : Fine xs := ⟨by have := hx.1; omega, fun f hf => by have := hx.2 f hf; omega⟩
theorem room_ok (h : IR n c first B a) : 0 ≤ roomG a.cs.length (seeG (gR c first a)) := by
  have hs := room_G h.see
  have ho := h.ord
  rw [h.len]
  show 0 ≤ roomG n (gR c first { a with se := a.R })
  rw [hs]
  show 0 ≤ (n : Int) - ((a.W : Int) - a.R)
  omega
theorem turn8 (h : IR n c first B a) (hB : B ≤ 10000000) (hm : m + 1 = n) (xs : List (List Int)) (hx : Small xs) (a15 : AV → List AV) (h15 : a15 (rows xs) = [pG, rows xs]) : Turn (A := A) n c first B fun to => kt8 m (gR c first a) a.cs (sR n c first a) to a15 (rows xs) := by
  obtain ⟨b, p, e, hb, e1, e2⟩ := wr_eq h hB xs (by have := hx.1; omega)
  have ho := h.ord
  have hbn := h.bnd
  have hn := h.hn
  have eF := room_seeF h (by omega)
  refine ⟨b, hb, fun to => ?_⟩
  show kt8 m (gR c first a) a.cs (sR n c first a) to a15 (rows xs) = _
  unfold kt8
  rw [h15, flG_eq, isSo_true ⟨_, _, _, rfl, by rw [h.len, hm], h.rg, room_ok h, fine_of hx⟩, isSo_true ⟨_, _, rfl, h.rf (by omega), by rw [eF]; omega, fine_of hx⟩, w15_eq, w62_eq, e1, e2]
  simp only [beq_self_eq_true, cond_true, Bool.not_true, cond_false]
  exact ask_ok hb (by omega) _
theorem turn9 (h : IR n c first B a) (hB : B ≤ 10000000) (hm : m + 1 = n) (k : Int) : Turn (A := A) n c first B fun to => kt9 m (gR c first a) a.cs (sR n c first a) to k := by
  obtain ⟨b, o, e, hb, e1, e2, e3, hfit⟩ := rd_eq h hB k
  have ho := h.ord
  have hn := h.hn
  have hbn := h.bnd
  have eF := fill_lookF h (by omega)
  refine ⟨b, hb.mono (Nat.le_add_right _ _), fun to => ?_⟩
  show kt9 m (gR c first a) a.cs (sR n c first a) to k = _
  unfold kt9
  rw [flG_eq, isSo_true ⟨_, _, _, rfl, by rw [h.len, hm], h.rg⟩, isSo_true ⟨_, _, rfl, h.rf (by omega), by rw [eF]; omega⟩, r20_eq, r63_eq, e1, e2, fsOf_obj, isSo_true ⟨_, _, rfl, rfl, hfit⟩, ← e3]
  simp only [beq_self_eq_true, cond_true, Bool.not_true, cond_false]
  exact ask_ok hb (by omega) _
theorem turn10 (h : IR n c first B a) (hB : B ≤ 10000000) (hm : m + 1 = n) (k : Int) : Turn (A := A) n c first B fun to => kt10 m (gR c first a) a.cs (sR n c first a) to k := by
  obtain ⟨b, o, e, hb, e1, e2, e3, hfit⟩ := rd_eq h hB k
  have ho := h.ord
  have hn := h.hn
  have hbn := h.bnd
  have eF := fill_lookF h (by omega)
  refine ⟨b, hb.mono (Nat.le_add_right _ _), fun to => ?_⟩
  show kt10 m (gR c first a) a.cs (sR n c first a) to k = _
  unfold kt10
  rw [flG_eq, isSo_true ⟨_, _, _, rfl, by rw [h.len, hm], h.rg⟩, isSo_true ⟨_, _, rfl, h.rf (by omega), by rw [eF]; omega⟩, r20_eq, r63_eq, e1, e2, fsOf_obj, ← e3]
  simp only [beq_self_eq_true, cond_true, Bool.not_true, cond_false]
  exact ask_ok hb (by omega) _
end
end Go.Proofs.Ytokighfpmonjdaa
