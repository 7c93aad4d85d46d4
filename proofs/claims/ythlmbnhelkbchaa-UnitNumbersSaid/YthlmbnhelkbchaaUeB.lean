/- Envelopes: the plain law. -/
import Derived.Test.YthlmbnhelkbchaaUeA
namespace Go.Proofs.Ythlmbnhelkbchaa
open Go.Ev
set_option maxRecDepth 100000
/-- An envelope's states by its gates. -/
def envN (a d kp r : Int) (g : Nat → Bool) : Nat → EnvS
  | 0 => ⟨0, 0, 0, false⟩
  | i + 1 => envF a d kp r (g i) (envN a d kp r g i)
def outs (a d kp r : Int) (g : Nat → Bool) (n : Nat) : List Int := (List.range n).map fun i => (envN a d kp r g (i + 1)).lv
theorem outs_succ (a d kp r : Int) (g : Nat → Bool) (n : Nat) : outs a d kp r g (n + 1) = outs a d kp r g n ++ [(envN a d kp r g (n + 1)).lv] := by
  unfold outs
  rw [List.range_succ, List.map_append]
  rfl
theorem outs_len (a d kp r : Int) (g : Nat → Bool) (n : Nat) : (outs a d kp r g n).length = n := by simp [outs]
theorem outs_get (a d kp r : Int) (g : Nat → Bool) (n i : Nat) (h : i < (outs a d kp r g n).length) : (outs a d kp r g n)[i] = (envN a d kp r g (i + 1)).lv := by simp [outs]
theorem upI_eq {x n : Int} (h0 : 0 ≤ x) (h1 : x ≤ 65536) (h2 : 1 ≤ n) (h3 : n ≤ 1000000000) : upI x n = (x + n - 1) / n := by
  unfold upI w64
  have e1 : IntKind.i64.wrap (x + n) = x + n := by rw [IntKind.wrap_i64]; omega
  have e2 : IntKind.i64.wrap (x + n - 1) = x + n - 1 := by rw [IntKind.wrap_i64]; omega
  rw [e1, e2, Int.tdiv_eq_ediv_of_nonneg (by omega)]
  have a1 : 0 ≤ (x + n - 1) / n := Int.ediv_nonneg (by omega) (by omega)
  have a2 : (x + n - 1) / n ≤ x + n - 1 := Int.ediv_le_self _ (by omega)
  rw [IntKind.wrap_i64]
  omega
theorem upI_spec {x n : Int} (h0 : 0 ≤ x) (h1 : x ≤ 65536) (h2 : 1 ≤ n) (h3 : n ≤ 1000000000) : 0 ≤ upI x n ∧ upI x n ≤ 65536 ∧ x ≤ n * upI x n := by
  rw [upI_eq h0 h1 h2 h3]
  have a1 : 0 ≤ (x + n - 1) / n := Int.ediv_nonneg (by omega) (by omega)
  have a2 : x + n - 1 < n * ((x + n - 1) / n) + n := Int.lt_mul_ediv_self_add (by omega)
  have a3 : n * ((x + n - 1) / n) ≤ x + n - 1 := Int.mul_ediv_self_le (by omega)
  refine ⟨a1, ?_, by omega⟩
  generalize (x + n - 1) / n = q at *
  rcases Int.lt_or_le 65536 q with h | h
  · have := Int.mul_le_mul_of_nonneg_left (show 65537 ≤ q by omega) (show 0 ≤ n by omega)
    omega
  · exact h
variable {a d kp r : Int}
theorem envOk_iff : envOk a d kp r = true ↔ 1 ≤ a ∧ a ≤ 1000000000 ∧ 1 ≤ d ∧ d ≤ 1000000000 ∧ 0 ≤ kp ∧ kp ≤ 65536 ∧ 1 ≤ r ∧ r ≤ 1000000000 := by simp [envOk]
theorem minI_le (x y : Int) : minI x y = min x y := by unfold minI; omega
theorem maxI_le (x y : Int) : maxI x y = max x y := by unfold maxI; omega
/-- What holds while the gate is held. -/
def HInv (a d kp : Int) (i : Nat) (s : EnvS) : Prop :=
  s.g = true ∧ 0 ≤ s.lv ∧ s.lv ≤ 65536 ∧
  ((s.st = 1 ∧ s.lv = (i : Int) * upI 65536 a ∧ s.lv < 65536) ∨ (s.st = 2 ∧ kp ≤ s.lv ∧ ∃ j : Int, 1 ≤ j ∧ j ≤ a ∧ j ≤ (i : Int) ∧ s.lv = 65536 - ((i : Int) - j) * upI (65536 - kp) d) ∨ (s.st = 3 ∧ s.lv = kp))
theorem attack_inv (h : envOk a d kp r = true) (i : Nat) (s : EnvS) (hg : s.g = true) (hst : s.st = 1) (h0 : 0 ≤ s.lv) (hlv : s.lv = (i : Int) * upI 65536 a) (hlt : s.lv < 65536) : HInv a d kp (i + 1) (swF a d kp r s) := by
  obtain ⟨a1, a2, d1, d2, k1, k2, r1, r2⟩ := envOk_iff.1 h
  obtain ⟨u1, u2, u3⟩ := upI_spec (x := 65536) (n := a) (by omega) (by omega) a1 a2
  have e : w64 (s.lv + upI 65536 a) = s.lv + upI 65536 a := by unfold w64; rw [IntKind.wrap_i64]; omega
  have e2 : ((i + 1 : Nat) : Int) * upI 65536 a = s.lv + upI 65536 a := by
    rw [hlv, Int.natCast_add, Int.add_mul]; omega
  unfold swF
  rw [if_pos hst, e]
  by_cases hm : minI 65536 (s.lv + upI 65536 a) = 65536
  · rw [if_pos hm]
    refine ⟨hg, by simp only [hm]; omega, by simp only [hm]; omega, .inr (.inl ⟨rfl, by simp only [hm]; omega, (i : Int) + 1, by omega, ?_, by omega, ?_⟩)⟩
    · rcases Int.lt_or_le (i : Int) a with h' | h'
      · omega
      · have := Int.mul_le_mul_of_nonneg_right h' u1
        omega
    · simp only [hm]
      have : ((i + 1 : Nat) : Int) - ((i : Int) + 1) = 0 := by omega
      rw [this, Int.zero_mul]; rfl
  · rw [if_neg hm]
    have hm' : minI 65536 (s.lv + upI 65536 a) = s.lv + upI 65536 a ∧ s.lv + upI 65536 a < 65536 := by
      rw [minI_le] at hm ⊢; omega
    refine ⟨hg, by simp only [hm'.1]; omega, by simp only [hm'.1]; omega, .inl ⟨hst, by simp only [hm'.1, e2], by simp only [hm'.1]; omega⟩⟩
theorem held_step (h : envOk a d kp r = true) (i : Nat) (s : EnvS) (hi : HInv a d kp i s) : HInv a d kp (i + 1) (envF a d kp r true s) := by
  obtain ⟨a1, a2, d1, d2, k1, k2, r1, r2⟩ := envOk_iff.1 h
  obtain ⟨hg, h0, h1, hc⟩ := hi
  have e0 : envF a d kp r true s = swF a d kp r s := by
    unfold envF
    rw [if_neg (by rw [hg]; simp), if_neg (by simp)]
    congr 1
    cases s
    simp only at hg
    rw [hg]
  rw [e0]
  rcases hc with ⟨hst, hlv, hlt⟩ | ⟨hst, hk, j, j1, j2, j3, hlv⟩ | ⟨hst, hlv⟩
  · exact attack_inv h i s hg hst h0 hlv hlt
  · obtain ⟨v1, v2, v3⟩ := upI_spec (x := 65536 - kp) (n := d) (by omega) (by omega) d1 d2
    have ek : w64 (65536 - kp) = 65536 - kp := by unfold w64; rw [IntKind.wrap_i64]; omega
    have e : w64 (s.lv - upI (65536 - kp) d) = s.lv - upI (65536 - kp) d := by unfold w64; rw [IntKind.wrap_i64]; omega
    unfold swF
    rw [if_neg (by omega), if_pos hst, ek, e]
    by_cases hm : maxI kp (s.lv - upI (65536 - kp) d) = kp
    · rw [if_pos hm]
      exact ⟨hg, by simp only [hm]; omega, by simp only [hm]; omega, .inr (.inr ⟨rfl, hm⟩)⟩
    · rw [if_neg hm]
      have hm' : maxI kp (s.lv - upI (65536 - kp) d) = s.lv - upI (65536 - kp) d ∧ kp < s.lv - upI (65536 - kp) d := by
        rw [maxI_le] at hm ⊢; omega
      refine ⟨hg, by simp only [hm'.1]; omega, by simp only [hm'.1]; omega, .inr (.inl ⟨hst, by simp only [hm'.1]; omega, j, j1, j2, by omega, ?_⟩)⟩
      simp only [hm'.1]
      have : ((i + 1 : Nat) : Int) - j = ((i : Int) - j) + 1 := by omega
      rw [this, Int.add_mul]
      omega
  · unfold swF
    rw [if_neg (by omega), if_neg (by omega), if_pos hst]
    exact ⟨hg, k1, k2, .inr (.inr ⟨hst, rfl⟩)⟩
theorem held_inv (h : envOk a d kp r = true) {g : Nat → Bool} {held : Nat} (hg : ∀ i, i < held → g i = true) : ∀ i, i < held → HInv a d kp (i + 1) (envN a d kp r g (i + 1))
  | 0, hi => by
    show HInv a d kp 1 (envF a d kp r (g 0) ⟨0, 0, 0, false⟩)
    rw [hg 0 hi]
    unfold envF
    rw [if_pos ⟨rfl, rfl⟩]
    exact attack_inv h 0 ⟨1, 0, 0, true⟩ rfl rfl (Int.le_refl 0) (by simp) (by simp)
  | i + 1, hi => by
    show HInv a d kp (i + 2) (envF a d kp r (g (i + 1)) (envN a d kp r g (i + 1)))
    rw [hg (i + 1) hi]
    exact held_step h (i + 1) _ (held_inv h hg i (by omega))
theorem held_end (h : envOk a d kp r = true) {g : Nat → Bool} {held : Nat} (hg : ∀ i, i < held → g i = true) (i : Nat) (hi : i < held) (hl : a + d ≤ (i : Int)) : (envN a d kp r g (i + 1)).lv = kp := by
  obtain ⟨a1, a2, d1, d2, k1, k2, r1, r2⟩ := envOk_iff.1 h
  obtain ⟨_, h0, h1, hc⟩ := held_inv h hg i hi
  rcases hc with ⟨hst, hlv, hlt⟩ | ⟨hst, hk, j, j1, j2, j3, hlv⟩ | ⟨hst, hlv⟩
  · obtain ⟨u1, u2, u3⟩ := upI_spec (x := 65536) (n := a) (by omega) (by omega) a1 a2
    have := Int.mul_le_mul_of_nonneg_right (show a ≤ ((i + 1 : Nat) : Int) by omega) u1
    omega
  · obtain ⟨v1, v2, v3⟩ := upI_spec (x := 65536 - kp) (n := d) (by omega) (by omega) d1 d2
    have := Int.mul_le_mul_of_nonneg_right (show d ≤ ((i + 1 : Nat) : Int) - j by omega) v1
    omega
  · exact hlv
/-- What holds when the gate is let go. -/
theorem let_go (h : envOk a d kp r = true) {g : Nat → Bool} {held : Nat} (h0 : 0 < held) (hg : ∀ i, i < held → g i = true) (hz : ∀ i, held ≤ i → g i = false) : ∃ f, 0 ≤ f ∧ f ≤ 65536 ∧ ∀ k : Nat,
    envN a d kp r g (held + k + 1) = ⟨4, max 0 (f - ((k : Int) + 1) * upI f r), f, false⟩ := by
  obtain ⟨a1, a2, d1, d2, k1, k2, r1, r2⟩ := envOk_iff.1 h
  obtain ⟨m, rfl⟩ : ∃ m, held = m + 1 := ⟨held - 1, by omega⟩
  obtain ⟨hgt, f0, f1, _⟩ := held_inv h hg m (by omega)
  refine ⟨(envN a d kp r g (m + 1)).lv, f0, f1, fun k => ?_⟩
  obtain ⟨w1, w2, w3⟩ := upI_spec (x := (envN a d kp r g (m + 1)).lv) (n := r) f0 f1 r1 r2
  induction k with
  | zero =>
    show envF a d kp r (g (m + 1)) (envN a d kp r g (m + 1)) = _
    rw [hz (m + 1) (by omega)]
    generalize envN a d kp r g (m + 1) = s at *
    have e0 : envF a d kp r false s = swF a d kp r ⟨4, s.lv, s.lv, false⟩ := by
      unfold envF
      rw [if_neg (by simp), if_pos ⟨rfl, hgt⟩]
    rw [e0]
    unfold swF
    have e : w64 (s.lv - upI s.lv r) = s.lv - upI s.lv r := by unfold w64; rw [IntKind.wrap_i64]; omega
    rw [if_neg (by simp), if_neg (by simp), if_neg (by simp), if_pos rfl]
    simp only [e, maxI_le]
    rw [show ((0 : Nat) : Int) + 1 = 1 by omega, Int.one_mul]
  | succ k ih =>
    show envF a d kp r (g (m + 1 + k + 1)) (envN a d kp r g (m + 1 + k + 1)) = _
    rw [hz (m + 1 + k + 1) (by omega), ih]
    generalize envN a d kp r g (m + 1) = s at *
    have e3 : ((k + 1 : Nat) : Int) + 1 = ((k : Int) + 1) + 1 := by omega
    rw [e3, Int.add_mul ((k : Int) + 1) 1, Int.one_mul]
    have hn : 0 ≤ ((k : Int) + 1) * upI s.lv r := Int.mul_nonneg (by omega) w1
    generalize ((k : Int) + 1) * upI s.lv r = q at *
    have e0 : envF a d kp r false ⟨4, max 0 (s.lv - q), s.lv, false⟩ = swF a d kp r ⟨4, max 0 (s.lv - q), s.lv, false⟩ := by
      unfold envF
      rw [if_neg (by simp), if_neg (by simp)]
    rw [e0]
    unfold swF
    have e : w64 (max 0 (s.lv - q) - upI s.lv r) = max 0 (s.lv - q) - upI s.lv r := by unfold w64; rw [IntKind.wrap_i64]; omega
    rw [if_neg (by simp), if_neg (by simp), if_neg (by simp), if_pos rfl]
    simp only [e, maxI_le]
    have : max 0 (max 0 (s.lv - q) - upI s.lv r) = max 0 (s.lv - (q + upI s.lv r)) := by omega
    rw [this]
theorem let_go_end (h : envOk a d kp r = true) {g : Nat → Bool} {held : Nat} (h0 : 0 < held) (hg : ∀ i, i < held → g i = true) (hz : ∀ i, held ≤ i → g i = false) {k : Nat} (hk : r ≤ (k : Int)) : (envN a d kp r g (held + k + 1)).lv = 0 := by
  obtain ⟨a1, a2, d1, d2, k1, k2, r1, r2⟩ := envOk_iff.1 h
  obtain ⟨f, f0, f1, hf⟩ := let_go h h0 hg hz
  obtain ⟨w1, w2, w3⟩ := upI_spec (x := f) (n := r) f0 f1 r1 r2
  rw [hf k]
  have := Int.mul_le_mul_of_nonneg_right (show r ≤ (k : Int) + 1 by omega) w1
  simp only
  omega
theorem env_range (h : envOk a d kp r = true) {g : Nat → Bool} {held : Nat} (h0 : 0 < held) (hg : ∀ i, i < held → g i = true) (hz : ∀ i, held ≤ i → g i = false) (i : Nat) : 0 ≤ (envN a d kp r g (i + 1)).lv ∧ (envN a d kp r g (i + 1)).lv ≤ 65536 := by
  obtain ⟨a1, a2, d1, d2, k1, k2, r1, r2⟩ := envOk_iff.1 h
  rcases Nat.lt_or_ge i held with hi | hi
  · obtain ⟨_, x, y, _⟩ := held_inv h hg i hi
    exact ⟨x, y⟩
  · obtain ⟨f, f0, f1, hf⟩ := let_go h h0 hg hz
    obtain ⟨w1, w2, w3⟩ := upI_spec (x := f) (n := r) f0 f1 r1 r2
    have := hf (i - held)
    rw [show held + (i - held) + 1 = i + 1 by omega] at this
    rw [this]
    have hn : 0 ≤ (((i - held : Nat) : Int) + 1) * upI f r := Int.mul_nonneg (by omega) w1
    simp only
    omega
end Go.Proofs.Ythlmbnhelkbchaa
