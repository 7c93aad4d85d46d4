/- RingPlays: the law. -/
import Derived.Test.YtokighfpmonjdaaJ25
import Derived.Test.YtokighfpmonjdaaJ26
import Derived.Test.YtokighfpmonjdaaJ27
import Derived.Test.YtokighfpmonjdaaJ28
import Derived.Test.YtokighfpmonjdaaJ29
namespace Go.Proofs.Ytokighfpmonjdaa
open Go.Ev
set_option maxRecDepth 100000
set_option linter.unusedVariables false
theorem a18x_eq (k : Int) (f : List Int) : a18x k (ints f) = [pG, int64 k, ints f] := by kernel_rfl
theorem a15w_eq (xs : List (List Int)) : a15w (rows xs) = [pG, rows xs] := by kernel_rfl
theorem a15x_eq (xs : List (List Int)) : a15x (rows xs) = [pG, rows xs] := by kernel_rfl
theorem actT_eq {A : Type} {l : List Act} {i : Nat} (h : i < l.length) (f : Int → Int → AV → Option A) : actT l (i : Int) f = f l[i].1 l[i].2.1 (rowA (rows l[i].2.2)) := by
  obtain ⟨a, b, c⟩ := flatAc_nth l i h
  unfold actT
  rw [show (i : Int).toNat = i by omega, show i * 3 + 1 + 1 = i * 3 + 2 by omega, a, b, c, flatAc_len, Nat.ble_eq_true_of_le (show i * 3 + 3 ≤ l.length * 3 by omega), decide_eq_true (Int.natCast_nonneg i), decide_eq_true (by omega : (i : Int) < (l.length : Int))]
  rfl
theorem kind_of (k : Int) : k = 0 ∨ k = 1 ∨ k = 2 ∨ k = 3 ∨ k = 4 ∨ k = 5 ∨ k = 6 ∨ k = 7 ∨ k = 8 ∨ k = 9 ∨ k = 10 ∨ k = 11 ∨ (∃ j : Nat, k = Int.ofNat (j + 12)) ∨ ∃ j : Nat, k = Int.negSucc j := by
  rcases k with k | k
  · by_cases h : k < 12
    · have : (Int.ofNat k) = (k : Int) := rfl
      omega
    · have : (∃ j : Nat, (Int.ofNat k) = Int.ofNat (j + 12)) := ⟨k - 12, by rw [Nat.sub_add_cancel (by omega)]⟩
      exact .inr (.inr (.inr (.inr (.inr (.inr (.inr (.inr (.inr (.inr (.inr (.inr (.inl this))))))))))))
  · have : ∃ j : Nat, (Int.negSucc k) = Int.negSucc j := ⟨k, rfl⟩
    exact .inr (.inr (.inr (.inr (.inr (.inr (.inr (.inr (.inr (.inr (.inr (.inr (.inr (this)))))))))))))
section
variable {n c first B m : Nat} {a : Rs} {A : Type}
theorem kt11_eq (h : IR n c first B a) (hBo : B ≤ 10000000) (hm : m + 1 = n) (cp : Option A) : kt11 m (gR c first a) a.cs (sR n c first a) cp = cp := by
  have hn := h.hn
  have hlim : limit = 140737488355328 := rfl
  have e1 : Nat.ble (m + 1) (m + 1) = true := Nat.ble_eq_true_of_le (Nat.le_refl _)
  have e2 : (Nat.ble ((0 + (m + 1)) * 24) limit && Nat.ble (0 + (m + 1)) limit) = true := by
    rw [Bool.and_eq_true]
    exact ⟨Nat.ble_eq_true_of_le (by omega), Nat.ble_eq_true_of_le (by omega)⟩
  have e3 : Nat.ble (0 + (m + 1) * 1) (lenA (rowsL a.cs)) = true := by
    rw [lenM, h.len]
    exact Nat.ble_eq_true_of_le (by omega)
  unfold kt11
  rw [e1, e2, e3, flG_eq, isSo_true ⟨_, _, [], rfl, by rw [h.len, hm], h.rg, room_ok h, Nat.zero_le _, by simp⟩]
  exact ask_ok h (by omega) _
theorem L9_eq (h : IR n c first B a) (hm : m + 1 = n) : L9 m a.cs = rowsL a.cs := by
  show takeA (dropA (a.cs.map ints) 0) ((m + 1) * 1) = a.cs.map ints
  rw [takeA_eq, dropA_eq, List.drop_zero, Nat.mul_one, List.take_of_length_le (by rw [List.length_map, h.len, hm]; exact Nat.le_refl _)]
theorem roundPB {l : List Act} {i : Nat} {s0 : Rf} {g0 : Rg} {fs0 : List (List Int)} (h : IR n c first B a) (hBo : B ≤ 10000000) (hm : m + 1 = n) (hi : i < l.length) (hl : l.length ≤ 100) (hS : Small l[i].2.2) :
    ∃ b, IR n c first (B + 1024) b ∧ ∀ K : Ex → St → Option A, BP SP (stPB l i s0 m g0 (rowsL fs0) (gR c first a) (m + 1) (rowsL a.cs) (sR n c first a) true) K = K .normal (stPB l ((i + 1 : Nat) : Int) s0 m g0 (rowsL fs0) (gR c first b) (m + 1) (rowsL b.cs) (sR n c first b) true) := by
  have cut : ∀ K : Ex → St → Option A, BP SP (stPB l i s0 m g0 (rowsL fs0) (gR c first a) (m + 1) (rowsL a.cs) (sR n c first a) true) K = CALL (stC l i (hB s0 m g0 (rowsL fs0) (gR c first a) (m + 1) (rowsL a.cs) (sR n c first a) true) l[i].1 l[i].2.1 (rowA (rows l[i].2.2))) (K18 K) := fun K => by
    refine (cut15 l i (hB s0 m g0 (rowsL fs0) (gR c first a) (m + 1) (rowsL a.cs) (sR n c first a) true) K).trans ?_
    rw [decide_eq_true (by omega : (i : Int) < (l.length : Int)), cond_true, actT_eq hi]
  have to_eq : ∀ (K : Ex → St → Option A) (b : Rs), toPB l i s0 m g0 fs0 K (gR c first b) b.cs (sR n c first b) true = K .normal (stPB l ((i + 1 : Nat) : Int) s0 m g0 (rowsL fs0) (gR c first b) (m + 1) (rowsL b.cs) (sR n c first b) true) := fun K b => by
    unfold toPB
    rw [allS_rows, allS_rows, w64_succ (by omega)]
    rfl
  have fin : ∀ x : (Rg → List (List Int) → Rf → Bool → Option A) → Option A, Turn n c first B x → (∀ K : Ex → St → Option A, CALL (stC l i (hB s0 m g0 (rowsL fs0) (gR c first a) (m + 1) (rowsL a.cs) (sR n c first a) true) l[i].1 l[i].2.1 (rowA (rows l[i].2.2))) (K18 K) = x (toPB l i s0 m g0 fs0 K)) →
      ∃ b, IR n c first (B + 1024) b ∧ ∀ K : Ex → St → Option A, BP SP (stPB l i s0 m g0 (rowsL fs0) (gR c first a) (m + 1) (rowsL a.cs) (sR n c first a) true) K = K .normal (stPB l ((i + 1 : Nat) : Int) s0 m g0 (rowsL fs0) (gR c first b) (m + 1) (rowsL b.cs) (sR n c first b) true) := fun x hx he => by
    obtain ⟨b, hb, ht⟩ := hx
    exact ⟨b, hb, fun K => (cut K).trans ((he K).trans ((ht _).trans (to_eq K b)))⟩
  have dft : ∀ (he : ∀ K : Ex → St → Option A, CALL (stC l i (hB s0 m g0 (rowsL fs0) (gR c first a) (m + 1) (rowsL a.cs) (sR n c first a) true) l[i].1 l[i].2.1 (rowA (rows l[i].2.2))) (K18 K) = askT (gR c first a) (sR n c first a) (toPB l i s0 m g0 fs0 K (gR c first a) a.cs (sR n c first a) true)),
      ∃ b, IR n c first (B + 1024) b ∧ ∀ K : Ex → St → Option A, BP SP (stPB l i s0 m g0 (rowsL fs0) (gR c first a) (m + 1) (rowsL a.cs) (sR n c first a) true) K = K .normal (stPB l ((i + 1 : Nat) : Int) s0 m g0 (rowsL fs0) (gR c first b) (m + 1) (rowsL b.cs) (sR n c first b) true) := fun he =>
    ⟨a, h.mono (Nat.le_add_right _ _), fun K => (cut K).trans ((he K).trans ((ask_ok h (by omega) _).trans (to_eq K a)))⟩
  rcases kind_of l[i].1 with k | k | k | k | k | k | k | k | k | k | k | k | ⟨j, k⟩ | ⟨j, k⟩
  · exact fin _ (turn0 h hBo hm) fun K => by rw [k]; exact tB0 l i s0 m g0 fs0 (gR c first a) a.cs (sR n c first a) _ _ K
  · exact fin _ (turn1 h hBo hm l[i].2.1) fun K => by rw [k]; exact tB1 l i s0 m g0 fs0 (gR c first a) a.cs (sR n c first a) _ _ K
  · exact fin _ (turn2 h hBo hm l[i].2.1 l[i].2.2 hS a18x a18x_eq) fun K => by rw [k]; exact tB2 l i s0 m g0 fs0 (gR c first a) a.cs (sR n c first a) _ _ K
  · exact fin _ (turn3 h hBo hm l[i].2.1) fun K => by rw [k]; exact tB3 l i s0 m g0 fs0 (gR c first a) a.cs (sR n c first a) _ _ K
  · exact fin _ (turn4 h hBo hm) fun K => by rw [k]; exact tB4 l i s0 m g0 fs0 (gR c first a) a.cs (sR n c first a) _ _ K
  · exact fin _ (turn5 h hBo hm l[i].2.1) fun K => by rw [k]; exact tB5 l i s0 m g0 fs0 (gR c first a) a.cs (sR n c first a) _ _ K
  · exact fin _ (turn6 h hBo hm l[i].2.1) fun K => by rw [k]; exact tB6 l i s0 m g0 fs0 (gR c first a) a.cs (sR n c first a) _ _ K
  · exact fin _ (turn7 h hBo hm l[i].2.1) fun K => by rw [k]; exact tB7 l i s0 m g0 fs0 (gR c first a) a.cs (sR n c first a) _ _ K
  · exact fin _ (turn8 h hBo hm l[i].2.2 hS a15x (a15x_eq _)) fun K => by rw [k]; exact tB8 l i s0 m g0 fs0 (gR c first a) a.cs (sR n c first a) _ _ K
  · exact fin _ (turn9 h hBo hm l[i].2.1) fun K => by rw [k]; exact tB9 l i s0 m g0 fs0 (gR c first a) a.cs (sR n c first a) _ _ K
  · exact fin _ (turn10 h hBo hm l[i].2.1) fun K => by rw [k]; exact tB10 l i s0 m g0 fs0 (gR c first a) a.cs (sR n c first a) _ _ K
  · refine ⟨a, h.mono (Nat.le_add_right _ _), fun K => (cut K).trans ?_⟩
    rw [k]
    refine (tB11 l i s0 m g0 fs0 (gR c first a) a.cs (sR n c first a) _ _ K).trans ((kt11_eq h hBo hm _).trans ?_)
    unfold cpB
    rw [L9_eq h hm, allS_rows, allS_rows, w64_succ (by omega), Nat.zero_add]
    rfl
  · exact dft fun K => by rw [k]; exact tBp l i s0 m g0 fs0 (gR c first a) a.cs (sR n c first a) _ _ j K
  · exact dft fun K => by rw [k]; exact tBn l i s0 m g0 fs0 (gR c first a) a.cs (sR n c first a) _ _ j K
theorem roundPA {l : List Act} {i : Nat} {s0 : Rf} (h : IR n c first B a) (hBo : B ≤ 10000000) (hm : m + 1 = n) (hi : i < l.length) (hl : l.length ≤ 100) (hS : Small l[i].2.2) :
    ∃ b, IR n c first (B + 1024) b ∧ ((∀ K : Ex → St → Option A, BP SP (stPA l i s0 m (gR c first a) (rowsL a.cs) (sR n c first a) true) K = K .normal (stPA l ((i + 1 : Nat) : Int) s0 m (gR c first b) (rowsL b.cs) (sR n c first b) true)) ∨
      ∃ g0 fs0, ∀ K : Ex → St → Option A, BP SP (stPA l i s0 m (gR c first a) (rowsL a.cs) (sR n c first a) true) K = K .normal (stPB l ((i + 1 : Nat) : Int) s0 m g0 (rowsL fs0) (gR c first b) (m + 1) (rowsL b.cs) (sR n c first b) true)) := by
  have cut : ∀ K : Ex → St → Option A, BP SP (stPA l i s0 m (gR c first a) (rowsL a.cs) (sR n c first a) true) K = CALL (stC l i (hA s0 m (gR c first a) (rowsL a.cs) (sR n c first a) true) l[i].1 l[i].2.1 (rowA (rows l[i].2.2))) (K18 K) := fun K => by
    refine (cut15 l i (hA s0 m (gR c first a) (rowsL a.cs) (sR n c first a) true) K).trans ?_
    rw [decide_eq_true (by omega : (i : Int) < (l.length : Int)), cond_true, actT_eq hi]
  have to_eq : ∀ (K : Ex → St → Option A) (b : Rs), toPA l i s0 m K (gR c first b) b.cs (sR n c first b) true = K .normal (stPA l ((i + 1 : Nat) : Int) s0 m (gR c first b) (rowsL b.cs) (sR n c first b) true) := fun K b => by
    unfold toPA
    rw [allS_rows, w64_succ (by omega)]
    rfl
  have fin : ∀ x : (Rg → List (List Int) → Rf → Bool → Option A) → Option A, Turn n c first B x → (∀ K : Ex → St → Option A, CALL (stC l i (hA s0 m (gR c first a) (rowsL a.cs) (sR n c first a) true) l[i].1 l[i].2.1 (rowA (rows l[i].2.2))) (K18 K) = x (toPA l i s0 m K)) →
      ∃ b, IR n c first (B + 1024) b ∧ ((∀ K : Ex → St → Option A, BP SP (stPA l i s0 m (gR c first a) (rowsL a.cs) (sR n c first a) true) K = K .normal (stPA l ((i + 1 : Nat) : Int) s0 m (gR c first b) (rowsL b.cs) (sR n c first b) true)) ∨
      ∃ g0 fs0, ∀ K : Ex → St → Option A, BP SP (stPA l i s0 m (gR c first a) (rowsL a.cs) (sR n c first a) true) K = K .normal (stPB l ((i + 1 : Nat) : Int) s0 m g0 (rowsL fs0) (gR c first b) (m + 1) (rowsL b.cs) (sR n c first b) true)) := fun x hx he => by
    obtain ⟨b, hb, ht⟩ := hx
    exact ⟨b, hb, Or.inl fun K => (cut K).trans ((he K).trans ((ht _).trans (to_eq K b)))⟩
  have dft : ∀ (he : ∀ K : Ex → St → Option A, CALL (stC l i (hA s0 m (gR c first a) (rowsL a.cs) (sR n c first a) true) l[i].1 l[i].2.1 (rowA (rows l[i].2.2))) (K18 K) = askT (gR c first a) (sR n c first a) (toPA l i s0 m K (gR c first a) a.cs (sR n c first a) true)),
      ∃ b, IR n c first (B + 1024) b ∧ ((∀ K : Ex → St → Option A, BP SP (stPA l i s0 m (gR c first a) (rowsL a.cs) (sR n c first a) true) K = K .normal (stPA l ((i + 1 : Nat) : Int) s0 m (gR c first b) (rowsL b.cs) (sR n c first b) true)) ∨
      ∃ g0 fs0, ∀ K : Ex → St → Option A, BP SP (stPA l i s0 m (gR c first a) (rowsL a.cs) (sR n c first a) true) K = K .normal (stPB l ((i + 1 : Nat) : Int) s0 m g0 (rowsL fs0) (gR c first b) (m + 1) (rowsL b.cs) (sR n c first b) true)) := fun he =>
    ⟨a, h.mono (Nat.le_add_right _ _), Or.inl fun K => (cut K).trans ((he K).trans ((ask_ok h (by omega) _).trans (to_eq K a)))⟩
  rcases kind_of l[i].1 with k | k | k | k | k | k | k | k | k | k | k | k | ⟨j, k⟩ | ⟨j, k⟩
  · exact fin _ (turn0 h hBo hm) fun K => by rw [k]; exact tA0 l i s0 m (gR c first a) a.cs (sR n c first a) _ _ K
  · exact fin _ (turn1 h hBo hm l[i].2.1) fun K => by rw [k]; exact tA1 l i s0 m (gR c first a) a.cs (sR n c first a) _ _ K
  · exact fin _ (turn2 h hBo hm l[i].2.1 l[i].2.2 hS a18w a18w_eq) fun K => by rw [k]; exact tA2 l i s0 m (gR c first a) a.cs (sR n c first a) _ _ K
  · exact fin _ (turn3 h hBo hm l[i].2.1) fun K => by rw [k]; exact tA3 l i s0 m (gR c first a) a.cs (sR n c first a) _ _ K
  · exact fin _ (turn4 h hBo hm) fun K => by rw [k]; exact tA4 l i s0 m (gR c first a) a.cs (sR n c first a) _ _ K
  · exact fin _ (turn5 h hBo hm l[i].2.1) fun K => by rw [k]; exact tA5 l i s0 m (gR c first a) a.cs (sR n c first a) _ _ K
  · exact fin _ (turn6 h hBo hm l[i].2.1) fun K => by rw [k]; exact tA6 l i s0 m (gR c first a) a.cs (sR n c first a) _ _ K
  · exact fin _ (turn7 h hBo hm l[i].2.1) fun K => by rw [k]; exact tA7 l i s0 m (gR c first a) a.cs (sR n c first a) _ _ K
  · exact fin _ (turn8 h hBo hm l[i].2.2 hS a15w (a15w_eq _)) fun K => by rw [k]; exact tA8 l i s0 m (gR c first a) a.cs (sR n c first a) _ _ K
  · exact fin _ (turn9 h hBo hm l[i].2.1) fun K => by rw [k]; exact tA9 l i s0 m (gR c first a) a.cs (sR n c first a) _ _ K
  · exact fin _ (turn10 h hBo hm l[i].2.1) fun K => by rw [k]; exact tA10 l i s0 m (gR c first a) a.cs (sR n c first a) _ _ K
  · refine ⟨a, h.mono (Nat.le_add_right _ _), Or.inr ⟨(wNil (gR c first a) m a.cs).1.1, (wNil (gR c first a) m a.cs).1.2, fun K => (cut K).trans ?_⟩⟩
    rw [k]
    refine (tA11 l i s0 m (gR c first a) a.cs (sR n c first a) _ _ K).trans ((kt11_eq h hBo hm _).trans ?_)
    unfold cpA
    rw [L9_eq h hm, allS_rows, allS_rows, w64_succ (by omega), Nat.zero_add]
    rfl
  · exact dft fun K => by rw [k]; exact tAp l i s0 m (gR c first a) a.cs (sR n c first a) _ _ j K
  · exact dft fun K => by rw [k]; exact tAn l i s0 m (gR c first a) a.cs (sR n c first a) _ _ j K
theorem loopPB {l : List Act} {s0 : Rf} {g0 : Rg} {fs0 : List (List Int)} (hm : m + 1 = n) (hl : l.length ≤ 100) (hS : ∀ x ∈ l, Small x.2.2) : ∀ (d i Q B : Nat) (a : Rs), i + d = l.length → d < Q → IR n c first B a → B + 1024 * d ≤ 10000000 →
    ∃ h1, loopN (BP SP) Q (stPB l i s0 m g0 (rowsL fs0) (gR c first a) (m + 1) (rowsL a.cs) (sR n c first a) true) pairE = some (.exit 0, ⟨tm5 l (l.length : Int) (repA .dead 102), h1, [], .off⟩) := by
  intro d
  induction d with
  | zero =>
    intro i Q B a hi hQ h hBo
    obtain ⟨Q, rfl⟩ : ∃ q, Q = q + 1 := ⟨Q - 1, by omega⟩
    have hi' : i = l.length := by omega
    subst hi'
    refine ⟨(stPB l l.length s0 m g0 (rowsL fs0) (gR c first a) (m + 1) (rowsL a.cs) (sR n c first a) true).h, ?_⟩
    rw [loopN_succ]
    refine (cut15 l l.length (hB s0 m g0 (rowsL fs0) (gR c first a) (m + 1) (rowsL a.cs) (sR n c first a) true) _).trans ?_
    rw [decide_eq_false (by omega : ¬ (l.length : Int) < (l.length : Int)), cond_false, leftB, allS_rows, allS_rows]
    rfl
  | succ d ih =>
    intro i Q B a hi hQ h hBo
    obtain ⟨Q, rfl⟩ : ∃ q, Q = q + 1 := ⟨Q - 1, by omega⟩
    have hlt : i < l.length := by omega
    obtain ⟨b, hb, hr⟩ := roundPB (A := Ex × St) (s0 := s0) (g0 := g0) (fs0 := fs0) h (by omega) hm hlt hl (hS _ (List.getElem_mem hlt))
    obtain ⟨h1, h2⟩ := ih (i + 1) Q (B + 1024) b (by omega) (by omega) hb (by omega)
    refine ⟨h1, ?_⟩
    rw [loopN_succ, hr]
    exact h2
theorem loopPA {l : List Act} {s0 : Rf} (hm : m + 1 = n) (hl : l.length ≤ 100) (hS : ∀ x ∈ l, Small x.2.2) : ∀ (d i Q B : Nat) (a : Rs), i + d = l.length → d < Q → IR n c first B a → B + 1024 * d ≤ 10000000 →
    ∃ h1, loopN (BP SP) Q (stPA l i s0 m (gR c first a) (rowsL a.cs) (sR n c first a) true) pairE = some (.exit 0, ⟨tm5 l (l.length : Int) (repA .dead 102), h1, [], .off⟩) := by
  intro d
  induction d with
  | zero =>
    intro i Q B a hi hQ h hBo
    obtain ⟨Q, rfl⟩ : ∃ q, Q = q + 1 := ⟨Q - 1, by omega⟩
    have hi' : i = l.length := by omega
    subst hi'
    refine ⟨(stPA l l.length s0 m (gR c first a) (rowsL a.cs) (sR n c first a) true).h, ?_⟩
    rw [loopN_succ]
    refine (cut15 l l.length (hA s0 m (gR c first a) (rowsL a.cs) (sR n c first a) true) _).trans ?_
    rw [decide_eq_false (by omega : ¬ (l.length : Int) < (l.length : Int)), cond_false, leftA, allS_rows]
    rfl
  | succ d ih =>
    intro i Q B a hi hQ h hBo
    obtain ⟨Q, rfl⟩ : ∃ q, Q = q + 1 := ⟨Q - 1, by omega⟩
    have hlt : i < l.length := by omega
    obtain ⟨b, hb, hr⟩ := roundPA (A := Ex × St) (s0 := s0) h (by omega) hm hlt hl (hS _ (List.getElem_mem hlt))
    rcases hr with hr | ⟨g0, fs0, hr⟩
    · obtain ⟨h1, h2⟩ := ih (i + 1) Q (B + 1024) b (by omega) (by omega) hb (by omega)
      refine ⟨h1, ?_⟩
      rw [loopN_succ, hr]
      exact h2
    · obtain ⟨h1, h2⟩ := loopPB (s0 := s0) (g0 := g0) (fs0 := fs0) hm hl hS d (i + 1) Q (B + 1024) b (by omega) (by omega) hb (by omega)
      refine ⟨h1, ?_⟩
      rw [loopN_succ, hr]
      exact h2
end
end Go.Proofs.Ytokighfpmonjdaa
/- RingPlays: the law holds. -/
namespace Go.Proofs.Ytokighfpmonjdaa
open Go.Ev
set_option maxRecDepth 100000
set_option linter.unusedVariables false
noncomputable abbrev run5 (S : Orc) (n ch fi : Int) (l : List Act) : Option Bool := evCall Try.prog S tb 100 Bool (.fn 5) [int64 n, int64 ch, int64 fi, acV l] ⟨fun _ => none, 0⟩ .off done
noncomputable def is12 (x : Option Bool) : Option Bool := bif same [] [] then x else none
theorem is12_eq (x : Option Bool) : is12 x = x := bif_t (same_self _)
noncomputable abbrev a28p (n ch first : Int) : List AV := [int64 n, int64 ch, int64 first]
noncomputable abbrev Q5 (l : List Act) (b : Bool) (S : Orc) : Orc := know 12 [] (.bool true) (know 27 [acV l] (.bool b) S)
noncomputable abbrev c27 (l : List Act) (x : Option Bool) : Option Bool := bif same [acV l] [acV l] then x else none
noncomputable abbrev c28p (n ch fi : Int) (x : Option Bool) : Option Bool := bif same (a28p n ch fi) (a28p n ch fi) then x else none
theorem run5_0 (n ch fi : Int) (l : List Act) (b : Bool) : run5 (Q5 l b (stopAt 5 [3] orc0)) n ch fi l = c27 l (bif !b then is12 (some true) else none) := by kernel_rfl
theorem run5_bad (n ch fi : Int) (l : List Act) : run5 (Q5 l true (SNo n ch fi (knowF 28 (a28p n ch fi) (.tup [aggF rfZ, int64 7]) orc0))) n ch fi l = c27 l (bif isSo (cd n ch fi) then c28p n ch fi (is12 (some true)) else none) := by kernel_rfl
theorem run5_ok (n ch fi : Int) (l : List Act) (m : Nat) (L : List AV) (s : Rf) (t0 : St) (i : Int) (h1 : Heap) : run5 (Q5 l true (SYes n ch fi (m + 1) L (knowF 28 (a28p n ch fi) (.tup [aggF s, int64 0]) (knowLG Try.prog 5 15 N15p ⟨[1, 9], [], []⟩ 4 t0 (.exit 0) ⟨tm5 l i (repA .dead 102), h1, [], .off⟩ orc0)))) n ch fi l =
    c27 l (bif isSo (cd n ch fi) then c28p n ch fi (guardK (allS L && true) <| bif sameSt (stPA l 0 s m (g0 ch fi) L s true) t0 then is12 (some true) else none) else none) := by kernel_rfl
theorem dvd_of {n : Nat} (h : szA n = true) : n ∣ 65536 ∧ 1 ≤ n ∧ n ≤ 1024 := by
  rw [sz_eq] at h
  unfold szB at h
  simp only [Bool.or_eq_true, beq_iff_eq] at h
  have : n = 1 ∨ n = 2 ∨ n = 4 ∨ n = 8 ∨ n = 16 ∨ n = 32 ∨ n = 64 ∨ n = 128 ∨ n = 256 ∨ n = 512 ∨ n = 1024 := by omega
  rcases this with rfl | rfl | rfl | rfl | rfl | rfl | rfl | rfl | rfl | rfl | rfl <;> decide
theorem nat_of {n ch first : Int} (h : okN n ch first = true) : ∃ a b c : Nat, n = a ∧ ch = b ∧ first = c := by
  unfold okN inW szA at h
  simp only [Bool.and_eq_true, decide_eq_true_eq, Bool.not_eq_true', decide_eq_false_iff_not] at h
  exact ⟨n.toNat, ch.toNat, first.toNat, by omega, by omega, by omega⟩
def rs0 (n c : Nat) : Rs := ⟨0, 0, 0, 0, -1, -1, zrs n c⟩
theorem ir0 {n c f : Nat} (h : okN n c f = true) : IR n c f 0 (rs0 n c) := by
  unfold okN inW at h
  simp only [Bool.and_eq_true, decide_eq_true_eq, Bool.not_eq_true', decide_eq_false_iff_not] at h
  obtain ⟨h1, h2, h3, h4⟩ := h
  obtain ⟨g1, g2, g3⟩ := dvd_of h1
  refine ⟨g1, ⟨g2, g3⟩, by omega, by omega, by simp [rs0], fun r hr => ?_, ⟨Nat.le_refl _, Nat.le_refl _, Nat.le_refl _, Nat.zero_le _⟩, Or.inl rfl, Or.inl rfl, Nat.le_refl _⟩
  have : r = zs c := List.eq_of_mem_replicate hr
  rw [this]
  simp
theorem gR0 {n c f : Nat} (hf : f < 65536) : gR c f (rs0 n c) = g0 c f := by
  have e : (f + 0) % 65536 = f := by omega
  unfold gR g0
  show (⟨c, ((f + 0) % 65536 : Nat), ((f + 0) % 65536 : Nat), false, 0, 0, ((f + 0) % 65536 : Nat), ((f + 0) % 65536 : Nat), false, 0, 0⟩ : Rg) = _
  rw [e]
theorem dVal_struct {H : Type} {P : Program} {t : TypeId} {l : List (Nat × TypeId)} (hl : structOf P t = some l) (k : Nat) (d : DataW H) : dVal P k t d = .agg (dCells P k t d) := by
  unfold structOf at hl
  split at hl
  · rename_i fs ht
    unfold dVal
    rw [ht]
  · cases hl
theorem act_cells {H : Type} {k : Nat} {d : DataW H} (h : WT Try.prog k 58 d) : ∃ t : Act, dCells Try.prog k 58 d = [int64 t.1, int64 t.2.1, rows t.2.2] ∧ True := by
  have hl : structOf Try.prog 58 = some [(0, 3), (1, 3), (2, 28)] := by kernel_rfl
  obtain ⟨k', ds, h1, h2, h3⟩ := WT.struct hl h
  rw [dVal_struct hl] at h3
  injection h3 with h3
  match ds, h1, h2, h3 with
  | [x, y, z], _, h2, h3 =>
    obtain ⟨a, ea, _⟩ := WT.int (j := .i64) (by kernel_rfl) (h2 0 (0, 3) x rfl rfl)
    obtain ⟨b, eb, _⟩ := WT.int (j := .i64) (by kernel_rfl) (h2 1 (1, 3) y rfl rfl)
    obtain ⟨c, ec, _⟩ := WT.rows (e := 33) (f := 3) (by kernel_rfl) (by kernel_rfl) (by kernel_rfl) (by kernel_rfl) (by kernel_rfl) (h2 2 (2, 28) z rfl rfl)
    refine ⟨(a, b, c), ?_, trivial⟩
    have hc : Try.prog.cellsOf 58 = 3 := by kernel_rfl
    rw [h3]
    simp only [List.zip_cons_cons, List.zip_nil_right, List.map_cons, List.map_nil]
    simp only at ea eb ec
    rw [ea, eb, ec, hc]
    rfl
theorem catA_acts : ∀ l : List Act, catA (l.map fun t => [int64 t.1, int64 t.2.1, rows t.2.2]) = flatAc l
  | [] => rfl
  | t :: l => by
    have := catA_acts l
    rw [List.map_cons]
    show appA [int64 t.1, int64 t.2.1, rows t.2.2] (catA _) = _
    rw [this]
    rfl
theorem acts_arg {H : Type} {k : Nat} {d : DataW H} (h : WT Try.prog k 46 d) : ∃ l : List Act, dVal Try.prog k 46 d = acV l := by
  have ht : Try.prog.underlying 46 = some (.slice 58) := by kernel_rfl
  obtain ⟨l, h1, h2, h3⟩ := WT.slice ht (fun t : Act => [int64 t.1, int64 t.2.1, rows t.2.2]) (fun _ => True) (fun k d h => act_cells h) h
  refine ⟨l, dVal_one ?_ (by simp [ht]) (by simp [ht])⟩
  have hc : Try.prog.cellsOf 58 = 3 := by kernel_rfl
  rw [h1, catA_acts, hc]
theorem law {H : Type} {k0 k1 k2 k3 : Nat} {d0 d1 d2 d3 : DataW H} (w0 : WT Try.prog k0 3 d0) (w1 : WT Try.prog k1 3 d1) (w2 : WT Try.prog k2 3 d2) (w3 : WT Try.prog k3 46 d3) :
    ∃ S, Ok S ∧ evCall Try.prog S tb 100 Bool (.fn 5) [dVal Try.prog k0 3 d0, dVal Try.prog k1 3 d1, dVal Try.prog k2 3 d2, dVal Try.prog k3 46 d3] ⟨fun _ => none, 0⟩ .off done = some true := by
  obtain ⟨n, e0, _⟩ := WT.vint (by kernel_rfl) w0
  obtain ⟨ch, e1, _⟩ := WT.vint (by kernel_rfl) w1
  obtain ⟨fi, e2, _⟩ := WT.vint (by kernel_rfl) w2
  obtain ⟨l, e3⟩ := acts_arg w3
  rw [e0, e1, e2, e3]
  have hr : rounds = 100000000000000000000 := rfl
  have hc27 : ∀ x : Option Bool, c27 l x = x := fun x => bif_t (same_self _)
  have hc28 : ∀ (n ch fi : Int) (x : Option Bool), c28p n ch fi x = x := fun n ch fi x => bif_t (same_self _)
  obtain ⟨b, hb, hA⟩ := acts_fact l
  cases b with
  | false =>
    refine ⟨_, know_ok tbOk awake_fact (know_ok tbOk hb (stopAt_ok ok0)), (run5_0 n ch fi l false).trans ?_⟩
    rw [hc27, is12_eq]
    rfl
  | true =>
    obtain ⟨hl, hS⟩ := hA rfl
    cases hN : okN n ch fi with
    | false =>
      refine ⟨_, know_ok tbOk awake_fact (know_ok tbOk hb (knowO_ok tbOk (new_bad hN) (knowF_ok tbOk (newF_bad hN) ok0))), (run5_bad n ch fi l).trans ?_⟩
      rw [hc27, hc28, is12_eq]
      exact bif_t (isSo_true ⟨rfl, rfl⟩)
    | true =>
      obtain ⟨a, c, f, rfl, rfl, rfl⟩ := nat_of hN
      have h0 := ir0 hN
      obtain ⟨m, rfl⟩ : ∃ m, a = m + 1 := ⟨a - 1, by have := h0.hn; omega⟩
      obtain ⟨h1, lp⟩ := loopPA (s0 := rf0 (m + 1) c f) (m := m) rfl hl hS l.length 0 rounds 0 (rs0 (m + 1) c) (by omega) (by omega) h0 (by omega)
      rw [gR0 h0.fi] at lp
      refine ⟨_, know_ok tbOk awake_fact (know_ok tbOk hb (knowO_ok tbOk (new_ok hN) (knowF_ok tbOk (newF_ok hN) (knowLG_ok (F := ⟨[1, 9], [], []⟩) tbOk (LFact.flatG (OP_ok (stopAt_ok ok0)) lp) ok0 (ep := e5) rfl norm15p count15p)))), (run5_ok ((m + 1 : Nat) : Int) c f l m (rowsL (zrs (m + 1) c)) (rf0 (m + 1) c f) _ _ _).trans ?_⟩
      rw [hc27, hc28, is12_eq, allS_rows]
      refine (bif_t (isSo_true ⟨rfl, rfl⟩)).trans ?_
      exact bif_t (sameSt_self _)
end Go.Proofs.Ytokighfpmonjdaa
