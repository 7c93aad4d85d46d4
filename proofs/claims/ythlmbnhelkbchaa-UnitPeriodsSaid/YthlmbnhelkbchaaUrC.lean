/- Run of a unit: its loop, whatever the kind. -/
import Derived.Test.YthlmbnhelkbchaaUrB
namespace Go.Proofs.Ythlmbnhelkbchaa
open Go.Ev
set_option maxRecDepth 100000
/-- Whether a number is told at a frame, by the rate. -/
def due (r fr : Int) : Bool := if r = 1 then decide (fr = 0) else if r = 2 then decide (fr.tmod 64 = 0) else true
theorem beq_dec (x y : Int) : (x == y) = decide (x = y) := by rw [Bool.eq_iff_iff]; simp
theorem dueT_eq {A : Type} (r fr : Int) (x y : Option A) : dueT r fr x y = bif due r fr then x else y := by
  unfold dueT due
  simp only [beq_dec]
  by_cases h1 : r = 1
  · rw [decide_eq_true h1, if_pos h1]; rfl
  rw [decide_eq_false h1, if_neg h1]
  by_cases h2 : r = 2
  · rw [decide_eq_true h2, if_pos h2]; rfl
  rw [decide_eq_false h2, if_neg h2]; rfl
/-- A round. -/
def onO (r : Int) (F : Nat → Ob → Ob) (i : Nat) (o : Ob) : Ob := fwd (bif due r o.frame then F i o else o)
/-- So many rounds, from one on. -/
def runO (r : Int) (F : Nat → Ob → Ob) : Nat → Nat → Ob → Ob × List Int
  | _, 0, o => (o, [])
  | i, d + 1, o => ((runO r F (i + 1) d (onO r F i o)).1, (onO r F i o).told :: (runO r F (i + 1) d (onO r F i o)).2)
theorem runO_len (r : Int) (F : Nat → Ob → Ob) : ∀ (d i : Nat) (o : Ob), (runO r F i d o).2.length = d
  | 0, _, _ => rfl
  | d + 1, i, o => by simp only [runO, List.length_cons, runO_len r F d]
theorem runO_inv {r : Int} {F : Nat → Ob → Ob} {inv : Ob → Prop} (hi : ∀ i o, inv o → inv (onO r F i o)) : ∀ (d i : Nat) (o : Ob), inv o → inv (runO r F i d o).1
  | 0, _, _, h => h
  | d + 1, i, o, h => runO_inv hi d (i + 1) _ (hi i o h)
theorem onO_told (r : Int) (F : Nat → Ob → Ob) (i : Nat) (o : Ob) : (onO r F i o).told = (bif due r o.frame then F i o else o).told := rfl
section
variable {k r : Int} {ui ua : List Int} {ls : List (List Int)} {S : Orc} {F : Nat → Ob → Ob} {inv : Ob → Prop} {n : Nat}
/-- A round of the loop is a round. -/
structure Round (k r : Int) (ui ua : List Int) (ls : List (List Int)) (S : Orc) (F : Nat → Ob → Ob) (inv : Ob → Prop) (n : Nat) : Prop where
  b : ∀ {A : Type} (i : Nat) (o : Ob) (K : Ex → St → Option A), inv o → i < n → B71 k r ui ua n ls i o S K = tail0 k r ui ua n ls i K (bif due r o.frame then F i o else o)
  g : ∀ {A : Type} (i : Nat) (o : Ob) (cs : List AV) (m : Nat) (K : Ex → St → Option A), inv o → i < n → G71 k r ui ua n ls i o cs m S K = tailG k r ui ua n ls i cs m K (bif due r o.frame then F i o else o)
  b' : ∀ {A : Type} (o : Ob) (K : Ex → St → Option A), inv o → B71 k r ui ua n ls n o S K = exit0 k r ui ua n ls n o K
  g' : ∀ {A : Type} (o : Ob) (cs : List AV) (m : Nat) (K : Ex → St → Option A), inv o → G71 k r ui ua n ls n o cs m S K = exitG k r ui ua n ls n o cs m K
  inv : ∀ i o, inv o → inv (onO r F i o)
noncomputable abbrev so71 (k r : Int) (ui ua : List Int) (n : Nat) (ls : List (List Int)) (i : Nat) (o : Ob) (os : List Int) : St := st71 k r ui ua n ls (i : Int) o (.gr (14, 0) os.length 1) [(14, .cells true (os.map int64))]
theorem loop71 (R : Round k r ui ua ls S F inv n) (hm : n ≤ 1000000) : ∀ (d i N : Nat) (o : Ob) (os : List Int), i + d = n → d < N → os.length = i → 0 < i → inv o →
    loopN (loopBG Try.prog S tb 71 1 ⟨[14], [], []⟩ 10) N (so71 k r ui ua n ls i o os) pairE = some (.exit 0, so71 k r ui ua n ls n (runO r F i d o).1 (os ++ (runO r F i d o).2)) := by
  intro d
  induction d with
  | zero =>
    intro i N o os hi hn ho h0 hv
    obtain ⟨N, rfl⟩ : ∃ m, N = m + 1 := ⟨N - 1, by omega⟩
    obtain ⟨m, hom⟩ : ∃ m, os.length = m + 1 := ⟨os.length - 1, by omega⟩
    have hi : i = n := by omega
    subst hi
    rw [loopN_succ]
    unfold so71
    rw [hom]
    refine (R.g' o _ m _ hv).trans ?_
    unfold exitG
    simp only [allS_ints, Bool.and_self, guardK, cond_true, runO, List.append_nil, hom]
    rfl
  | succ d ih =>
    intro i N o os hi hn ho h0 hv
    obtain ⟨N, rfl⟩ : ∃ m, N = m + 1 := ⟨N - 1, by omega⟩
    obtain ⟨m, hom⟩ : ∃ m, os.length = m + 1 := ⟨os.length - 1, by omega⟩
    have ih' := ih (i + 1) N (onO r F i o) (os ++ [(onO r F i o).told]) (by omega) (by omega) (by simp; omega) (by omega) (R.inv i o hv)
    rw [loopN_succ]
    unfold so71 at ih' ⊢
    rw [hom]
    refine (R.g i o _ m _ hv (by omega)).trans ?_
    unfold tailG
    rw [limit_ok (by omega), grow_ints hom, allS_ints, lenM, hom, show w64 ((i : Int) + 1) = ((i + 1 : Nat) : Int) from wrapN (by omega)]
    have e : Nat.ble (0 + (m + 1) * 1) (m + 1) = true := Nat.ble_eq_true_of_le (by omega)
    simp only [e, Bool.and_self, guardK, cond_true]
    have e2 : (os ++ [(onO r F i o).told]).length = m + 1 + 1 := by simp [hom]
    simp only [runO]
    rw [List.append_cons os (onO r F i o).told]
    rw [e2] at ih'
    exact ih'
theorem loop71_all (R : Round k r ui ua ls S F inv n) (hm : n ≤ 1000000) {o : Ob} (hv : inv o) (h0 : 0 < n) :
    loopN (loopBG Try.prog S tb 71 1 ⟨[14], [], []⟩ 10) rounds (st71 k r ui ua n ls 0 o (.sl none 0 0 true 0) []) pairE = some (.exit 0, so71 k r ui ua n ls n (runO r F 0 n o).1 (runO r F 0 n o).2) := by
  obtain ⟨N, hN⟩ : ∃ n, rounds = n + 1 := ⟨99999999999999999999, rfl⟩
  have hr : rounds = 100000000000000000000 := rfl
  obtain ⟨d, rfl⟩ : ∃ d, n = d + 1 := ⟨n - 1, by omega⟩
  have hl := loop71 R hm d 1 N (onO r F 0 o) [(onO r F 0 o).told] (by omega) (by omega) rfl (by omega) (R.inv 0 o hv)
  rw [hN, loopN_succ]
  exact (R.b 0 o _ hv h0).trans hl
theorem loop71_nil (R : Round k r ui ua ls S F inv 0) {o : Ob} (hv : inv o) :
    loopN (loopBG Try.prog S tb 71 1 ⟨[14], [], []⟩ 10) rounds (st71 k r ui ua (0 : Nat) ls 0 o (.sl none 0 0 true 0) []) pairE = some (.exit 0, st71 k r ui ua (0 : Nat) ls 0 o (.sl none 0 0 true 0) []) := by
  obtain ⟨N, hN⟩ : ∃ n, rounds = n + 1 := ⟨99999999999999999999, rfl⟩
  rw [hN, loopN_succ]
  exact (R.b' o _ hv).trans rfl
end
end Go.Proofs.Ythlmbnhelkbchaa
