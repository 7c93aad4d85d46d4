/- Run of a unit, told of once for all; saws, pulses and triangles. -/
import Derived.Test.YthlmbnhelkbchaaUrD
namespace Go.Proofs.Ythlmbnhelkbchaa
open Go.Ev
set_option maxRecDepth 100000
theorem body_in {A X : Type} {n i r : Int} {o : Ob} {inp : (X → Option A) → Option A} {step : X → (Ob → Option A) → Option A} {tl : Ob → Option A} {ex : Option A} (hi : i < n) (x : X) (o' : Ob) (hx : ∀ f, inp f = f x) (hs : step x tl = tl o') :
    body n i r o inp step tl ex = tl (bif due r o.frame then o' else o) := by
  unfold body
  rw [decide_eq_true hi, cond_true, hx, dueT_eq, hs]
  cases due r o.frame <;> rfl
theorem body_out {A X : Type} {n i r : Int} {o : Ob} {inp : (X → Option A) → Option A} {step : X → (Ob → Option A) → Option A} {tl : Ob → Option A} {ex : Option A} (hi : ¬ i < n) : body n i r o inp step tl ex = ex := by
  unfold body
  rw [decide_eq_false hi, cond_false]
theorem ldI_get {A : Type} {xs : List Int} {i : Nat} (h : i < xs.length) (k : Int → Option A) : ldI xs (i : Int) k = k (xs.getD i 0) := by
  rw [ldI_eq h]
  simp [List.getD, h]
theorem rangeT_ok {A : Type} {n : Nat} (h : n ≤ 4096) (x y : Option A) : rangeT (n : Int) x y = y := by
  unfold rangeT
  rw [decide_eq_true (by omega : (n : Int) ≥ 0), decide_eq_true (by omega : (n : Int) ≤ 4096)]
  rfl
theorem sizeT_ok {A : Type} {n : Nat} (x y : Option A) : ∀ (ls : List (List Int)), (∀ l ∈ ls, l.length = n) → sizeT (n : Int) x y ls = y
  | [], _ => rfl
  | l :: ls, h => by
    unfold sizeT
    have e : ((l.length : Int) == (n : Int)) = true := by rw [h l List.mem_cons_self]; simp
    rw [e, sizeT_ok x y ls fun l' hl => h l' (List.mem_cons_of_mem _ hl)]
    rfl
/-- The equations of Run's run. -/
structure Runs (k r : Int) (ui ua : List Int) (ls : List (List Int)) (S : Orc) : Prop where
  g : ∀ (n i : Int) (o o' : Ob) (cs : List AV) (m : Nat), run19 (S71 k r ui ua n ls o (st71 k r ui ua n ls i o' (.gr (14, 0) (m + 1) 1) [(14, .cells true cs)]) S) k r ui ua o n ls =
    rangeT n (rU k r ui ua (errU 7) o) (sizeT n (rU k r ui ua (errU 11) o) (goT k r ui ua n ls o (guardK (allS (dropA cs 0) && true) (rU k r ui ua (.tup [.fz (fixLen ((m + 1) * 1) (dropA cs 0)) (m + 1) false 1, int64 0]) o'))) ls)
  n : ∀ (n i : Int) (o o' : Ob), run19 (S71 k r ui ua n ls o (st71 k r ui ua n ls i o' (.sl none 0 0 true 0) []) S) k r ui ua o n ls =
    rangeT n (rU k r ui ua (errU 7) o) (sizeT n (rU k r ui ua (errU 11) o) (goT k r ui ua n ls o (rU k r ui ua (errU 0) o')) ls)
/-- What Run tells, and what the unit is then. -/
theorem run_fact {k r : Int} {ui ua : List Int} {ls : List (List Int)} {S : Orc} {F : Nat → Ob → Ob} {inv : Ob → Prop} {n : Nat} (hS : Ok S) (R : Round k r ui ua ls S F inv n) (Q : Runs k r ui ua ls S) (hn : n ≤ 4096) (hl : ∀ l ∈ ls, l.length = n) {o : Ob} (hv : inv o) :
    OFact Try.prog tb scU 19 1 [] (argU n ls) (objU k r ui ua o) (.tup [ints (runO r F 0 n o).2, int64 0]) (objU2 k r ui ua (runO r F 0 n o).1) psU := by
  have go : ∀ {A : Type} (x : Option A), goT k r ui ua (n : Int) ls o x = x := fun x => by unfold goT; rw [sameSt_self]; rfl
  rcases Nat.eq_zero_or_pos n with rfl | h0
  · have h := loop71_nil R hv
    refine ⟨_, knowLG_ok tbOk (N := N71) (LFact.flatG hS h) hS (ep := e71) rfl norm71 count71, (Q.n ((0 : Nat) : Int) ((0 : Nat) : Int) o o).trans ?_⟩
    rw [rangeT_ok (by omega), sizeT_ok _ _ ls hl, go]
    rfl
  · have h := loop71_all R (by omega) hv h0
    obtain ⟨m, hm⟩ : ∃ m, (runO r F 0 n o).2.length = m + 1 := ⟨n - 1, by rw [runO_len]; omega⟩
    unfold so71 at h
    rw [hm] at h
    refine ⟨_, knowLG_ok tbOk (N := N71) (LFact.flatG hS h) hS (ep := e71) rfl norm71 count71, (Q.g n n o _ _ m).trans ?_⟩
    rw [rangeT_ok hn, sizeT_ok _ _ ls hl, go]
    have e := fix_ints (runO r F 0 n o).2
    rw [hm] at e
    have e2 : allS (dropA ((runO r F 0 n o).2.map int64) 0) = true := by rw [dropA_eq, List.drop_zero, allS_ints]
    rw [e, e2]
    unfold ints
    rw [hm]
    rfl
/-- Oscillators. -/
def F1 (xs : List Int) (i : Nat) (o : Ob) : Ob := oscO o (xs.getD i 0) (saw o.at')
def pul (p y : Int) : Int := if p < w64 (kM' y * 65536) then 8388607 else -8388607
def F2 (xs ys : List Int) (i : Nat) (o : Ob) : Ob := oscO o (xs.getD i 0) (pul o.at' (ys.getD i 0))
def tri (p : Int) : Int := if w64 (p.tdiv 128) ≥ 16777216 then snd (w64 (25165824 - w64 (p.tdiv 128))) else snd (w64 (w64 (p.tdiv 128) - 8388608))
def F3 (xs : List Int) (i : Nat) (o : Ob) : Ob := oscO o (xs.getD i 0) (tri o.at')
theorem step2_eq {A : Type} (o : Ob) (x y : Int) (tl : Ob → Option A) : step2 o x y tl = tl (oscO o x (pul o.at' y)) := by
  unfold step2 pul
  by_cases h : o.at' < w64 (kM' y * 65536)
  · rw [decide_eq_true h, if_pos h]; rfl
  · rw [decide_eq_false h, if_neg h]; rfl
theorem step3_eq {A : Type} (o : Ob) (x : Int) (tl : Ob → Option A) : step3 o x tl = tl (oscO o x (tri o.at')) := by
  unfold step3 tri
  by_cases h : w64 (o.at'.tdiv 128) ≥ 16777216
  · rw [decide_eq_true h, if_pos h]; rfl
  · rw [decide_eq_false h, if_neg h]; rfl
theorem round1' {r u0 : Int} {xs : List Int} {n : Nat} (hx : xs.length = n) : Round 1 r [u0] [] [xs] (OI orc0) (F1 xs) (fun _ => True) n where
  b i o K _ hi := (b71_1 r u0 n i o xs K).trans (body_in (by omega) _ (F1 xs i o) (fun f => ldI_get (by omega) f) rfl)
  g i o cs m K _ hi := (g71_1 r u0 n i o xs cs m K).trans (body_in (by omega) _ (F1 xs i o) (fun f => ldI_get (by omega) f) rfl)
  b' o K _ := (b71_1 r u0 n n o xs K).trans (body_out (by omega))
  g' o cs m K _ := (g71_1 r u0 n n o xs cs m K).trans (body_out (by omega))
  inv _ _ _ := trivial
theorem round2' {r u0 u1 : Int} {xs ys : List Int} {n : Nat} (hx : xs.length = n) (hy : ys.length = n) : Round 2 r [u0, u1] [] [xs, ys] (OI orc0) (F2 xs ys) (fun _ => True) n where
  b i o K _ hi := (b71_2 r u0 u1 n i o xs ys K).trans (body_in (by omega) (xs.getD i 0, ys.getD i 0) (F2 xs ys i o) (fun f => (ldI_get (by omega) _).trans (ldI_get (by omega) _)) (step2_eq _ _ _ _))
  g i o cs m K _ hi := (g71_2 r u0 u1 n i o xs ys cs m K).trans (body_in (by omega) (xs.getD i 0, ys.getD i 0) (F2 xs ys i o) (fun f => (ldI_get (by omega) _).trans (ldI_get (by omega) _)) (step2_eq _ _ _ _))
  b' o K _ := (b71_2 r u0 u1 n n o xs ys K).trans (body_out (by omega))
  g' o cs m K _ := (g71_2 r u0 u1 n n o xs ys cs m K).trans (body_out (by omega))
  inv _ _ _ := trivial
theorem round3' {r u0 : Int} {xs : List Int} {n : Nat} (hx : xs.length = n) : Round 3 r [u0] [] [xs] (OI orc0) (F3 xs) (fun _ => True) n where
  b i o K _ hi := (b71_3 r u0 n i o xs K).trans (body_in (by omega) _ (F3 xs i o) (fun f => ldI_get (by omega) f) (step3_eq _ _ _))
  g i o cs m K _ hi := (g71_3 r u0 n i o xs cs m K).trans (body_in (by omega) _ (F3 xs i o) (fun f => ldI_get (by omega) f) (step3_eq _ _ _))
  b' o K _ := (b71_3 r u0 n n o xs K).trans (body_out (by omega))
  g' o cs m K _ := (g71_3 r u0 n n o xs cs m K).trans (body_out (by omega))
  inv _ _ _ := trivial
theorem runs1 (r u0 : Int) (xs : List Int) : Runs 1 r [u0] [] [xs] (OI orc0) := ⟨fun n i o o' cs m => by kernel_rfl, fun n i o o' => by kernel_rfl⟩
theorem runs2 (r u0 u1 : Int) (xs ys : List Int) : Runs 2 r [u0, u1] [] [xs, ys] (OI orc0) := ⟨fun n i o o' cs m => by kernel_rfl, fun n i o o' => by kernel_rfl⟩
theorem runs3 (r u0 : Int) (xs : List Int) : Runs 3 r [u0] [] [xs] (OI orc0) := ⟨fun n i o o' cs m => by kernel_rfl, fun n i o o' => by kernel_rfl⟩
end Go.Proofs.Ythlmbnhelkbchaa
