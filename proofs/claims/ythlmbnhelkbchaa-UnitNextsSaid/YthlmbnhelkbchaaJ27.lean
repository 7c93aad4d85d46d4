/- UnitRuns: pieces are the whole (all kinds but a delay). -/
import Derived.Test.YthlmbnhelkbchaaJ26
import Derived.Test.YthlmbnhelkbchaaJ24
import Derived.Test.YthlmbnhelkbchaaJ21
namespace Go.Proofs.Ythlmbnhelkbchaa
open Go.Ev
set_option maxRecDepth 100000
theorem runO_split (r : Int) (F : Nat → Ob → Ob) : ∀ (a b i : Nat) (o : Ob), runO r F i (a + b) o = ((runO r F (i + a) b (runO r F i a o).1).1, (runO r F i a o).2 ++ (runO r F (i + a) b (runO r F i a o).1).2)
  | 0, b, i, o => by simp [runO]
  | a + 1, b, i, o => by
    have ih := runO_split r F a b (i + 1) (onO r F i o)
    rw [show a + 1 + b = (a + b) + 1 by omega]
    simp only [runO]
    rw [ih, show i + 1 + a = i + (a + 1) by omega]
    rfl
theorem runO_congr (r : Int) {F G : Nat → Ob → Ob} : ∀ (d i j : Nat) (o : Ob), (∀ q, q < d → F (i + q) = G (j + q)) → runO r F i d o = runO r G j d o
  | 0, _, _, _, _ => rfl
  | d + 1, i, j, o, h => by
    have h0 : F i = G j := h 0 (by omega)
    have e : onO r F i o = onO r G j o := by unfold onO; rw [h0]
    have ih := runO_congr r d (i + 1) (j + 1) (onO r G j o) (fun q hq => by
      have := h (q + 1) (by omega)
      rw [show i + (q + 1) = i + 1 + q by omega, show j + (q + 1) = j + 1 + q by omega] at this
      exact this)
    simp only [runO]
    rw [e, ih]
def cutL (xs : List Int) (a k : Nat) : List Int := (xs.drop a).take k
theorem cutV_eq {xs : List Int} {a k : Nat} (h : a + k ≤ xs.length) : cutV xs (a : Int) ((a + k : Nat) : Int) = ints (cutL xs a k) := by
  unfold cutV cutL
  rw [show (a : Int).toNat = a by omega, show ((a + k : Nat) : Int).toNat = a + k by omega, Nat.mul_one, Nat.mul_one, dropA_eq, takeA_eq, ← List.map_drop, ← List.map_take, show a + k - a = k by omega]
  unfold ints
  rw [List.length_take, List.length_drop, show min k (xs.length - a) = k by omega]
theorem cutT_eq {A : Type} {xs : List Int} {a k : Nat} (h : a + k ≤ xs.length) (x : Option A) : cutT xs (a : Int) ((a + k : Nat) : Int) x = x := by
  unfold cutT
  rw [show (a : Int).toNat = a by omega, show ((a + k : Nat) : Int).toNat = a + k by omega, decide_eq_true (Int.natCast_nonneg a), decide_eq_true (Int.natCast_nonneg (a + k)), Nat.ble_eq_true_of_le h, Nat.ble_eq_true_of_le (show a ≤ a + k by omega)]
  rfl
def cutsT {A : Type} (lo hi : Int) (x : Option A) : List (List Int) → Option A
  | [] => x
  | xs :: ls => cutT xs lo hi (cutsT lo hi x ls)
theorem cutsT_eq {A : Type} {a k : Nat} (x : Option A) : ∀ ls : List (List Int), (∀ l ∈ ls, a + k ≤ l.length) → cutsT (a : Int) ((a + k : Nat) : Int) x ls = x
  | [], _ => rfl
  | xs :: ls, h => by
    simp only [cutsT]
    rw [cutT_eq (h xs List.mem_cons_self), cutsT_eq x ls fun l hl => h l (List.mem_cons_of_mem _ hl)]
theorem lenT_some {A : Type} {fr at' n : Nat} {cuts : List Int} (ha : at' < fr) (hf : fr ≤ 4096) :
    ∃ kk : Nat, at' + kk ≤ fr ∧ (100 < n → kk = fr - at') ∧ ∀ f : Int → Option A, lenT' (fr : Int) cuts (at' : Int) (n : Int) f = f (kk : Int) := by
  have e1 : w64 ((fr : Int) - (at' : Int)) = ((fr - at' : Nat) : Int) := by unfold w64; rw [IntKind.wrap_i64]; omega
  have mn : ∀ k : Int, 0 ≤ k → ∃ kk : Nat, at' + kk ≤ fr ∧ minI k ((fr - at' : Nat) : Int) = (kk : Int) := fun k hk => by
    refine ⟨(minI k ((fr - at' : Nat) : Int)).toNat, ?_, ?_⟩ <;> (unfold minI; split <;> omega)
  have big : minI (fr : Int) ((fr - at' : Nat) : Int) = ((fr - at' : Nat) : Int) := by unfold minI; split <;> omega
  have step : ∀ k : Int, 0 ≤ k → ∃ kk : Nat, at' + kk ≤ fr ∧ (100 < n → kk = fr - at') ∧ ∀ f : Int → Option A, (bif decide ((n : Int) > 100) then f (minI (fr : Int) (w64 ((fr : Int) - (at' : Int)))) else f (minI k (w64 ((fr : Int) - (at' : Int))))) = f (kk : Int) := fun k hk => by
    rw [e1]
    by_cases h : n > 100
    · refine ⟨fr - at', by omega, fun _ => rfl, fun f => ?_⟩
      rw [decide_eq_true (by omega : (n : Int) > 100), big]
      rfl
    · obtain ⟨kk, h1, h2⟩ := mn k hk
      refine ⟨kk, h1, fun h' => absurd h' h, fun f => ?_⟩
      rw [decide_eq_false (by omega : ¬ (n : Int) > 100), h2]
      rfl
  have base : 0 ≤ w64 (1 + (at' : Int).tmod 90) := by
    rw [Int.tmod_eq_emod_of_nonneg (by omega)]
    unfold w64
    rw [IntKind.wrap_i64]
    omega
  by_cases h1 : n < cuts.length
  · by_cases h2 : cuts[n] ≥ 0
    · obtain ⟨kk, a, b, c⟩ := step (cuts[n].tmod 100) (by rw [Int.tmod_eq_emod_of_nonneg h2]; omega)
      refine ⟨kk, a, b, fun f => ?_⟩
      unfold lenT'
      simp only
      rw [decide_eq_true (by omega : (n : Int) < (cuts.length : Int)), cond_true, ldI_eq h1, decide_eq_true h2, cond_true, ldI_eq h1]
      exact c f
    · obtain ⟨kk, a, b, c⟩ := step _ base
      refine ⟨kk, a, b, fun f => ?_⟩
      unfold lenT'
      simp only
      rw [decide_eq_true (by omega : (n : Int) < (cuts.length : Int)), cond_true, ldI_eq h1, decide_eq_false h2, cond_false]
      exact c f
  · obtain ⟨kk, a, b, c⟩ := step _ base
    refine ⟨kk, a, b, fun f => ?_⟩
    unfold lenT'
    simp only
    rw [decide_eq_false (by omega : ¬ (n : Int) < (cuts.length : Int)), cond_false]
    exact c f
section
variable {k r rnd : Int} {ui ua : List Int} {m : Nat} {Fk : List (List Int) → Nat → Ob → Ob} {ls : List (List Int)} {fr : Nat} {cuts : List Int} {o1 : Ob} {en : Rs}
abbrev rfOf (r : Int) (Fk : List (List Int) → Nat → Ob → Ob) : RunF := fun ls n o => runO r (Fk ls) 0 n o
theorem rU_rf (k : Int) (ui ua : List Int) (n : Nat) (ls : List (List Int)) (o : Ob) : rU' (rfOf r Fk) (argU n ls) (objU k r ui ua o) = runO r (Fk ls) 0 n o := by
  unfold rU' rfOf
  show runO r (Fk (rowsOf (lists ls))) 0 (intOf (int64 (n : Int))).toNat o = _
  rw [rowsOf_lists]
  rfl
theorem round17 (hm : ls.length = m) (hl : ∀ l ∈ ls, l.length = fr) (hf : fr ≤ 4096)
    (hcut : ∀ a kk q, a + kk ≤ fr → q < kk → Fk (ls.map fun l => cutL l a kk) (0 + q) = Fk ls (a + q))
    (hb : ∀ (at' n : Int) (o : Ob) (K : Ex → St → Option (Ex × St)), loopB Try.prog (S17 k r ui ua m (rfOf r Fk) (stopAt 10 [34] orc0)) tb 10 17 22 (stR k r ui ua rnd fr ls cuts (runO r (Fk ls) 0 fr (ob0 rnd)).2 o1 en at' n o) K =
      bif decide (at' < (fr : Int)) then lenT' fr cuts at' n fun kk => cutsT at' (w64 (at' + kk)) (roundT k r ui ua m (rfOf r Fk) rnd fr ls cuts (runO r (Fk ls) 0 fr (ob0 rnd)).2 o1 en at' n o kk (ls.map fun xs => cutV xs at' (w64 (at' + kk))) K) ls else K (.exit 0) (stR k r ui ua rnd fr ls cuts (runO r (Fk ls) 0 fr (ob0 rnd)).2 o1 en at' n o))
    {at' n : Nat} (hlt : at' < fr) (hn : n ≤ 100000) : ∃ kk : Nat, at' + kk ≤ fr ∧ (100 < n → kk = fr - at') ∧ ∀ K : Ex → St → Option (Ex × St),
      loopB Try.prog (S17 k r ui ua m (rfOf r Fk) (stopAt 10 [34] orc0)) tb 10 17 22 (stR k r ui ua rnd fr ls cuts (runO r (Fk ls) 0 fr (ob0 rnd)).2 o1 en (at' : Int) (n : Int) (runO r (Fk ls) 0 at' (ob0 rnd)).1) K =
      K .normal (stR k r ui ua rnd fr ls cuts (runO r (Fk ls) 0 fr (ob0 rnd)).2 o1 en ((at' + kk : Nat) : Int) ((n + 1 : Nat) : Int) (runO r (Fk ls) 0 (at' + kk) (ob0 rnd)).1) := by
  obtain ⟨kk, h1, h2, h3⟩ := lenT_some (A := Ex × St) (n := n) (cuts := cuts) hlt hf
  refine ⟨kk, h1, h2, fun K => ?_⟩
  rw [hb, decide_eq_true (by omega : (at' : Int) < (fr : Int)), cond_true, h3]
  have ew : w64 ((at' : Int) + (kk : Int)) = ((at' + kk : Nat) : Int) := by unfold w64; rw [IntKind.wrap_i64]; omega
  have en1 : w64 ((n : Int) + 1) = ((n + 1 : Nat) : Int) := by unfold w64; rw [IntKind.wrap_i64]; omega
  have hlen : ∀ l ∈ ls, at' + kk ≤ l.length := fun l hl' => by rw [hl l hl']; exact h1
  rw [ew, cutsT_eq _ ls hlen]
  have hp : (ls.map fun xs => cutV xs (at' : Int) ((at' + kk : Nat) : Int)) = (ls.map fun l => cutL l at' kk).map ints := by
    rw [List.map_map]
    exact List.map_congr_left fun l hl' => cutV_eq (hlen l hl')
  have hargs : ([.ptr (some (0, 0)), int64 (kk : Int), .fz (ls.map fun xs => cutV xs (at' : Int) ((at' + kk : Nat) : Int)) m false 1] : List AV) = argU (kk : Nat) (ls.map fun l => cutL l at' kk) := by
    rw [hp]
    unfold argU lists
    rw [List.length_map, hm]
  have hrun : runO r (Fk (ls.map fun l => cutL l at' kk)) 0 kk (runO r (Fk ls) 0 at' (ob0 rnd)).1 = runO r (Fk ls) at' kk (runO r (Fk ls) 0 at' (ob0 rnd)).1 := runO_congr r kk 0 at' _ fun q hq => hcut at' kk q h1 hq
  have hsp := runO_split r (Fk ls) at' kk 0 (ob0 rnd)
  rw [Nat.zero_add] at hsp
  have hsp2 := runO_split r (Fk ls) (at' + kk) (fr - (at' + kk)) 0 (ob0 rnd)
  rw [show at' + kk + (fr - (at' + kk)) = fr by omega] at hsp2
  have hwant : cutL (runO r (Fk ls) 0 fr (ob0 rnd)).2 at' kk = (runO r (Fk ls) at' kk (runO r (Fk ls) 0 at' (ob0 rnd)).1).2 := by
    unfold cutL
    rw [hsp2, hsp]
    simp only
    rw [List.append_assoc, List.drop_append_of_le_length (by rw [runO_len]; omega), List.drop_eq_nil_of_le (by rw [runO_len]; omega), List.nil_append, List.take_append_of_le_length (by rw [runO_len]; omega), List.take_of_length_le (by rw [runO_len]; omega)]
  have hwl : at' + kk ≤ (runO r (Fk ls) 0 fr (ob0 rnd)).2.length := by rw [runO_len]; exact h1
  have hM : maxLen = 9223372036854775807 := rfl
  have hG : isSo (GU k r ui ua m (argU (kk : Nat) (ls.map fun l => cutL l at' kk)) (objU k r ui ua (runO r (Fk ls) 0 at' (ob0 rnd)).1)) = true := isSo_true ⟨kk, _, _, rfl, rfl, by rw [List.length_map, hm], fun x hx => by
    obtain ⟨l, hl', rfl⟩ := List.mem_map.1 hx
    unfold cutL
    rw [List.length_take, List.length_drop]
    have := hlen l hl'
    omega, by omega⟩
  have e1 : (runO r (Fk ls) at' kk (runO r (Fk ls) 0 at' (ob0 rnd)).1).1 = (runO r (Fk ls) 0 (at' + kk) (ob0 rnd)).1 := by rw [hsp]
  unfold roundT
  simp only
  rw [ew, hargs, rU_rf, hrun, isSo_true ⟨_, rfl, rfl⟩, hG, cutT_eq hwl, cutV_eq hwl, hwant, isSo_true ⟨_, _, rfl, by rw [runO_len]; omega⟩, en1, e1]
  simp only [cond_true, cond_false, decide_true, Bool.not_true, beq_self_eq_true]
end
end Go.Proofs.Ythlmbnhelkbchaa
/- UnitRuns, for a kind (but a delay): what is asked of a kind, and the law. -/
namespace Go.Proofs.Ythlmbnhelkbchaa
open Go.Ev
set_option maxRecDepth 100000
theorem pre10_true (u : AV) (ls : List (List Int)) (fr : Int) (cuts : List Int) : pre10 u ls fr cuts (some true) = some true := by
  unfold pre10
  rw [same_self, same_self]
  cases decide (fr > 500) <;> cases decide (fr ≤ 4096) <;> cases decide ((cuts.length : Int) > 30) <;> rfl
theorem SL10_ok {k r : Int} {xs ys : List Int} {ls : List (List Int)} {S : Orc} {b : Bool} (hb : longB xs ys ls = b) (hS : Ok S) : Ok (SL10 (unitV k r xs ys) ls b S) := by
  have := long_fact k r xs ys ls
  rw [hb] at this
  exact know_ok tbOk awake_fact (know_ok tbOk this hS)
structure KindU (k r : Int) (ui ua : List Int) (m : Nat) (rnd : Int) (Fk : List (List Int) → Nat → Ob → Ob) (Hk : List (List Int) → StepF) : Prop where
  new : OFact Try.prog tb scN 18 0 [] [unitV k r ui ua] [] (.tup [.ptr (some (11, 0)), int64 0]) [(11, .cells true (rawN k r ui ua rnd))] psN
  newR : FFact Try.prog tb 32 [unitV k r ui ua] (.tup [.agg (cellsR k r ui ua (rs0 rnd)), int64 0])
  bad : ∀ (n : Nat) (ls : List (List Int)), n ≤ 4096 → ¬ (ls.length = m ∧ ∀ l ∈ ls, l.length = n) → OFact Try.prog tb scU 19 1 [] (argU n ls) (objU k r ui ua (ob0 rnd)) (errU 11) (objU2 k r ui ua (ob0 rnd)) psU ∧ FFact Try.prog tb 34 (argR k r ui ua (rs0 rnd) n ls) (resR k r ui ua (rs0 rnd) (ints []) 11)
  rnI : ∀ (n : Nat) (ls : List (List Int)) (o : Ob), n ≤ 4096 → ls.length = m → (∀ l ∈ ls, l.length = n) → OFact Try.prog tb scU 19 1 [] (argU n ls) (objU k r ui ua o) (.tup [ints (runO r (Fk ls) 0 n o).2, int64 0]) (objU2 k r ui ua (runO r (Fk ls) 0 n o).1) psU
  rnR : ∀ (n : Nat) (ls : List (List Int)), n ≤ 500 → ls.length = m → (∀ l ∈ ls, l.length = n) → FFact Try.prog tb 34 (argR k r ui ua (rs0 rnd) n ls) (resR k r ui ua (runR r (Hk ls) 0 n (rs0 rnd)).1 (ints (runR r (Hk ls) 0 n (rs0 rnd)).2) 0)
  same : ∀ (n : Nat) (ls : List (List Int)), n ≤ 500 → ls.length = m → (∀ l ∈ ls, l.length = n) → (runO r (Fk ls) 0 n (ob0 rnd)).2 = (runR r (Hk ls) 0 n (rs0 rnd)).2 ∧ (runO r (Fk ls) 0 n (ob0 rnd)).1.frame = (runR r (Hk ls) 0 n (rs0 rnd)).1.frame ∧ (runO r (Fk ls) 0 n (ob0 rnd)).1.frame = (n : Int)
  cut : ∀ (ls : List (List Int)) (fr a kk q : Nat), ls.length = m → (∀ l ∈ ls, l.length = fr) → a + kk ≤ fr → q < kk → Fk (ls.map fun l => cutL l a kk) (0 + q) = Fk ls (a + q)
  loop : ∀ (fr : Int) (ls : List (List Int)) (cuts want : List Int) (o1 : Ob) (en : Rs) (at' n : Int) (o : Ob) (K : Ex → St → Option (Ex × St)), ls.length = m → loopB Try.prog (S17 k r ui ua m (rfOf r Fk) (stopAt 10 [34] orc0)) tb 10 17 22 (stR k r ui ua rnd fr ls cuts want o1 en at' n o) K =
      bif decide (at' < fr) then lenT' fr cuts at' n fun kk => cutsT at' (w64 (at' + kk)) (roundT k r ui ua m (rfOf r Fk) rnd fr ls cuts want o1 en at' n o kk (ls.map fun xs => cutV xs at' (w64 (at' + kk))) K) ls else K (.exit 0) (stR k r ui ua rnd fr ls cuts want o1 en at' n o)
  copy : ∀ o, OFact Try.prog tb scK 23 1 [] [.ptr (some (0, 0))] (objU k r ui ua o) (.ptr (some (1, 0))) [(0, .cells true (cellsU k r ui ua o)), (1, .cells true (cellsU k r ui ua o)), (0, .cells true (cellsU k r ui ua o))] psK
section
variable {k r rnd : Int} {ui ua : List Int} {m : Nat} {Fk : List (List Int) → Nat → Ob → Ob} {Hk : List (List Int) → StepF}
theorem S18y_ok (U : KindU k r ui ua m rnd Fk Hk) {S : Orc} (hS : Ok S) : Ok (S18y k r ui ua rnd S) := knowO_ok tbOk U.new (knowF_ok tbOk U.newR hS)
end
end Go.Proofs.Ythlmbnhelkbchaa
/- Run of a unit, and the document's, where frames or inputs do not fit. Printed by uwgen2.py. -/
namespace Go.Proofs.Ythlmbnhelkbchaa
open Go.Ev
set_option maxRecDepth 100000
theorem er7R (k r n : Int) (ui ua : List Int) (o : Rs) (ls : List (List Int)) : run34 (stopAt 34 [3] orc0) k r ui ua o n ls = rangeRT n (some (resR k r ui ua o (ints []) 7)) none := by kernel_rfl
theorem ar34 (k r n : Int) (ui ua : List Int) (o : Rs) (ls : List (List Int)) : vwArgs Try.prog [] none0 (parsOf Try.prog 34) (argR k r ui ua o n ls) = argR k r ui ua o n ls := by kernel_rfl
theorem ea_1 (r u0 n : Int) (o : Ob) (ls : List (List Int)) : run19 (stopAt 53 [0, 1, 2, 3] (OI orc0)) 1 r [u0] [] o n ls = rangeT n (rU 1 r [u0] [] (errU 7) o) (bif (ls.length : Int) == 1 then none else rU 1 r [u0] [] (errU 11) o) := by kernel_rfl
theorem eaR_1 (r u0 n : Int) (o : Rs) (ls : List (List Int)) : run34 (stopAt 34 [5] orc0) 1 r [u0] [] o n ls = rangeRT n (some (resR 1 r [u0] [] o (ints []) 7)) (bif !((ls.length : Int) == 1) then some (resR 1 r [u0] [] o (ints []) 11) else none) := by kernel_rfl
theorem eb_1 (r u0 n : Int) (o : Ob) (xs : List Int) : run19 (stopAt 19 [5] (OI orc0)) 1 r [u0] [] o n [xs] = rangeT n (rU 1 r [u0] [] (errU 7) o) (sizeT n (rU 1 r [u0] [] (errU 11) o) none [xs]) := by kernel_rfl
theorem ebR_1 (r u0 n : Int) (o : Rs) (xs : List Int) : run34 (stopAt 34 [10] orc0) 1 r [u0] [] o n [xs] = rangeRT n (some (resR 1 r [u0] [] o (ints []) 7)) (sizeRT n (some (resR 1 r [u0] [] o (ints []) 11)) none [xs]) := by kernel_rfl
theorem ea_2 (r u0 u1 n : Int) (o : Ob) (ls : List (List Int)) : run19 (stopAt 53 [0, 1, 2, 3] (OI orc0)) 2 r [u0, u1] [] o n ls = rangeT n (rU 2 r [u0, u1] [] (errU 7) o) (bif (ls.length : Int) == 2 then none else rU 2 r [u0, u1] [] (errU 11) o) := by kernel_rfl
theorem eaR_2 (r u0 u1 n : Int) (o : Rs) (ls : List (List Int)) : run34 (stopAt 34 [5] orc0) 2 r [u0, u1] [] o n ls = rangeRT n (some (resR 2 r [u0, u1] [] o (ints []) 7)) (bif !((ls.length : Int) == 2) then some (resR 2 r [u0, u1] [] o (ints []) 11) else none) := by kernel_rfl
theorem eb_2 (r u0 u1 n : Int) (o : Ob) (xs ys : List Int) : run19 (stopAt 19 [5] (OI orc0)) 2 r [u0, u1] [] o n [xs, ys] = rangeT n (rU 2 r [u0, u1] [] (errU 7) o) (sizeT n (rU 2 r [u0, u1] [] (errU 11) o) none [xs, ys]) := by kernel_rfl
theorem ebR_2 (r u0 u1 n : Int) (o : Rs) (xs ys : List Int) : run34 (stopAt 34 [10] orc0) 2 r [u0, u1] [] o n [xs, ys] = rangeRT n (some (resR 2 r [u0, u1] [] o (ints []) 7)) (sizeRT n (some (resR 2 r [u0, u1] [] o (ints []) 11)) none [xs, ys]) := by kernel_rfl
theorem ea_3 (r u0 n : Int) (o : Ob) (ls : List (List Int)) : run19 (stopAt 53 [0, 1, 2, 3] (OI orc0)) 3 r [u0] [] o n ls = rangeT n (rU 3 r [u0] [] (errU 7) o) (bif (ls.length : Int) == 1 then none else rU 3 r [u0] [] (errU 11) o) := by kernel_rfl
theorem eaR_3 (r u0 n : Int) (o : Rs) (ls : List (List Int)) : run34 (stopAt 34 [5] orc0) 3 r [u0] [] o n ls = rangeRT n (some (resR 3 r [u0] [] o (ints []) 7)) (bif !((ls.length : Int) == 1) then some (resR 3 r [u0] [] o (ints []) 11) else none) := by kernel_rfl
theorem eb_3 (r u0 n : Int) (o : Ob) (xs : List Int) : run19 (stopAt 19 [5] (OI orc0)) 3 r [u0] [] o n [xs] = rangeT n (rU 3 r [u0] [] (errU 7) o) (sizeT n (rU 3 r [u0] [] (errU 11) o) none [xs]) := by kernel_rfl
theorem ebR_3 (r u0 n : Int) (o : Rs) (xs : List Int) : run34 (stopAt 34 [10] orc0) 3 r [u0] [] o n [xs] = rangeRT n (some (resR 3 r [u0] [] o (ints []) 7)) (sizeRT n (some (resR 3 r [u0] [] o (ints []) 11)) none [xs]) := by kernel_rfl
theorem ea_4 (r y0 n : Int) (o : Ob) (ls : List (List Int)) : run19 (stopAt 53 [0, 1, 2, 3] (OI orc0)) 4 r [] [y0] o n ls = rangeT n (rU 4 r [] [y0] (errU 7) o) (bif (ls.length : Int) == 0 then none else rU 4 r [] [y0] (errU 11) o) := by kernel_rfl
theorem eaR_4 (r y0 n : Int) (o : Rs) (ls : List (List Int)) : run34 (stopAt 34 [5] orc0) 4 r [] [y0] o n ls = rangeRT n (some (resR 4 r [] [y0] o (ints []) 7)) (bif !((ls.length : Int) == 0) then some (resR 4 r [] [y0] o (ints []) 11) else none) := by kernel_rfl
theorem ea_5 (r y0 y1 y2 n : Int) (o : Ob) (ls : List (List Int)) : run19 (stopAt 53 [0, 1, 2, 3] (OI orc0)) 5 r [] [y0, y1, y2] o n ls = rangeT n (rU 5 r [] [y0, y1, y2] (errU 7) o) (bif (ls.length : Int) == 0 then none else rU 5 r [] [y0, y1, y2] (errU 11) o) := by kernel_rfl
theorem eaR_5 (r y0 y1 y2 n : Int) (o : Rs) (ls : List (List Int)) : run34 (stopAt 34 [5] orc0) 5 r [] [y0, y1, y2] o n ls = rangeRT n (some (resR 5 r [] [y0, y1, y2] o (ints []) 7)) (bif !((ls.length : Int) == 0) then some (resR 5 r [] [y0, y1, y2] o (ints []) 11) else none) := by kernel_rfl
theorem ea_6 (r u0 y0 y1 y2 y3 n : Int) (o : Ob) (ls : List (List Int)) : run19 (stopAt 53 [0, 1, 2, 3] (OI orc0)) 6 r [u0] [y0, y1, y2, y3] o n ls = rangeT n (rU 6 r [u0] [y0, y1, y2, y3] (errU 7) o) (bif (ls.length : Int) == 1 then none else rU 6 r [u0] [y0, y1, y2, y3] (errU 11) o) := by kernel_rfl
theorem eaR_6 (r u0 y0 y1 y2 y3 n : Int) (o : Rs) (ls : List (List Int)) : run34 (stopAt 34 [5] orc0) 6 r [u0] [y0, y1, y2, y3] o n ls = rangeRT n (some (resR 6 r [u0] [y0, y1, y2, y3] o (ints []) 7)) (bif !((ls.length : Int) == 1) then some (resR 6 r [u0] [y0, y1, y2, y3] o (ints []) 11) else none) := by kernel_rfl
theorem eb_6 (r u0 y0 y1 y2 y3 n : Int) (o : Ob) (xs : List Int) : run19 (stopAt 19 [5] (OI orc0)) 6 r [u0] [y0, y1, y2, y3] o n [xs] = rangeT n (rU 6 r [u0] [y0, y1, y2, y3] (errU 7) o) (sizeT n (rU 6 r [u0] [y0, y1, y2, y3] (errU 11) o) none [xs]) := by kernel_rfl
theorem ebR_6 (r u0 y0 y1 y2 y3 n : Int) (o : Rs) (xs : List Int) : run34 (stopAt 34 [10] orc0) 6 r [u0] [y0, y1, y2, y3] o n [xs] = rangeRT n (some (resR 6 r [u0] [y0, y1, y2, y3] o (ints []) 7)) (sizeRT n (some (resR 6 r [u0] [y0, y1, y2, y3] o (ints []) 11)) none [xs]) := by kernel_rfl
theorem ea_7 (r u0 u1 n : Int) (o : Ob) (ls : List (List Int)) : run19 (stopAt 53 [0, 1, 2, 3] (OI orc0)) 7 r [u0, u1] [] o n ls = rangeT n (rU 7 r [u0, u1] [] (errU 7) o) (bif (ls.length : Int) == 2 then none else rU 7 r [u0, u1] [] (errU 11) o) := by kernel_rfl
theorem eaR_7 (r u0 u1 n : Int) (o : Rs) (ls : List (List Int)) : run34 (stopAt 34 [5] orc0) 7 r [u0, u1] [] o n ls = rangeRT n (some (resR 7 r [u0, u1] [] o (ints []) 7)) (bif !((ls.length : Int) == 2) then some (resR 7 r [u0, u1] [] o (ints []) 11) else none) := by kernel_rfl
theorem eb_7 (r u0 u1 n : Int) (o : Ob) (xs ys : List Int) : run19 (stopAt 19 [5] (OI orc0)) 7 r [u0, u1] [] o n [xs, ys] = rangeT n (rU 7 r [u0, u1] [] (errU 7) o) (sizeT n (rU 7 r [u0, u1] [] (errU 11) o) none [xs, ys]) := by kernel_rfl
theorem ebR_7 (r u0 u1 n : Int) (o : Rs) (xs ys : List Int) : run34 (stopAt 34 [10] orc0) 7 r [u0, u1] [] o n [xs, ys] = rangeRT n (some (resR 7 r [u0, u1] [] o (ints []) 7)) (sizeRT n (some (resR 7 r [u0, u1] [] o (ints []) 11)) none [xs, ys]) := by kernel_rfl
theorem ea_8 (r u0 u1 n : Int) (o : Ob) (ls : List (List Int)) : run19 (stopAt 53 [0, 1, 2, 3] (OI orc0)) 8 r [u0, u1] [] o n ls = rangeT n (rU 8 r [u0, u1] [] (errU 7) o) (bif (ls.length : Int) == 2 then none else rU 8 r [u0, u1] [] (errU 11) o) := by kernel_rfl
theorem eaR_8 (r u0 u1 n : Int) (o : Rs) (ls : List (List Int)) : run34 (stopAt 34 [5] orc0) 8 r [u0, u1] [] o n ls = rangeRT n (some (resR 8 r [u0, u1] [] o (ints []) 7)) (bif !((ls.length : Int) == 2) then some (resR 8 r [u0, u1] [] o (ints []) 11) else none) := by kernel_rfl
theorem eb_8 (r u0 u1 n : Int) (o : Ob) (xs ys : List Int) : run19 (stopAt 19 [5] (OI orc0)) 8 r [u0, u1] [] o n [xs, ys] = rangeT n (rU 8 r [u0, u1] [] (errU 7) o) (sizeT n (rU 8 r [u0, u1] [] (errU 11) o) none [xs, ys]) := by kernel_rfl
theorem ebR_8 (r u0 u1 n : Int) (o : Rs) (xs ys : List Int) : run34 (stopAt 34 [10] orc0) 8 r [u0, u1] [] o n [xs, ys] = rangeRT n (some (resR 8 r [u0, u1] [] o (ints []) 7)) (sizeRT n (some (resR 8 r [u0, u1] [] o (ints []) 11)) none [xs, ys]) := by kernel_rfl
theorem ea_9 (r u0 u1 n : Int) (o : Ob) (ls : List (List Int)) : run19 (stopAt 53 [0, 1, 2, 3] (OI orc0)) 9 r [u0, u1] [] o n ls = rangeT n (rU 9 r [u0, u1] [] (errU 7) o) (bif (ls.length : Int) == 2 then none else rU 9 r [u0, u1] [] (errU 11) o) := by kernel_rfl
theorem eaR_9 (r u0 u1 n : Int) (o : Rs) (ls : List (List Int)) : run34 (stopAt 34 [5] orc0) 9 r [u0, u1] [] o n ls = rangeRT n (some (resR 9 r [u0, u1] [] o (ints []) 7)) (bif !((ls.length : Int) == 2) then some (resR 9 r [u0, u1] [] o (ints []) 11) else none) := by kernel_rfl
theorem eb_9 (r u0 u1 n : Int) (o : Ob) (xs ys : List Int) : run19 (stopAt 19 [5] (OI orc0)) 9 r [u0, u1] [] o n [xs, ys] = rangeT n (rU 9 r [u0, u1] [] (errU 7) o) (sizeT n (rU 9 r [u0, u1] [] (errU 11) o) none [xs, ys]) := by kernel_rfl
theorem ebR_9 (r u0 u1 n : Int) (o : Rs) (xs ys : List Int) : run34 (stopAt 34 [10] orc0) 9 r [u0, u1] [] o n [xs, ys] = rangeRT n (some (resR 9 r [u0, u1] [] o (ints []) 7)) (sizeRT n (some (resR 9 r [u0, u1] [] o (ints []) 11)) none [xs, ys]) := by kernel_rfl
theorem ea_10 (r u0 u1 n : Int) (o : Ob) (ls : List (List Int)) : run19 (stopAt 53 [0, 1, 2, 3] (OI orc0)) 10 r [u0, u1] [] o n ls = rangeT n (rU 10 r [u0, u1] [] (errU 7) o) (bif (ls.length : Int) == 2 then none else rU 10 r [u0, u1] [] (errU 11) o) := by kernel_rfl
theorem eaR_10 (r u0 u1 n : Int) (o : Rs) (ls : List (List Int)) : run34 (stopAt 34 [5] orc0) 10 r [u0, u1] [] o n ls = rangeRT n (some (resR 10 r [u0, u1] [] o (ints []) 7)) (bif !((ls.length : Int) == 2) then some (resR 10 r [u0, u1] [] o (ints []) 11) else none) := by kernel_rfl
theorem eb_10 (r u0 u1 n : Int) (o : Ob) (xs ys : List Int) : run19 (stopAt 19 [5] (OI orc0)) 10 r [u0, u1] [] o n [xs, ys] = rangeT n (rU 10 r [u0, u1] [] (errU 7) o) (sizeT n (rU 10 r [u0, u1] [] (errU 11) o) none [xs, ys]) := by kernel_rfl
theorem ebR_10 (r u0 u1 n : Int) (o : Rs) (xs ys : List Int) : run34 (stopAt 34 [10] orc0) 10 r [u0, u1] [] o n [xs, ys] = rangeRT n (some (resR 10 r [u0, u1] [] o (ints []) 7)) (sizeRT n (some (resR 10 r [u0, u1] [] o (ints []) 11)) none [xs, ys]) := by kernel_rfl
theorem ea_12 (r y0 n : Int) (o : Ob) (ls : List (List Int)) : run19 (stopAt 53 [0, 1, 2, 3] (OI orc0)) 12 r [] [y0] o n ls = rangeT n (rU 12 r [] [y0] (errU 7) o) (bif (ls.length : Int) == 1 then none else rU 12 r [] [y0] (errU 11) o) := by kernel_rfl
theorem eaR_12 (r y0 n : Int) (o : Rs) (ls : List (List Int)) : run34 (stopAt 34 [5] orc0) 12 r [] [y0] o n ls = rangeRT n (some (resR 12 r [] [y0] o (ints []) 7)) (bif !((ls.length : Int) == 1) then some (resR 12 r [] [y0] o (ints []) 11) else none) := by kernel_rfl
theorem eb_12 (r y0 n : Int) (o : Ob) (xs : List Int) : run19 (stopAt 19 [5] (OI orc0)) 12 r [] [y0] o n [xs] = rangeT n (rU 12 r [] [y0] (errU 7) o) (sizeT n (rU 12 r [] [y0] (errU 11) o) none [xs]) := by kernel_rfl
theorem ebR_12 (r y0 n : Int) (o : Rs) (xs : List Int) : run34 (stopAt 34 [10] orc0) 12 r [] [y0] o n [xs] = rangeRT n (some (resR 12 r [] [y0] o (ints []) 7)) (sizeRT n (some (resR 12 r [] [y0] o (ints []) 11)) none [xs]) := by kernel_rfl
theorem ea_13 (r u0 y0 n : Int) (o : Ob) (ls : List (List Int)) : run19 (stopAt 53 [0, 1, 2, 3] (OI orc0)) 13 r [u0] [y0] o n ls = rangeT n (rU 13 r [u0] [y0] (errU 7) o) (bif (ls.length : Int) == 1 then none else rU 13 r [u0] [y0] (errU 11) o) := by kernel_rfl
theorem eaR_13 (r u0 y0 n : Int) (o : Rs) (ls : List (List Int)) : run34 (stopAt 34 [5] orc0) 13 r [u0] [y0] o n ls = rangeRT n (some (resR 13 r [u0] [y0] o (ints []) 7)) (bif !((ls.length : Int) == 1) then some (resR 13 r [u0] [y0] o (ints []) 11) else none) := by kernel_rfl
theorem eb_13 (r u0 y0 n : Int) (o : Ob) (xs : List Int) : run19 (stopAt 19 [5] (OI orc0)) 13 r [u0] [y0] o n [xs] = rangeT n (rU 13 r [u0] [y0] (errU 7) o) (sizeT n (rU 13 r [u0] [y0] (errU 11) o) none [xs]) := by kernel_rfl
theorem ebR_13 (r u0 y0 n : Int) (o : Rs) (xs : List Int) : run34 (stopAt 34 [10] orc0) 13 r [u0] [y0] o n [xs] = rangeRT n (some (resR 13 r [u0] [y0] o (ints []) 7)) (sizeRT n (some (resR 13 r [u0] [y0] o (ints []) 11)) none [xs]) := by kernel_rfl
theorem ea_14 (r y0 n : Int) (o : Ob) (ls : List (List Int)) : run19 (stopAt 53 [0, 1, 2, 3] (OI orc0)) 14 r [] [y0] o n ls = rangeT n (rU 14 r [] [y0] (errU 7) o) (bif (ls.length : Int) == 1 then none else rU 14 r [] [y0] (errU 11) o) := by kernel_rfl
theorem eaR_14 (r y0 n : Int) (o : Rs) (ls : List (List Int)) : run34 (stopAt 34 [5] orc0) 14 r [] [y0] o n ls = rangeRT n (some (resR 14 r [] [y0] o (ints []) 7)) (bif !((ls.length : Int) == 1) then some (resR 14 r [] [y0] o (ints []) 11) else none) := by kernel_rfl
theorem eb_14 (r y0 n : Int) (o : Ob) (xs : List Int) : run19 (stopAt 19 [5] (OI orc0)) 14 r [] [y0] o n [xs] = rangeT n (rU 14 r [] [y0] (errU 7) o) (sizeT n (rU 14 r [] [y0] (errU 11) o) none [xs]) := by kernel_rfl
theorem ebR_14 (r y0 n : Int) (o : Rs) (xs : List Int) : run34 (stopAt 34 [10] orc0) 14 r [] [y0] o n [xs] = rangeRT n (some (resR 14 r [] [y0] o (ints []) 7)) (sizeRT n (some (resR 14 r [] [y0] o (ints []) 11)) none [xs]) := by kernel_rfl
theorem ea_15 (r y0 n : Int) (o : Ob) (ls : List (List Int)) : run19 (stopAt 53 [0, 1, 2, 3] (OI orc0)) 15 r [] [y0] o n ls = rangeT n (rU 15 r [] [y0] (errU 7) o) (bif (ls.length : Int) == 0 then none else rU 15 r [] [y0] (errU 11) o) := by kernel_rfl
theorem eaR_15 (r y0 n : Int) (o : Rs) (ls : List (List Int)) : run34 (stopAt 34 [5] orc0) 15 r [] [y0] o n ls = rangeRT n (some (resR 15 r [] [y0] o (ints []) 7)) (bif !((ls.length : Int) == 0) then some (resR 15 r [] [y0] o (ints []) 11) else none) := by kernel_rfl
end Go.Proofs.Ythlmbnhelkbchaa
