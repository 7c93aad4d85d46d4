/- Run of a delay: its loop. -/
import Derived.Test.YthlmbnhelkbchaaJ21
import Derived.Test.YthlmbnhelkbchaaJ22
import Derived.Test.YthlmbnhelkbchaaEvZ3
import Derived.Test.YthlmbnhelkbchaaJ20
import Derived.Test.YthlmbnhelkbchaaJ17
namespace Go.Proofs.Ythlmbnhelkbchaa
open Go.Ev
set_option maxRecDepth 100000
/-- A delay: whether its list is its own since Run began; what it holds; its list. -/
structure Ds where
  own : Bool
  o : Ob
  L : List Int
def onD (r : Int) (xs : List Int) (i : Nat) (s : Ds) : Ds := bif due r s.o.frame then ⟨true, fwd (saidO s.o (s.L.getD 0 0)), s.L.drop 1 ++ [kM' (xs.getD i 0)]⟩ else ⟨s.own, fwd s.o, s.L⟩
def runD (r : Int) (xs : List Int) : Nat → Nat → Ds → Ds × List Int
  | _, 0, s => (s, [])
  | i, d + 1, s => ((runD r xs (i + 1) d (onD r xs i s)).1, (onD r xs i s).o.told :: (runD r xs (i + 1) d (onD r xs i s)).2)
theorem runD_len (r : Int) (xs : List Int) : ∀ (d i : Nat) (s : Ds), (runD r xs i d s).2.length = d
  | 0, _, _ => rfl
  | d + 1, i, s => by simp only [runD, List.length_cons, runD_len r xs d]
theorem onD_len {r : Int} {xs : List Int} {i N : Nat} {s : Ds} (hN : 1 ≤ N) (h : s.L.length = N) : (onD r xs i s).L.length = N := by
  unfold onD
  cases due r s.o.frame with
  | false => exact h
  | true =>
    show (s.L.drop 1 ++ [kM' (xs.getD i 0)]).length = N
    simp only [List.length_append, List.length_drop, List.length_cons, List.length_nil]
    omega
noncomputable def stD (own : Bool) (r u0 y0 : Int) (n : Int) (ls : List (List Int)) (i : Int) (o : Ob) (N : Nat) (L : List AV) (out : AV) (l : List (Nat × Blk)) : St := bif own then stC r u0 y0 n ls i o N L out l else stB r u0 y0 n ls i o N L out l
theorem ldA_eq {A : Type} {l : List Int} {i N : Nat} (hl : l.length = N) (h : i < N) (k : Int → Option A) : ldA (l.map int64) N (i : Int) k = k (l.getD i 0) := by
  have h1 : (i : Int) < (N : Int) := by omega
  have h3 : 0 + (i : Int).toNat * 1 = i := by omega
  have h5 : Nat.blt i l.length = true := Nat.ble_eq_true_of_le (by omega)
  unfold ldA
  simp only [h3, lenM, nthM int64 l i (by omega), decide_eq_true h1, decide_eq_true (Int.natCast_nonneg i), guardK, Bool.and_self, cond_true, h5, int64, intOf, isIntK, decide_true]
  simp [List.getD, show i < l.length by omega]
theorem newL_eq {L : List Int} {M : Nat} (h : L.length = M + 2) (x : Int) : newL (L.map int64) M x = (L.drop 1 ++ [kM' x]).map int64 := by
  unfold newL
  rw [takeA_eq, dropA_eq, appA_eq, ← List.map_drop, List.take_of_length_le (by simp; omega), List.map_append]
  rfl
theorem stepD_eq {A : Type} {L : List Int} {M : Nat} (h : L.length = M + 2) (hM : M ≤ 1000000) (o : Ob) (x : Int) (f : List AV → Ob → Option A) : stepD (L.map int64) M o x f = f ((L.drop 1 ++ [kM' x]).map int64) (saidO o (L.getD 0 0)) := by
  unfold stepD
  have e := ldA_eq (A := A) (i := 0) h (by omega)
  refine (e _).trans ?_
  rw [newL_eq h, lenM, h, limit_ok (by omega), Nat.ble_eq_true_of_le (Nat.le_refl (M + 2)), Nat.ble_eq_true_of_le (show 0 + 1 * 1 + (M + 1) * 1 ≤ M + 2 by omega)]
  rfl
theorem stepD1_eq {A : Type} {L : List Int} (h : L.length = 1) (o : Ob) (x : Int) (f : List AV → Ob → Option A) : stepD1 (L.map int64) o x f = f ((L.drop 1 ++ [kM' x]).map int64) (saidO o (L.getD 0 0)) := by
  unfold stepD1
  have e := ldA_eq (A := A) (i := 0) h (by omega)
  refine (e _).trans ?_
  obtain ⟨a, rfl⟩ : ∃ a, L = [a] := List.length_eq_one_iff.1 h
  rfl
section
variable {A : Type} {own : Bool} {r u0 y0 : Int} {xs L : List Int} {n i N : Nat} {o : Ob}
theorem d0 (hN : 1 ≤ N) (hN' : N ≤ 100000) (hL : L.length = N) (hxs : xs.length = n) (hi : i < n) (K : Ex → St → Option A) :
    D71 (stD own r u0 y0 n [xs] i o N (L.map int64) (.sl none 0 0 true 0) []) K = tD0 r u0 y0 n [xs] i N K (bif due r o.frame then true else own) ((bif due r o.frame then L.drop 1 ++ [kM' (xs.getD i 0)] else L).map int64) (bif due r o.frame then saidO o (L.getD 0 0) else o) := by
  unfold stD
  rcases Nat.lt_or_ge N 2 with h2 | h2
  · have : N = 1 := by omega
    subst this
    cases own with
    | false =>
      simp only [cond_false]
      rw [bB1]
      unfold bodyD
      rw [decide_eq_true (by omega : (i : Int) < (n : Int)), cond_true, ldI_get (by omega), dueT_eq]
      dsimp only
      rw [stepD1_eq hL]
      cases due r o.frame <;> rfl
    | true =>
      simp only [cond_true]
      rw [bC1]
      unfold bodyD
      rw [decide_eq_true (by omega : (i : Int) < (n : Int)), cond_true, ldI_get (by omega), dueT_eq]
      dsimp only
      rw [stepD1_eq hL]
      cases due r o.frame <;> rfl
  · obtain ⟨M, rfl⟩ : ∃ M, N = M + 2 := ⟨N - 2, by omega⟩
    cases own with
    | false =>
      simp only [cond_false]
      rw [bB0]
      unfold bodyD
      rw [decide_eq_true (by omega : (i : Int) < (n : Int)), cond_true, ldI_get (by omega), dueT_eq]
      dsimp only
      rw [stepD_eq hL (by omega)]
      cases due r o.frame <;> rfl
    | true =>
      simp only [cond_true]
      rw [bC0]
      unfold bodyD
      rw [decide_eq_true (by omega : (i : Int) < (n : Int)), cond_true, ldI_get (by omega), dueT_eq]
      dsimp only
      rw [stepD_eq hL (by omega)]
      cases due r o.frame <;> rfl
theorem dG (hN : 1 ≤ N) (hN' : N ≤ 100000) (hL : L.length = N) (hxs : xs.length = n) (hi : i < n) (cs : List AV) (m : Nat) (K : Ex → St → Option A) :
    D71 (stD own r u0 y0 n [xs] i o N (L.map int64) (.gr (16, 0) (m + 1) 1) [(16, .cells true cs)]) K = tDG r u0 y0 n [xs] i N cs m K (bif due r o.frame then true else own) ((bif due r o.frame then L.drop 1 ++ [kM' (xs.getD i 0)] else L).map int64) (bif due r o.frame then saidO o (L.getD 0 0) else o) := by
  unfold stD
  rcases Nat.lt_or_ge N 2 with h2 | h2
  · have : N = 1 := by omega
    subst this
    cases own with
    | false =>
      simp only [cond_false]
      rw [bB1G]
      unfold bodyD
      rw [decide_eq_true (by omega : (i : Int) < (n : Int)), cond_true, ldI_get (by omega), dueT_eq]
      dsimp only
      rw [stepD1_eq hL]
      cases due r o.frame <;> rfl
    | true =>
      simp only [cond_true]
      rw [bC1G]
      unfold bodyD
      rw [decide_eq_true (by omega : (i : Int) < (n : Int)), cond_true, ldI_get (by omega), dueT_eq]
      dsimp only
      rw [stepD1_eq hL]
      cases due r o.frame <;> rfl
  · obtain ⟨M, rfl⟩ : ∃ M, N = M + 2 := ⟨N - 2, by omega⟩
    cases own with
    | false =>
      simp only [cond_false]
      rw [bB0G]
      unfold bodyD
      rw [decide_eq_true (by omega : (i : Int) < (n : Int)), cond_true, ldI_get (by omega), dueT_eq]
      dsimp only
      rw [stepD_eq hL (by omega)]
      cases due r o.frame <;> rfl
    | true =>
      simp only [cond_true]
      rw [bC0G]
      unfold bodyD
      rw [decide_eq_true (by omega : (i : Int) < (n : Int)), cond_true, ldI_get (by omega), dueT_eq]
      dsimp only
      rw [stepD_eq hL (by omega)]
      cases due r o.frame <;> rfl
theorem dG' (hN : 1 ≤ N) (hL : L.length = N) (cs : List AV) (m : Nat) (K : Ex → St → Option A) :
    D71 (stD own r u0 y0 n [xs] n o N (L.map int64) (.gr (16, 0) (m + 1) 1) [(16, .cells true cs)]) K = exDG r u0 y0 n [xs] n N cs m K own (L.map int64) o := by
  unfold stD
  rcases Nat.lt_or_ge N 2 with h2 | h2
  · have : N = 1 := by omega
    subst this
    cases own with
    | false => simp only [cond_false]; rw [bB1G]; unfold bodyD; rw [decide_eq_false (by omega : ¬ (n : Int) < (n : Int)), cond_false]
    | true => simp only [cond_true]; rw [bC1G]; unfold bodyD; rw [decide_eq_false (by omega : ¬ (n : Int) < (n : Int)), cond_false]
  · obtain ⟨M, rfl⟩ : ∃ M, N = M + 2 := ⟨N - 2, by omega⟩
    cases own with
    | false => simp only [cond_false]; rw [bB0G]; unfold bodyD; rw [decide_eq_false (by omega : ¬ (n : Int) < (n : Int)), cond_false]
    | true => simp only [cond_true]; rw [bC0G]; unfold bodyD; rw [decide_eq_false (by omega : ¬ (n : Int) < (n : Int)), cond_false]
theorem d0' (hN : 1 ≤ N) (hL : L.length = N) (K : Ex → St → Option A) :
    D71 (stD own r u0 y0 n [xs] n o N (L.map int64) (.sl none 0 0 true 0) []) K = exD0 r u0 y0 n [xs] n N K own (L.map int64) o := by
  unfold stD
  rcases Nat.lt_or_ge N 2 with h2 | h2
  · have : N = 1 := by omega
    subst this
    cases own with
    | false => simp only [cond_false]; rw [bB1]; unfold bodyD; rw [decide_eq_false (by omega : ¬ (n : Int) < (n : Int)), cond_false]
    | true => simp only [cond_true]; rw [bC1]; unfold bodyD; rw [decide_eq_false (by omega : ¬ (n : Int) < (n : Int)), cond_false]
  · obtain ⟨M, rfl⟩ : ∃ M, N = M + 2 := ⟨N - 2, by omega⟩
    cases own with
    | false => simp only [cond_false]; rw [bB0]; unfold bodyD; rw [decide_eq_false (by omega : ¬ (n : Int) < (n : Int)), cond_false]
    | true => simp only [cond_true]; rw [bC0]; unfold bodyD; rw [decide_eq_false (by omega : ¬ (n : Int) < (n : Int)), cond_false]
end
section
variable {r u0 y0 : Int} {xs : List Int} {n N : Nat}
noncomputable abbrev soD (r u0 y0 : Int) (xs : List Int) (n N i : Nat) (s : Ds) (os : List Int) : St := stD s.own r u0 y0 n [xs] (i : Int) s.o N (s.L.map int64) (.gr (16, 0) os.length 1) [(16, .cells true (os.map int64))]
theorem loopD (hN : 1 ≤ N) (hN' : N ≤ 100000) (hxs : xs.length = n) (hm : n ≤ 1000000) : ∀ (d i Q : Nat) (s : Ds) (os : List Int), i + d = n → d < Q → os.length = i → 0 < i → s.L.length = N →
    loopN (loopBG Try.prog (OId orc0) tb 71 1 ⟨[16, 17, 1], [], []⟩ 12) Q (soD r u0 y0 xs n N i s os) pairE = some (.exit 0, soD r u0 y0 xs n N n (runD r xs i d s).1 (os ++ (runD r xs i d s).2)) := by
  intro d
  induction d with
  | zero =>
    intro i Q s os hi hn ho h0 hL
    obtain ⟨Q, rfl⟩ : ∃ m, Q = m + 1 := ⟨Q - 1, by omega⟩
    obtain ⟨m, hom⟩ : ∃ m, os.length = m + 1 := ⟨os.length - 1, by omega⟩
    have hi : i = n := by omega
    subst hi
    rw [loopN_succ]
    unfold soD
    rw [hom]
    refine (dG' hN hL _ m _).trans ?_
    unfold exDG
    simp only [allS_ints, Bool.and_self, Bool.cond_self, guardK, cond_true, runD, List.append_nil, hom]
    unfold stD
    rfl
  | succ d ih =>
    intro i Q s os hi hn ho h0 hL
    obtain ⟨Q, rfl⟩ : ∃ m, Q = m + 1 := ⟨Q - 1, by omega⟩
    obtain ⟨m, hom⟩ : ∃ m, os.length = m + 1 := ⟨os.length - 1, by omega⟩
    have ih' := ih (i + 1) Q (onD r xs i s) (os ++ [(onD r xs i s).o.told]) (by omega) (by omega) (by simp; omega) (by omega) (onD_len hN hL)
    rw [loopN_succ]
    unfold soD at ih' ⊢
    rw [hom]
    refine (dG hN hN' hL hxs (by omega) _ m _).trans ?_
    have ht : (bif due r s.o.frame then saidO s.o (s.L.getD 0 0) else s.o).told = (onD r xs i s).o.told := by unfold onD; cases due r s.o.frame <;> rfl
    have h1 : (bif due r s.o.frame then true else s.own) = (onD r xs i s).own := by unfold onD; cases due r s.o.frame <;> rfl
    have h2 : (bif due r s.o.frame then s.L.drop 1 ++ [kM' (xs.getD i 0)] else s.L) = (onD r xs i s).L := by unfold onD; cases due r s.o.frame <;> rfl
    have h3 : fwd (bif due r s.o.frame then saidO s.o (s.L.getD 0 0) else s.o) = (onD r xs i s).o := by unfold onD; cases due r s.o.frame <;> rfl
    unfold tDG
    rw [ht, h1, h2, h3, limit_ok (by omega), grow_ints hom, allS_ints, allS_ints, lenM, hom, show w64 ((i : Int) + 1) = ((i + 1 : Nat) : Int) from wrapN (by omega)]
    have e : Nat.ble (0 + (m + 1) * 1) (m + 1) = true := Nat.ble_eq_true_of_le (by omega)
    simp only [e, Bool.and_self, Bool.cond_self, guardK, cond_true]
    have e2 : (os ++ [(onD r xs i s).o.told]).length = m + 1 + 1 := by simp [hom]
    simp only [runD]
    rw [List.append_cons os (onD r xs i s).o.told (runD r xs (i + 1) d (onD r xs i s)).2]
    rw [e2] at ih'
    unfold stD at ih' ⊢
    exact ih'
theorem loopD_all (hN : 1 ≤ N) (hN' : N ≤ 100000) (hxs : xs.length = n) (hm : n ≤ 1000000) {s : Ds} (hL : s.L.length = N) (h0 : 0 < n) :
    loopN (loopBG Try.prog (OId orc0) tb 71 1 ⟨[16, 17, 1], [], []⟩ 12) rounds (stD s.own r u0 y0 n [xs] 0 s.o N (s.L.map int64) (.sl none 0 0 true 0) []) pairE = some (.exit 0, soD r u0 y0 xs n N n (runD r xs 0 n s).1 (runD r xs 0 n s).2) := by
  obtain ⟨Q, hQ⟩ : ∃ n, rounds = n + 1 := ⟨99999999999999999999, rfl⟩
  have hr : rounds = 100000000000000000000 := rfl
  obtain ⟨d, rfl⟩ : ∃ d, n = d + 1 := ⟨n - 1, by omega⟩
  have hl := loopD (r := r) (u0 := u0) (y0 := y0) hN hN' hxs hm d 1 Q (onD r xs 0 s) [(onD r xs 0 s).o.told] (by omega) (by omega) rfl (by omega) (onD_len hN hL)
  rw [hQ, loopN_succ]
  refine (d0 (i := 0) hN hN' hL hxs (by omega) _).trans ?_
  have ht : (bif due r s.o.frame then saidO s.o (s.L.getD 0 0) else s.o).told = (onD r xs 0 s).o.told := by unfold onD; cases due r s.o.frame <;> rfl
  have h1 : (bif due r s.o.frame then true else s.own) = (onD r xs 0 s).own := by unfold onD; cases due r s.o.frame <;> rfl
  have h2 : (bif due r s.o.frame then s.L.drop 1 ++ [kM' (xs.getD 0 0)] else s.L) = (onD r xs 0 s).L := by unfold onD; cases due r s.o.frame <;> rfl
  have h3 : fwd (bif due r s.o.frame then saidO s.o (s.L.getD 0 0) else s.o) = (onD r xs 0 s).o := by unfold onD; cases due r s.o.frame <;> rfl
  unfold tD0
  rw [ht, h1, h2, h3, allS_ints]
  simp only [Bool.and_self, Bool.cond_self, guardK, cond_true]
  unfold soD stD at hl
  unfold soD stD
  exact hl
theorem loopD_nil (hN : 1 ≤ N) {s : Ds} (hL : s.L.length = N) :
    loopN (loopBG Try.prog (OId orc0) tb 71 1 ⟨[16, 17, 1], [], []⟩ 12) rounds (stD s.own r u0 y0 (0 : Nat) [xs] (0 : Nat) s.o N (s.L.map int64) (.sl none 0 0 true 0) []) pairE = some (.exit 0, stD s.own r u0 y0 (0 : Nat) [xs] (0 : Nat) s.o N (s.L.map int64) (.sl none 0 0 true 0) []) := by
  obtain ⟨Q, hQ⟩ : ∃ n, rounds = n + 1 := ⟨99999999999999999999, rfl⟩
  rw [hQ, loopN_succ]
  refine (d0' hN hL _).trans ?_
  unfold exD0
  rw [allS_ints]
  unfold stD
  rfl
end
end Go.Proofs.Ythlmbnhelkbchaa
/- Run of a delay: what it tells, and what it holds then. -/
namespace Go.Proofs.Ythlmbnhelkbchaa
open Go.Ev
set_option maxRecDepth 100000
abbrev grabB (r u0 y0 : Int) (o : Ob) (N : Nat) (L : List AV) : List (Nat × Blk) := [(0, .cells true (cellsD r u0 y0 o (.gr (1, 0) N 1))), (1, .cells true L), (1, .cells true L), (0, .cells true (cellsD r u0 y0 o (.gr (1, 0) N 1)))]
abbrev grabC (r u0 y0 : Int) (o : Ob) (N : Nat) (L : List AV) : List (Nat × Blk) := [(0, .cells true (cellsD r u0 y0 o (.gr (17, 0) N 1))), (17, .cells true L), (0, .cells true (cellsD r u0 y0 o (.gr (17, 0) N 1)))]
noncomputable abbrev run19d (S : Orc) (r u0 y0 : Int) (o : Ob) (N : Nat) (L : List AV) (n : Int) (ls : List (List Int)) := evCall Try.prog S tb 100 ORes (.fn 19) (argU n ls) (mkHeap (objD r u0 y0 o N L) 2) .off (objK Try.prog scD 19 2 [1, 17] (argU n ls))
noncomputable def S71d (r u0 y0 : Int) (n : Int) (ls : List (List Int)) (o : Ob) (N : Nat) (L : List AV) (s1 : St) : Orc := knowLG Try.prog 71 1 N71 ⟨[16, 17, 1], [], []⟩ 12 (stB r u0 y0 n ls 0 o N L (.sl none 0 0 true 0) []) (.exit 0) s1 (OId orc0)
noncomputable def goD {A : Type} (r u0 y0 : Int) (n : Int) (ls : List (List Int)) (o : Ob) (N : Nat) (L : List AV) (good : Option A) : Option A := guardK (allS L && true) <| bif sameSt (stB r u0 y0 n ls 0 o N L (.sl none 0 0 true 0) []) (stB r u0 y0 n ls 0 o N L (.sl none 0 0 true 0) []) then good else none
noncomputable def inD (r u0 y0 : Int) (o : Ob) (N : Nat) (L : List AV) (x : Option ORes) : Option ORes := guardK (allS L && true && true) <| bif isSo (G52 [.ptr (some (0, 0))] (objD r u0 y0 o N L)) then x else none
noncomputable def errD (r u0 y0 : Int) (o : Ob) (N : Nat) (L : List AV) (e : Int) : Option ORes := guardK (allS L && (allS L && true) && true) (some ((errU e, grabB r u0 y0 o N L), psD 1))
theorem r19d_n (r u0 y0 n i : Int) (o o' : Ob) (xs : List Int) (N : Nat) (L L' : List AV) : run19d (S71d r u0 y0 n [xs] o N L (stB r u0 y0 n [xs] i o' N L' (.sl none 0 0 true 0) [])) r u0 y0 o N L n [xs] =
    rangeT n (errD r u0 y0 o N L 7) (inD r u0 y0 o N L <| sizeT n (errD r u0 y0 o N L 11) (goD r u0 y0 n [xs] o N L (errD r u0 y0 o' N L' 0)) [xs]) := by kernel_rfl
theorem r19d_B (r u0 y0 n i : Int) (o o' : Ob) (xs : List Int) (N : Nat) (L L' cs : List AV) (m : Nat) : run19d (S71d r u0 y0 n [xs] o N L (stB r u0 y0 n [xs] i o' N L' (.gr (16, 0) (m + 1) 1) [(16, .cells true cs)])) r u0 y0 o N L n [xs] =
    rangeT n (errD r u0 y0 o N L 7) (inD r u0 y0 o N L <| sizeT n (errD r u0 y0 o N L 11) (goD r u0 y0 n [xs] o N L (guardK (allS L' && (allS L' && true) && (allS (dropA cs 0) && true)) (some ((.tup [.fz (fixLen ((m + 1) * 1) (dropA cs 0)) (m + 1) false 1, int64 0], grabB r u0 y0 o' N L'), psD 1)))) [xs]) := by kernel_rfl
theorem r19d_C (r u0 y0 n i : Int) (o o' : Ob) (xs : List Int) (N : Nat) (L L' cs : List AV) (m : Nat) : run19d (S71d r u0 y0 n [xs] o N L (stC r u0 y0 n [xs] i o' N L' (.gr (16, 0) (m + 1) 1) [(16, .cells true cs)])) r u0 y0 o N L n [xs] =
    rangeT n (errD r u0 y0 o N L 7) (inD r u0 y0 o N L <| sizeT n (errD r u0 y0 o N L 11) (goD r u0 y0 n [xs] o N L (guardK (allS L' && true && (allS (dropA cs 0) && true)) (some ((.tup [.fz (fixLen ((m + 1) * 1) (dropA cs 0)) (m + 1) false 1, int64 0], grabC r u0 y0 o' N L'), psD 17)))) [xs]) := by kernel_rfl
end Go.Proofs.Ythlmbnhelkbchaa
/- UnitNumbers: unit.Envelope. -/
namespace Go.Proofs.Ythlmbnhelkbchaa
open Go.Ev
set_option maxRecDepth 100000
def blkU (a d kp r : Int) (fr told : Int) (st lv from' : Int) (g : Bool) : List (Nat × Blk) := [(18, .cells true [int64 0, int64 6, int64 3, .gr (15, 0) 1 1, .gr (17, 0) 4 1, int64 fr, int64 told, int64 0, int64 0, int64 0, .sl none 0 0 true 0, int64 st, int64 lv, int64 from', .bool g]),
  (17, .cells true [int64 a, int64 d, int64 kp, int64 r]), (16, .cells true []), (15, .cells true [int64 0]), (14, .cells true []), (3, .cells true [int64 6, int64 3, .gr (15, 0) 1 1, .gr (17, 0) 4 1]), (2, .cells true [int64 6, int64 3, .sl (some (0, 0)) 1 1 true 1, ints [a, d, kp, r]]), (1, .cells true [int64 6, int64 3, .sl (some (0, 0)) 1 1 true 1, ints [a, d, kp, r]]), (0, .cells true [int64 0])]
def stU (a d kp r : Int) (gs : List Int) (i fr told st lv from' : Int) (g : Bool) (o : AV) (l : List (Nat × Blk)) : St :=
  ⟨[.dead, .dead, .sl none 0 0 true 0, .dead, .dead, .dead, .dead, .dead, .ptr (some (18, 0)), .dead, o] ++ repA .dead 15 ++ [ints gs, int64 (gs.length : Int), int64 i] ++ repA .dead 18, mkHeap (l ++ blkU a d kp r fr told st lv from' g) 27, [], .off⟩
noncomputable def bodyU {A : Type} (a d kp r : Int) (gs : List Int) (i fr told st lv from' : Int) (g : Bool) (cs : List AV) (m : Nat) (K : Ex → St → Option A) : Option A :=
  bif decide (i < (gs.length : Int)) then
    ldI gs i fun x => h3 x (-1099511627776) 1099511627776 <|
    envT a d kp r (decide (kM x > 0)) g st lv from' fun st lv from' =>
    guardK (Nat.ble ((m + 1 + 1) * 8) limit && Nat.ble (m + 1 + 1) limit) <| guardK (Nat.ble (0 + (m + 1) * 1) (lenA cs)) <| guardK (allS (appA (takeA (dropA cs 0) ((m + 1) * 1)) [int64 lv]) && true) <|
    K .normal (stU a d kp r gs (IntKind.i64.wrap (i + 1)) (IntKind.i64.wrap (fr + 1)) lv st lv from' (decide (kM x > 0)) (.gr (23, 0) (m + 1 + 1) 1) [(23, .cells true (appA (takeA (dropA cs 0) ((m + 1) * 1)) [int64 lv]))])
  else guardK (allS cs && true) (K (.exit 0) (stU a d kp r gs i fr told st lv from' g (.gr (23, 0) (m + 1) 1) [(23, .cells true cs)]))
theorem bU {A : Type} (a d kp r : Int) (gs : List Int) (i fr told st lv from' : Int) (g : Bool) (cs : List AV) (m : Nat) (K : Ex → St → Option A) :
    loopBF Try.prog (OE orc0) tb 46 8 [23] 19 (stU a d kp r gs i fr told st lv from' g (.gr (23, 0) (m + 1) 1) [(23, .cells true cs)]) K = bodyU a d kp r gs i fr told st lv from' g cs m K := by kernel_rfl
noncomputable def bodyU0 {A : Type} (a d kp r : Int) (gs : List Int) (i fr told st lv from' : Int) (g : Bool) (K : Ex → St → Option A) : Option A :=
  bif decide (i < (gs.length : Int)) then
    ldI gs i fun x => h3 x (-1099511627776) 1099511627776 <|
    envT a d kp r (decide (kM x > 0)) g st lv from' fun st lv from' =>
    K .normal (stU a d kp r gs (IntKind.i64.wrap (i + 1)) (IntKind.i64.wrap (fr + 1)) lv st lv from' (decide (kM x > 0)) (.gr (23, 0) 1 1) [(23, .cells true [int64 lv])])
  else K (.exit 0) (stU a d kp r gs i fr told st lv from' g (.sl none 0 0 true 0) [])
theorem bU0 {A : Type} (a d kp r : Int) (gs : List Int) (i fr told st lv from' : Int) (g : Bool) (K : Ex → St → Option A) :
    loopBF Try.prog (OE orc0) tb 46 8 [23] 19 (stU a d kp r gs i fr told st lv from' g (.sl none 0 0 true 0) []) K = bodyU0 a d kp r gs i fr told st lv from' g K := by kernel_rfl
end Go.Proofs.Ythlmbnhelkbchaa
/- UnitNumbers: unit.Envelope, as a fact. -/
namespace Go.Proofs.Ythlmbnhelkbchaa
open Go.Ev
set_option maxRecDepth 100000
def gOf (gs : List Int) (i : Nat) : Bool := decide (kM (gs.getD i 0) > 0)
theorem gOf_get {gs : List Int} {i : Nat} (h : i < gs.length) : decide (kM gs[i] > 0) = gOf gs i := by
  unfold gOf
  rw [List.getD_eq_getElem?_getD, List.getElem?_eq_getElem h]
  rfl
def soU (a d kp r : Int) (gs : List Int) (i : Nat) : St :=
  stU a d kp r gs (i : Int) (i : Int) (envN a d kp r (gOf gs) i).lv (envN a d kp r (gOf gs) i).st (envN a d kp r (gOf gs) i).lv (envN a d kp r (gOf gs) i).fr (envN a d kp r (gOf gs) i).g (.gr (23, 0) i 1) [(23, .cells true ((outs a d kp r (gOf gs) i).map int64))]
section
variable {a d kp r : Int} (h : envOk a d kp r = true) {gs : List Int} (hs : gs.length ≤ 20000)
include h hs
theorem firstU {A : Type} (h0 : 0 < gs.length) (K : Ex → St → Option A) :
    loopBF Try.prog (OE orc0) tb 46 8 [23] 19 (stU a d kp r gs 0 0 0 0 0 0 false (.sl none 0 0 true 0) []) K = K .normal (soU a d kp r gs 1) := by
  obtain ⟨a1, a2, d1, d2, k1, k2, r1, r2⟩ := envOk_iff.1 h
  rw [bU0]
  unfold bodyU0
  rw [decide_eq_true (by omega : (0 : Int) < (gs.length : Int)), cond_true]
  have := ldI_eq h0 (fun x => h3 x (-1099511627776) 1099511627776 <| envT a d kp r (decide (kM x > 0)) false 0 0 0 fun st lv from' => K .normal (stU a d kp r gs (IntKind.i64.wrap (0 + 1)) (IntKind.i64.wrap (0 + 1)) lv st lv from' (decide (kM x > 0)) (.gr (23, 0) 1 1) [(23, .cells true [int64 lv])]))
  refine this.trans ?_
  rw [h3_eq, gOf_get h0]
  obtain ⟨e1, e2⟩ := envT_eq a1 d1 r1 (gOf gs 0) (envN a d kp r (gOf gs) 0) (kp := kp) (fun st lv from' => K .normal (stU a d kp r gs (IntKind.i64.wrap (0 + 1)) (IntKind.i64.wrap (0 + 1)) lv st lv from' (gOf gs 0) (.gr (23, 0) 1 1) [(23, .cells true [int64 lv])]))
  refine e1.trans ?_
  have e3 : (envN a d kp r (gOf gs) 1).g = gOf gs 0 := e2
  unfold soU
  rw [e3]
  rfl
theorem nextU {A : Type} {i : Nat} (h0 : 0 < i) (hi : i < gs.length) (K : Ex → St → Option A) :
    loopBF Try.prog (OE orc0) tb 46 8 [23] 19 (soU a d kp r gs i) K = K .normal (soU a d kp r gs (i + 1)) := by
  obtain ⟨a1, a2, d1, d2, k1, k2, r1, r2⟩ := envOk_iff.1 h
  obtain ⟨m, rfl⟩ : ∃ m, i = m + 1 := ⟨i - 1, by omega⟩
  unfold soU
  rw [bU]
  unfold bodyU
  rw [decide_eq_true (by omega : ((m + 1 : Nat) : Int) < (gs.length : Int)), cond_true, ldI_eq hi, h3_eq, gOf_get hi]
  obtain ⟨e1, e2⟩ := envT_eq a1 d1 r1 (gOf gs (m + 1)) (envN a d kp r (gOf gs) (m + 1)) (kp := kp) (fun st lv from' =>
    guardK (Nat.ble ((m + 1 + 1) * 8) limit && Nat.ble (m + 1 + 1) limit) <| guardK (Nat.ble (0 + (m + 1) * 1) (lenA ((outs a d kp r (gOf gs) (m + 1)).map int64))) <| guardK (allS (appA (takeA (dropA ((outs a d kp r (gOf gs) (m + 1)).map int64) 0) ((m + 1) * 1)) [int64 lv]) && true) <|
    K .normal (stU a d kp r gs (IntKind.i64.wrap (((m + 1 : Nat) : Int) + 1)) (IntKind.i64.wrap (((m + 1 : Nat) : Int) + 1)) lv st lv from' (gOf gs (m + 1)) (.gr (23, 0) (m + 1 + 1) 1) [(23, .cells true (appA (takeA (dropA ((outs a d kp r (gOf gs) (m + 1)).map int64) 0) ((m + 1) * 1)) [int64 lv]))]))
  refine e1.trans ?_
  have e3 : (envN a d kp r (gOf gs) (m + 1 + 1)).g = gOf gs (m + 1) := e2
  have e4 : Nat.ble (0 + (m + 1) * 1) (m + 1) = true := Nat.ble_eq_true_of_le (by omega)
  rw [grow_ints (outs_len _ _ _ _ _ _), allS_ints, lenM, outs_len, limit_ok (by omega), e4, wrapN (by omega), outs_succ a d kp r (gOf gs) (m + 1), e3]
  rfl
theorem loopU : ∀ (k i n : Nat), i + k = gs.length → k < n → 0 < i → loopN (loopBF Try.prog (OE orc0) tb 46 8 [23] 19) n (soU a d kp r gs i) pairE = some (.exit 0, soU a d kp r gs gs.length) := by
  intro k
  induction k with
  | zero =>
    intro i n hi hn h0
    obtain ⟨n, rfl⟩ : ∃ m, n = m + 1 := ⟨n - 1, by omega⟩
    have hi : i = gs.length := by omega
    obtain ⟨m, hm⟩ : ∃ m, gs.length = m + 1 := ⟨gs.length - 1, by omega⟩
    rw [hi, loopN_succ]
    unfold soU
    rw [hm, bU]
    unfold bodyU
    rw [decide_eq_false (by omega : ¬ (((m + 1 : Nat) : Int) < (gs.length : Int))), allS_ints]
    rfl
  | succ k ih =>
    intro i n hi hn h0
    obtain ⟨n, rfl⟩ : ∃ m, n = m + 1 := ⟨n - 1, by omega⟩
    rw [loopN_succ, nextU h hs h0 (by omega)]
    exact ih (i + 1) n (by omega) (by omega) (by omega)
theorem loopU_all (h0 : 0 < gs.length) : loopN (loopBF Try.prog (OE orc0) tb 46 8 [23] 19) rounds (stU a d kp r gs 0 0 0 0 0 0 false (.sl none 0 0 true 0) []) pairE = some (.exit 0, soU a d kp r gs gs.length) := by
  obtain ⟨n, hn⟩ : ∃ n, rounds = n + 1 := ⟨99999999999999999999, rfl⟩
  have hr : rounds = 100000000000000000000 := rfl
  rw [hn, loopN_succ, firstU h hs h0]
  exact loopU h hs (gs.length - 1) 1 n (by omega) (by omega) (by omega)
end
theorem loopU_nil {a d kp r : Int} : loopN (loopBF Try.prog (OE orc0) tb 46 8 [23] 19) rounds (stU a d kp r [] 0 0 0 0 0 0 false (.sl none 0 0 true 0) []) pairE = some (.exit 0, stU a d kp r [] 0 0 0 0 0 0 false (.sl none 0 0 true 0) []) := by
  obtain ⟨n, hn⟩ : ∃ n, rounds = n + 1 := ⟨99999999999999999999, rfl⟩
  rw [hn, loopN_succ, bU0]
  rfl
def NU : Norm := ⟨[2, 6, 7, 8, 10, 26, 27, 28], []⟩
noncomputable def SW (a d kp r : Int) (v : Bool) (S : Orc) : Orc := knowC Try.prog 13 [unitV 6 3 [0] [a, d, kp, r]] (.bool v) (knowC Try.prog 29 [unitV 6 3 [0] [a, d, kp, r]] (.bool v) S)
noncomputable def SU (a d kp r : Int) (gs : List Int) (s1 : St) : Orc := SW a d kp r true (knowLF Try.prog 46 8 NU [23] 19 (stU a d kp r gs 0 0 0 0 0 0 false (.sl none 0 0 true 0) []) (.exit 0) s1 orc0)
noncomputable abbrev U {A : Type} (a d kp r : Int) (x : Option A) : Option A := bif same [unitV 6 3 [0] [a, d, kp, r]] [unitV 6 3 [0] [a, d, kp, r]] then x else none
noncomputable abbrev Z {A : Type} (l : List Int) (x : Option A) : Option A := bif sameV (ints l) (ints l) then x else none
theorem run14 (a d kp r : Int) (g0 : Int) (gs : List Int) (fr told st lv from' : Int) (g : Bool) (cs : List AV) (m : Nat) :
    evCall Try.prog (SU a d kp r (g0 :: gs) (stU a d kp r (g0 :: gs) ((g0 :: gs).length : Int) fr told st lv from' g (.gr (23, 0) (m + 1) 1) [(23, .cells true cs)])) tb 100 AV (.fn 14) [ints [a, d, kp, r], ints (g0 :: gs)] (mkHeap [] 0) .off (viewK Try.prog (resOf Try.prog 14)) = (
    U a d kp r <| bif decide (((g0 :: gs).length : Int) > 20000) then some (.tup [ints [], int64 4]) else U a d kp r <| Z [a, d, kp, r] <|
    bif sameSt (stU a d kp r (g0 :: gs) 0 0 0 0 0 0 false (.sl none 0 0 true 0) []) (stU a d kp r (g0 :: gs) 0 0 0 0 0 0 false (.sl none 0 0 true 0) []) then guardK (allS (dropA cs 0) && true) (some (.tup [.fz (fixLen ((m + 1) * 1) (dropA cs 0)) (m + 1) false 1, int64 0])) else none) := by kernel_rfl
theorem run14_nil (a d kp r : Int) :
    evCall Try.prog (SU a d kp r [] (stU a d kp r [] 0 0 0 0 0 0 false (.sl none 0 0 true 0) [])) tb 100 AV (.fn 14) [ints [a, d, kp, r], ints []] (mkHeap [] 0) .off (viewK Try.prog (resOf Try.prog 14)) = (
    U a d kp r <| U a d kp r <| Z [a, d, kp, r] <|
    bif sameSt (stU a d kp r [] 0 0 0 0 0 0 false (.sl none 0 0 true 0) []) (stU a d kp r [] 0 0 0 0 0 0 false (.sl none 0 0 true 0) []) then some (.tup [ints [], int64 0]) else none) := by kernel_rfl
/-- It is refused, or there is too much. -/
theorem run14_no (xs gs : List Int) : evCall Try.prog (knowC Try.prog 29 [unitV 6 3 [0] xs] (.bool false) orc0) tb 100 AV (.fn 14) [ints xs, ints gs] (mkHeap [] 0) .off (viewK Try.prog (resOf Try.prog 14)) =
    bif same [unitV 6 3 [0] xs] [unitV 6 3 [0] xs] then some (.tup [ints [], int64 1]) else none := by kernel_rfl
theorem run14_big (a d kp r : Int) (gs : List Int) : evCall Try.prog (knowC Try.prog 29 [unitV 6 3 [0] [a, d, kp, r]] (.bool true) (stopAt 46 [3] orc0)) tb 100 AV (.fn 14) [ints [a, d, kp, r], ints gs] (mkHeap [] 0) .off (viewK Try.prog (resOf Try.prog 14)) = (
    U a d kp r <| bif decide ((gs.length : Int) > 20000) then some (.tup [ints [], int64 4]) else none) := by kernel_rfl
theorem unit_now (f : FuncId) (hp : parsOf Try.prog f = [26]) (xs : List Int) : vwArgs Try.prog [] none0 (parsOf Try.prog f) [unitV 6 3 [0] xs] = [unitV 6 3 [0] xs] := by
  rw [hp]
  kernel_rfl
theorem SW_ok {a d kp r : Int} {v : Bool} (hv : envOk a d kp r = v) {S : Orc} (hS : Ok S) : Ok (SW a d kp r v S) := by
  obtain ⟨f29, f13⟩ := env_valid a d kp r
  rw [hv] at f29 f13
  exact knowC_ok tbOk (f13.now (unit_now 13 (by kernel_rfl) _)) (knowC_ok tbOk (f29.now (unit_now 29 (by kernel_rfl) _)) hS)
theorem sameL_ints (xs : List Int) : sameL (xs.map int64) (xs.map int64) = true := by
  induction xs with
  | nil => rfl
  | cons x xs ih => simp [sameL, sameF, int64, ih]
theorem sameV_ints (xs : List Int) : sameV (ints xs) (ints xs) = true := by
  simp [sameV, sameF, ints, sameL_ints]
/-- A unit of an envelope whose numbers are not four, or out of their bounds, is no unit. -/
theorem no_unit {xs : List Int} (h : ∀ a d kp r, xs = [a, d, kp, r] → envOk a d kp r = false) : F 29 [unitV 6 3 [0] xs] (.bool false) ∧ F 13 [unitV 6 3 [0] xs] (.bool false) := by
  by_cases hl : xs.length = 4
  · rcases xs with _ | ⟨a, _ | ⟨d, _ | ⟨kp, _ | ⟨r, _ | ⟨_, _⟩⟩⟩⟩⟩ <;> simp at hl
    have := env_valid a d kp r
    rw [h a d kp r rfl] at this
    exact this
  · refine ⟨.of (stopAt_ok ok0) rfl fun h => (m29_6 3 [0] xs h).trans (ch_none _ ?_), .of (stopAt_ok ok0) rfl fun h => (m13_6 3 [0] xs h).trans (ch_none _ ?_)⟩ <;>
      (rw [← Bool.not_eq_true]
       simp only [allc, Bool.and_true, Bool.and_eq_true, Bool.not_eq_true', decide_eq_false_iff_not, Bool.not_not, decide_eq_true_eq, beq_iff_eq]
       omega)
theorem args14 (xs gs : List Int) : vwArgs Try.prog [] none0 (parsOf Try.prog 14) [ints xs, ints gs] = [ints xs, ints gs] := by kernel_rfl
theorem N46_count : Nat.ble (countL 8 e46.code) 1 = true := by kernel_rfl
theorem N46_norm : loopN0 tb 46 8 = some NU := by kernel_rfl
/-- What unit.Envelope tells. -/
theorem env_fact {a d kp r : Int} (h : envOk a d kp r = true) {gs : List Int} (hs : gs.length ≤ 20000) : FFact Try.prog tb 14 [ints [a, d, kp, r], ints gs] (.tup [ints (outs a d kp r (gOf gs) gs.length), int64 0]) := by
  refine ⟨args14 _ gs, ?_⟩
  cases gs with
  | nil =>
    refine ⟨_, SW_ok h (knowLF_ok (fl := [23]) tbOk (LFact.flat (OE_ok ok0) loopU_nil) ok0 (ep := e46) rfl N46_norm N46_count), (run14_nil a d kp r).trans ?_⟩
    simp only [U, Z, same_self, sameSt_self, sameV_ints, cond_true]
    rfl
  | cons g0 gs =>
    obtain ⟨m, hm⟩ : ∃ m, (g0 :: gs).length = m + 1 := ⟨gs.length, rfl⟩
    refine ⟨_, SW_ok h (knowLF_ok (fl := [23]) tbOk (LFact.flat (OE_ok ok0) (loopU_all h hs (by simp))) ok0 (ep := e46) rfl N46_norm N46_count), ?_⟩
    have e := run14 a d kp r g0 gs ((g0 :: gs).length : Int) (envN a d kp r (gOf (g0 :: gs)) (g0 :: gs).length).lv (envN a d kp r (gOf (g0 :: gs)) (g0 :: gs).length).st (envN a d kp r (gOf (g0 :: gs)) (g0 :: gs).length).lv (envN a d kp r (gOf (g0 :: gs)) (g0 :: gs).length).fr (envN a d kp r (gOf (g0 :: gs)) (g0 :: gs).length).g ((outs a d kp r (gOf (g0 :: gs)) (g0 :: gs).length).map int64) m
    rw [← hm] at e
    refine Eq.trans rfl (e.trans ?_)
    simp only [U, Z, same_self, sameSt_self, sameV_ints, cond_true]
    have e2 : allS (dropA ((outs a d kp r (gOf (g0 :: gs)) (g0 :: gs).length).map int64) 0) = true := by rw [dropA_eq, List.drop_zero, allS_ints]
    have e3 := fix_ints (outs a d kp r (gOf (g0 :: gs)) (g0 :: gs).length)
    rw [outs_len] at e3
    rw [decide_eq_false (by omega : ¬ (((g0 :: gs).length : Int) > 20000)), e2, e3]
    simp only [cond_false, cond_true, guardK, Bool.and_self]
    unfold ints
    rw [outs_len]
end Go.Proofs.Ythlmbnhelkbchaa
