/- Run of a delay: its loop. -/
import Derived.Test.YthlmbnhelkbchaaJ21
import Derived.Test.YthlmbnhelkbchaaJ22
import Derived.Test.YthlmbnhelkbchaaEvZ3
import Derived.Test.YthlmbnhelkbchaaJ20
import Derived.Test.YthlmbnhelkbchaaJ18
namespace Go.Proofs.Ythlmbnhelkbchaa
open Go.Ev
set_option maxRecDepth 100000
structure Ds where
  own : Bool
  o : Ob
  L : List Int
def onD (r : Int) (xs : List Int) (i : Nat) (s : Ds) : Ds := bif due r s.o.frame then ⟨true, fwd (saidO s.o (s.L.getD 0 0)), s.L.drop 1 ++ [kM' (xs.getD i 0)]⟩ else ⟨s.own, fwd s.o, s.L⟩
def runD (r : Int) (xs : List Int) : Nat → Nat → Ds → Ds × List Int
  | _, 0, s => (s, [])
  | i, d + 1, s => ((runD r xs (i + 1) d (onD r xs i s)).1, (onD r xs i s).o.told :: (runD r xs (i + 1) d (onD r xs i s)).2)
theorem runD_len (r : Int) (xs : List Int) : ∀ (d i : Nat) (s : Ds), (runD r xs i d s).2.length = d
  | 0, _, _ => rfl
  | d + 1, i, s => by simp only [runD, List.length_cons, runD_len r xs d]
theorem onD_len {r : Int} {xs : List Int} {i N : Nat} {s : Ds} (hN : 1 ≤ N) (h : s.L.length = N) : (onD r xs i s).L.length = N := by
  unfold onD
  cases due r s.o.frame with
  | false => exact h
  | true =>
    show (s.L.drop 1 ++ [kM' (xs.getD i 0)]).length = N
    simp only [List.length_append, List.length_drop, List.length_cons, List.length_nil]
    omega
noncomputable def stD (own : Bool) (r u0 y0 : Int) (n : Int) (ls : List (List Int)) (i : Int) (o : Ob) (N : Nat) (L : List AV) (out : AV) (l : List (Nat × Blk)) : St := bif own then stC r u0 y0 n ls i o N L out l else stB r u0 y0 n ls i o N L out l
theorem ldA_eq {A : Type} {l : List Int} {i N : Nat} (hl : l.length = N) (h : i < N) (k : Int → Option A) : ldA (l.map int64) N (i : Int) k = k (l.getD i 0) := by
  have h1 : (i : Int) < (N : Int) := by omega
  have h3 : 0 + (i : Int).toNat * 1 = i := by omega
  have h5 : Nat.blt i l.length = true := Nat.ble_eq_true_of_le (by omega)
  unfold ldA
  simp only [h3, lenM, nthM int64 l i (by omega), decide_eq_true h1, decide_eq_true (Int.natCast_nonneg i), guardK, Bool.and_self, cond_true, h5, int64, intOf, isIntK, decide_true]
  simp [List.getD, show i < l.length by omega]
theorem newL_eq {L : List Int} {M : Nat} (h : L.length = M + 2) (x : Int) : newL (L.map int64) M x = (L.drop 1 ++ [kM' x]).map int64 := by
  unfold newL
  rw [takeA_eq, dropA_eq, appA_eq, ← List.map_drop, List.take_of_length_le (by simp; omega), List.map_append]
  rfl
theorem stepD_eq {A : Type} {L : List Int} {M : Nat} (h : L.length = M + 2) (hM : M ≤ 1000000) (o : Ob) (x : Int) (f : List AV → Ob → Option A) : stepD (L.map int64) M o x f = f ((L.drop 1 ++ [kM' x]).map int64) (saidO o (L.getD 0 0)) := by
  unfold stepD
  have e := ldA_eq (A := A) (i := 0) h (by omega)
  refine (e _).trans ?_
  rw [newL_eq h, lenM, h, limit_ok (by omega), Nat.ble_eq_true_of_le (Nat.le_refl (M + 2)), Nat.ble_eq_true_of_le (show 0 + 1 * 1 + (M + 1) * 1 ≤ M + 2 by omega)]
  rfl
theorem stepD1_eq {A : Type} {L : List Int} (h : L.length = 1) (o : Ob) (x : Int) (f : List AV → Ob → Option A) : stepD1 (L.map int64) o x f = f ((L.drop 1 ++ [kM' x]).map int64) (saidO o (L.getD 0 0)) := by
  unfold stepD1
  have e := ldA_eq (A := A) (i := 0) h (by omega)
  refine (e _).trans ?_
  obtain ⟨a, rfl⟩ : ∃ a, L = [a] := List.length_eq_one_iff.1 h
  rfl
section
variable {A : Type} {own : Bool} {r u0 y0 : Int} {xs L : List Int} {n i N : Nat} {o : Ob}
theorem d0 (hN : 1 ≤ N) (hN' : N ≤ 100000) (hL : L.length = N) (hxs : xs.length = n) (hi : i < n) (K : Ex → St → Option A) :
    D71 (stD own r u0 y0 n [xs] i o N (L.map int64) (.sl none 0 0 true 0) []) K = tD0 r u0 y0 n [xs] i N K (bif due r o.frame then true else own) ((bif due r o.frame then L.drop 1 ++ [kM' (xs.getD i 0)] else L).map int64) (bif due r o.frame then saidO o (L.getD 0 0) else o) := by
  unfold stD
  rcases Nat.lt_or_ge N 2 with h2 | h2
  · have : N = 1 := by omega
    subst this
    cases own with
    | false =>
      simp only [cond_false]
      rw [bB1]
      unfold bodyD
      rw [decide_eq_true (by omega : (i : Int) < (n : Int)), cond_true, ldI_get (by omega), dueT_eq]
      dsimp only
      rw [stepD1_eq hL]
      cases due r o.frame <;> rfl
    | true =>
      simp only [cond_true]
      rw [bC1]
      unfold bodyD
      rw [decide_eq_true (by omega : (i : Int) < (n : Int)), cond_true, ldI_get (by omega), dueT_eq]
      dsimp only
      rw [stepD1_eq hL]
      cases due r o.frame <;> rfl
  · obtain ⟨M, rfl⟩ : ∃ M, N = M + 2 := ⟨N - 2, by omega⟩
    cases own with
    | false =>
      simp only [cond_false]
      rw [bB0]
      unfold bodyD
      rw [decide_eq_true (by omega : (i : Int) < (n : Int)), cond_true, ldI_get (by omega), dueT_eq]
      dsimp only
      rw [stepD_eq hL (by omega)]
      cases due r o.frame <;> rfl
    | true =>
      simp only [cond_true]
      rw [bC0]
      unfold bodyD
      rw [decide_eq_true (by omega : (i : Int) < (n : Int)), cond_true, ldI_get (by omega), dueT_eq]
      dsimp only
      rw [stepD_eq hL (by omega)]
      cases due r o.frame <;> rfl
theorem dG (hN : 1 ≤ N) (hN' : N ≤ 100000) (hL : L.length = N) (hxs : xs.length = n) (hi : i < n) (cs : List AV) (m : Nat) (K : Ex → St → Option A) :
    D71 (stD own r u0 y0 n [xs] i o N (L.map int64) (.gr (16, 0) (m + 1) 1) [(16, .cells true cs)]) K = tDG r u0 y0 n [xs] i N cs m K (bif due r o.frame then true else own) ((bif due r o.frame then L.drop 1 ++ [kM' (xs.getD i 0)] else L).map int64) (bif due r o.frame then saidO o (L.getD 0 0) else o) := by
  unfold stD
  rcases Nat.lt_or_ge N 2 with h2 | h2
  · have : N = 1 := by omega
    subst this
    cases own with
    | false =>
      simp only [cond_false]
      rw [bB1G]
      unfold bodyD
      rw [decide_eq_true (by omega : (i : Int) < (n : Int)), cond_true, ldI_get (by omega), dueT_eq]
      dsimp only
      rw [stepD1_eq hL]
      cases due r o.frame <;> rfl
    | true =>
      simp only [cond_true]
      rw [bC1G]
      unfold bodyD
      rw [decide_eq_true (by omega : (i : Int) < (n : Int)), cond_true, ldI_get (by omega), dueT_eq]
      dsimp only
      rw [stepD1_eq hL]
      cases due r o.frame <;> rfl
  · obtain ⟨M, rfl⟩ : ∃ M, N = M + 2 := ⟨N - 2, by omega⟩
    cases own with
    | false =>
      simp only [cond_false]
      rw [bB0G]
      unfold bodyD
      rw [decide_eq_true (by omega : (i : Int) < (n : Int)), cond_true, ldI_get (by omega), dueT_eq]
      dsimp only
      rw [stepD_eq hL (by omega)]
      cases due r o.frame <;> rfl
    | true =>
      simp only [cond_true]
      rw [bC0G]
      unfold bodyD
      rw [decide_eq_true (by omega : (i : Int) < (n : Int)), cond_true, ldI_get (by omega), dueT_eq]
      dsimp only
      rw [stepD_eq hL (by omega)]
      cases due r o.frame <;> rfl
theorem dG' (hN : 1 ≤ N) (hL : L.length = N) (cs : List AV) (m : Nat) (K : Ex → St → Option A) :
    D71 (stD own r u0 y0 n [xs] n o N (L.map int64) (.gr (16, 0) (m + 1) 1) [(16, .cells true cs)]) K = exDG r u0 y0 n [xs] n N cs m K own (L.map int64) o := by
  unfold stD
  rcases Nat.lt_or_ge N 2 with h2 | h2
  · have : N = 1 := by omega
    subst this
    cases own with
    | false => simp only [cond_false]; rw [bB1G]; unfold bodyD; rw [decide_eq_false (by omega : ¬ (n : Int) < (n : Int)), cond_false]
    | true => simp only [cond_true]; rw [bC1G]; unfold bodyD; rw [decide_eq_false (by omega : ¬ (n : Int) < (n : Int)), cond_false]
  · obtain ⟨M, rfl⟩ : ∃ M, N = M + 2 := ⟨N - 2, by omega⟩
    cases own with
    | false => simp only [cond_false]; rw [bB0G]; unfold bodyD; rw [decide_eq_false (by omega : ¬ (n : Int) < (n : Int)), cond_false]
    | true => simp only [cond_true]; rw [bC0G]; unfold bodyD; rw [decide_eq_false (by omega : ¬ (n : Int) < (n : Int)), cond_false]
theorem d0' (hN : 1 ≤ N) (hL : L.length = N) (K : Ex → St → Option A) :
    D71 (stD own r u0 y0 n [xs] n o N (L.map int64) (.sl none 0 0 true 0) []) K = exD0 r u0 y0 n [xs] n N K own (L.map int64) o := by
  unfold stD
  rcases Nat.lt_or_ge N 2 with h2 | h2
  · have : N = 1 := by omega
    subst this
    cases own with
    | false => simp only [cond_false]; rw [bB1]; unfold bodyD; rw [decide_eq_false (by omega : ¬ (n : Int) < (n : Int)), cond_false]
    | true => simp only [cond_true]; rw [bC1]; unfold bodyD; rw [decide_eq_false (by omega : ¬ (n : Int) < (n : Int)), cond_false]
  · obtain ⟨M, rfl⟩ : ∃ M, N = M + 2 := ⟨N - 2, by omega⟩
    cases own with
    | false => simp only [cond_false]; rw [bB0]; unfold bodyD; rw [decide_eq_false (by omega : ¬ (n : Int) < (n : Int)), cond_false]
    | true => simp only [cond_true]; rw [bC0]; unfold bodyD; rw [decide_eq_false (by omega : ¬ (n : Int) < (n : Int)), cond_false]
end
section
variable {r u0 y0 : Int} {xs : List Int} {n N : Nat}
noncomputable abbrev soD (r u0 y0 : Int) (xs : List Int) (n N i : Nat) (s : Ds) (os : List Int) : St := stD s.own r u0 y0 n [xs] (i : Int) s.o N (s.L.map int64) (.gr (16, 0) os.length 1) [(16, .cells true (os.map int64))]
theorem loopD (hN : 1 ≤ N) (hN' : N ≤ 100000) (hxs : xs.length = n) (hm : n ≤ 1000000) : ∀ (d i Q : Nat) (s : Ds) (os : List Int), i + d = n → d < Q → os.length = i → 0 < i → s.L.length = N →
    loopN (loopBG Try.prog (OId orc0) tb 71 1 ⟨[16, 17, 1], [], []⟩ 12) Q (soD r u0 y0 xs n N i s os) pairE = some (.exit 0, soD r u0 y0 xs n N n (runD r xs i d s).1 (os ++ (runD r xs i d s).2)) := by
  intro d
  induction d with
  | zero =>
    intro i Q s os hi hn ho h0 hL
    obtain ⟨Q, rfl⟩ : ∃ m, Q = m + 1 := ⟨Q - 1, by omega⟩
    obtain ⟨m, hom⟩ : ∃ m, os.length = m + 1 := ⟨os.length - 1, by omega⟩
    have hi : i = n := by omega
    subst hi
    rw [loopN_succ]
    unfold soD
    rw [hom]
    refine (dG' hN hL _ m _).trans ?_
    unfold exDG
    simp only [allS_ints, Bool.and_self, Bool.cond_self, guardK, cond_true, runD, List.append_nil, hom]
    unfold stD
    rfl
  | succ d ih =>
    intro i Q s os hi hn ho h0 hL
    obtain ⟨Q, rfl⟩ : ∃ m, Q = m + 1 := ⟨Q - 1, by omega⟩
    obtain ⟨m, hom⟩ : ∃ m, os.length = m + 1 := ⟨os.length - 1, by omega⟩
    have ih' := ih (i + 1) Q (onD r xs i s) (os ++ [(onD r xs i s).o.told]) (by omega) (by omega) (by simp; omega) (by omega) (onD_len hN hL)
    rw [loopN_succ]
    unfold soD at ih' ⊢
    rw [hom]
    refine (dG hN hN' hL hxs (by omega) _ m _).trans ?_
    have ht : (bif due r s.o.frame then saidO s.o (s.L.getD 0 0) else s.o).told = (onD r xs i s).o.told := by unfold onD; cases due r s.o.frame <;> rfl
    have h1 : (bif due r s.o.frame then true else s.own) = (onD r xs i s).own := by unfold onD; cases due r s.o.frame <;> rfl
    have h2 : (bif due r s.o.frame then s.L.drop 1 ++ [kM' (xs.getD i 0)] else s.L) = (onD r xs i s).L := by unfold onD; cases due r s.o.frame <;> rfl
    have h3 : fwd (bif due r s.o.frame then saidO s.o (s.L.getD 0 0) else s.o) = (onD r xs i s).o := by unfold onD; cases due r s.o.frame <;> rfl
    unfold tDG
    rw [ht, h1, h2, h3, limit_ok (by omega), grow_ints hom, allS_ints, allS_ints, lenM, hom, show w64 ((i : Int) + 1) = ((i + 1 : Nat) : Int) from wrapN (by omega)]
    have e : Nat.ble (0 + (m + 1) * 1) (m + 1) = true := Nat.ble_eq_true_of_le (by omega)
    simp only [e, Bool.and_self, Bool.cond_self, guardK, cond_true]
    have e2 : (os ++ [(onD r xs i s).o.told]).length = m + 1 + 1 := by simp [hom]
    simp only [runD]
    rw [List.append_cons os (onD r xs i s).o.told (runD r xs (i + 1) d (onD r xs i s)).2]
    rw [e2] at ih'
    unfold stD at ih' ⊢
    exact ih'
theorem loopD_all (hN : 1 ≤ N) (hN' : N ≤ 100000) (hxs : xs.length = n) (hm : n ≤ 1000000) {s : Ds} (hL : s.L.length = N) (h0 : 0 < n) :
    loopN (loopBG Try.prog (OId orc0) tb 71 1 ⟨[16, 17, 1], [], []⟩ 12) rounds (stD s.own r u0 y0 n [xs] 0 s.o N (s.L.map int64) (.sl none 0 0 true 0) []) pairE = some (.exit 0, soD r u0 y0 xs n N n (runD r xs 0 n s).1 (runD r xs 0 n s).2) := by
  obtain ⟨Q, hQ⟩ : ∃ n, rounds = n + 1 := ⟨99999999999999999999, rfl⟩
  have hr : rounds = 100000000000000000000 := rfl
  obtain ⟨d, rfl⟩ : ∃ d, n = d + 1 := ⟨n - 1, by omega⟩
  have hl := loopD (r := r) (u0 := u0) (y0 := y0) hN hN' hxs hm d 1 Q (onD r xs 0 s) [(onD r xs 0 s).o.told] (by omega) (by omega) rfl (by omega) (onD_len hN hL)
  rw [hQ, loopN_succ]
  refine (d0 (i := 0) hN hN' hL hxs (by omega) _).trans ?_
  have ht : (bif due r s.o.frame then saidO s.o (s.L.getD 0 0) else s.o).told = (onD r xs 0 s).o.told := by unfold onD; cases due r s.o.frame <;> rfl
  have h1 : (bif due r s.o.frame then true else s.own) = (onD r xs 0 s).own := by unfold onD; cases due r s.o.frame <;> rfl
  have h2 : (bif due r s.o.frame then s.L.drop 1 ++ [kM' (xs.getD 0 0)] else s.L) = (onD r xs 0 s).L := by unfold onD; cases due r s.o.frame <;> rfl
  have h3 : fwd (bif due r s.o.frame then saidO s.o (s.L.getD 0 0) else s.o) = (onD r xs 0 s).o := by unfold onD; cases due r s.o.frame <;> rfl
  unfold tD0
  rw [ht, h1, h2, h3, allS_ints]
  simp only [Bool.and_self, Bool.cond_self, guardK, cond_true]
  unfold soD stD at hl
  unfold soD stD
  exact hl
theorem loopD_nil (hN : 1 ≤ N) {s : Ds} (hL : s.L.length = N) :
    loopN (loopBG Try.prog (OId orc0) tb 71 1 ⟨[16, 17, 1], [], []⟩ 12) rounds (stD s.own r u0 y0 (0 : Nat) [xs] (0 : Nat) s.o N (s.L.map int64) (.sl none 0 0 true 0) []) pairE = some (.exit 0, stD s.own r u0 y0 (0 : Nat) [xs] (0 : Nat) s.o N (s.L.map int64) (.sl none 0 0 true 0) []) := by
  obtain ⟨Q, hQ⟩ : ∃ n, rounds = n + 1 := ⟨99999999999999999999, rfl⟩
  rw [hQ, loopN_succ]
  refine (d0' hN hL _).trans ?_
  unfold exD0
  rw [allS_ints]
  unfold stD
  rfl
end
end Go.Proofs.Ythlmbnhelkbchaa
/- Run of a delay: what it tells, and what it holds then. -/
namespace Go.Proofs.Ythlmbnhelkbchaa
open Go.Ev
set_option maxRecDepth 100000
abbrev grabB (r u0 y0 : Int) (o : Ob) (N : Nat) (L : List AV) : List (Nat × Blk) := [(0, .cells true (cellsD r u0 y0 o (.gr (1, 0) N 1))), (1, .cells true L), (1, .cells true L), (0, .cells true (cellsD r u0 y0 o (.gr (1, 0) N 1)))]
abbrev grabC (r u0 y0 : Int) (o : Ob) (N : Nat) (L : List AV) : List (Nat × Blk) := [(0, .cells true (cellsD r u0 y0 o (.gr (17, 0) N 1))), (17, .cells true L), (0, .cells true (cellsD r u0 y0 o (.gr (17, 0) N 1)))]
noncomputable abbrev run19d (S : Orc) (r u0 y0 : Int) (o : Ob) (N : Nat) (L : List AV) (n : Int) (ls : List (List Int)) := evCall Try.prog S tb 100 ORes (.fn 19) (argU n ls) (mkHeap (objD r u0 y0 o N L) 2) .off (objK Try.prog scD 19 2 [1, 17] (argU n ls))
noncomputable def S71d (r u0 y0 : Int) (n : Int) (ls : List (List Int)) (o : Ob) (N : Nat) (L : List AV) (s1 : St) : Orc := knowLG Try.prog 71 1 N71 ⟨[16, 17, 1], [], []⟩ 12 (stB r u0 y0 n ls 0 o N L (.sl none 0 0 true 0) []) (.exit 0) s1 (OId orc0)
noncomputable def goD {A : Type} (r u0 y0 : Int) (n : Int) (ls : List (List Int)) (o : Ob) (N : Nat) (L : List AV) (good : Option A) : Option A := guardK (allS L && true) <| bif sameSt (stB r u0 y0 n ls 0 o N L (.sl none 0 0 true 0) []) (stB r u0 y0 n ls 0 o N L (.sl none 0 0 true 0) []) then good else none
noncomputable def inD (r u0 y0 : Int) (o : Ob) (N : Nat) (L : List AV) (x : Option ORes) : Option ORes := guardK (allS L && true && true) <| bif isSo (G52 [.ptr (some (0, 0))] (objD r u0 y0 o N L)) then x else none
noncomputable def errD (r u0 y0 : Int) (o : Ob) (N : Nat) (L : List AV) (e : Int) : Option ORes := guardK (allS L && (allS L && true) && true) (some ((errU e, grabB r u0 y0 o N L), psD 1))
theorem r19d_n (r u0 y0 n i : Int) (o o' : Ob) (xs : List Int) (N : Nat) (L L' : List AV) : run19d (S71d r u0 y0 n [xs] o N L (stB r u0 y0 n [xs] i o' N L' (.sl none 0 0 true 0) [])) r u0 y0 o N L n [xs] =
    rangeT n (errD r u0 y0 o N L 7) (inD r u0 y0 o N L <| sizeT n (errD r u0 y0 o N L 11) (goD r u0 y0 n [xs] o N L (errD r u0 y0 o' N L' 0)) [xs]) := by kernel_rfl
theorem r19d_B (r u0 y0 n i : Int) (o o' : Ob) (xs : List Int) (N : Nat) (L L' cs : List AV) (m : Nat) : run19d (S71d r u0 y0 n [xs] o N L (stB r u0 y0 n [xs] i o' N L' (.gr (16, 0) (m + 1) 1) [(16, .cells true cs)])) r u0 y0 o N L n [xs] =
    rangeT n (errD r u0 y0 o N L 7) (inD r u0 y0 o N L <| sizeT n (errD r u0 y0 o N L 11) (goD r u0 y0 n [xs] o N L (guardK (allS L' && (allS L' && true) && (allS (dropA cs 0) && true)) (some ((.tup [.fz (fixLen ((m + 1) * 1) (dropA cs 0)) (m + 1) false 1, int64 0], grabB r u0 y0 o' N L'), psD 1)))) [xs]) := by kernel_rfl
theorem r19d_C (r u0 y0 n i : Int) (o o' : Ob) (xs : List Int) (N : Nat) (L L' cs : List AV) (m : Nat) : run19d (S71d r u0 y0 n [xs] o N L (stC r u0 y0 n [xs] i o' N L' (.gr (16, 0) (m + 1) 1) [(16, .cells true cs)])) r u0 y0 o N L n [xs] =
    rangeT n (errD r u0 y0 o N L 7) (inD r u0 y0 o N L <| sizeT n (errD r u0 y0 o N L 11) (goD r u0 y0 n [xs] o N L (guardK (allS L' && true && (allS (dropA cs 0) && true)) (some ((.tup [.fz (fixLen ((m + 1) * 1) (dropA cs 0)) (m + 1) false 1, int64 0], grabC r u0 y0 o' N L'), psD 17)))) [xs]) := by kernel_rfl
end Go.Proofs.Ythlmbnhelkbchaa
/- UnitNumbers: unit.Envelope. -/
namespace Go.Proofs.Ythlmbnhelkbchaa
open Go.Ev
set_option maxRecDepth 100000
def blkU (a d kp r : Int) (fr told : Int) (st lv from' : Int) (g : Bool) : List (Nat × Blk) := [(18, .cells true [int64 0, int64 6, int64 3, .gr (15, 0) 1 1, .gr (17, 0) 4 1, int64 fr, int64 told, int64 0, int64 0, int64 0, .sl none 0 0 true 0, int64 st, int64 lv, int64 from', .bool g]),
  (17, .cells true [int64 a, int64 d, int64 kp, int64 r]), (16, .cells true []), (15, .cells true [int64 0]), (14, .cells true []), (3, .cells true [int64 6, int64 3, .gr (15, 0) 1 1, .gr (17, 0) 4 1]), (2, .cells true [int64 6, int64 3, .sl (some (0, 0)) 1 1 true 1, ints [a, d, kp, r]]), (1, .cells true [int64 6, int64 3, .sl (some (0, 0)) 1 1 true 1, ints [a, d, kp, r]]), (0, .cells true [int64 0])]
def stU (a d kp r : Int) (gs : List Int) (i fr told st lv from' : Int) (g : Bool) (o : AV) (l : List (Nat × Blk)) : St :=
  ⟨[.dead, .dead, .sl none 0 0 true 0, .dead, .dead, .dead, .dead, .dead, .ptr (some (18, 0)), .dead, o] ++ repA .dead 15 ++ [ints gs, int64 (gs.length : Int), int64 i] ++ repA .dead 18, mkHeap (l ++ blkU a d kp r fr told st lv from' g) 27, [], .off⟩
noncomputable def bodyU {A : Type} (a d kp r : Int) (gs : List Int) (i fr told st lv from' : Int) (g : Bool) (cs : List AV) (m : Nat) (K : Ex → St → Option A) : Option A :=
  bif decide (i < (gs.length : Int)) then
    ldI gs i fun x => h3 x (-1099511627776) 1099511627776 <|
    envT a d kp r (decide (kM x > 0)) g st lv from' fun st lv from' =>
    guardK (Nat.ble ((m + 1 + 1) * 8) limit && Nat.ble (m + 1 + 1) limit) <| guardK (Nat.ble (0 + (m + 1) * 1) (lenA cs)) <| guardK (allS (appA (takeA (dropA cs 0) ((m + 1) * 1)) [int64 lv]) && true) <|
    K .normal (stU a d kp r gs (IntKind.i64.wrap (i + 1)) (IntKind.i64.wrap (fr + 1)) lv st lv from' (decide (kM x > 0)) (.gr (23, 0) (m + 1 + 1) 1) [(23, .cells true (appA (takeA (dropA cs 0) ((m + 1) * 1)) [int64 lv]))])
  else guardK (allS cs && true) (K (.exit 0) (stU a d kp r gs i fr told st lv from' g (.gr (23, 0) (m + 1) 1) [(23, .cells true cs)]))
theorem bU {A : Type} (a d kp r : Int) (gs : List Int) (i fr told st lv from' : Int) (g : Bool) (cs : List AV) (m : Nat) (K : Ex → St → Option A) :
    loopBF Try.prog (OE orc0) tb 46 8 [23] 19 (stU a d kp r gs i fr told st lv from' g (.gr (23, 0) (m + 1) 1) [(23, .cells true cs)]) K = bodyU a d kp r gs i fr told st lv from' g cs m K := by kernel_rfl
noncomputable def bodyU0 {A : Type} (a d kp r : Int) (gs : List Int) (i fr told st lv from' : Int) (g : Bool) (K : Ex → St → Option A) : Option A :=
  bif decide (i < (gs.length : Int)) then
    ldI gs i fun x => h3 x (-1099511627776) 1099511627776 <|
    envT a d kp r (decide (kM x > 0)) g st lv from' fun st lv from' =>
    K .normal (stU a d kp r gs (IntKind.i64.wrap (i + 1)) (IntKind.i64.wrap (fr + 1)) lv st lv from' (decide (kM x > 0)) (.gr (23, 0) 1 1) [(23, .cells true [int64 lv])])
  else K (.exit 0) (stU a d kp r gs i fr told st lv from' g (.sl none 0 0 true 0) [])
theorem bU0 {A : Type} (a d kp r : Int) (gs : List Int) (i fr told st lv from' : Int) (g : Bool) (K : Ex → St → Option A) :
    loopBF Try.prog (OE orc0) tb 46 8 [23] 19 (stU a d kp r gs i fr told st lv from' g (.sl none 0 0 true 0) []) K = bodyU0 a d kp r gs i fr told st lv from' g K := by kernel_rfl
end Go.Proofs.Ythlmbnhelkbchaa
/- UnitNumbers: unit.Envelope, as a fact. -/
namespace Go.Proofs.Ythlmbnhelkbchaa
open Go.Ev
set_option maxRecDepth 100000
def gOf (gs : List Int) (i : Nat) : Bool := decide (kM (gs.getD i 0) > 0)
theorem gOf_get {gs : List Int} {i : Nat} (h : i < gs.length) : decide (kM gs[i] > 0) = gOf gs i := by
  unfold gOf
  rw [List.getD_eq_getElem?_getD, List.getElem?_eq_getElem h]
  rfl
def soU (a d kp r : Int) (gs : List Int) (i : Nat) : St :=
  stU a d kp r gs (i : Int) (i : Int) (envN a d kp r (gOf gs) i).lv (envN a d kp r (gOf gs) i).st (envN a d kp r (gOf gs) i).lv (envN a d kp r (gOf gs) i).fr (envN a d kp r (gOf gs) i).g (.gr (23, 0) i 1) [(23, .cells true ((outs a d kp r (gOf gs) i).map int64))]
section
variable {a d kp r : Int} (h : envOk a d kp r = true) {gs : List Int} (hs : gs.length ≤ 20000)
include h hs
theorem nextU {A : Type} {i : Nat} (h0 : 0 < i) (hi : i < gs.length) (K : Ex → St → Option A) :
    loopBF Try.prog (OE orc0) tb 46 8 [23] 19 (soU a d kp r gs i) K = K .normal (soU a d kp r gs (i + 1)) := by
  obtain ⟨a1, a2, d1, d2, k1, k2, r1, r2⟩ := envOk_iff.1 h
  obtain ⟨m, rfl⟩ : ∃ m, i = m + 1 := ⟨i - 1, by omega⟩
  unfold soU
  rw [bU]
  unfold bodyU
  rw [decide_eq_true (by omega : ((m + 1 : Nat) : Int) < (gs.length : Int)), cond_true, ldI_eq hi, h3_eq, gOf_get hi]
  obtain ⟨e1, e2⟩ := envT_eq a1 d1 r1 (gOf gs (m + 1)) (envN a d kp r (gOf gs) (m + 1)) (kp := kp) (fun st lv from' =>
    guardK (Nat.ble ((m + 1 + 1) * 8) limit && Nat.ble (m + 1 + 1) limit) <| guardK (Nat.ble (0 + (m + 1) * 1) (lenA ((outs a d kp r (gOf gs) (m + 1)).map int64))) <| guardK (allS (appA (takeA (dropA ((outs a d kp r (gOf gs) (m + 1)).map int64) 0) ((m + 1) * 1)) [int64 lv]) && true) <|
    K .normal (stU a d kp r gs (IntKind.i64.wrap (((m + 1 : Nat) : Int) + 1)) (IntKind.i64.wrap (((m + 1 : Nat) : Int) + 1)) lv st lv from' (gOf gs (m + 1)) (.gr (23, 0) (m + 1 + 1) 1) [(23, .cells true (appA (takeA (dropA ((outs a d kp r (gOf gs) (m + 1)).map int64) 0) ((m + 1) * 1)) [int64 lv]))]))
  refine e1.trans ?_
  have e3 : (envN a d kp r (gOf gs) (m + 1 + 1)).g = gOf gs (m + 1) := e2
  have e4 : Nat.ble (0 + (m + 1) * 1) (m + 1) = true := Nat.ble_eq_true_of_le (by omega)
  rw [grow_ints (outs_len _ _ _ _ _ _), allS_ints, lenM, outs_len, limit_ok (by omega), e4, wrapN (by omega), outs_succ a d kp r (gOf gs) (m + 1), e3]
  rfl
end
def NU : Norm := ⟨[2, 6, 7, 8, 10, 26, 27, 28], []⟩
noncomputable def SW (a d kp r : Int) (v : Bool) (S : Orc) : Orc := knowC Try.prog 13 [unitV 6 3 [0] [a, d, kp, r]] (.bool v) (knowC Try.prog 29 [unitV 6 3 [0] [a, d, kp, r]] (.bool v) S)
noncomputable def SU (a d kp r : Int) (gs : List Int) (s1 : St) : Orc := SW a d kp r true (knowLF Try.prog 46 8 NU [23] 19 (stU a d kp r gs 0 0 0 0 0 0 false (.sl none 0 0 true 0) []) (.exit 0) s1 orc0)
noncomputable abbrev U {A : Type} (a d kp r : Int) (x : Option A) : Option A := bif same [unitV 6 3 [0] [a, d, kp, r]] [unitV 6 3 [0] [a, d, kp, r]] then x else none
noncomputable abbrev Z {A : Type} (l : List Int) (x : Option A) : Option A := bif sameV (ints l) (ints l) then x else none
theorem sameL_ints (xs : List Int) : sameL (xs.map int64) (xs.map int64) = true := by
  induction xs with
  | nil => rfl
  | cons x xs ih => simp [sameL, sameF, int64, ih]
theorem sameV_ints (xs : List Int) : sameV (ints xs) (ints xs) = true := by
  simp [sameV, sameF, ints, sameL_ints]
end Go.Proofs.Ythlmbnhelkbchaa
/- UnitNumbers: the document's Envelope tells the same. -/
namespace Go.Proofs.Ythlmbnhelkbchaa
open Go.Ev
set_option maxRecDepth 100000
def swRF (a d kp : Int) (s : EnvS) : EnvS :=
  if s.st = 1 then (if minI (w64 (s.lv + upI 65536 a)) 65536 = 65536 then { s with st := 2, lv := minI (w64 (s.lv + upI 65536 a)) 65536 } else { s with lv := minI (w64 (s.lv + upI 65536 a)) 65536 })
  else if s.st = 2 then (if maxI (w64 (s.lv - upI (w64 (65536 - kp)) d)) kp = kp then { s with st := 3, lv := maxI (w64 (s.lv - upI (w64 (65536 - kp)) d)) kp } else { s with lv := maxI (w64 (s.lv - upI (w64 (65536 - kp)) d)) kp })
  else if s.st = 3 then { s with lv := kp }
  else if s.st = 4 then { s with lv := maxI (w64 (s.lv - s.fr)) 0 }
  else s
def envRF (a d kp r : Int) (o : Bool) (s : EnvS) : EnvS :=
  swRF a d kp (if o = true ∧ s.g = false then { s with st := 1, g := o } else if o = false ∧ s.g = true then { s with st := 4, fr := upI s.lv r, g := o } else { s with g := o })
theorem swR_eq {A : Type} {a d kp : Int} (ha : a ≥ 1) (hd : d ≥ 1) (s : EnvS) (k : Int → Int → Option A) : swR a d kp s.st s.lv s.fr k = k (swRF a d kp s).st (swRF a d kp s).lv ∧ (swRF a d kp s).fr = s.fr ∧ (swRF a d kp s).g = s.g := by
  unfold swR swRF
  simp only [hU_eq ha, hU_eq hd, E_eq]
  have e : ∀ (x y : Int), (x == y) = decide (x = y) := fun x y => by rw [Bool.eq_iff_iff]; simp
  simp only [e]
  by_cases h1 : s.st = 1
  · rw [decide_eq_true h1, if_pos h1, cond_true]
    by_cases h : minI (w64 (s.lv + upI 65536 a)) 65536 = 65536
    · rw [decide_eq_true h, if_pos h]; exact ⟨rfl, rfl, rfl⟩
    · rw [decide_eq_false h, if_neg h]; exact ⟨rfl, rfl, rfl⟩
  rw [decide_eq_false h1, if_neg h1, cond_false]
  by_cases h2 : s.st = 2
  · rw [decide_eq_true h2, if_pos h2, cond_true]
    by_cases h : maxI (w64 (s.lv - upI (w64 (65536 - kp)) d)) kp = kp
    · rw [decide_eq_true h, if_pos h]; exact ⟨rfl, rfl, rfl⟩
    · rw [decide_eq_false h, if_neg h]; exact ⟨rfl, rfl, rfl⟩
  rw [decide_eq_false h2, if_neg h2, cond_false]
  by_cases h3 : s.st = 3
  · rw [decide_eq_true h3, if_pos h3]; exact ⟨rfl, rfl, rfl⟩
  rw [decide_eq_false h3, if_neg h3, cond_false]
  by_cases h4 : s.st = 4
  · rw [decide_eq_true h4, if_pos h4]; exact ⟨rfl, rfl, rfl⟩
  rw [decide_eq_false h4, if_neg h4]
  exact ⟨rfl, rfl, rfl⟩
theorem envR_eq {A : Type} {a d kp r : Int} (ha : a ≥ 1) (hd : d ≥ 1) (hr : r ≥ 1) (o : Bool) (s : EnvS) (k : Int → Int → Int → Option A) : envR a d kp r o s.g s.st s.lv s.fr k = k (envRF a d kp r o s).st (envRF a d kp r o s).lv (envRF a d kp r o s).fr ∧ (envRF a d kp r o s).g = o := by
  have key : ∀ (s' : EnvS), swR a d kp s'.st s'.lv s'.fr (fun x l => k x l s'.fr) = k (swRF a d kp s').st (swRF a d kp s').lv (swRF a d kp s').fr ∧ (swRF a d kp s').g = s'.g := fun s' => by
    obtain ⟨h1, h2, h3⟩ := swR_eq (kp := kp) ha hd s' (fun x l => k x l s'.fr)
    exact ⟨h1.trans (by rw [h2]), h3⟩
  unfold envR envRF
  cases o with
  | true =>
    cases hg : s.g with
    | false => exact key { s with st := 1, g := true }
    | true => exact key { s with g := true }
  | false =>
    cases hg : s.g with
    | false => exact key { s with g := false }
    | true =>
      simp only [hU_eq hr]
      exact key { s with st := 4, fr := upI s.lv r, g := false }
def envNR (a d kp r : Int) (g : Nat → Bool) : Nat → EnvS
  | 0 => ⟨0, 0, 0, false⟩
  | i + 1 => envRF a d kp r (g i) (envNR a d kp r g i)
def Rel (r : Int) (s t : EnvS) : Prop := t.st = s.st ∧ t.lv = s.lv ∧ t.g = s.g ∧ (s.st = 4 → t.fr = upI s.fr r)
theorem minI_comm (x y : Int) : minI x y = minI y x := by unfold minI; split <;> split <;> omega
theorem maxI_comm (x y : Int) : maxI x y = maxI y x := by unfold maxI; split <;> split <;> omega
theorem sw_rel {a d kp r : Int} {s t : EnvS} (h : Rel r s t) : Rel r (swF a d kp r s) (swRF a d kp t) := by
  obtain ⟨h1, h2, h3, h4⟩ := h
  unfold swF swRF
  rw [h1, h2, minI_comm (w64 (s.lv + upI 65536 a)) 65536, maxI_comm (w64 (s.lv - upI (w64 (65536 - kp)) d)) kp]
  by_cases c1 : s.st = 1
  · rw [if_pos c1, if_pos c1]
    split
    · exact ⟨rfl, rfl, h3, fun h => by simp at h⟩
    · exact ⟨rfl, rfl, h3, fun h => by rw [show s.st = 4 from h] at c1; omega⟩
  rw [if_neg c1, if_neg c1]
  by_cases c2 : s.st = 2
  · rw [if_pos c2, if_pos c2]
    split
    · exact ⟨rfl, rfl, h3, fun h => by simp at h⟩
    · exact ⟨rfl, rfl, h3, fun h => by rw [show s.st = 4 from h] at c2; omega⟩
  rw [if_neg c2, if_neg c2]
  by_cases c3 : s.st = 3
  · rw [if_pos c3, if_pos c3]
    exact ⟨rfl, rfl, h3, fun h => by rw [show s.st = 4 from h] at c3; omega⟩
  rw [if_neg c3, if_neg c3]
  by_cases c4 : s.st = 4
  · rw [if_pos c4, if_pos c4, h4 c4, maxI_comm (w64 (s.lv - upI s.fr r)) 0]
    exact ⟨rfl, rfl, h3, fun _ => rfl⟩
  rw [if_neg c4, if_neg c4]
  exact ⟨h1, h2, h3, h4⟩
theorem env_rel {a d kp r : Int} (o : Bool) {s t : EnvS} (h : Rel r s t) : Rel r (envF a d kp r o s) (envRF a d kp r o t) := by
  obtain ⟨h1, h2, h3, h4⟩ := h
  unfold envF envRF
  rw [h3]
  refine sw_rel ?_
  by_cases c1 : o = true ∧ s.g = false
  · rw [if_pos c1, if_pos c1]
    exact ⟨rfl, h2, rfl, fun h => by simp at h⟩
  rw [if_neg c1, if_neg c1]
  by_cases c2 : o = false ∧ s.g = true
  · rw [if_pos c2, if_pos c2, h2]
    exact ⟨rfl, rfl, rfl, fun _ => rfl⟩
  rw [if_neg c2, if_neg c2]
  exact ⟨h1, h2, rfl, h4⟩
theorem envN_rel (a d kp r : Int) (g : Nat → Bool) : ∀ i, Rel r (envN a d kp r g i) (envNR a d kp r g i)
  | 0 => ⟨rfl, rfl, rfl, fun h => by simp [envN] at h⟩
  | i + 1 => env_rel (g i) (envN_rel a d kp r g i)
theorem kM_pos (x : Int) : decide (kM x > 0) = decide (x > 0) := by
  unfold kM kept minI maxI
  by_cases h : x > 0
  · rw [decide_eq_true h, decide_eq_true]
    split <;> split <;> omega
  · rw [decide_eq_false h, decide_eq_false]
    split <;> split <;> omega
def so42 (a d kp r : Int) (gs : List Int) (i : Nat) : St :=
  st42 a d kp r gs (i : Int) (envNR a d kp r (gOf gs) i).st (envNR a d kp r (gOf gs) i).lv (envNR a d kp r (gOf gs) i).fr (envNR a d kp r (gOf gs) i).g (.gr (9, 0) i 1) [(9, .cells true ((outs a d kp r (gOf gs) i).map int64))]
section
variable {a d kp r : Int} (h : envOk a d kp r = true) {gs : List Int} (hs : gs.length ≤ 20000)
include h hs
theorem next42 {A : Type} {i : Nat} (h0 : 0 < i) (hi : i < gs.length) (K : Ex → St → Option A) :
    loopBF Try.prog (O78 orc0) tb 42 8 [9] 5 (so42 a d kp r gs i) K = K .normal (so42 a d kp r gs (i + 1)) := by
  obtain ⟨a1, a2, d1, d2, k1, k2, r1, r2⟩ := envOk_iff.1 h
  obtain ⟨m, rfl⟩ : ∃ m, i = m + 1 := ⟨i - 1, by omega⟩
  unfold so42
  rw [b42]
  unfold body42
  rw [decide_eq_true (by omega : ((m + 1 : Nat) : Int) < (gs.length : Int)), cond_true, ldI_eq hi, ← kM_pos, gOf_get hi]
  obtain ⟨e1, e2⟩ := envR_eq a1 d1 r1 (gOf gs (m + 1)) (envNR a d kp r (gOf gs) (m + 1)) (kp := kp) (fun st lv fl =>
    guardK (Nat.ble ((m + 1 + 1) * 8) limit && Nat.ble (m + 1 + 1) limit) <| guardK (Nat.ble (0 + (m + 1) * 1) (lenA ((outs a d kp r (gOf gs) (m + 1)).map int64))) <| guardK (allS (appA (takeA (dropA ((outs a d kp r (gOf gs) (m + 1)).map int64) 0) ((m + 1) * 1)) [int64 lv]) && true) <|
    K .normal (st42 a d kp r gs (IntKind.i64.wrap (((m + 1 : Nat) : Int) + 1)) st lv fl (gOf gs (m + 1)) (.gr (9, 0) (m + 1 + 1) 1) [(9, .cells true (appA (takeA (dropA ((outs a d kp r (gOf gs) (m + 1)).map int64) 0) ((m + 1) * 1)) [int64 lv]))]))
  refine e1.trans ?_
  have e3 : (envNR a d kp r (gOf gs) (m + 1 + 1)).g = gOf gs (m + 1) := e2
  have e4 : Nat.ble (0 + (m + 1) * 1) (m + 1) = true := Nat.ble_eq_true_of_le (by omega)
  have e5 : (envRF a d kp r (gOf gs (m + 1)) (envNR a d kp r (gOf gs) (m + 1))).lv = (envN a d kp r (gOf gs) (m + 1 + 1)).lv := (envN_rel a d kp r (gOf gs) (m + 1 + 1)).2.1
  rw [grow_ints (outs_len _ _ _ _ _ _), allS_ints, lenM, outs_len, limit_ok (by omega), e4, wrapN (by omega), outs_succ a d kp r (gOf gs) (m + 1), e3, e5]
  have e6 : (envNR a d kp r (gOf gs) (m + 1 + 1)).lv = (envN a d kp r (gOf gs) (m + 1 + 1)).lv := (envN_rel a d kp r (gOf gs) (m + 1 + 1)).2.1
  rw [e6]
  rfl
end
def N42 : Norm := ⟨[1, 4, 5, 6, 8, 9], []⟩
noncomputable def S42 (a d kp r : Int) (gs : List Int) (s1 : St) : Orc := SW a d kp r true (knowLF Try.prog 42 8 N42 [9] 5 (st42 a d kp r gs 0 0 0 0 false (.sl none 0 0 true 0) []) (.exit 0) s1 orc0)
end Go.Proofs.Ythlmbnhelkbchaa
/- The document's Run: a round of its loop, whatever the kind. -/
namespace Go.Proofs.Ythlmbnhelkbchaa
open Go.Ev
set_option maxRecDepth 100000
def cellsG : AV → List AV
  | .agg cs => cs
  | _ => []
def rsOf (cs : List AV) : Rs := ⟨intOf (nth cs 4), intOf (nth cs 5), intOf (nth cs 6), intOf (nth cs 7), intOf (nth cs 8), boolOf (nth cs 9), intOf (nth cs 10), rowOf (nth cs 11)⟩
theorem rsOf_cells (k r : Int) (ui ua : List Int) (o : Rs) : rsOf (cellsR k r ui ua o) = o := by
  unfold rsOf cellsR
  show (⟨o.frame, o.held, o.phase, o.n, o.stage, o.gate, o.fall, rowOf (ints o.past)⟩ : Rs) = o
  rw [rowOf_ints]
def zero12 : Blk := .cells true [int64 0, int64 0, .sl none 0 0 true 0, .sl none 0 0 true 0, int64 0, int64 0, int64 0, int64 0, int64 0, .bool false, int64 0, .sl none 0 0 true 0]
def st34 (k r : Int) (ui ua : List Int) (n : Int) (ls : List (List Int)) (i : Int) (o : Rs) (out : AV) (l : List (Nat × Blk)) : St := ⟨[.dead, int64 n, lists ls, .ptr (some (0, 0)), .dead, .dead, .ptr (some (1, 0)), .dead, .dead, .dead, out, int64 i] ++ repA .dead 65,
  mkHeap (l ++ [(1, zero12), (0, .cells true (cellsR k r ui ua o))]) 10, [], .off⟩
def dueRT {A : Type} (r fr : Int) (yes no : Option A) : Option A := bif r == 3 then yes else bif r == 2 then (bif fr.tmod 64 == 0 then yes else bif fr == 0 then yes else no) else bif fr == 0 then yes else no
def heldR (o : Rs) (v : Int) : Rs := ⟨o.frame, v, o.phase, o.n, o.stage, o.gate, o.fall, o.past⟩
def fwdR (o : Rs) : Rs := ⟨IntKind.i64.wrap (o.frame + 1), o.held, o.phase, o.n, o.stage, o.gate, o.fall, o.past⟩
noncomputable def tailR0 {A : Type} (k r : Int) (ui ua : List Int) (n : Int) (ls : List (List Int)) (i : Int) (K : Ex → St → Option A) (o : Rs) : Option A :=
  E o.held <| K .normal (st34 k r ui ua n ls (IntKind.i64.wrap (i + 1)) (fwdR o) (.gr (8, 0) 1 1) [(8, .cells true [int64 o.held])])
noncomputable def tailRG {A : Type} (k r : Int) (ui ua : List Int) (n : Int) (ls : List (List Int)) (i : Int) (cs : List AV) (m : Nat) (K : Ex → St → Option A) (o : Rs) : Option A :=
  E o.held <| guardK (Nat.ble ((m + 1 + 1) * 8) limit && Nat.ble (m + 1 + 1) limit) <| guardK (Nat.ble (0 + (m + 1) * 1) (lenA cs)) <| guardK (allS (appA (takeA (dropA cs 0) ((m + 1) * 1)) [int64 o.held]) && true) <|
  K .normal (st34 k r ui ua n ls (IntKind.i64.wrap (i + 1)) (fwdR o) (.gr (8, 0) (m + 1 + 1) 1) [(8, .cells true (appA (takeA (dropA cs 0) ((m + 1) * 1)) [int64 o.held]))])
def envG (a d kp r : Int) (b : Bool) (o : Rs) : Rs := envS o (envRF a d kp r b ⟨o.stage, o.n, o.fall, o.gate⟩).st (envRF a d kp r b ⟨o.stage, o.n, o.fall, o.gate⟩).lv (envRF a d kp r b ⟨o.stage, o.n, o.fall, o.gate⟩).fr b
theorem run69 (r u0 y0 y1 y2 y3 : Int) (b : Bool) (o : Rs) : evCall Try.prog (OT orc0) tb 100 AV (.fn 69) [.agg (cellsR 6 r [u0] [y0, y1, y2, y3] o), .bool b] (mkHeap [] 0) .off (viewK Try.prog (resOf Try.prog 69)) =
    envR y0 y1 y2 y3 b o.gate o.stage o.n o.fall fun st lv fl => some (.agg (cellsR 6 r [u0] [y0, y1, y2, y3] (envS o st lv fl b))) := by kernel_rfl
theorem args69 (r u0 y0 y1 y2 y3 : Int) (b : Bool) (o : Rs) : vwArgs Try.prog [] none0 (parsOf Try.prog 69) [.agg (cellsR 6 r [u0] [y0, y1, y2, y3] o), .bool b] = [.agg (cellsR 6 r [u0] [y0, y1, y2, y3] o), .bool b] := by kernel_rfl
def is69 (a : List AV) : Prop := ∃ r u0 y0 y1 y2 y3 b o, a = [.agg (cellsR 6 r [u0] [y0, y1, y2, y3] o), .bool b] ∧ y0 ≥ 1 ∧ y1 ≥ 1 ∧ y3 ≥ 1
def env69 (cs : List AV) (b : Bool) : Rs := envG ((rowOf (nth cs 3)).getD 0 0) ((rowOf (nth cs 3)).getD 1 0) ((rowOf (nth cs 3)).getD 2 0) ((rowOf (nth cs 3)).getD 3 0) b (rsOf cs)
def putR (cs : List AV) (o : Rs) : List AV := [nth cs 0, nth cs 1, nth cs 2, nth cs 3, int64 o.frame, int64 o.held, int64 o.phase, int64 o.n, int64 o.stage, .bool o.gate, int64 o.fall, nth cs 11]
def V69 (a : List AV) : AV := .agg (putR (cellsG (nth a 0)) (env69 (cellsG (nth a 0)) (boolOf (nth a 1))))
theorem when69 (a : List AV) (h : isSo (is69 a) = true) : FFact Try.prog tb 69 a (V69 a) := by
  obtain ⟨r, u0, y0, y1, y2, y3, b, o, rfl, h0, h1, h3⟩ := isSo_iff.1 h
  refine ⟨args69 r u0 y0 y1 y2 y3 b o, _, OT_ok ok0, (run69 r u0 y0 y1 y2 y3 b o).trans ?_⟩
  obtain ⟨e1, e2⟩ := envR_eq (A := AV) h0 h1 h3 b ⟨o.stage, o.n, o.fall, o.gate⟩ (kp := y2) (fun st lv fl => some (.agg (cellsR 6 r [u0] [y0, y1, y2, y3] (envS o st lv fl b))))
  refine e1.trans ?_
  have er : rsOf (cellsR 6 r [u0] [y0, y1, y2, y3] o) = o := rsOf_cells _ _ _ _ _
  have ey : rowOf (nth (cellsR 6 r [u0] [y0, y1, y2, y3] o) 3) = [y0, y1, y2, y3] := rowOf_ints _
  unfold V69 env69
  show _ = some (AV.agg (putR (cellsR 6 r [u0] [y0, y1, y2, y3] o) (envG ((rowOf (nth (cellsR 6 r [u0] [y0, y1, y2, y3] o) 3)).getD 0 0) ((rowOf (nth (cellsR 6 r [u0] [y0, y1, y2, y3] o) 3)).getD 1 0) ((rowOf (nth (cellsR 6 r [u0] [y0, y1, y2, y3] o) 3)).getD 2 0) ((rowOf (nth (cellsR 6 r [u0] [y0, y1, y2, y3] o) 3)).getD 3 0) b (rsOf (cellsR 6 r [u0] [y0, y1, y2, y3] o)))))
  rw [er, ey]
  rfl
noncomputable def OT6 (S : Orc) : Orc := addF 69 (whenO (fun a => isSo (is69 a)) V69) (OT S)
theorem OT6_ok {S : Orc} (h : Ok S) : Ok (OT6 S) := addF_ok (fnSim_whenF tbOk when69) natF_when (OT_ok h)
noncomputable def bodyR {A X : Type} (n i r : Int) (o : Rs) (inp : (X → Option A) → Option A) (step : X → (Rs → Int → Option A) → Option A) (tl : Rs → Option A) (ex : Option A) : Option A :=
  bif decide (i < n) then inp fun x => dueRT r o.frame (step x fun o' v => tl (heldR o' v)) (tl o) else ex
noncomputable abbrev B34 {A : Type} (S : Orc) (k r : Int) (ui ua : List Int) (n : Int) (ls : List (List Int)) (i : Int) (o : Rs) (K : Ex → St → Option A) : Option A := loopBG Try.prog S tb 34 12 ⟨[8], [], []⟩ 2 (st34 k r ui ua n ls i o (.sl none 0 0 true 0) []) K
noncomputable abbrev G34 {A : Type} (S : Orc) (k r : Int) (ui ua : List Int) (n : Int) (ls : List (List Int)) (i : Int) (o : Rs) (cs : List AV) (q : Nat) (K : Ex → St → Option A) : Option A := loopBG Try.prog S tb 34 12 ⟨[8], [], []⟩ 2 (st34 k r ui ua n ls i o (.gr (8, 0) (q + 1) 1) [(8, .cells true cs)]) K
noncomputable abbrev exR0 {A : Type} (k r : Int) (ui ua : List Int) (n : Int) (ls : List (List Int)) (i : Int) (o : Rs) (K : Ex → St → Option A) : Option A := K (.exit 2) (st34 k r ui ua n ls i o (.sl none 0 0 true 0) [])
noncomputable abbrev exRG {A : Type} (k r : Int) (ui ua : List Int) (n : Int) (ls : List (List Int)) (i : Int) (o : Rs) (cs : List AV) (q : Nat) (K : Ex → St → Option A) : Option A := guardK (allS cs && true) (K (.exit 2) (st34 k r ui ua n ls i o (.gr (8, 0) (q + 1) 1) [(8, .cells true cs)]))
abbrev no0R {A : Type} (f : Unit → Option A) : Option A := f ()
abbrev in2R {A : Type} (xs ys : List Int) (i : Int) (f : Int × Int → Option A) : Option A := ldI xs i fun x => ldI ys i fun y => f (x, y)
def zR {A : Type} (k r : Int) (ui ua : List Int) (o : Rs) (x : Option A) : Option A := bif sameV (.agg (cellsR k r ui ua o)) (.agg (cellsR k r ui ua o)) then x else none
section
variable {A : Type}
def stepR1 (r u0 : Int) (o : Rs) (x : Int) (f : Rs → Int → Option A) : Option A := zR 1 r [u0] [] (oscR o x) <| f (oscR o x) (sndR (w64 (w64 (o.phase.tdiv 256) - 8388608)))
def stepR2 (r u0 u1 : Int) (o : Rs) (p : Int × Int) (f : Rs → Int → Option A) : Option A := bif decide (o.phase < w64 (num p.2 * 65536)) then zR 2 r [u0, u1] [] (oscR o p.1) <| f (oscR o p.1) 8388607 else zR 2 r [u0, u1] [] (oscR o p.1) <| f (oscR o p.1) (-8388607)
def stepR3 (r u0 : Int) (o : Rs) (x : Int) (f : Rs → Int → Option A) : Option A := bif decide (w64 (o.phase.tdiv 128) ≥ 16777216) then zR 3 r [u0] [] (oscR o x) <| f (oscR o x) (sndR (w64 (25165824 - w64 (o.phase.tdiv 128)))) else zR 3 r [u0] [] (oscR o x) <| f (oscR o x) (sndR (w64 (w64 (o.phase.tdiv 128) - 8388608)))
def stepR4 (r y0 : Int) (o : Rs) (_ : Unit) (f : Rs → Int → Option A) : Option A := zR 4 r [] [y0] (withN o (rnR o.n)) <| f (withN o (rnR o.n)) (sndR (w64 (w64 ((rnR o.n).tdiv 128) - 8388608)))
noncomputable def h77h (a i n : Int) (x : Option A) : Option A := bif isSo (is77h [int64 a, int64 i, int64 n]) then x else none
noncomputable def stepR5 (r y0 y1 y2 : Int) (o : Rs) (_ : Unit) (f : Rs → Int → Option A) : Option A :=
  let rest (n : Int) : Option A := bif decide (o.n ≥ y2) then E y1 <| f (withN o n) y1 else h77h (w64 (y1 - y0)) o.n y2 <| zR 5 r [] [y0, y1, y2] (withN o n) <| E y0 <| E y0 <| f (withN o n) (w64 (y0 + prodM (w64 (y1 - y0)) o.n y2))
  bif decide (o.n < y2) then rest (w64 (o.n + 1)) else rest o.n
noncomputable def h77g (a b : Int) (x : Option A) : Option A := bif isSo (is77g [int64 a, int64 b, int64 65536]) then x else none
noncomputable def h77l (a b : Int) (x : Option A) : Option A := bif isSo (is77 [int64 a, int64 b, int64 65536]) then x else none
noncomputable def stepR7 (_ _ _ : Int) (o : Rs) (p : Int × Int) (f : Rs → Int → Option A) : Option A := E o.n <| E (num p.1) <| E o.n <| h77l (w64 (num p.1 - o.n)) (into (num p.2) 0 65536) <| E o.n <| E (lowW p.1 p.2 o.n) <| f (withN o (lowW p.1 p.2 o.n)) (lowW p.1 p.2 o.n)
noncomputable def stepR6 (r u0 y0 y1 y2 y3 : Int) (o : Rs) (x : Int) (f : Rs → Int → Option A) : Option A :=
  bif isSo (is69 [.agg (cellsR 6 r [u0] [y0, y1, y2, y3] o), .bool (decide (num x > 0))]) then E (envG y0 y1 y2 y3 (decide (num x > 0)) o).n <| f (envG y0 y1 y2 y3 (decide (num x > 0)) o) (envG y0 y1 y2 y3 (decide (num x > 0)) o).n else none
def stepR8 (r u0 u1 : Int) (o : Rs) (p : Int × Int) (f : Rs → Int → Option A) : Option A := zR 8 r [u0, u1] [] o <| f o (num (w64 (num p.1 + num p.2)))
noncomputable def stepR9 (r u0 u1 : Int) (o : Rs) (p : Int × Int) (f : Rs → Int → Option A) : Option A := h77g (num p.1) (num p.2) <| zR 9 r [u0, u1] [] o <| f o (num (prodN (num p.1) (num p.2)))
def stepR10 (r u0 u1 : Int) (o : Rs) (p : Int × Int) (f : Rs → Int → Option A) : Option A := zR 10 r [u0, u1] [] o <| f o (into (num p.1) (w64 (0 - maxI (num p.2) 0)) (maxI (num p.2) 0))
def stepR12 (r y0 : Int) (o : Rs) (x : Int) (f : Rs → Int → Option A) : Option A := zR 12 r [] [y0] o <| f o (num x)
def stepR13 (r u0 y0 : Int) (o : Rs) (x : Int) (f : Rs → Int → Option A) : Option A := zR 13 r [u0] [y0] o <| f o (num x)
def stepR14 (r y0 : Int) (o : Rs) (x : Int) (f : Rs → Int → Option A) : Option A := zR 14 r [] [y0] o <| f o (num x)
def stepR15 (r y0 : Int) (o : Rs) (_ : Unit) (f : Rs → Int → Option A) : Option A := zR 15 r [] [y0] o <| f o y0
end
end Go.Proofs.Ythlmbnhelkbchaa
