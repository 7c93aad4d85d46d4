/- UnitNexts: the law. -/
import Derived.Test.YthlmbnhelkbchaaJ31
namespace Go.Proofs.Ythlmbnhelkbchaa
open Go.Ev
set_option maxRecDepth 100000
section
variable {r u0 : Int} {N : Nat}
theorem vT_eq (row : List Int) (s : Rs) : vT (arg35 11 r [u0] [(N : Int)] s row) = nxT row s := by
  unfold vT
  show nxT (rowOf (ints row)) (rsOf (cellsR 11 r [u0] [(N : Int)] s)) = _
  rw [rowOf_ints, rsOf_cells]
theorem vRd_eq (n : Nat) (xs : List Int) (s : Rs) : vRd r (argR 11 r [u0] [(N : Int)] s n [xs]) = runR r (H11 xs) 0 n s := by
  unfold vRd
  show runR r (H11 ((rowsOf (lists [xs])).getD 0 [])) 0 (intOf (int64 (n : Int))).toNat (rsOf (cellsR 11 r [u0] [(N : Int)] s)) = _
  rw [rowsOf_lists, rsOf_cells]
  rfl
theorem S8d_ok (hN : 1 ≤ N) (hN' : N ≤ 100000) {S : Orc} (hS : Ok S) : Ok (S8d r u0 N S) := by
  refine OD_ok (OXD_ok (knowFW_ok (fun a h => ?_) (knowFW_ok (fun a h => ?_) (O20_ok hS))))
  · obtain ⟨row, s, rfl, hp⟩ := isSo_iff.1 h
    unfold V35d
    rw [vT_eq]
    exact factT hN hN' hp
  · obtain ⟨n, xs, s, rfl, hx, hn, hp⟩ := isSo_iff.1 h
    unfold V34d
    rw [vRd_eq]
    exact runR_fact (OT_ok ok0) (rdR_11 (r := r) (u0 := u0) (y0 := (N : Int)) hN hN' hx) (rnR_11 r u0 N xs) hn (by simp [hx]) hp
theorem ar21a (row : List Int) : vwArgs Try.prog [(14, 1), (1, 0)] none0 (parsOf Try.prog 21) [.ptr (some (1, 0)), ints row] = arg21 row := by kernel_rfl
theorem ar21b (row : List Int) : vwArgs Try.prog [(21, 1), (1, 0)] none0 (parsOf Try.prog 21) [.ptr (some (1, 0)), ints row] = arg21 row := by kernel_rfl
theorem round8d_eq (hN : 1 ≤ N) (hN' : N ≤ 100000) {A : Type} {q : Nat} (hq : q = 14 ∨ q = 21) {ls : List (List Int)} {i : Nat} {o : Ob} {L : List Int} {s : Rs} {zc : AV} (h : i < ls.length) (hm : ls.length ≤ 10) {b : Bool} (hs : SameD N ⟨b, o, L⟩ s) (K : Ex → St → Option A) :
    round8d q r u0 N ls zc (i : Int) o (L.map int64) s K = K .normal (stNd 21 r u0 N ls zc ((i + 1 : Nat) : Int) (nxD ls[i] o L).1 ((nxD ls[i] o L).2.1.map int64) (nxT ls[i] s).1) := by
  have h3 : (i : Int).toNat * 1 = i := by omega
  have h5 : Nat.blt i ls.length = true := Nat.ble_eq_true_of_le h
  have hr : rowAt ls (i : Int) = ints ls[i] := by unfold rowAt; rw [h3, nthM ints ls i h]
  have hF : isFzN (ints ls[i]) = true := rfl
  have rg : ∀ x : Option A, rowG ls (i : Int) x = x := fun x => by
    unfold rowG
    rw [hr, hF, h3, lenM, h5, decide_eq_true (Int.natCast_nonneg i), decide_eq_true (by omega : (i : Int) < (ls.length : Int))]
    rfl
  have e21 : a21d q ls (i : Int) = arg21 ls[i] := by
    show vwArgs Try.prog [(q, 1), (1, 0)] none0 (parsOf Try.prog 21) [.ptr (some (1, 0)), rowF (rowAt ls (i : Int))] = _
    rw [hr]
    rcases hq with rfl | rfl
    · exact ar21a ls[i]
    · exact ar21b ls[i]
  have e35 : ar35d r u0 N s ls (i : Int) = arg35 11 r [u0] [(N : Int)] s ls[i] := by
    show [_, rowF (rowAt ls (i : Int))] = _
    rw [hr]
    rfl
  obtain ⟨n1, n2, n3, n4⟩ := nxD_same ls[i] hN hs
  have hL : L.length = N := hs.n
  have hp : s.past.length = N := by rw [← hs.l]; exact hL
  unfold round8d
  simp only
  rw [rg, rg, e21, e35, sX_eq, vT_eq, allS_ints, isSo_true ⟨r, u0, N, o, N, L, _, rfl, rfl, hN, hN', hL⟩, isSo_true ⟨_, _, rfl, hp⟩, E_eq, n1, n2, n3, allS_ints, decide_eq_true (by omega : (i : Int) < (ls.length : Int)), show w64 ((i : Int) + 1) = ((i + 1 : Nat) : Int) from by unfold w64; rw [IntKind.wrap_i64]; omega]
  simp only [guardK, Bool.and_true, cond_true, cond_false, Bool.not_true, beq_self_eq_true]
theorem b820d {A : Type} {q : Nat} (hq : q = 14 ∨ q = 21) (r u0 : Int) (N : Nat) (ls : List (List Int)) (zc : List AV) (zn : Nat) (i : Int) (o : Ob) (L : List AV) (s : Rs) (K : Ex → St → Option A) :
    B820d r u0 N (stNd q r u0 N ls (.fz zc zn false 1) i o L s) K = round8d q r u0 N ls (.fz zc zn false 1) i o L s K := by
  rcases hq with rfl | rfl
  · exact b820d_1 ..
  · exact b820d_2 ..
theorem loop8d (hN : 1 ≤ N) (hN' : N ≤ 100000) {ls : List (List Int)} {zc : List AV} {zn : Nat} (hm : ls.length ≤ 10) : ∀ (d i Q q : Nat) (b : Bool) (o : Ob) (L : List Int) (s : Rs), (q = 14 ∨ q = 21) → i + d = ls.length → d < Q → SameD N ⟨b, o, L⟩ s →
    ∃ (q' : Nat) (i' : Int) (o' : Ob) (L' : List Int) (s' : Rs), (q' = 14 ∨ q' = 21) ∧ SameD N ⟨false, o', L'⟩ s' ∧ loopN (B820d r u0 N) Q (stNd q r u0 N ls (.fz zc zn false 1) (i : Int) o (L.map int64) s) pairE = some (.exit 2, stNd q' r u0 N ls (.fz zc zn false 1) i' o' (L'.map int64) s') := by
  intro d
  induction d with
  | zero =>
    intro i Q q b o L s hq hi hQ hs
    obtain ⟨Q, rfl⟩ : ∃ q, Q = q + 1 := ⟨Q - 1, by omega⟩
    refine ⟨q, (i : Int), o, L, s, hq, ⟨hs.l, hs.n, hs.f, hs.t⟩, ?_⟩
    rw [loopN_succ, b820d hq]
    unfold round8d
    rw [decide_eq_false (by omega : ¬ (i : Int) < (ls.length : Int)), allS_ints]
    rfl
  | succ d ih =>
    intro i Q q b o L s hq hi hQ hs
    obtain ⟨Q, rfl⟩ : ∃ q, Q = q + 1 := ⟨Q - 1, by omega⟩
    have h : i < ls.length := by omega
    obtain ⟨-, -, -, hs1⟩ := nxD_same ls[i] hN hs
    obtain ⟨q', i', o', L', s', a1, a2, a3⟩ := ih (i + 1) Q 21 false _ _ _ (Or.inr rfl) (by omega) (by omega) hs1
    refine ⟨q', i', o', L', s', a1, a2, ?_⟩
    rw [loopN_succ, b820d hq, round8d_eq hN hN' hq h hm hs]
    exact a3
theorem law_N11 (hr : 1 ≤ r ∧ r ≤ 3) (hN : 1 ≤ N) (hN' : N ≤ 100000) (h29 : F 29 [uD r u0 N] (.bool true)) (h13 : F 13 [uD r u0 N] (.bool true))
    (ls : List (List Int)) (first : Int) : ∃ S, Ok S ∧ run8 S (uD r u0 N) ls first = some true := by
  cases hlong : longB [u0] [(N : Int)] ls with
  | true => exact ⟨_, SL10_ok hlong ok0, by rw [l8_long, same_self, same_self]; rfl⟩
  | false =>
  by_cases hout : first < 0 ∨ first > 100
  · exact ⟨_, SL10_ok hlong (stopAt_ok ok0), (l8_pre 11 r [u0] [(N : Int)] ls first).trans (pre8_out hout _)⟩
  obtain ⟨n, rfl⟩ : ∃ n : Nat, first = n := ⟨first.toNat, by omega⟩
  have hls := longB_len hlong
  have hr' : r = 1 ∨ r = 2 ∨ r = 3 := by omega
  have hM : maxLen = 9223372036854775807 := rfl
  have hrd : rounds = 100000000000000000000 := rfl
  have hzn : (zs n).length = n := by simp
  obtain ⟨s1, s2⟩ := runD_same (r := r) (xs := zs n) hr' hN n 0 ⟨false, ob0 0, zs N⟩ (rsD N) ⟨rfl, by simp, rfl, rfl⟩
  generalize hp : runD r (zs n) 0 n ⟨false, ob0 0, zs N⟩ = p at s1 s2
  generalize ht : runR r (H11 (zs n)) 0 n (rsD N) = t at s1 s2
  obtain ⟨⟨own, o1, L1⟩, os⟩ := p
  obtain ⟨q', i', o', L', s', hq', hs', hloop⟩ := loop8d (r := r) (u0 := u0) hN hN' (zc := [zs n].map ints) (zn := [zs n].length) hls ls.length 0 rounds 14 own o1 L1 t.1 (Or.inl rfl) (by omega) (by omega) s2
  have hf20 : LFact Try.prog tb 8 20 15 (stNd 14 r u0 N ls (lists [zs n]) 0 o1 (L1.map int64) t.1) (.exit 2) (stNd q' r u0 N ls (lists [zs n]) i' o' (L'.map int64) s') := LFact.flatG (S8d_ok hN hN' (stopAt_ok ok0)) hloop
  have hz := z12_d r u0 N ls ((zs N).map int64) n (by omega)
  rw [allS_ints] at hz
  have hf12 : LFact Try.prog tb 8 12 5 (st12d r u0 N ls (n : Int) 0 [nilS] ((zs N).map int64)) (.exit 0) (st15d r u0 N ls (n : Int) [zs n] ((zs N).map int64)) := LFact.flatG ok0 hz
  obtain ⟨e1, -⟩ := runD_same (r := r) (xs := zs 70) hr' hN 70 0 ⟨false, o', L'⟩ s' hs'
  have h36 : NFact Try.prog tb 36 [lists [zs n], int64 70] (lists [zs 70]) := ⟨ar36 _, _, ok0, g36_1 (zs n)⟩
  have h33 : F 33 [int64 11] (int64 1) := .of ok0 rfl fun h => by kernel_rfl
  have ok : Ok (SNd r u0 N (ZN N) [zs n] [zs 70] (st12d r u0 N ls (n : Int) 0 [nilS] ((zs N).map int64)) (st15d r u0 N ls (n : Int) [zs n] ((zs N).map int64)) (stNd 14 r u0 N ls (lists [zs n]) 0 o1 (L1.map int64) t.1) (stNd q' r u0 N ls (lists [zs n]) i' o' (L'.map int64) s') (stopAt 8 [17] orc0)) :=
    S18d_ok hN hN' h29 h13 (know_ok tbOk h33 (S8d_ok hN hN' (knowN_ok tbOk h36 (knowLG_ok tbOk (F := flZ) hf12 (knowLG_ok tbOk (F := flN) hf20 (stopAt_ok ok0) (ep := e8) rfl norm820 count820) (ep := e8) rfl norm812 count812))))
  have hn10 : ∀ x : Option Bool, new10d r u0 N x = x := fun x => by unfold new10d; rw [isSo_true ⟨rfl, rfl⟩, same_self]; rfl
  have fin : pre8 (uD r u0 N) ls (n : Int) (new10d r u0 N <| good8d r u0 N (ZN N) ((zs N).map int64) ls [zs n] [zs 70] (n : Int) (st12d r u0 N ls (n : Int) 0 [nilS] ((zs N).map int64)) (stNd 14 r u0 N ls (lists [zs n]) 0 o1 (L1.map int64) t.1) o' (L'.map int64) s') = some true := by
    refine pre8_in _ _ _ ?_
    have hG : isSo (GD (argU (n : Nat) [zs n]) (objD r u0 N (ob0 0) N ((zs N).map int64))) = true := isSo_true ⟨r, u0, N, _, N, _, _, n, rfl, rfl, hN, hN', by simp, hzn, by omega⟩
    have hG2 : isSo (GD (argU 70 [zs 70]) (objD r u0 N o' N (L'.map int64))) = true := isSo_true ⟨r, u0, N, _, N, _, _, 70, rfl, rfl, hN, hN', hs'.n, by simp, by omega⟩
    have hR : isSo (G34d r u0 N (argR 11 r [u0] [(N : Int)] (rsD N) (n : Nat) [zs n])) = true := isSo_true ⟨n, zs n, _, rfl, hzn, by omega, by simp [rsD]⟩
    have hR2 : isSo (G34d r u0 N (argR 11 r [u0] [(N : Int)] s' 70 [zs 70])) = true := isSo_true ⟨70, zs 70, _, rfl, by simp, by omega, by rw [← hs'.l]; exact hs'.n⟩
    have d1 : sD (argU (n : Nat) [zs n]) (objD r u0 N (ob0 0) N ((zs N).map int64)) = (⟨own, o1, L1⟩, os) := by rw [sD_eq]; exact hp
    have d2 : vRd r (argR 11 r [u0] [(N : Int)] (rsD N) (n : Nat) [zs n]) = t := by rw [vRd_eq]; exact ht
    have d3 : sD (argU 70 [zs 70]) (objD r u0 N o' N (L'.map int64)) = runD r (zs 70) 0 70 ⟨false, o', L'⟩ := sD_eq r u0 N o' N L' (zs 70) 70
    have d4 : vRd r (argR 11 r [u0] [(N : Int)] s' 70 [zs 70]) = runR r (H11 (zs 70)) 0 70 s' := vRd_eq 70 (zs 70) s'
    have hsv : sameV (.agg (cellsR 11 r [u0] [(N : Int)] s')) (.agg (cellsR 11 r [u0] [(N : Int)] s')) = true := by
      simp [cellsR, sameV, sameL, sameF, int64, ints]
      exact sameL_ints s'.past
    unfold good8d
    simp only
    rw [hn10, d1, d2, d3, d4, same_self, wkL_ints, allS_ints, sameSt_self, hG, hR, allS_ints, sameSt_self, same_self, allS_ints, hG2, hsv, hR2, e1, isSo_true ⟨_, _, rfl, by rw [runR_len]; omega⟩]
    simp only [guardK, Bool.and_true, cond_true, decide_true]
  rcases hq' with rfl | rfl
  · exact ⟨_, SL10_ok (k := 11) (r := r) hlong ok, (l8d_1 r u0 N (ZN N) _ ls [zs n] [zs 70] n _ _ i' o' (L'.map int64) s').trans fin⟩
  · exact ⟨_, SL10_ok (k := 11) (r := r) hlong ok, (l8d_2 r u0 N (ZN N) _ ls [zs n] [zs 70] n _ _ i' o' (L'.map int64) s').trans fin⟩
end
theorem law_N0 {k r rnd : Int} {ui ua : List Int} {Fk : List (List Int) → Nat → Ob → Ob} {Hk : List (List Int) → StepF} {CK : Nat → Nat → Ob → Rs → Prop} (N : KindN k r ui ua 0 rnd Fk Hk CK) (ls : List (List Int)) (first : Int) : ∃ S, Ok S ∧ run8 S (unitV k r ui ua) ls first = some true := by
  cases hlong : longB ui ua ls with
  | true => exact ⟨_, SL10_ok hlong ok0, by rw [l8_long, same_self, same_self]; rfl⟩
  | false =>
  by_cases hout : first < 0 ∨ first > 100
  · exact ⟨_, SL10_ok hlong (stopAt_ok ok0), (l8_pre k r ui ua ls first).trans (pre8_out hout _)⟩
  obtain ⟨n, rfl⟩ : ∃ n : Nat, first = n := ⟨first.toNat, by omega⟩
  exact law_mid N (n := n) (zl := []) (z7 := []) (by omega) (longB_len hlong) rfl (by simp) rfl (by simp) (st12 k r ui ua ls rnd (n : Int) 0 0 []) ⟨orc0, ok0, z12_0 k r ui ua rnd ls (n : Int)⟩ ⟨ar36 _, _, ok0, g36_0⟩ (fun u0 i' o' s' => l8_0 k r ui ua Fk Hk CK rnd ls [] [] n _ u0 i' o' s') hlong
theorem law_N1 {k r rnd : Int} {ui ua : List Int} {Fk : List (List Int) → Nat → Ob → Ob} {Hk : List (List Int) → StepF} {CK : Nat → Nat → Ob → Rs → Prop} (N : KindN k r ui ua 1 rnd Fk Hk CK) (ls : List (List Int)) (first : Int) : ∃ S, Ok S ∧ run8 S (unitV k r ui ua) ls first = some true := by
  cases hlong : longB ui ua ls with
  | true => exact ⟨_, SL10_ok hlong ok0, by rw [l8_long, same_self, same_self]; rfl⟩
  | false =>
  by_cases hout : first < 0 ∨ first > 100
  · exact ⟨_, SL10_ok hlong (stopAt_ok ok0), (l8_pre k r ui ua ls first).trans (pre8_out hout _)⟩
  obtain ⟨n, rfl⟩ : ∃ n : Nat, first = n := ⟨first.toNat, by omega⟩
  exact law_mid N (n := n) (zl := [zs n]) (z7 := [zs 70]) (by omega) (longB_len hlong) rfl (by simp) rfl (by simp) (st12 k r ui ua ls rnd (n : Int) 1 0 [nilS]) ⟨orc0, ok0, z12_1 k r ui ua rnd ls n (by omega)⟩ ⟨ar36 _, _, ok0, g36_1 (zs n)⟩ (fun u0 i' o' s' => l8_1 k r ui ua Fk Hk CK rnd ls [zs n] [zs 70] n _ u0 i' o' s') hlong
theorem law_N2 {k r rnd : Int} {ui ua : List Int} {Fk : List (List Int) → Nat → Ob → Ob} {Hk : List (List Int) → StepF} {CK : Nat → Nat → Ob → Rs → Prop} (N : KindN k r ui ua 2 rnd Fk Hk CK) (ls : List (List Int)) (first : Int) : ∃ S, Ok S ∧ run8 S (unitV k r ui ua) ls first = some true := by
  cases hlong : longB ui ua ls with
  | true => exact ⟨_, SL10_ok hlong ok0, by rw [l8_long, same_self, same_self]; rfl⟩
  | false =>
  by_cases hout : first < 0 ∨ first > 100
  · exact ⟨_, SL10_ok hlong (stopAt_ok ok0), (l8_pre k r ui ua ls first).trans (pre8_out hout _)⟩
  obtain ⟨n, rfl⟩ : ∃ n : Nat, first = n := ⟨first.toNat, by omega⟩
  exact law_mid N (n := n) (zl := [zs n, zs n]) (z7 := [zs 70, zs 70]) (by omega) (longB_len hlong) rfl (by simp) rfl (by simp) (st12 k r ui ua ls rnd (n : Int) 2 0 [nilS, nilS]) ⟨orc0, ok0, z12_2 k r ui ua rnd ls n (by omega)⟩ ⟨ar36 _, _, ok0, g36_2 (zs n) (zs n)⟩ (fun u0 i' o' s' => l8_2 k r ui ua Fk Hk CK rnd ls [zs n, zs n] [zs 70, zs 70] n _ u0 i' o' s') hlong
theorem law_noN {k r : Int} {xs ys : List Int} (h29 : F 29 [unitV k r xs ys] (.bool false)) (h13 : F 13 [unitV k r xs ys] (.bool false)) (ls : List (List Int)) (first : Int) : ∃ S, Ok S ∧ run8 S (unitV k r xs ys) ls first = some true := by
  cases hlong : longB xs ys ls with
  | true => exact ⟨_, SL10_ok hlong ok0, by rw [l8_long, same_self, same_self]; rfl⟩
  | false =>
  have f18 : OFact Try.prog tb scN 18 0 [] [unitV k r xs ys] [] (.tup [.ptr none, int64 1]) [] [(none, tyPt Try.prog 37)] := ⟨_, knowC_ok tbOk (h29.now (unit_nowV 29 (by kernel_rfl) _ _ _ _)) ok0, (n18_no k r xs ys).trans (Us_eq _ _)⟩
  have f32 : FFact Try.prog tb 32 [unitV k r xs ys] (.tup [.agg (cellsR 0 0 [] [] ⟨0, 0, 0, 0, 0, false, 0, []⟩), int64 1]) := ⟨unit_nowV 32 (by kernel_rfl) _ _ _ _, _, knowC_ok tbOk (h13.now (unit_nowV 13 (by kernel_rfl) _ _ _ _)) ok0, (n32_no k r xs ys).trans (Us_eq _ _)⟩
  refine ⟨_, SL10_ok hlong (knowO_ok tbOk f18 (knowF_ok tbOk f32 ok0)), (l8_no k r xs ys ls first).trans (pre8_in _ _ _ ?_)⟩
  rw [isSo_true ⟨rfl, rfl⟩, same_self]
  rfl
theorem law_N (k r : Int) (xs ys : List Int) (ls : List (List Int)) (first : Int) : ∃ S, Ok S ∧ run8 S (unitV k r xs ys) ls first = some true := by
  by_cases ho : Out k
  · obtain ⟨f29, f13⟩ := sh_out r xs ys ho
    exact law_noN f29 f13 ls first
  have : k = 1 ∨ k = 2 ∨ k = 3 ∨ k = 4 ∨ k = 5 ∨ k = 6 ∨ k = 7 ∨ k = 8 ∨ k = 9 ∨ k = 10 ∨ k = 11 ∨ k = 12 ∨ k = 13 ∨ k = 14 ∨ k = 15 := by
    unfold Out at ho
    omega
  rcases this with rfl | rfl | rfl | rfl | rfl | rfl | rfl | rfl | rfl | rfl | rfl | rfl | rfl | rfl | rfl
  · obtain ⟨v, f29, f13, hs⟩ := sh_1 r xs ys
    cases v with
    | false => exact law_noN f29 f13 ls first
    | true =>
      obtain ⟨u0, rfl, rfl, hr⟩ := hs rfl
      exact law_N1 (kn_1 hr f29 f13) ls first
  · obtain ⟨v, f29, f13, hs⟩ := sh_2 r xs ys
    cases v with
    | false => exact law_noN f29 f13 ls first
    | true =>
      obtain ⟨u0, u1, rfl, rfl, hr⟩ := hs rfl
      exact law_N2 (kn_2 hr f29 f13) ls first
  · obtain ⟨v, f29, f13, hs⟩ := sh_3 r xs ys
    cases v with
    | false => exact law_noN f29 f13 ls first
    | true =>
      obtain ⟨u0, rfl, rfl, hr⟩ := hs rfl
      exact law_N1 (kn_3 hr f29 f13) ls first
  · obtain ⟨v, f29, f13, hs⟩ := sh_4 r xs ys
    cases v with
    | false => exact law_noN f29 f13 ls first
    | true =>
      obtain ⟨y0, rfl, rfl, hr⟩ := hs rfl
      exact law_N0 (kn_4 hr f29 f13) ls first
  · obtain ⟨v, f29, f13, hs⟩ := sh_5 r xs ys
    cases v with
    | false => exact law_noN f29 f13 ls first
    | true =>
      obtain ⟨y0, y1, y2, rfl, rfl, hr, hb⟩ := hs rfl
      exact law_N0 (kn_5 hr hb f29 f13) ls first
  · obtain ⟨v, f29, f13, hs⟩ := sh_6 r xs ys
    cases v with
    | false => exact law_noN f29 f13 ls first
    | true =>
      obtain ⟨u0, y0, y1, y2, y3, rfl, rfl, hr, hb⟩ := hs rfl
      exact law_N1 (kn_6 hr hb f29 f13) ls first
  · obtain ⟨v, f29, f13, hs⟩ := sh_7 r xs ys
    cases v with
    | false => exact law_noN f29 f13 ls first
    | true =>
      obtain ⟨u0, u1, rfl, rfl, hr⟩ := hs rfl
      exact law_N2 (kn_7 hr f29 f13) ls first
  · obtain ⟨v, f29, f13, hs⟩ := sh_8 r xs ys
    cases v with
    | false => exact law_noN f29 f13 ls first
    | true =>
      obtain ⟨u0, u1, rfl, rfl, hr⟩ := hs rfl
      exact law_N2 (kn_8 hr f29 f13) ls first
  · obtain ⟨v, f29, f13, hs⟩ := sh_9 r xs ys
    cases v with
    | false => exact law_noN f29 f13 ls first
    | true =>
      obtain ⟨u0, u1, rfl, rfl, hr⟩ := hs rfl
      exact law_N2 (kn_9 hr f29 f13) ls first
  · obtain ⟨v, f29, f13, hs⟩ := sh_10 r xs ys
    cases v with
    | false => exact law_noN f29 f13 ls first
    | true =>
      obtain ⟨u0, u1, rfl, rfl, hr⟩ := hs rfl
      exact law_N2 (kn_10 hr f29 f13) ls first
  · obtain ⟨v, f29, f13, hs⟩ := sh_11 r xs ys
    cases v with
    | false => exact law_noN f29 f13 ls first
    | true =>
      obtain ⟨x0, y0, rfl, rfl, hr, h0, h1⟩ := hs rfl
      obtain ⟨N, rfl⟩ : ∃ N : Nat, y0 = N := ⟨y0.toNat, by omega⟩
      exact law_N11 hr (by omega) (by omega) f29 f13 ls first
  · obtain ⟨v, f29, f13, hs⟩ := sh_12 r xs ys
    cases v with
    | false => exact law_noN f29 f13 ls first
    | true =>
      obtain ⟨y0, rfl, rfl, hr⟩ := hs rfl
      exact law_N1 (kn_12 hr f29 f13) ls first
  · obtain ⟨v, f29, f13, hs⟩ := sh_13 r xs ys
    cases v with
    | false => exact law_noN f29 f13 ls first
    | true =>
      obtain ⟨u0, y0, rfl, rfl, hr⟩ := hs rfl
      exact law_N1 (kn_13 hr f29 f13) ls first
  · obtain ⟨v, f29, f13, hs⟩ := sh_14 r xs ys
    cases v with
    | false => exact law_noN f29 f13 ls first
    | true =>
      obtain ⟨y0, rfl, rfl, hr⟩ := hs rfl
      exact law_N1 (kn_14 hr f29 f13) ls first
  · obtain ⟨v, f29, f13, hs⟩ := sh_15 r xs ys
    cases v with
    | false => exact law_noN f29 f13 ls first
    | true =>
      obtain ⟨y0, rfl, rfl, hr⟩ := hs rfl
      exact law_N0 (kn_15 hr f29 f13) ls first
theorem law38 {H : Type} {k0 k1 k2 : Nat} {d0 d1 d2 : DataW H} (w0 : WT Try.prog k0 26 d0) (w1 : WT Try.prog k1 36 d1) (w2 : WT Try.prog k2 3 d2) :
    ∃ S, Ok S ∧ evCall Try.prog S tb 100 Bool (.fn 8) [dVal Try.prog k0 26 d0, dVal Try.prog k1 36 d1, dVal Try.prog k2 3 d2] ⟨fun _ => none, 0⟩ .off done = some true := by
  obtain ⟨k, r, xs, ys, e0⟩ := unit_arg w0
  obtain ⟨ls, e1, _⟩ := WT.vrows (e := 22) (f := 3) (by kernel_rfl) (by kernel_rfl) (by kernel_rfl) (by kernel_rfl) (by kernel_rfl) w1
  obtain ⟨first, e2, _⟩ := WT.vint (by kernel_rfl) w2
  rw [e0, e1, e2]
  exact law_N k r xs ys ls first
end Go.Proofs.Ythlmbnhelkbchaa
