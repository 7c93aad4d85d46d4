/- UnitRuns, a delay: the law's run. -/
import Derived.Test.YthlmbnhelkbchaaJ30
namespace Go.Proofs.Ythlmbnhelkbchaa
open Go.Ev
set_option maxRecDepth 100000
abbrev uD (r u0 : Int) (N : Nat) : AV := unitV 11 r [u0] [(N : Int)]
noncomputable def resNd (r u0 : Int) (N : Nat) (Z : List AV) : ORes := ((.tup [.ptr (some (11, 0)), int64 0], [(11, .cells true (cellsD r u0 N (ob0 0) (.sl (some (12, 0)) N N true 1))), (12, .cells true Z)]), psNd)
noncomputable def S18d (r u0 : Int) (N : Nat) (Z : List AV) (S : Orc) : Orc := addF 18 (wkO (whenOb Try.prog scNd 18 0 [] [12] (fun a l => a = [uD r u0 N] ∧ l = []) (fun _ _ => resNd r u0 N Z))) (knowF 32 [uD r u0 N] (.tup [.agg (cellsR 11 r [u0] [(N : Int)] (rsD N)), int64 0]) S)
noncomputable abbrev argRd (r u0 : Int) (N : Nat) (fr : Int) (ls : List (List Int)) : List AV := argR 11 r [u0] [(N : Int)] (rsD N) fr ls
noncomputable def SEd (r u0 : Int) (N : Nat) (Z : List AV) (e fr : Int) (ls : List (List Int)) (S : Orc) : Orc := S18d r u0 N Z (knowOW Try.prog scD 19 2 [1] [1, 17] (fun a l => a = argU fr ls ∧ l = objD r u0 N (ob0 0) N (wkL Z)) (fun _ _ => ((errU e, grabB r u0 N (ob0 0) N (wkL Z)), psD 1)) (knowF 34 (argRd r u0 N fr ls) (resR 11 r [u0] [(N : Int)] (rsD N) (ints []) e) (O20 S)))
noncomputable def SGd (r u0 : Int) (N : Nat) (Z : List AV) (fr : Int) (ls : List (List Int)) (en : Rs) (want : List Int) (st0 s1 : St) (S : Orc) : Orc :=
  S18d r u0 N Z (knowF 34 (argRd r u0 N fr ls) (resR 11 r [u0] [(N : Int)] en (ints want) 0) (OD (OKd (O20 (knowLG Try.prog 10 17 N17 fl17 25 st0 (.exit 0) s1 S)))))
noncomputable abbrev new10d {A : Type} (r u0 : Int) (N : Nat) (x : Option A) : Option A := bif isSo ([uD r u0 N] = [uD r u0 N] ∧ ([] : List (Nat × Blk)) = []) then bif same [uD r u0 N] [uD r u0 N] then x else none else none
noncomputable def goodT (r u0 : Int) (N : Nat) (Z : List AV) (xs : List Int) (fr : Int) (cuts want : List Int) (en : Rs) (st0 : St) (fin : Int) : Option Bool :=
  let p := sD (argU fr [xs]) (objD r u0 N (ob0 0) N (wkL Z))
  new10d r u0 N <| guardK (allS (wkL Z) && true && true) <| bif isSo (GD (argU fr [xs]) (objD r u0 N (ob0 0) N (wkL Z))) then bif same (argRd r u0 N fr [xs]) (argRd r u0 N fr [xs]) then
    bif isSo (is20 [ints p.2, ints want]) then bif !(decide (rowOf (ints p.2) = rowOf (ints want))) then none else
      E en.frame <| bif !(p.1.o.frame == en.frame) then none else
        bif isSo ([uD r u0 N] = [uD r u0 N] ∧ ([] : List (Nat × Blk)) = []) then guardK (allS (wkL Z) && (allS (p.1.L.map int64) && true)) <| (bif sameSt (stRd 24 r u0 N fr N xs cuts want p.1.o (p.1.L.map int64) en 0 0 (ob0 0) (wkL Z)) st0 then some (fin == fr) else none) else none
    else none
  else none else none
end Go.Proofs.Ythlmbnhelkbchaa
/- UnitRuns, a delay: the law. -/
namespace Go.Proofs.Ythlmbnhelkbchaa
open Go.Ev
set_option maxRecDepth 100000
theorem e7d (r u0 y0 n : Int) (o : Ob) (N : Nat) (L : List AV) (ls : List (List Int)) : run19d (stopAt 19 [4] orc0) r u0 y0 o N L n ls = rangeT n (errD r u0 y0 o N L 7) none := by kernel_rfl
theorem ea_11 (r u0 y0 n : Int) (o : Ob) (N : Nat) (L : List AV) (ls : List (List Int)) : run19d (stopAt 53 [0, 1, 2, 3] (OId orc0)) r u0 y0 o N L n ls = rangeT n (errD r u0 y0 o N L 7) (inD r u0 y0 o N L <| bif (ls.length : Int) == 1 then none else errD r u0 y0 o N L 11) := by kernel_rfl
theorem eb_11 (r u0 y0 n : Int) (o : Ob) (N : Nat) (L : List AV) (xs : List Int) : run19d (stopAt 19 [5] (OId orc0)) r u0 y0 o N L n [xs] = rangeT n (errD r u0 y0 o N L 7) (inD r u0 y0 o N L <| sizeT n (errD r u0 y0 o N L 11) none [xs]) := by kernel_rfl
theorem eaR_11 (r u0 y0 n : Int) (o : Rs) (ls : List (List Int)) : run34 (stopAt 34 [5] orc0) 11 r [u0] [y0] o n ls = rangeRT n (some (resR 11 r [u0] [y0] o (ints []) 7)) (bif !((ls.length : Int) == 1) then some (resR 11 r [u0] [y0] o (ints []) 11) else none) := by kernel_rfl
theorem ebR_11 (r u0 y0 n : Int) (o : Rs) (xs : List Int) : run34 (stopAt 34 [10] orc0) 11 r [u0] [y0] o n [xs] = rangeRT n (some (resR 11 r [u0] [y0] o (ints []) 7)) (sizeRT n (some (resR 11 r [u0] [y0] o (ints []) 11)) none [xs]) := by kernel_rfl
section
variable {r u0 : Int} {N : Nat}
abbrev factE (r u0 : Int) (N : Nat) (e n : Int) (ls : List (List Int)) : Prop :=
  OFact Try.prog tb scD 19 2 [1, 17] (argU n ls) (objD r u0 N (ob0 0) N ((zs N).map int64)) (errU e) (grabB r u0 N (ob0 0) N ((zs N).map int64)) (psD 1) ∧ FFact Try.prog tb 34 (argRd r u0 N n ls) (resR 11 r [u0] [(N : Int)] (rsD N) (ints []) e)
theorem errD_some (r u0 y0 : Int) (o : Ob) (N : Nat) (L : List Int) (e : Int) : errD r u0 y0 o N (L.map int64) e = some ((errU e, grabB r u0 y0 o N (L.map int64)), psD 1) := by
  unfold errD
  rw [allS_ints]
  rfl
theorem inD_some (r u0 y0 : Int) (o : Ob) (N : Nat) (L : List Int) (x : Option ORes) : inD r u0 y0 o N (L.map int64) x = x := by
  unfold inD
  rw [allS_ints, isSo_true ⟨r, u0, y0, o, N, _, rfl, rfl, allS_ints L⟩]
  rfl
abbrev ZN (N : Nat) : List AV := (zs N).map int64
theorem S18d_ok (hN : 1 ≤ N) (hN' : N ≤ 100000) (h29 : F 29 [uD r u0 N] (.bool true)) (h13 : F 13 [uD r u0 N] (.bool true)) {S : Orc} (hS : Ok S) : Ok (S18d r u0 N (ZN N) S) :=
  addF_ok (fnSim_wk (fnSim_whenOb tbOk fun a l h => by obtain ⟨rfl, rfl⟩ := h; exact n18d hN hN' h29)) (natF_wk natF_whenOb) (knowF_ok tbOk (n32d hN' h13) hS)
end
end Go.Proofs.Ythlmbnhelkbchaa
/- UnitNexts, a delay: Next. -/
namespace Go.Proofs.Ythlmbnhelkbchaa
open Go.Ev
set_option maxRecDepth 100000
noncomputable abbrev run21d (S : Orc) (r u0 y0 : Int) (o : Ob) (N : Nat) (L : List AV) (row : List Int) : Option ORes := evCall Try.prog S tb 100 ORes (.fn 21) (arg21 row) (mkHeap (objD r u0 y0 o N L) 2) .off (objK Try.prog scD 21 2 [1, 32] (arg21 row))
abbrev grabX (r u0 y0 : Int) (o : Ob) (N : Nat) (L : List AV) : List (Nat × Blk) := [(0, .cells true (cellsD r u0 y0 o (.gr (32, 0) N 1))), (32, .cells true L), (0, .cells true (cellsD r u0 y0 o (.gr (32, 0) N 1)))]
noncomputable def nxX (r u0 y0 : Int) (N : Nat) (L : List AV) (o : Ob) : Option ORes := guardK (allS L && true && true) (some ((.tup [int64 o.told, int64 0], grabX r u0 y0 o N L), psD 32))
theorem n21d_2 (r u0 y0 x : Int) (o : Ob) (M : Nat) (L : List AV) : run21d (OId orc0) r u0 y0 o (M + 2) L [x] = inD r u0 y0 o (M + 2) L (stepD L M (fwd o) x fun L' o' => nxX r u0 y0 (M + 2) L' o') := by kernel_rfl
theorem n21d_1 (r u0 y0 x : Int) (o : Ob) (L : List AV) : run21d (OId orc0) r u0 y0 o 1 L [x] = inD r u0 y0 o 1 L (stepD1 L (fwd o) x fun L' o' => nxX r u0 y0 1 L' o') := by kernel_rfl
theorem m21d (r u0 y0 : Int) (o : Ob) (N : Nat) (L : List AV) (row : List Int) : run21d (stopAt 21 [5] (OId orc0)) r u0 y0 o N L row = inD r u0 y0 o N L (bif !((row.length : Int) == 1) then guardK (allS L && (allS L && true) && true) (some ((.tup [int64 0, int64 11], grabB r u0 y0 o N L), psD 1)) else none) := by kernel_rfl
theorem n35d (r u0 y0 x p : Int) (ps : List Int) (s : Rs) : evCall Try.prog (OT orc0) tb 100 AV (.fn 35) [.agg (cellsRd r u0 y0 s (ints (p :: ps))), ints [x]] (mkHeap [] 0) .off (viewK Try.prog (resOf Try.prog 35)) =
    stepR11 p ps s x fun pv o' v => guardK (allS (dropA (pushL p ps x) 0) && true && true) <| some (.tup [.agg (cellsRd r u0 y0 (nextS o' v) pv), int64 v, int64 0]) := by kernel_rfl
theorem m35d (r u0 y0 : Int) (s : Rs) (row : List Int) : run35 (stopAt 35 [3] (OT orc0)) 11 r [u0] [y0] s row = bif !((row.length : Int) == 1) then some (resN 11 r [u0] [y0] s 0 11) else none := by kernel_rfl
def nxD (row : List Int) (o : Ob) (L : List Int) : Ob × List Int × Int × Int := if row.length = 1 then (saidO (fwd o) (L.getD 0 0), L.drop 1 ++ [kM' (row.getD 0 0)], L.getD 0 0, 0) else (o, L, 0, 11)
noncomputable def resXD (ok : Bool) (r u0 y0 : Int) (N : Nat) (o : Ob) (L : List Int) (t e : Int) : ORes := bif ok then ((.tup [int64 t, int64 e], grabX r u0 y0 o N (L.map int64)), psD 32) else ((.tup [int64 t, int64 e], grabB r u0 y0 o N (L.map int64)), psD 1)
theorem factX {r u0 y0 : Int} {o : Ob} {N : Nat} {L row : List Int} (hN : 1 ≤ N) (hN' : N ≤ 100000) (hL : L.length = N) :
    OFact Try.prog tb scD 21 2 [1, 32] (arg21 row) (objD r u0 y0 o N (L.map int64)) (resXD (decide (row.length = 1)) r u0 y0 N (nxD row o L).1 (nxD row o L).2.1 (nxD row o L).2.2.1 (nxD row o L).2.2.2).1.1
      (resXD (decide (row.length = 1)) r u0 y0 N (nxD row o L).1 (nxD row o L).2.1 (nxD row o L).2.2.1 (nxD row o L).2.2.2).1.2 (resXD (decide (row.length = 1)) r u0 y0 N (nxD row o L).1 (nxD row o L).2.1 (nxD row o L).2.2.1 (nxD row o L).2.2.2).2 := by
  by_cases hm : row.length = 1
  · obtain ⟨x, rfl⟩ := List.length_eq_one_iff.1 hm
    rcases Nat.lt_or_ge N 2 with h2 | h2
    · have : N = 1 := by omega
      subst this
      refine ⟨_, OId_ok ok0, (n21d_1 r u0 y0 x o _).trans ?_⟩
      rw [inD_some, stepD1_eq hL]
      unfold nxX
      rw [allS_ints]
      rfl
    · obtain ⟨M, rfl⟩ : ∃ M, N = M + 2 := ⟨N - 2, by omega⟩
      refine ⟨_, OId_ok ok0, (n21d_2 r u0 y0 x o M _).trans ?_⟩
      rw [inD_some, stepD_eq hL (by omega)]
      unfold nxX
      rw [allS_ints]
      rfl
  · refine ⟨_, stopAt_ok (OId_ok ok0), (m21d r u0 y0 o N _ row).trans ?_⟩
    rw [inD_some, allS_ints, show ((row.length : Int) == 1) = false from by rw [beq_eq_false_iff_ne]; omega]
    unfold nxD resXD
    rw [decide_eq_false hm, if_neg hm]
    rfl
theorem same_blksX (r u0 y0 : Int) (o : Ob) (N : Nat) (L : List AV) (x nx : Nat) :
    vwBlksO Try.prog [(1, nx + 1), (0, x)] (mkHeap (grabB r u0 y0 o N L) 0) (mkHeap (grabB r u0 y0 o N L) 0) (tyAt (psD 1)) (fun z => [1, 32].any (Nat.beq z.1)) [(1, nx + 1), (0, x)] =
    vwBlksO Try.prog [(32, nx + 1), (0, x)] (mkHeap (grabX r u0 y0 o N L) 0) (mkHeap (grabX r u0 y0 o N L) 0) (tyAt (psD 32)) (fun z => [1, 32].any (Nat.beq z.1)) [(32, nx + 1), (0, x)] := by kernel_rfl
theorem same_resX (φ : List (Nat × Nat)) (H : Heap) (t e : Int) : vwRes Try.prog φ H (resOf Try.prog 21) (.tup [int64 t, int64 e]) = .tup [int64 t, int64 e] := by kernel_rfl
def putX (vs : List AV) (o : Ob) : List AV := [int64 o.at', nth vs 1, nth vs 2, nth vs 3, nth vs 4, int64 o.frame, int64 o.told, int64 o.n, int64 o.rnd, int64 o.last, .gr (32, 0) (lenV (nth vs 10)) 1, int64 o.stage, int64 o.level, int64 o.frm, .bool o.gate]
def sX (a : List AV) (l : List (Nat × Blk)) : Ob × List Int × Int × Int := nxD (rowOf (nth a 1)) (obOf (objOf2 l)) (lateOf l)
noncomputable def VXD (a : List AV) (l : List (Nat × Blk)) : ORes := ((.tup [int64 (sX a l).2.2.1, int64 (sX a l).2.2.2], [(0, .cells true (putX (objOf2 l) (sX a l).1)), (32, .cells true ((sX a l).2.1.map int64)), (0, .cells true (putX (objOf2 l) (sX a l).1))]), psD 32)
theorem sX_eq (r u0 y0 : Int) (o : Ob) (N : Nat) (L row : List Int) : sX (arg21 row) (objD r u0 y0 o N (L.map int64)) = nxD row o L := by
  unfold sX
  show nxD (rowOf (ints row)) o ((L.map int64).map intOf) = _
  rw [ints_back, rowOf_ints]
theorem VXD_eq (r u0 y0 : Int) (o : Ob) (N : Nat) (L row : List Int) : VXD (arg21 row) (objD r u0 y0 o N (L.map int64)) = resXD true r u0 y0 N (nxD row o L).1 (nxD row o L).2.1 (nxD row o L).2.2.1 (nxD row o L).2.2.2 := by
  unfold VXD
  rw [sX_eq]
  rfl
def GXD (a : List AV) (l : List (Nat × Blk)) : Prop := ∃ (r u0 y0 : Int) (o : Ob) (N : Nat) (L row : List Int), a = arg21 row ∧ l = objD r u0 y0 o N (L.map int64) ∧ 1 ≤ N ∧ N ≤ 100000 ∧ L.length = N
theorem fnSim_XD : FnSim Try.prog (LP tb) 21 (whenOg Try.prog scD 21 1 2 [1] [1, 32] GXD VXD) := by
  intro A K r args h u args' ρ Z w kind cs₀ cs hL hg hrep ha hcs
  have hg0 := hg
  unfold whenOg at hg
  cases u <;> first | (cases hg; done) | skip
  simp only at hg
  obtain ⟨g1, hg⟩ := guardK_some hg
  generalize ha0 : vwArgs Try.prog (pairsOf 0 (fst1 (posObj Try.prog args (parsOf Try.prog 21) h scD.owns)) 0 []) none0 (parsOf Try.prog 21) args = a0 at hg
  generalize hl0 : vwBlksO Try.prog (pairsOf 0 (fst1 (posObj Try.prog args (parsOf Try.prog 21) h scD.owns)) 0 []) h none0 (tyAt (posObj Try.prog args (parsOf Try.prog 21) h scD.owns)) (fun x => [1].any (Nat.beq x.2)) (pairsOf 0 (fst1 (posObj Try.prog args (parsOf Try.prog 21) h scD.owns)) 0 []) = l0 at hg
  cases hs : isSo (GXD a0 l0) with
  | false => rw [hs] at hg; cases hg
  | true =>
  rw [hs] at hg
  simp only [cond_true] at hg
  obtain ⟨rr, u0, y0, o, N, L, row, rfl, hl1, n1, n2, n3⟩ := isSo_iff.1 hs
  have fact := factX (r := rr) (u0 := u0) (y0 := y0) (o := o) (row := row) n1 n2 n3
  rw [← hl1] at fact
  have hV : VXD (arg21 row) l0 = resXD true rr u0 y0 N (nxD row o L).1 (nxD row o L).2.1 (nxD row o L).2.2.1 (nxD row o L).2.2.2 := by rw [hl1]; exact VXD_eq _ _ _ _ _ _ _
  rw [hV] at hg
  simp only [Bool.and_eq_true] at g1
  obtain ⟨x, y, hφ⟩ := two_pairs (Nat.eq_of_beq_eq_true g1.2) (by
    have := vwBlksO_len (P := Try.prog) (φ := pairsOf 0 (fst1 (posObj Try.prog args (parsOf Try.prog 21) h scD.owns)) 0 []) (h := h) (hf := none0) (ty := tyAt (posObj Try.prog args (parsOf Try.prog 21) h scD.owns)) (raw := fun x => [1].any (Nat.beq x.2)) (pairsOf 0 (fst1 (posObj Try.prog args (parsOf Try.prog 21) h scD.owns)) 0 [])
    rw [hl0, hl1] at this
    exact this)
  refine fnSim_whenOg tbOk (kn := 1) (fl0 := [1]) (G := fun a l => a = arg21 row ∧ l = l0) (V := fun _ _ => resXD (decide (row.length = 1)) rr u0 y0 N (nxD row o L).1 (nxD row o L).2.1 (nxD row o L).2.2.1 (nxD row o L).2.2.2) (fun a l hal => by obtain ⟨rfl, rfl⟩ := hal; exact fact) A K r args h .off args' ρ Z w kind cs₀ cs hL ?_ hrep ha hcs
  unfold whenOg
  simp only
  rw [ha0, hl0, isSo_true ⟨rfl, rfl⟩, g1.1, g1.2]
  simp only [Bool.and_self, guardK, cond_true]
  rw [hφ] at hg ⊢
  generalize (nxD row o L).1 = o' at hg ⊢
  generalize (nxD row o L).2.1 = L' at hg ⊢
  generalize (nxD row o L).2.2.1 = t at hg ⊢
  generalize (nxD row o L).2.2.2 = e at hg ⊢
  cases decide (row.length = 1) with
  | true => exact hg
  | false =>
    have eB : pairsNew h.next (fst1 (psD 1)) 0 (accOf 1 [(y, 1), (x, 0)]) = [(1, h.next + 1), (0, x)] := rfl
    have eC : pairsNew h.next (fst1 (psD 32)) 0 (accOf 1 [(y, 1), (x, 0)]) = [(32, h.next + 1), (0, x)] := rfl
    unfold resXD at hg ⊢
    simp only [cond_true, cond_false] at hg ⊢
    rw [eC, same_resX] at hg
    rw [eB, same_resX, same_blksX]
    exact hg
noncomputable def OXD (S : Orc) : Orc := addF 21 (whenOg Try.prog scD 21 1 2 [1] [1, 32] GXD VXD) S
theorem OXD_ok {S : Orc} (h : Ok S) : Ok (OXD S) := addF_ok fnSim_XD natF_whenOg h
/-! ### The document's -/
def nxT (row : List Int) (s : Rs) : Rs × Int × Int := if row.length = 1 then (nextS (H11 row 0 s).1 (H11 row 0 s).2, (H11 row 0 s).2, 0) else (s, 0, 11)
theorem factT {r u0 y0 : Int} {N : Nat} {row : List Int} {s : Rs} (hN : 1 ≤ N) (hN' : N ≤ 100000) (hp : s.past.length = N) : FFact Try.prog tb 35 (arg35 11 r [u0] [y0] s row) (resN 11 r [u0] [y0] (nxT row s).1 (nxT row s).2.1 (nxT row s).2.2) := by
  unfold nxT
  by_cases hm : row.length = 1
  · rw [if_pos hm]
    obtain ⟨x, rfl⟩ := List.length_eq_one_iff.1 hm
    obtain ⟨p, ps, hps⟩ : ∃ p ps, s.past = p :: ps := by
      cases h : s.past with
      | nil => rw [h] at hp; simp at hp; omega
      | cons p ps => exact ⟨p, ps, rfl⟩
    have hl : ps.length ≤ 1000000 := by rw [hps] at hp; simp at hp; omega
    have e : arg35 11 r [u0] [y0] s [x] = [.agg (cellsRd r u0 y0 s (ints (p :: ps))), ints [x]] := by rw [← hps]; rfl
    refine ⟨ar35 _ _ _ _ _ _, _, OT_ok ok0, ?_⟩
    rw [e]
    refine (n35d r u0 y0 x p ps s).trans ?_
    rw [stepR11_eq hl, push_eq, dropA_eq, List.drop_zero, allS_ints]
    unfold H11
    rw [hps]
    rfl
  · rw [if_neg hm]
    exact ⟨ar35 _ _ _ _ _ _, _, stopAt_ok (OT_ok ok0), (m35d r u0 y0 s row).trans (by rw [show ((row.length : Int) == 1) = false from by rw [beq_eq_false_iff_ne]; omega]; rfl)⟩
theorem nxD_same {N : Nat} {o : Ob} {L : List Int} {s : Rs} {b : Bool} (row : List Int) (hN : 1 ≤ N) (h : SameD N ⟨b, o, L⟩ s) :
    (nxD row o L).2.2.1 = (nxT row s).2.1 ∧ (nxD row o L).2.2.2 = (nxT row s).2.2 ∧ (nxD row o L).1.frame = (nxT row s).1.frame ∧ SameD N ⟨false, (nxD row o L).1, (nxD row o L).2.1⟩ (nxT row s).1 := by
  obtain ⟨h1, h2, h3, h4⟩ := h
  simp only at h1 h2 h3 h4
  unfold nxD nxT
  by_cases hm : row.length = 1
  rotate_left
  · rw [if_neg hm, if_neg hm]
    exact ⟨rfl, rfl, h3, h1, h2, h3, h4⟩
  rw [if_pos hm, if_pos hm]
  have e : L.getD 0 0 = s.past.getD 0 0 := by rw [h1]
  have hf : w64 (o.frame + 1) = w64 (s.frame + 1) := by rw [h3]
  refine ⟨e, rfl, hf, ?_, ?_, hf, e⟩
  · show L.drop 1 ++ [kM' (row.getD 0 0)] = s.past.drop 1 ++ [num (row.getD 0 0)]
    rw [h1, num_kM]
  · show (L.drop 1 ++ [kM' (row.getD 0 0)]).length = N
    simp only [List.length_append, List.length_drop, List.length_cons, List.length_nil]
    omega
end Go.Proofs.Ythlmbnhelkbchaa
/- UnitNexts, a delay: the law's loops and run. -/
namespace Go.Proofs.Ythlmbnhelkbchaa
open Go.Ev
set_option maxRecDepth 100000
def st12d (r u0 : Int) (N : Nat) (ls : List (List Int)) (first : Int) (i : Int) (zc L : List AV) : St := ⟨[.dead, lists ls, int64 first, .dead, .dead, .dead, .dead, .ptr (some (1, 0)), .dead, .ptr (some (3, 0)), .dead, int64 1, .sl (some (4, 0)) 1 1 true 1, int64 i] ++ repA .dead 140,
  mkHeap [(4, .cells true zc), (3, .cells true (cellsR 11 r [u0] [(N : Int)] (rsD N))), (2, .cells true L), (1, .cells true (cellsD r u0 N (ob0 0) (.gr (2, 0) N 1))), (0, .cells true [int64 11, int64 r, ints [u0], ints [(N : Int)]])] 14, [], .off⟩
def st15d (r u0 : Int) (N : Nat) (ls : List (List Int)) (first : Int) (zl : List (List Int)) (L : List AV) : St := ⟨[.dead, lists ls, int64 first, .dead, .dead, .dead, .dead, .ptr (some (1, 0)), .dead, .ptr (some (3, 0)), .dead, int64 1, lists zl, int64 1] ++ repA .dead 140,
  mkHeap [(3, .cells true (cellsR 11 r [u0] [(N : Int)] (rsD N))), (2, .cells true L), (1, .cells true (cellsD r u0 N (ob0 0) (.gr (2, 0) N 1))), (0, .cells true [int64 11, int64 r, ints [u0], ints [(N : Int)]])] 13, [], .off⟩
def stNd (q : Nat) (r u0 : Int) (N : Nat) (ls : List (List Int)) (zc : AV) (i : Int) (o : Ob) (L : List AV) (s : Rs) : St := ⟨[.dead, lists ls, .dead, .dead, .dead, .dead, .dead, .ptr (some (1, 0)), .dead, .ptr (some (3, 0)), .dead, .dead, zc, .dead, .dead, .dead, int64 i] ++ repA .dead 137,
  mkHeap [(q, .cells true L), (3, .cells true (cellsR 11 r [u0] [(N : Int)] s)), (1, .cells true (cellsD r u0 N o (.gr (q, 0) N 1))), (0, .cells true [int64 11, int64 r, ints [u0], ints [(N : Int)]])] 22, [], .off⟩
abbrev flZ : Flat := ⟨[2], [], []⟩
abbrev flN : Flat := ⟨[14, 21], [], []⟩
noncomputable abbrev B812d {A : Type} (st : St) (K : Ex → St → Option A) : Option A := loopBG Try.prog orc0 tb 8 12 flZ 5 st K
def G35d (r u0 : Int) (N : Nat) (a : List AV) : Prop := ∃ (row : List Int) (s : Rs), a = arg35 11 r [u0] [(N : Int)] s row ∧ s.past.length = N
def vT (a : List AV) : Rs × Int × Int := nxT (rowOf (nth a 1)) (rsOf (aggOf (nth a 0)))
def V35d (r u0 : Int) (N : Nat) (a : List AV) : AV := resN 11 r [u0] [(N : Int)] (vT a).1 (vT a).2.1 (vT a).2.2
def G34d (r u0 : Int) (N : Nat) (a : List AV) : Prop := ∃ (n : Nat) (xs : List Int) (s : Rs), a = argR 11 r [u0] [(N : Int)] s n [xs] ∧ xs.length = n ∧ n ≤ 4096 ∧ s.past.length = N
def vRd (r : Int) (a : List AV) : Rs × List Int := runR r (H11 ((rowsOf (nth a 2)).getD 0 [])) 0 (intOf (nth a 1)).toNat (rsOf (aggOf (nth a 0)))
def V34d (r u0 : Int) (N : Nat) (a : List AV) : AV := resR 11 r [u0] [(N : Int)] (vRd r a).1 (ints (vRd r a).2) 0
noncomputable def S8d (r u0 : Int) (N : Nat) (S : Orc) : Orc := OD (OXD (knowFW 35 (fun a => isSo (G35d r u0 N a)) (V35d r u0 N) (knowFW 34 (fun a => isSo (G34d r u0 N a)) (V34d r u0 N) (O20 S))))
noncomputable abbrev a21d (q : Nat) (ls : List (List Int)) (i : Int) : List AV := vwArgs Try.prog [(q, 1), (1, 0)] none0 (parsOf Try.prog 21) [.ptr (some (1, 0)), rowF (rowAt ls i)]
noncomputable abbrev ar35d (r u0 : Int) (N : Nat) (s : Rs) (ls : List (List Int)) (i : Int) : List AV := [.agg (cellsR 11 r [u0] [(N : Int)] s), rowF (rowAt ls i)]
noncomputable def round8d {A : Type} (q : Nat) (r u0 : Int) (N : Nat) (ls : List (List Int)) (zc : AV) (i : Int) (o : Ob) (L : List AV) (s : Rs) (K : Ex → St → Option A) : Option A :=
  let p := sX (a21d q ls i) (objD r u0 N o N L)
  let t := vT (ar35d r u0 N s ls i)
  bif decide (i < (ls.length : Int)) then rowG ls i <| guardK (allS L && true && true) <| bif isSo (GXD (a21d q ls i) (objD r u0 N o N L)) then rowG ls i <| bif isSo (G35d r u0 N (ar35d r u0 N s ls i)) then
    bif !(p.2.2.1 == t.2.1) then none else bif !(p.2.2.2 == t.2.2) then none else E t.1.frame <| bif !(p.1.frame == t.1.frame) then none else guardK (allS (p.2.1.map int64) && true) <| K .normal (stNd 21 r u0 N ls zc (w64 (i + 1)) p.1 (p.2.1.map int64) t.1)
  else none else none else guardK (allS L && true) <| K (.exit 2) (stNd q r u0 N ls zc i o L s)
noncomputable abbrev B820d {A : Type} (r u0 : Int) (N : Nat) (st : St) (K : Ex → St → Option A) : Option A := loopBG Try.prog (S8d r u0 N (stopAt 8 [25] orc0)) tb 8 20 flN 15 st K
theorem b820d_1 {A : Type} (r u0 : Int) (N : Nat) (ls : List (List Int)) (zc : List AV) (zn : Nat) (i : Int) (o : Ob) (L : List AV) (s : Rs) (K : Ex → St → Option A) :
    B820d r u0 N (stNd 14 r u0 N ls (.fz zc zn false 1) i o L s) K = round8d 14 r u0 N ls (.fz zc zn false 1) i o L s K := by kernel_rfl
theorem b820d_2 {A : Type} (r u0 : Int) (N : Nat) (ls : List (List Int)) (zc : List AV) (zn : Nat) (i : Int) (o : Ob) (L : List AV) (s : Rs) (K : Ex → St → Option A) :
    B820d r u0 N (stNd 21 r u0 N ls (.fz zc zn false 1) i o L s) K = round8d 21 r u0 N ls (.fz zc zn false 1) i o L s K := by kernel_rfl
noncomputable def SNd (r u0 : Int) (N : Nat) (Z : List AV) (zl z7 : List (List Int)) (t0 t1 u0' u1 : St) (S : Orc) : Orc :=
  S18d r u0 N Z <| know 33 [int64 11] (int64 1) <| S8d r u0 N <| knowF 36 [lists zl, int64 70] (lists z7) <| knowLG Try.prog 8 12 N812 flZ 5 t0 (.exit 0) t1 <| knowLG Try.prog 8 20 N820 flN 15 u0' (.exit 2) u1 S
noncomputable def good8d (r u0 : Int) (N : Nat) (Z Lz : List AV) (ls zl z7 : List (List Int)) (first : Int) (t0 u0' : St) (o' : Ob) (L' : List AV) (s' : Rs) : Option Bool :=
  let p := sD (argU first zl) (objD r u0 N (ob0 0) N Lz)
  let q := vRd r (argR 11 r [u0] [(N : Int)] (rsD N) first zl)
  let p2 := sD (argU 70 z7) (objD r u0 N o' N L')
  let q2 := vRd r (argR 11 r [u0] [(N : Int)] s' 70 z7)
  bif same [int64 11] [int64 11] then guardK (allS (wkL Z) && true) <| bif sameSt (st12d r u0 N ls first 0 [nilS] (wkL Z)) t0 then guardK (allS Lz && true && true) <| bif isSo (GD (argU first zl) (objD r u0 N (ob0 0) N Lz)) then bif isSo (G34d r u0 N (argR 11 r [u0] [(N : Int)] (rsD N) first zl)) then
    guardK (allS (p.1.L.map int64) && true) <| bif sameSt (stNd 14 r u0 N ls (lists zl) 0 p.1.o (p.1.L.map int64) q.1) u0' then bif same [lists zl, int64 70] [lists zl, int64 70] then guardK (allS L' && true && true) <| bif isSo (GD (argU 70 z7) (objD r u0 N o' N L')) then bif same [lists zl, int64 70] [lists zl, int64 70] then bif sameV (.agg (cellsR 11 r [u0] [(N : Int)] s')) (.agg (cellsR 11 r [u0] [(N : Int)] s')) then bif isSo (G34d r u0 N (argR 11 r [u0] [(N : Int)] s' 70 z7)) then
      bif isSo (is20 [ints p2.2, ints q2.2]) then bif decide (rowOf (ints p2.2) = rowOf (ints q2.2)) then some true else some false else none
    else none else none else none else none else none else none
  else none else none else none else none
theorem l8d_1 (r u0 : Int) (N : Nat) (Z Lz : List AV) (ls zl z7 : List (List Int)) (first : Int) (t0 u0' : St) (i' : Int) (o' : Ob) (L' : List AV) (s' : Rs) :
    run8 (SL10 (uD r u0 N) ls false (SNd r u0 N Z zl z7 t0 (st15d r u0 N ls first zl Lz) u0' (stNd 14 r u0 N ls (lists zl) i' o' L' s') (stopAt 8 [17] orc0))) (uD r u0 N) ls first =
    pre8 (uD r u0 N) ls first (new10d r u0 N <| good8d r u0 N Z Lz ls zl z7 first t0 u0' o' L' s') := by kernel_rfl
theorem l8d_2 (r u0 : Int) (N : Nat) (Z Lz : List AV) (ls zl z7 : List (List Int)) (first : Int) (t0 u0' : St) (i' : Int) (o' : Ob) (L' : List AV) (s' : Rs) :
    run8 (SL10 (uD r u0 N) ls false (SNd r u0 N Z zl z7 t0 (st15d r u0 N ls first zl Lz) u0' (stNd 21 r u0 N ls (lists zl) i' o' L' s') (stopAt 8 [17] orc0))) (uD r u0 N) ls first =
    pre8 (uD r u0 N) ls first (new10d r u0 N <| good8d r u0 N Z Lz ls zl z7 first t0 u0' o' L' s') := by kernel_rfl
end Go.Proofs.Ythlmbnhelkbchaa
/- UnitNexts, a delay: lists of zeros, of each length. Printed. -/
namespace Go.Proofs.Ythlmbnhelkbchaa
open Go.Ev
set_option maxRecDepth 100000
theorem z12_d (r u0 : Int) (N : Nat) (ls : List (List Int)) (L : List AV) (n : Nat) (h : n ≤ 100) : loopN B812d rounds (st12d r u0 N ls (n : Int) 0 [nilS] L) pairE = (guardK (allS L && true) <| guardK (allS L && true) <| some (.exit 0, st15d r u0 N ls (n : Int) [zs n] L)) := match n, h with
  | 0, _ => by kernel_rfl
  | 1, _ => by kernel_rfl
  | 2, _ => by kernel_rfl
  | 3, _ => by kernel_rfl
  | 4, _ => by kernel_rfl
  | 5, _ => by kernel_rfl
  | 6, _ => by kernel_rfl
  | 7, _ => by kernel_rfl
  | 8, _ => by kernel_rfl
  | 9, _ => by kernel_rfl
  | 10, _ => by kernel_rfl
  | 11, _ => by kernel_rfl
  | 12, _ => by kernel_rfl
  | 13, _ => by kernel_rfl
  | 14, _ => by kernel_rfl
  | 15, _ => by kernel_rfl
  | 16, _ => by kernel_rfl
  | 17, _ => by kernel_rfl
  | 18, _ => by kernel_rfl
  | 19, _ => by kernel_rfl
  | 20, _ => by kernel_rfl
  | 21, _ => by kernel_rfl
  | 22, _ => by kernel_rfl
  | 23, _ => by kernel_rfl
  | 24, _ => by kernel_rfl
  | 25, _ => by kernel_rfl
  | 26, _ => by kernel_rfl
  | 27, _ => by kernel_rfl
  | 28, _ => by kernel_rfl
  | 29, _ => by kernel_rfl
  | 30, _ => by kernel_rfl
  | 31, _ => by kernel_rfl
  | 32, _ => by kernel_rfl
  | 33, _ => by kernel_rfl
  | 34, _ => by kernel_rfl
  | 35, _ => by kernel_rfl
  | 36, _ => by kernel_rfl
  | 37, _ => by kernel_rfl
  | 38, _ => by kernel_rfl
  | 39, _ => by kernel_rfl
  | 40, _ => by kernel_rfl
  | 41, _ => by kernel_rfl
  | 42, _ => by kernel_rfl
  | 43, _ => by kernel_rfl
  | 44, _ => by kernel_rfl
  | 45, _ => by kernel_rfl
  | 46, _ => by kernel_rfl
  | 47, _ => by kernel_rfl
  | 48, _ => by kernel_rfl
  | 49, _ => by kernel_rfl
  | 50, _ => by kernel_rfl
  | 51, _ => by kernel_rfl
  | 52, _ => by kernel_rfl
  | 53, _ => by kernel_rfl
  | 54, _ => by kernel_rfl
  | 55, _ => by kernel_rfl
  | 56, _ => by kernel_rfl
  | 57, _ => by kernel_rfl
  | 58, _ => by kernel_rfl
  | 59, _ => by kernel_rfl
  | 60, _ => by kernel_rfl
  | 61, _ => by kernel_rfl
  | 62, _ => by kernel_rfl
  | 63, _ => by kernel_rfl
  | 64, _ => by kernel_rfl
  | 65, _ => by kernel_rfl
  | 66, _ => by kernel_rfl
  | 67, _ => by kernel_rfl
  | 68, _ => by kernel_rfl
  | 69, _ => by kernel_rfl
  | 70, _ => by kernel_rfl
  | 71, _ => by kernel_rfl
  | 72, _ => by kernel_rfl
  | 73, _ => by kernel_rfl
  | 74, _ => by kernel_rfl
  | 75, _ => by kernel_rfl
  | 76, _ => by kernel_rfl
  | 77, _ => by kernel_rfl
  | 78, _ => by kernel_rfl
  | 79, _ => by kernel_rfl
  | 80, _ => by kernel_rfl
  | 81, _ => by kernel_rfl
  | 82, _ => by kernel_rfl
  | 83, _ => by kernel_rfl
  | 84, _ => by kernel_rfl
  | 85, _ => by kernel_rfl
  | 86, _ => by kernel_rfl
  | 87, _ => by kernel_rfl
  | 88, _ => by kernel_rfl
  | 89, _ => by kernel_rfl
  | 90, _ => by kernel_rfl
  | 91, _ => by kernel_rfl
  | 92, _ => by kernel_rfl
  | 93, _ => by kernel_rfl
  | 94, _ => by kernel_rfl
  | 95, _ => by kernel_rfl
  | 96, _ => by kernel_rfl
  | 97, _ => by kernel_rfl
  | 98, _ => by kernel_rfl
  | 99, _ => by kernel_rfl
  | 100, _ => by kernel_rfl
  | n + 101, h => absurd h (by omega)
end Go.Proofs.Ythlmbnhelkbchaa
/- UnitRuns: the law, whatever the unit. -/
namespace Go.Proofs.Ythlmbnhelkbchaa
open Go.Ev
set_option maxRecDepth 100000
theorem unit_arg {H : Type} {k : Nat} {d : DataW H} (w : WT Try.prog k 26 d) : ∃ n r xs ys, dVal Try.prog k 26 d = unitV n r xs ys := by
  obtain ⟨k', ds, h1, h2, h3⟩ := WT.struct (l := [(0, 3), (1, 3), (2, 22), (3, 22)]) (by kernel_rfl) w
  obtain ⟨d0, d1, d2, d3, rfl⟩ : ∃ d0 d1 d2 d3, ds = [d0, d1, d2, d3] := by
    rcases ds with _ | ⟨d0, _ | ⟨d1, _ | ⟨d2, _ | ⟨d3, _ | ⟨_, _⟩⟩⟩⟩⟩ <;> simp at h1
    exact ⟨d0, d1, d2, d3, rfl⟩
  obtain ⟨n, e0, _⟩ := WT.int (j := .i64) (by kernel_rfl) (h2 0 _ _ rfl rfl)
  obtain ⟨r, e1, _⟩ := WT.int (j := .i64) (by kernel_rfl) (h2 1 _ _ rfl rfl)
  obtain ⟨xs, e2, _⟩ := WT.ints (e := 3) (by kernel_rfl) (by kernel_rfl) (by kernel_rfl) (h2 2 _ _ rfl rfl)
  obtain ⟨ys, e3, _⟩ := WT.ints (e := 3) (by kernel_rfl) (by kernel_rfl) (by kernel_rfl) (h2 3 _ _ rfl rfl)
  refine ⟨n, r, xs, ys, h3.trans ?_⟩
  have hc : Try.prog.cellsOf 26 = 4 := by kernel_rfl
  simp only [List.zip_cons_cons, List.zip_nil_right, List.map_cons, List.map_nil]
  simp only at e0 e1 e2 e3
  rw [e0, e1, e2, e3, hc]
  rfl
theorem sh_out {k : Int} (r : Int) (xs ys : List Int) (ho : Out k) : F 29 [unitV k r xs ys] (.bool false) ∧ F 13 [unitV k r xs ys] (.bool false) :=
  ⟨.of (outO_ok ho) rfl fun h => by have := o29_run k r xs ys h; rw [same_self] at this; exact this, .of (know_ok tbOk (ins26_out ho) ok0) rfl fun h => by have := o13_run k r xs ys h; rw [same_self] at this; exact this⟩
theorem sh_11 (r : Int) (xs ys : List Int) : ∃ v, F 29 [unitV 11 r xs ys] (.bool v) ∧ F 13 [unitV 11 r xs ys] (.bool v) ∧ (v = true → ∃ x0 y0, xs = [x0] ∧ ys = [y0] ∧ (1 ≤ r ∧ r ≤ 3) ∧ 1 ≤ y0 ∧ y0 ≤ 2000) := by
  by_cases hm : xs.length = 1 ∧ ys.length = 1
  · obtain ⟨hx, hy⟩ := hm
    rcases xs with _ | ⟨x0, _ | ⟨_, _⟩⟩ <;> simp at hx
    rcases ys with _ | ⟨y0, _ | ⟨_, _⟩⟩ <;> simp at hy
    refine ⟨_, .of ok0 rfl fun h => (v29_11 r x0 y0 h).trans (ch_eq _ _), .of ok0 rfl fun h => (v13_11 r x0 y0 h).trans ((ch_eq _ _).trans ?_), fun h => ?_⟩
    · congr 2
      rw [Bool.eq_iff_iff]
      simp only [allc, Bool.and_true, Bool.and_eq_true, Bool.not_eq_true', decide_eq_false_iff_not, Bool.not_not, decide_eq_true_eq, Int.not_lt]
      omega
    · simp only [allc, Bool.and_true, Bool.and_eq_true, Bool.not_not, decide_eq_true_eq] at h
      exact ⟨x0, y0, rfl, rfl, by omega, by omega, by omega⟩
  · refine shape_noV (.of (stopAt_ok ok0) rfl fun h => (m29_11 r xs ys h).trans (ch_none _ ?_)) (.of (stopAt_ok ok0) rfl fun h => (m13_11 r xs ys h).trans (ch_none _ ?_)) _ <;>
      (rw [← Bool.not_eq_true]
       simp only [allc, Bool.and_true, Bool.and_eq_true, Bool.not_eq_true', decide_eq_false_iff_not, Bool.not_not, decide_eq_true_eq, beq_iff_eq]
       omega)
end Go.Proofs.Ythlmbnhelkbchaa
