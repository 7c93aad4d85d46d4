/- Next of a unit, kind by kind (but a delay). Printed by uxgen.py. -/
import Derived.Test.YthlmbnhelkbchaaJ22
import Derived.Test.YthlmbnhelkbchaaJ25
import Derived.Test.YthlmbnhelkbchaaJ28
import Derived.Test.YthlmbnhelkbchaaEvZ4
namespace Go.Proofs.Ythlmbnhelkbchaa
open Go.Ev
set_option maxRecDepth 100000
abbrev arg21 (row : List Int) : List AV := [.ptr (some (0, 0)), ints row]
noncomputable abbrev run21 (S : Orc) (k r : Int) (ui ua : List Int) (o : Ob) (row : List Int) : Option ORes := evCall Try.prog S tb 100 ORes (.fn 21) (arg21 row) (mkHeap (objU k r ui ua o) 1) .off (objK Try.prog scU 21 1 [] (arg21 row))
noncomputable abbrev nxO (k r : Int) (ui ua : List Int) (o : Ob) : Option ORes := some ((.tup [int64 o.told, int64 0], objU2 k r ui ua o), psU)
noncomputable abbrev nxE (k r : Int) (ui ua : List Int) (o : Ob) : Option ORes := some ((.tup [int64 0, int64 11], objU2 k r ui ua o), psU)
theorem n21_1 (r u0 x : Int) (o : Ob) : run21 (OI orc0) 1 r [u0] [] o [x] = step1 (fwd o) x (nxO 1 r [u0] []) := by kernel_rfl
theorem m21_1 (r u0 : Int) (o : Ob) (row : List Int) : run21 (stopAt 21 [5] (OI orc0)) 1 r [u0] [] o row = bif !((row.length : Int) == 1) then nxE 1 r [u0] [] o else none := by kernel_rfl
theorem n21_2 (r u0 u1 x y : Int) (o : Ob) : run21 (OI orc0) 2 r [u0, u1] [] o [x, y] = step2 (fwd o) x y (nxO 2 r [u0, u1] []) := by kernel_rfl
theorem m21_2 (r u0 u1 : Int) (o : Ob) (row : List Int) : run21 (stopAt 21 [5] (OI orc0)) 2 r [u0, u1] [] o row = bif !((row.length : Int) == 2) then nxE 2 r [u0, u1] [] o else none := by kernel_rfl
theorem n21_3 (r u0 x : Int) (o : Ob) : run21 (OI orc0) 3 r [u0] [] o [x] = step3 (fwd o) x (nxO 3 r [u0] []) := by kernel_rfl
theorem m21_3 (r u0 : Int) (o : Ob) (row : List Int) : run21 (stopAt 21 [5] (OI orc0)) 3 r [u0] [] o row = bif !((row.length : Int) == 1) then nxE 3 r [u0] [] o else none := by kernel_rfl
theorem n21_4 (r y0 : Int) (o : Ob) : run21 (OS orc0) 4 r [] [y0] o [] = step4 (fwd o) () (nxO 4 r [] [y0]) := by kernel_rfl
theorem m21_4 (r y0 : Int) (o : Ob) (row : List Int) : run21 (stopAt 21 [5] (OS orc0)) 4 r [] [y0] o row = bif !((row.length : Int) == 0) then nxE 4 r [] [y0] o else none := by kernel_rfl
theorem n21_5 (r y0 y1 y2 : Int) (o : Ob) : run21 (OS orc0) 5 r [] [y0, y1, y2] o [] = step5 (fwd o) y0 y1 y2 () (nxO 5 r [] [y0, y1, y2]) := by kernel_rfl
theorem m21_5 (r y0 y1 y2 : Int) (o : Ob) (row : List Int) : run21 (stopAt 21 [5] (OS orc0)) 5 r [] [y0, y1, y2] o row = bif !((row.length : Int) == 0) then nxE 5 r [] [y0, y1, y2] o else none := by kernel_rfl
theorem n21_6 (r u0 y0 y1 y2 y3 x : Int) (o : Ob) : run21 (O6 orc0) 6 r [u0] [y0, y1, y2, y3] o [x] = step6 r u0 (fwd o) y0 y1 y2 y3 x (nxO 6 r [u0] [y0, y1, y2, y3]) := by kernel_rfl
theorem m21_6 (r u0 y0 y1 y2 y3 : Int) (o : Ob) (row : List Int) : run21 (stopAt 21 [5] (O6 orc0)) 6 r [u0] [y0, y1, y2, y3] o row = bif !((row.length : Int) == 1) then nxE 6 r [u0] [y0, y1, y2, y3] o else none := by kernel_rfl
theorem n21_7 (r u0 u1 x y : Int) (o : Ob) : run21 (OS orc0) 7 r [u0, u1] [] o [x, y] = step7 (fwd o) (x, y) (nxO 7 r [u0, u1] []) := by kernel_rfl
theorem m21_7 (r u0 u1 : Int) (o : Ob) (row : List Int) : run21 (stopAt 21 [5] (OS orc0)) 7 r [u0, u1] [] o row = bif !((row.length : Int) == 2) then nxE 7 r [u0, u1] [] o else none := by kernel_rfl
theorem n21_8 (r u0 u1 x y : Int) (o : Ob) : run21 (OS orc0) 8 r [u0, u1] [] o [x, y] = step8 (fwd o) (x, y) (nxO 8 r [u0, u1] []) := by kernel_rfl
theorem m21_8 (r u0 u1 : Int) (o : Ob) (row : List Int) : run21 (stopAt 21 [5] (OS orc0)) 8 r [u0, u1] [] o row = bif !((row.length : Int) == 2) then nxE 8 r [u0, u1] [] o else none := by kernel_rfl
theorem n21_9 (r u0 u1 x y : Int) (o : Ob) : run21 (OS orc0) 9 r [u0, u1] [] o [x, y] = step9 (fwd o) (x, y) (nxO 9 r [u0, u1] []) := by kernel_rfl
theorem m21_9 (r u0 u1 : Int) (o : Ob) (row : List Int) : run21 (stopAt 21 [5] (OS orc0)) 9 r [u0, u1] [] o row = bif !((row.length : Int) == 2) then nxE 9 r [u0, u1] [] o else none := by kernel_rfl
theorem n21_10 (r u0 u1 x y : Int) (o : Ob) : run21 (OS orc0) 10 r [u0, u1] [] o [x, y] = step10 (fwd o) (x, y) (nxO 10 r [u0, u1] []) := by kernel_rfl
theorem m21_10 (r u0 u1 : Int) (o : Ob) (row : List Int) : run21 (stopAt 21 [5] (OS orc0)) 10 r [u0, u1] [] o row = bif !((row.length : Int) == 2) then nxE 10 r [u0, u1] [] o else none := by kernel_rfl
theorem n21_12 (r y0 x : Int) (o : Ob) : run21 (OS orc0) 12 r [] [y0] o [x] = stepIn (fwd o) x (nxO 12 r [] [y0]) := by kernel_rfl
theorem m21_12 (r y0 : Int) (o : Ob) (row : List Int) : run21 (stopAt 21 [5] (OS orc0)) 12 r [] [y0] o row = bif !((row.length : Int) == 1) then nxE 12 r [] [y0] o else none := by kernel_rfl
theorem n21_13 (r u0 y0 x : Int) (o : Ob) : run21 (OS orc0) 13 r [u0] [y0] o [x] = stepIn (fwd o) x (nxO 13 r [u0] [y0]) := by kernel_rfl
theorem m21_13 (r u0 y0 : Int) (o : Ob) (row : List Int) : run21 (stopAt 21 [5] (OS orc0)) 13 r [u0] [y0] o row = bif !((row.length : Int) == 1) then nxE 13 r [u0] [y0] o else none := by kernel_rfl
theorem n21_14 (r y0 x : Int) (o : Ob) : run21 (OS orc0) 14 r [] [y0] o [x] = stepIn (fwd o) x (nxO 14 r [] [y0]) := by kernel_rfl
theorem m21_14 (r y0 : Int) (o : Ob) (row : List Int) : run21 (stopAt 21 [5] (OS orc0)) 14 r [] [y0] o row = bif !((row.length : Int) == 1) then nxE 14 r [] [y0] o else none := by kernel_rfl
theorem n21_15 (r y0 : Int) (o : Ob) : run21 (OS orc0) 15 r [] [y0] o [] = step15 (fwd o) y0 () (nxO 15 r [] [y0]) := by kernel_rfl
theorem m21_15 (r y0 : Int) (o : Ob) (row : List Int) : run21 (stopAt 21 [5] (OS orc0)) 15 r [] [y0] o row = bif !((row.length : Int) == 0) then nxE 15 r [] [y0] o else none := by kernel_rfl
end Go.Proofs.Ythlmbnhelkbchaa
/- Next of the document's unit, kind by kind (but a delay). Printed by uxgen2.py. -/
namespace Go.Proofs.Ythlmbnhelkbchaa
open Go.Ev
set_option maxRecDepth 100000
abbrev arg35 (k r : Int) (ui ua : List Int) (s : Rs) (row : List Int) : List AV := [.agg (cellsR k r ui ua s), ints row]
noncomputable abbrev run35 (S : Orc) (k r : Int) (ui ua : List Int) (s : Rs) (row : List Int) : Option AV := evCall Try.prog S tb 100 AV (.fn 35) (arg35 k r ui ua s row) (mkHeap [] 0) .off (viewK Try.prog (resOf Try.prog 35))
def nextS (s : Rs) (v : Int) : Rs := ⟨w64 (s.frame + 1), v, s.phase, s.n, s.stage, s.gate, s.fall, s.past⟩
abbrev resN (k r : Int) (ui ua : List Int) (s : Rs) (v e : Int) : AV := .tup [.agg (cellsR k r ui ua s), int64 v, int64 e]
abbrev nxR (k r : Int) (ui ua : List Int) (s : Rs) (v : Int) : Option AV := some (resN k r ui ua (nextS s v) v 0)
theorem ar35 (k r : Int) (ui ua : List Int) (s : Rs) (row : List Int) : vwArgs Try.prog [] none0 (parsOf Try.prog 35) (arg35 k r ui ua s row) = arg35 k r ui ua s row := by kernel_rfl
theorem n35_1 (r u0 x : Int) (s : Rs) : run35 (OT orc0) 1 r [u0] [] s [x] = stepR1 r u0 s x (nxR 1 r [u0] []) := by kernel_rfl
theorem m35_1 (r u0 : Int) (s : Rs) (row : List Int) : run35 (stopAt 35 [3] (OT orc0)) 1 r [u0] [] s row = bif !((row.length : Int) == 1) then some (resN 1 r [u0] [] s 0 11) else none := by kernel_rfl
theorem n35_2 (r u0 u1 x y : Int) (s : Rs) : run35 (OT orc0) 2 r [u0, u1] [] s [x, y] = stepR2 r u0 u1 s (x, y) (nxR 2 r [u0, u1] []) := by kernel_rfl
theorem m35_2 (r u0 u1 : Int) (s : Rs) (row : List Int) : run35 (stopAt 35 [3] (OT orc0)) 2 r [u0, u1] [] s row = bif !((row.length : Int) == 2) then some (resN 2 r [u0, u1] [] s 0 11) else none := by kernel_rfl
theorem n35_3 (r u0 x : Int) (s : Rs) : run35 (OT orc0) 3 r [u0] [] s [x] = stepR3 r u0 s x (nxR 3 r [u0] []) := by kernel_rfl
theorem m35_3 (r u0 : Int) (s : Rs) (row : List Int) : run35 (stopAt 35 [3] (OT orc0)) 3 r [u0] [] s row = bif !((row.length : Int) == 1) then some (resN 3 r [u0] [] s 0 11) else none := by kernel_rfl
theorem n35_4 (r y0 : Int) (s : Rs) : run35 (OT orc0) 4 r [] [y0] s [] = stepR4 r y0 s () (nxR 4 r [] [y0]) := by kernel_rfl
theorem m35_4 (r y0 : Int) (s : Rs) (row : List Int) : run35 (stopAt 35 [3] (OT orc0)) 4 r [] [y0] s row = bif !((row.length : Int) == 0) then some (resN 4 r [] [y0] s 0 11) else none := by kernel_rfl
theorem n35_5 (r y0 y1 y2 : Int) (s : Rs) : run35 (OTh orc0) 5 r [] [y0, y1, y2] s [] = stepR5 r y0 y1 y2 s () (nxR 5 r [] [y0, y1, y2]) := by kernel_rfl
theorem m35_5 (r y0 y1 y2 : Int) (s : Rs) (row : List Int) : run35 (stopAt 35 [3] (OT orc0)) 5 r [] [y0, y1, y2] s row = bif !((row.length : Int) == 0) then some (resN 5 r [] [y0, y1, y2] s 0 11) else none := by kernel_rfl
theorem n35_6 (r u0 y0 y1 y2 y3 x : Int) (s : Rs) : run35 (OT6 orc0) 6 r [u0] [y0, y1, y2, y3] s [x] = stepR6 r u0 y0 y1 y2 y3 s x (nxR 6 r [u0] [y0, y1, y2, y3]) := by kernel_rfl
theorem m35_6 (r u0 y0 y1 y2 y3 : Int) (s : Rs) (row : List Int) : run35 (stopAt 35 [3] (OT orc0)) 6 r [u0] [y0, y1, y2, y3] s row = bif !((row.length : Int) == 1) then some (resN 6 r [u0] [y0, y1, y2, y3] s 0 11) else none := by kernel_rfl
theorem n35_7 (r u0 u1 x y : Int) (s : Rs) : run35 (OTl orc0) 7 r [u0, u1] [] s [x, y] = stepR7 r u0 u1 s (x, y) (nxR 7 r [u0, u1] []) := by kernel_rfl
theorem m35_7 (r u0 u1 : Int) (s : Rs) (row : List Int) : run35 (stopAt 35 [3] (OT orc0)) 7 r [u0, u1] [] s row = bif !((row.length : Int) == 2) then some (resN 7 r [u0, u1] [] s 0 11) else none := by kernel_rfl
theorem n35_8 (r u0 u1 x y : Int) (s : Rs) : run35 (OT orc0) 8 r [u0, u1] [] s [x, y] = stepR8 r u0 u1 s (x, y) (nxR 8 r [u0, u1] []) := by kernel_rfl
theorem m35_8 (r u0 u1 : Int) (s : Rs) (row : List Int) : run35 (stopAt 35 [3] (OT orc0)) 8 r [u0, u1] [] s row = bif !((row.length : Int) == 2) then some (resN 8 r [u0, u1] [] s 0 11) else none := by kernel_rfl
theorem n35_9 (r u0 u1 x y : Int) (s : Rs) : run35 (OTg orc0) 9 r [u0, u1] [] s [x, y] = stepR9 r u0 u1 s (x, y) (nxR 9 r [u0, u1] []) := by kernel_rfl
theorem m35_9 (r u0 u1 : Int) (s : Rs) (row : List Int) : run35 (stopAt 35 [3] (OT orc0)) 9 r [u0, u1] [] s row = bif !((row.length : Int) == 2) then some (resN 9 r [u0, u1] [] s 0 11) else none := by kernel_rfl
theorem n35_10 (r u0 u1 x y : Int) (s : Rs) : run35 (OT orc0) 10 r [u0, u1] [] s [x, y] = stepR10 r u0 u1 s (x, y) (nxR 10 r [u0, u1] []) := by kernel_rfl
theorem m35_10 (r u0 u1 : Int) (s : Rs) (row : List Int) : run35 (stopAt 35 [3] (OT orc0)) 10 r [u0, u1] [] s row = bif !((row.length : Int) == 2) then some (resN 10 r [u0, u1] [] s 0 11) else none := by kernel_rfl
theorem n35_12 (r y0 x : Int) (s : Rs) : run35 (OT orc0) 12 r [] [y0] s [x] = stepR12 r y0 s x (nxR 12 r [] [y0]) := by kernel_rfl
theorem m35_12 (r y0 : Int) (s : Rs) (row : List Int) : run35 (stopAt 35 [3] (OT orc0)) 12 r [] [y0] s row = bif !((row.length : Int) == 1) then some (resN 12 r [] [y0] s 0 11) else none := by kernel_rfl
theorem n35_13 (r u0 y0 x : Int) (s : Rs) : run35 (OT orc0) 13 r [u0] [y0] s [x] = stepR13 r u0 y0 s x (nxR 13 r [u0] [y0]) := by kernel_rfl
theorem m35_13 (r u0 y0 : Int) (s : Rs) (row : List Int) : run35 (stopAt 35 [3] (OT orc0)) 13 r [u0] [y0] s row = bif !((row.length : Int) == 1) then some (resN 13 r [u0] [y0] s 0 11) else none := by kernel_rfl
theorem n35_14 (r y0 x : Int) (s : Rs) : run35 (OT orc0) 14 r [] [y0] s [x] = stepR14 r y0 s x (nxR 14 r [] [y0]) := by kernel_rfl
theorem m35_14 (r y0 : Int) (s : Rs) (row : List Int) : run35 (stopAt 35 [3] (OT orc0)) 14 r [] [y0] s row = bif !((row.length : Int) == 1) then some (resN 14 r [] [y0] s 0 11) else none := by kernel_rfl
theorem n35_15 (r y0 : Int) (s : Rs) : run35 (OT orc0) 15 r [] [y0] s [] = stepR15 r y0 s () (nxR 15 r [] [y0]) := by kernel_rfl
theorem m35_15 (r y0 : Int) (s : Rs) (row : List Int) : run35 (stopAt 35 [3] (OT orc0)) 15 r [] [y0] s row = bif !((row.length : Int) == 0) then some (resN 15 r [] [y0] s 0 11) else none := by kernel_rfl
end Go.Proofs.Ythlmbnhelkbchaa
/- UnitNexts: what is asked of a kind (but a delay), kind by kind. Printed by uxkgen.py. -/
namespace Go.Proofs.Ythlmbnhelkbchaa
open Go.Ev
set_option maxRecDepth 100000
abbrev ones (row : List Int) : List (List Int) := row.map fun x => [x]
structure KindN (k r : Int) (ui ua : List Int) (m : Nat) (rnd : Int) (Fk : List (List Int) → Nat → Ob → Ob) (Hk : List (List Int) → StepF) (CK : Nat → Nat → Ob → Rs → Prop) : Prop where
  u : KindU k r ui ua m rnd Fk Hk
  hr : 1 ≤ r ∧ r ≤ 3
  inp : F 33 [int64 k] (int64 (m : Int))
  nx : ∀ (row : List Int) (o : Ob), row.length = m → OFact Try.prog tb scU 21 1 [] (arg21 row) (objU k r ui ua o) (.tup [int64 (Fk (ones row) 0 (fwd o)).told, int64 0]) (objU2 k r ui ua (Fk (ones row) 0 (fwd o))) psU
  nxE : ∀ (row : List Int) (o : Ob), row.length ≠ m → OFact Try.prog tb scU 21 1 [] (arg21 row) (objU k r ui ua o) (.tup [int64 0, int64 11]) (objU2 k r ui ua o) psU
  nr : ∀ (c : Nat) (row : List Int) (o : Ob) (s : Rs), c ≤ 1000 → row.length = m → CK c 0 o s → FFact Try.prog tb 35 (arg35 k r ui ua s row) (resN k r ui ua (nextS (Hk (ones row) 0 s).1 (Hk (ones row) 0 s).2) (Hk (ones row) 0 s).2 0)
  nrE : ∀ (row : List Int) (s : Rs), row.length ≠ m → FFact Try.prog tb 35 (arg35 k r ui ua s row) (resN k r ui ua s 0 11)
  run : ∀ (c n : Nat) (ls : List (List Int)) (o : Ob) (s : Rs), c + n ≤ 1000 → ls.length = m → (∀ l ∈ ls, l.length = n) → CK c 0 o s → FFact Try.prog tb 34 (argR k r ui ua s n ls) (resR k r ui ua (runR r (Hk ls) 0 n s).1 (ints (runR r (Hk ls) 0 n s).2) 0)
  al : ∀ (c n : Nat) (ls : List (List Int)), c + n ≤ 1000 → ls.length = m → Alike (Fk ls) (Hk ls) (CK c) n
  sh : ∀ (c n : Nat) (o : Ob) (s : Rs), CK c n o s → CK (c + n) 0 o s
  c0 : CK 0 0 (ob0 rnd) (rs0 rnd)
  frm : ∀ (ls : List (List Int)) (i : Nat) (o : Ob), (Fk ls i o).frame = o.frame
theorem row2 {row : List Int} (h : row.length = 2) : ∃ x y, row = [x, y] := by
  rcases row with _ | ⟨a, _ | ⟨b, _ | ⟨c, t⟩⟩⟩ <;> simp at h
  exact ⟨a, b, rfl⟩
theorem f33_1 : F 33 [int64 1] (int64 ((1 : Nat) : Int)) := .of ok0 rfl fun h => by kernel_rfl
theorem kn_1 {r u0 : Int} (hr : 1 ≤ r ∧ r ≤ 3) (h29 : F 29 [(unitV 1 r [u0] [])] (.bool true)) (h13 : F 13 [(unitV 1 r [u0] [])] (.bool true)) : KindN 1 r [u0] [] 1 0 (fun ls => F1 (ls.getD 0 [])) (fun ls => H1 (ls.getD 0 [])) (fun _ => C1) where
  u := kd_1 hr h29 h13
  hr := hr
  inp := f33_1
  nx row o hm := by
    obtain ⟨x, rfl⟩ := List.length_eq_one_iff.1 hm
    exact ⟨_, OI_ok ok0, (n21_1 r u0 x o).trans rfl⟩
  nxE row o hm := ⟨_, stopAt_ok (OI_ok ok0), (m21_1 r u0 o row).trans (by rw [show ((row.length : Int) == 1) = false from by rw [beq_eq_false_iff_ne]; omega]; rfl)⟩
  nr c row o s hc hm hC := by
    obtain ⟨x, rfl⟩ := List.length_eq_one_iff.1 hm
    exact ⟨ar35 _ _ _ _ _ _, _, OT_ok ok0, (n35_1 r u0 x s).trans (sR1 _ _ _ _ _)⟩
  nrE row s hm := ⟨ar35 _ _ _ _ _ _, _, stopAt_ok (OT_ok ok0), (m35_1 r u0 s row).trans (by rw [show ((row.length : Int) == 1) = false from by rw [beq_eq_false_iff_ne]; omega]; rfl)⟩
  run c n ls o s hc hm hl hC := by
    obtain ⟨xs, rfl⟩ := len1 hm
    have hxs : xs.length = n := hl _ List.mem_cons_self
    exact runR_fact (OT_ok ok0) (rdR_1 hxs) (rnR_1 r u0 xs) (by omega) hl trivial
  al c n ls hc hm := by
    obtain ⟨xs, rfl⟩ := len1 hm
    exact (al_1 n xs)
  sh _ _ _ _ h := h
  c0 := rfl
  frm _ _ _ := rfl
theorem f33_2 : F 33 [int64 2] (int64 ((2 : Nat) : Int)) := .of ok0 rfl fun h => by kernel_rfl
theorem kn_2 {r u0 u1 : Int} (hr : 1 ≤ r ∧ r ≤ 3) (h29 : F 29 [(unitV 2 r [u0, u1] [])] (.bool true)) (h13 : F 13 [(unitV 2 r [u0, u1] [])] (.bool true)) : KindN 2 r [u0, u1] [] 2 0 (fun ls => F2 (ls.getD 0 []) (ls.getD 1 [])) (fun ls => H2 (ls.getD 0 []) (ls.getD 1 [])) (fun _ => C1) where
  u := kd_2 hr h29 h13
  hr := hr
  inp := f33_2
  nx row o hm := by
    obtain ⟨x, y, rfl⟩ := row2 hm
    exact ⟨_, OI_ok ok0, (n21_2 r u0 u1 x y o).trans (step2_eq _ _ _ _)⟩
  nxE row o hm := ⟨_, stopAt_ok (OI_ok ok0), (m21_2 r u0 u1 o row).trans (by rw [show ((row.length : Int) == 2) = false from by rw [beq_eq_false_iff_ne]; omega]; rfl)⟩
  nr c row o s hc hm hC := by
    obtain ⟨x, y, rfl⟩ := row2 hm
    exact ⟨ar35 _ _ _ _ _ _, _, OT_ok ok0, (n35_2 r u0 u1 x y s).trans (sR2 _ _ _ _ _ _)⟩
  nrE row s hm := ⟨ar35 _ _ _ _ _ _, _, stopAt_ok (OT_ok ok0), (m35_2 r u0 u1 s row).trans (by rw [show ((row.length : Int) == 2) = false from by rw [beq_eq_false_iff_ne]; omega]; rfl)⟩
  run c n ls o s hc hm hl hC := by
    obtain ⟨xs, ys, rfl⟩ := len2 hm
    have hxs : xs.length = n := hl _ List.mem_cons_self
    have hys : ys.length = n := hl _ (List.mem_cons_of_mem _ List.mem_cons_self)
    exact runR_fact (OT_ok ok0) (rdR_2 hxs hys) (rnR_2 r u0 u1 xs ys) (by omega) hl trivial
  al c n ls hc hm := by
    obtain ⟨xs, ys, rfl⟩ := len2 hm
    exact (al_2 n xs ys)
  sh _ _ _ _ h := h
  c0 := rfl
  frm _ _ _ := rfl
theorem f33_3 : F 33 [int64 3] (int64 ((1 : Nat) : Int)) := .of ok0 rfl fun h => by kernel_rfl
theorem kn_3 {r u0 : Int} (hr : 1 ≤ r ∧ r ≤ 3) (h29 : F 29 [(unitV 3 r [u0] [])] (.bool true)) (h13 : F 13 [(unitV 3 r [u0] [])] (.bool true)) : KindN 3 r [u0] [] 1 0 (fun ls => F3 (ls.getD 0 [])) (fun ls => H3 (ls.getD 0 [])) (fun _ => C1) where
  u := kd_3 hr h29 h13
  hr := hr
  inp := f33_3
  nx row o hm := by
    obtain ⟨x, rfl⟩ := List.length_eq_one_iff.1 hm
    exact ⟨_, OI_ok ok0, (n21_3 r u0 x o).trans (step3_eq _ _ _)⟩
  nxE row o hm := ⟨_, stopAt_ok (OI_ok ok0), (m21_3 r u0 o row).trans (by rw [show ((row.length : Int) == 1) = false from by rw [beq_eq_false_iff_ne]; omega]; rfl)⟩
  nr c row o s hc hm hC := by
    obtain ⟨x, rfl⟩ := List.length_eq_one_iff.1 hm
    exact ⟨ar35 _ _ _ _ _ _, _, OT_ok ok0, (n35_3 r u0 x s).trans (sR3 _ _ _ _ _)⟩
  nrE row s hm := ⟨ar35 _ _ _ _ _ _, _, stopAt_ok (OT_ok ok0), (m35_3 r u0 s row).trans (by rw [show ((row.length : Int) == 1) = false from by rw [beq_eq_false_iff_ne]; omega]; rfl)⟩
  run c n ls o s hc hm hl hC := by
    obtain ⟨xs, rfl⟩ := len1 hm
    have hxs : xs.length = n := hl _ List.mem_cons_self
    exact runR_fact (OT_ok ok0) (rdR_3 hxs) (rnR_3 r u0 xs) (by omega) hl trivial
  al c n ls hc hm := by
    obtain ⟨xs, rfl⟩ := len1 hm
    exact (al_3 n xs)
  sh _ _ _ _ h := h
  c0 := rfl
  frm _ _ _ := rfl
theorem f33_4 : F 33 [int64 4] (int64 ((0 : Nat) : Int)) := .of ok0 rfl fun h => by kernel_rfl
theorem kn_4 {r y0 : Int} (hr : 1 ≤ r ∧ r ≤ 3) (h29 : F 29 [(unitV 4 r [] [y0])] (.bool true)) (h13 : F 13 [(unitV 4 r [] [y0])] (.bool true)) : KindN 4 r [] [y0] 0 y0 (fun _ => F4) (fun _ => H4) (fun _ => C4) where
  u := kd_4 hr h29 h13
  hr := hr
  inp := f33_4
  nx row o hm := by
    have : row = [] := List.length_eq_zero_iff.1 hm
    subst this
    exact ⟨_, OS_ok ok0, (n21_4 r y0 o).trans rfl⟩
  nxE row o hm := ⟨_, stopAt_ok (OS_ok ok0), (m21_4 r y0 o row).trans (by rw [show ((row.length : Int) == 0) = false from by rw [beq_eq_false_iff_ne]; omega]; rfl)⟩
  nr c row o s hc hm hC := by
    have : row = [] := List.length_eq_zero_iff.1 hm
    subst this
    exact ⟨ar35 _ _ _ _ _ _, _, OT_ok ok0, (n35_4 r y0 s).trans (sR4 _ _ _ _ _)⟩
  nrE row s hm := ⟨ar35 _ _ _ _ _ _, _, stopAt_ok (OT_ok ok0), (m35_4 r y0 s row).trans (by rw [show ((row.length : Int) == 0) = false from by rw [beq_eq_false_iff_ne]; omega]; rfl)⟩
  run c n ls o s hc hm hl hC := by
    have := len0 hm; subst this
    exact runR_fact (OT_ok ok0) rdR_4 (rnR_4 r y0 ) (by omega) hl trivial
  al c n ls hc hm := by
    have := len0 hm; subst this
    exact (al_4 n)
  sh _ _ _ _ h := h
  c0 := rfl
  frm _ _ _ := rfl
theorem f33_5 : F 33 [int64 5] (int64 ((0 : Nat) : Int)) := .of ok0 rfl fun h => by kernel_rfl
theorem kn_5 {r y0 y1 y2 : Int} (hr : 1 ≤ r ∧ r ≤ 3) (hb : (-1099511627776 ≤ y0 ∧ y0 ≤ 1099511627776 ∧ -1099511627776 ≤ y1 ∧ y1 ≤ 1099511627776 ∧ 1 ≤ y2 ∧ y2 ≤ 1000000000)) (h29 : F 29 [(unitV 5 r [] [y0, y1, y2])] (.bool true)) (h13 : F 13 [(unitV 5 r [] [y0, y1, y2])] (.bool true)) : KindN 5 r [] [y0, y1, y2] 0 0 (fun _ => F5 y0 y1 y2) (fun _ => H5 y0 y1 y2) (fun c => C5 (c : Int)) where
  u := kd_5 hr hb h29 h13
  hr := hr
  inp := f33_5
  nx row o hm := by
    obtain ⟨b1, b2, b3, b4, b5, b6⟩ := hb
    have a0 : -2199023255552 ≤ w64 (y1 - y0) := by unfold w64; rw [IntKind.wrap_i64]; omega
    have a1 : w64 (y1 - y0) ≤ 2199023255552 := by unfold w64; rw [IntKind.wrap_i64]; omega
    have : row = [] := List.length_eq_zero_iff.1 hm
    subst this
    exact ⟨_, OS_ok ok0, (n21_5 r y0 y1 y2 o).trans (step5_eq (by omega) _)⟩
  nxE row o hm := ⟨_, stopAt_ok (OS_ok ok0), (m21_5 r y0 y1 y2 o row).trans (by rw [show ((row.length : Int) == 0) = false from by rw [beq_eq_false_iff_ne]; omega]; rfl)⟩
  nr c row o s hc hm hC := by
    obtain ⟨b1, b2, b3, b4, b5, b6⟩ := hb
    have a0 : -2199023255552 ≤ w64 (y1 - y0) := by unfold w64; rw [IntKind.wrap_i64]; omega
    have a1 : w64 (y1 - y0) ≤ 2199023255552 := by unfold w64; rw [IntKind.wrap_i64]; omega
    have : row = [] := List.length_eq_zero_iff.1 hm
    subst this
    exact ⟨ar35 _ _ _ _ _ _, _, OTh_ok ok0, (n35_5 r y0 y1 y2 s).trans (sR5 a0 a1 hC.2.1 (by have := hC.2.2; omega) b5 b6 _ _)⟩
  nrE row s hm := ⟨ar35 _ _ _ _ _ _, _, stopAt_ok (OT_ok ok0), (m35_5 r y0 y1 y2 s row).trans (by rw [show ((row.length : Int) == 0) = false from by rw [beq_eq_false_iff_ne]; omega]; rfl)⟩
  run c n ls o s hc hm hl hC := by
    obtain ⟨b1, b2, b3, b4, b5, b6⟩ := hb
    have a0 : -2199023255552 ≤ w64 (y1 - y0) := by unfold w64; rw [IntKind.wrap_i64]; omega
    have a1 : w64 (y1 - y0) ≤ 2199023255552 := by unfold w64; rw [IntKind.wrap_i64]; omega
    have := len0 hm; subst this
    exact runR_fact (OTh_ok ok0) (rdR_5 (c := (c : Int)) a0 a1 b5 b6 (by omega)) (rnR_5 r y0 y1 y2 ) (by omega) hl ⟨hC.2.1, hC.2.2⟩
  al c n ls hc hm := by
    obtain ⟨b1, b2, b3, b4, b5, b6⟩ := hb
    have a0 : -2199023255552 ≤ w64 (y1 - y0) := by unfold w64; rw [IntKind.wrap_i64]; omega
    have a1 : w64 (y1 - y0) ≤ 2199023255552 := by unfold w64; rw [IntKind.wrap_i64]; omega
    have := len0 hm; subst this
    exact (al_5 (c := (c : Int)) a0 a1 b5 b6 (by omega))
  sh c n o s h := ⟨h.1, h.2.1, by have := h.2.2; show s.n ≤ ((c + n : Nat) : Int) + ((0 : Nat) : Int); omega⟩
  c0 := ⟨rfl, Int.le_refl 0, by show (0 : Int) ≤ ((0 : Nat) : Int) + ((0 : Nat) : Int); omega⟩
  frm _ _ _ := rfl
theorem f33_6 : F 33 [int64 6] (int64 ((1 : Nat) : Int)) := .of ok0 rfl fun h => by kernel_rfl
theorem kn_6 {r u0 y0 y1 y2 y3 : Int} (hr : 1 ≤ r ∧ r ≤ 3) (hb : (y0 ≥ 1 ∧ y1 ≥ 1 ∧ y3 ≥ 1)) (h29 : F 29 [(unitV 6 r [u0] [y0, y1, y2, y3])] (.bool true)) (h13 : F 13 [(unitV 6 r [u0] [y0, y1, y2, y3])] (.bool true)) : KindN 6 r [u0] [y0, y1, y2, y3] 1 0 (fun ls => F6 y0 y1 y2 y3 (ls.getD 0 [])) (fun ls => H6 y0 y1 y2 y3 (ls.getD 0 [])) (fun _ => C6 y3) where
  u := kd_6 hr hb h29 h13
  hr := hr
  inp := f33_6
  nx row o hm := by
    obtain ⟨b1, b2, b3⟩ := hb
    obtain ⟨x, rfl⟩ := List.length_eq_one_iff.1 hm
    exact ⟨_, O6_ok ok0, (n21_6 r u0 y0 y1 y2 y3 x o).trans (step6_eq b1 b2 b3 _)⟩
  nxE row o hm := ⟨_, stopAt_ok (O6_ok ok0), (m21_6 r u0 y0 y1 y2 y3 o row).trans (by rw [show ((row.length : Int) == 1) = false from by rw [beq_eq_false_iff_ne]; omega]; rfl)⟩
  nr c row o s hc hm hC := by
    obtain ⟨b1, b2, b3⟩ := hb
    obtain ⟨x, rfl⟩ := List.length_eq_one_iff.1 hm
    exact ⟨ar35 _ _ _ _ _ _, _, OT6_ok ok0, (n35_6 r u0 y0 y1 y2 y3 x s).trans (sR6 b1 b2 b3 _)⟩
  nrE row s hm := ⟨ar35 _ _ _ _ _ _, _, stopAt_ok (OT_ok ok0), (m35_6 r u0 y0 y1 y2 y3 s row).trans (by rw [show ((row.length : Int) == 1) = false from by rw [beq_eq_false_iff_ne]; omega]; rfl)⟩
  run c n ls o s hc hm hl hC := by
    obtain ⟨b1, b2, b3⟩ := hb
    obtain ⟨xs, rfl⟩ := len1 hm
    have hxs : xs.length = n := hl _ List.mem_cons_self
    exact runR_fact (OT6_ok ok0) (rdR_6 b1 b2 b3 hxs) (rnR_6 r u0 y0 y1 y2 y3 xs) (by omega) hl trivial
  al c n ls hc hm := by
    obtain ⟨b1, b2, b3⟩ := hb
    obtain ⟨xs, rfl⟩ := len1 hm
    exact (al_6 b1 b2 b3 n xs)
  sh _ _ _ _ h := h
  c0 := ⟨rfl, rfl, rfl, fun h => absurd h (by show ¬ ((0 : Int) = 4); omega)⟩
  frm _ _ _ := rfl
theorem f33_7 : F 33 [int64 7] (int64 ((2 : Nat) : Int)) := .of ok0 rfl fun h => by kernel_rfl
theorem kn_7 {r u0 u1 : Int} (hr : 1 ≤ r ∧ r ≤ 3) (h29 : F 29 [(unitV 7 r [u0, u1] [])] (.bool true)) (h13 : F 13 [(unitV 7 r [u0, u1] [])] (.bool true)) : KindN 7 r [u0, u1] [] 2 0 (fun ls => F7 (ls.getD 0 []) (ls.getD 1 [])) (fun ls => H7 (ls.getD 0 []) (ls.getD 1 [])) (fun _ => C7) where
  u := kd_7 hr h29 h13
  hr := hr
  inp := f33_7
  nx row o hm := by
    obtain ⟨x, y, rfl⟩ := row2 hm
    exact ⟨_, OS_ok ok0, (n21_7 r u0 u1 x y o).trans (step7_eq _ _ _)⟩
  nxE row o hm := ⟨_, stopAt_ok (OS_ok ok0), (m21_7 r u0 u1 o row).trans (by rw [show ((row.length : Int) == 2) = false from by rw [beq_eq_false_iff_ne]; omega]; rfl)⟩
  nr c row o s hc hm hC := by
    obtain ⟨x, y, rfl⟩ := row2 hm
    exact ⟨ar35 _ _ _ _ _ _, _, OTl_ok ok0, (n35_7 r u0 u1 x y s).trans (sR7 hC.2.1 hC.2.2 _)⟩
  nrE row s hm := ⟨ar35 _ _ _ _ _ _, _, stopAt_ok (OT_ok ok0), (m35_7 r u0 u1 s row).trans (by rw [show ((row.length : Int) == 2) = false from by rw [beq_eq_false_iff_ne]; omega]; rfl)⟩
  run c n ls o s hc hm hl hC := by
    obtain ⟨xs, ys, rfl⟩ := len2 hm
    have hxs : xs.length = n := hl _ List.mem_cons_self
    have hys : ys.length = n := hl _ (List.mem_cons_of_mem _ List.mem_cons_self)
    exact runR_fact (OTl_ok ok0) (rdR_7 hxs hys) (rnR_7 r u0 u1 xs ys) (by omega) hl ⟨hC.2.1, hC.2.2⟩
  al c n ls hc hm := by
    obtain ⟨xs, ys, rfl⟩ := len2 hm
    exact (al_7 n xs ys)
  sh _ _ _ _ h := h
  c0 := ⟨rfl, by show (-1099511627776 : Int) ≤ 0; omega, by show (0 : Int) ≤ 1099511627776; omega⟩
  frm _ _ _ := rfl
theorem f33_8 : F 33 [int64 8] (int64 ((2 : Nat) : Int)) := .of ok0 rfl fun h => by kernel_rfl
theorem kn_8 {r u0 u1 : Int} (hr : 1 ≤ r ∧ r ≤ 3) (h29 : F 29 [(unitV 8 r [u0, u1] [])] (.bool true)) (h13 : F 13 [(unitV 8 r [u0, u1] [])] (.bool true)) : KindN 8 r [u0, u1] [] 2 0 (fun ls => F8 (ls.getD 0 []) (ls.getD 1 [])) (fun ls => H8 (ls.getD 0 []) (ls.getD 1 [])) (fun _ => CT) where
  u := kd_8 hr h29 h13
  hr := hr
  inp := f33_8
  nx row o hm := by
    obtain ⟨x, y, rfl⟩ := row2 hm
    exact ⟨_, OS_ok ok0, (n21_8 r u0 u1 x y o).trans rfl⟩
  nxE row o hm := ⟨_, stopAt_ok (OS_ok ok0), (m21_8 r u0 u1 o row).trans (by rw [show ((row.length : Int) == 2) = false from by rw [beq_eq_false_iff_ne]; omega]; rfl)⟩
  nr c row o s hc hm hC := by
    obtain ⟨x, y, rfl⟩ := row2 hm
    exact ⟨ar35 _ _ _ _ _ _, _, OT_ok ok0, (n35_8 r u0 u1 x y s).trans (sR8 _ _ _ _ _ _)⟩
  nrE row s hm := ⟨ar35 _ _ _ _ _ _, _, stopAt_ok (OT_ok ok0), (m35_8 r u0 u1 s row).trans (by rw [show ((row.length : Int) == 2) = false from by rw [beq_eq_false_iff_ne]; omega]; rfl)⟩
  run c n ls o s hc hm hl hC := by
    obtain ⟨xs, ys, rfl⟩ := len2 hm
    have hxs : xs.length = n := hl _ List.mem_cons_self
    have hys : ys.length = n := hl _ (List.mem_cons_of_mem _ List.mem_cons_self)
    exact runR_fact (OT_ok ok0) (rdR_8 hxs hys) (rnR_8 r u0 u1 xs ys) (by omega) hl trivial
  al c n ls hc hm := by
    obtain ⟨xs, ys, rfl⟩ := len2 hm
    exact (al_8 n xs ys)
  sh _ _ _ _ h := h
  c0 := trivial
  frm _ _ _ := rfl
theorem f33_9 : F 33 [int64 9] (int64 ((2 : Nat) : Int)) := .of ok0 rfl fun h => by kernel_rfl
theorem kn_9 {r u0 u1 : Int} (hr : 1 ≤ r ∧ r ≤ 3) (h29 : F 29 [(unitV 9 r [u0, u1] [])] (.bool true)) (h13 : F 13 [(unitV 9 r [u0, u1] [])] (.bool true)) : KindN 9 r [u0, u1] [] 2 0 (fun ls => F9 (ls.getD 0 []) (ls.getD 1 [])) (fun ls => H9 (ls.getD 0 []) (ls.getD 1 [])) (fun _ => CT) where
  u := kd_9 hr h29 h13
  hr := hr
  inp := f33_9
  nx row o hm := by
    obtain ⟨x, y, rfl⟩ := row2 hm
    exact ⟨_, OS_ok ok0, (n21_9 r u0 u1 x y o).trans rfl⟩
  nxE row o hm := ⟨_, stopAt_ok (OS_ok ok0), (m21_9 r u0 u1 o row).trans (by rw [show ((row.length : Int) == 2) = false from by rw [beq_eq_false_iff_ne]; omega]; rfl)⟩
  nr c row o s hc hm hC := by
    obtain ⟨x, y, rfl⟩ := row2 hm
    exact ⟨ar35 _ _ _ _ _ _, _, OTg_ok ok0, (n35_9 r u0 u1 x y s).trans (sR9 _ _ _ _ _ _)⟩
  nrE row s hm := ⟨ar35 _ _ _ _ _ _, _, stopAt_ok (OT_ok ok0), (m35_9 r u0 u1 s row).trans (by rw [show ((row.length : Int) == 2) = false from by rw [beq_eq_false_iff_ne]; omega]; rfl)⟩
  run c n ls o s hc hm hl hC := by
    obtain ⟨xs, ys, rfl⟩ := len2 hm
    have hxs : xs.length = n := hl _ List.mem_cons_self
    have hys : ys.length = n := hl _ (List.mem_cons_of_mem _ List.mem_cons_self)
    exact runR_fact (OTg_ok ok0) (rdR_9 hxs hys) (rnR_9 r u0 u1 xs ys) (by omega) hl trivial
  al c n ls hc hm := by
    obtain ⟨xs, ys, rfl⟩ := len2 hm
    exact (al_9 n xs ys)
  sh _ _ _ _ h := h
  c0 := trivial
  frm _ _ _ := rfl
theorem f33_10 : F 33 [int64 10] (int64 ((2 : Nat) : Int)) := .of ok0 rfl fun h => by kernel_rfl
theorem kn_10 {r u0 u1 : Int} (hr : 1 ≤ r ∧ r ≤ 3) (h29 : F 29 [(unitV 10 r [u0, u1] [])] (.bool true)) (h13 : F 13 [(unitV 10 r [u0, u1] [])] (.bool true)) : KindN 10 r [u0, u1] [] 2 0 (fun ls => F10 (ls.getD 0 []) (ls.getD 1 [])) (fun ls => H10 (ls.getD 0 []) (ls.getD 1 [])) (fun _ => CT) where
  u := kd_10 hr h29 h13
  hr := hr
  inp := f33_10
  nx row o hm := by
    obtain ⟨x, y, rfl⟩ := row2 hm
    exact ⟨_, OS_ok ok0, (n21_10 r u0 u1 x y o).trans rfl⟩
  nxE row o hm := ⟨_, stopAt_ok (OS_ok ok0), (m21_10 r u0 u1 o row).trans (by rw [show ((row.length : Int) == 2) = false from by rw [beq_eq_false_iff_ne]; omega]; rfl)⟩
  nr c row o s hc hm hC := by
    obtain ⟨x, y, rfl⟩ := row2 hm
    exact ⟨ar35 _ _ _ _ _ _, _, OT_ok ok0, (n35_10 r u0 u1 x y s).trans (sR10 _ _ _ _ _ _)⟩
  nrE row s hm := ⟨ar35 _ _ _ _ _ _, _, stopAt_ok (OT_ok ok0), (m35_10 r u0 u1 s row).trans (by rw [show ((row.length : Int) == 2) = false from by rw [beq_eq_false_iff_ne]; omega]; rfl)⟩
  run c n ls o s hc hm hl hC := by
    obtain ⟨xs, ys, rfl⟩ := len2 hm
    have hxs : xs.length = n := hl _ List.mem_cons_self
    have hys : ys.length = n := hl _ (List.mem_cons_of_mem _ List.mem_cons_self)
    exact runR_fact (OT_ok ok0) (rdR_10 hxs hys) (rnR_10 r u0 u1 xs ys) (by omega) hl trivial
  al c n ls hc hm := by
    obtain ⟨xs, ys, rfl⟩ := len2 hm
    exact (al_10 n xs ys)
  sh _ _ _ _ h := h
  c0 := trivial
  frm _ _ _ := rfl
theorem f33_12 : F 33 [int64 12] (int64 ((1 : Nat) : Int)) := .of ok0 rfl fun h => by kernel_rfl
theorem kn_12 {r y0 : Int} (hr : 1 ≤ r ∧ r ≤ 3) (h29 : F 29 [(unitV 12 r [] [y0])] (.bool true)) (h13 : F 13 [(unitV 12 r [] [y0])] (.bool true)) : KindN 12 r [] [y0] 1 0 (fun ls => FIn (ls.getD 0 [])) (fun ls => HIn (ls.getD 0 [])) (fun _ => CT) where
  u := kd_12 hr h29 h13
  hr := hr
  inp := f33_12
  nx row o hm := by
    obtain ⟨x, rfl⟩ := List.length_eq_one_iff.1 hm
    exact ⟨_, OS_ok ok0, (n21_12 r y0 x o).trans rfl⟩
  nxE row o hm := ⟨_, stopAt_ok (OS_ok ok0), (m21_12 r y0 o row).trans (by rw [show ((row.length : Int) == 1) = false from by rw [beq_eq_false_iff_ne]; omega]; rfl)⟩
  nr c row o s hc hm hC := by
    obtain ⟨x, rfl⟩ := List.length_eq_one_iff.1 hm
    exact ⟨ar35 _ _ _ _ _ _, _, OT_ok ok0, (n35_12 r y0 x s).trans (sR12 _ _ _ _ _)⟩
  nrE row s hm := ⟨ar35 _ _ _ _ _ _, _, stopAt_ok (OT_ok ok0), (m35_12 r y0 s row).trans (by rw [show ((row.length : Int) == 1) = false from by rw [beq_eq_false_iff_ne]; omega]; rfl)⟩
  run c n ls o s hc hm hl hC := by
    obtain ⟨xs, rfl⟩ := len1 hm
    have hxs : xs.length = n := hl _ List.mem_cons_self
    exact runR_fact (OT_ok ok0) (rdR_12 hxs) (rnR_12 r y0 xs) (by omega) hl trivial
  al c n ls hc hm := by
    obtain ⟨xs, rfl⟩ := len1 hm
    exact (al_In n xs)
  sh _ _ _ _ h := h
  c0 := trivial
  frm _ _ _ := rfl
theorem f33_13 : F 33 [int64 13] (int64 ((1 : Nat) : Int)) := .of ok0 rfl fun h => by kernel_rfl
theorem kn_13 {r u0 y0 : Int} (hr : 1 ≤ r ∧ r ≤ 3) (h29 : F 29 [(unitV 13 r [u0] [y0])] (.bool true)) (h13 : F 13 [(unitV 13 r [u0] [y0])] (.bool true)) : KindN 13 r [u0] [y0] 1 0 (fun ls => FIn (ls.getD 0 [])) (fun ls => HIn (ls.getD 0 [])) (fun _ => CT) where
  u := kd_13 hr h29 h13
  hr := hr
  inp := f33_13
  nx row o hm := by
    obtain ⟨x, rfl⟩ := List.length_eq_one_iff.1 hm
    exact ⟨_, OS_ok ok0, (n21_13 r u0 y0 x o).trans rfl⟩
  nxE row o hm := ⟨_, stopAt_ok (OS_ok ok0), (m21_13 r u0 y0 o row).trans (by rw [show ((row.length : Int) == 1) = false from by rw [beq_eq_false_iff_ne]; omega]; rfl)⟩
  nr c row o s hc hm hC := by
    obtain ⟨x, rfl⟩ := List.length_eq_one_iff.1 hm
    exact ⟨ar35 _ _ _ _ _ _, _, OT_ok ok0, (n35_13 r u0 y0 x s).trans (sR13 _ _ _ _ _ _)⟩
  nrE row s hm := ⟨ar35 _ _ _ _ _ _, _, stopAt_ok (OT_ok ok0), (m35_13 r u0 y0 s row).trans (by rw [show ((row.length : Int) == 1) = false from by rw [beq_eq_false_iff_ne]; omega]; rfl)⟩
  run c n ls o s hc hm hl hC := by
    obtain ⟨xs, rfl⟩ := len1 hm
    have hxs : xs.length = n := hl _ List.mem_cons_self
    exact runR_fact (OT_ok ok0) (rdR_13 hxs) (rnR_13 r u0 y0 xs) (by omega) hl trivial
  al c n ls hc hm := by
    obtain ⟨xs, rfl⟩ := len1 hm
    exact (al_In n xs)
  sh _ _ _ _ h := h
  c0 := trivial
  frm _ _ _ := rfl
theorem f33_14 : F 33 [int64 14] (int64 ((1 : Nat) : Int)) := .of ok0 rfl fun h => by kernel_rfl
theorem kn_14 {r y0 : Int} (hr : 1 ≤ r ∧ r ≤ 3) (h29 : F 29 [(unitV 14 r [] [y0])] (.bool true)) (h13 : F 13 [(unitV 14 r [] [y0])] (.bool true)) : KindN 14 r [] [y0] 1 0 (fun ls => FIn (ls.getD 0 [])) (fun ls => HIn (ls.getD 0 [])) (fun _ => CT) where
  u := kd_14 hr h29 h13
  hr := hr
  inp := f33_14
  nx row o hm := by
    obtain ⟨x, rfl⟩ := List.length_eq_one_iff.1 hm
    exact ⟨_, OS_ok ok0, (n21_14 r y0 x o).trans rfl⟩
  nxE row o hm := ⟨_, stopAt_ok (OS_ok ok0), (m21_14 r y0 o row).trans (by rw [show ((row.length : Int) == 1) = false from by rw [beq_eq_false_iff_ne]; omega]; rfl)⟩
  nr c row o s hc hm hC := by
    obtain ⟨x, rfl⟩ := List.length_eq_one_iff.1 hm
    exact ⟨ar35 _ _ _ _ _ _, _, OT_ok ok0, (n35_14 r y0 x s).trans (sR14 _ _ _ _ _)⟩
  nrE row s hm := ⟨ar35 _ _ _ _ _ _, _, stopAt_ok (OT_ok ok0), (m35_14 r y0 s row).trans (by rw [show ((row.length : Int) == 1) = false from by rw [beq_eq_false_iff_ne]; omega]; rfl)⟩
  run c n ls o s hc hm hl hC := by
    obtain ⟨xs, rfl⟩ := len1 hm
    have hxs : xs.length = n := hl _ List.mem_cons_self
    exact runR_fact (OT_ok ok0) (rdR_14 hxs) (rnR_14 r y0 xs) (by omega) hl trivial
  al c n ls hc hm := by
    obtain ⟨xs, rfl⟩ := len1 hm
    exact (al_In n xs)
  sh _ _ _ _ h := h
  c0 := trivial
  frm _ _ _ := rfl
theorem f33_15 : F 33 [int64 15] (int64 ((0 : Nat) : Int)) := .of ok0 rfl fun h => by kernel_rfl
theorem kn_15 {r y0 : Int} (hr : 1 ≤ r ∧ r ≤ 3) (h29 : F 29 [(unitV 15 r [] [y0])] (.bool true)) (h13 : F 13 [(unitV 15 r [] [y0])] (.bool true)) : KindN 15 r [] [y0] 0 0 (fun _ => F15 y0) (fun _ => H15 y0) (fun _ => CT) where
  u := kd_15 hr h29 h13
  hr := hr
  inp := f33_15
  nx row o hm := by
    have : row = [] := List.length_eq_zero_iff.1 hm
    subst this
    exact ⟨_, OS_ok ok0, (n21_15 r y0 o).trans rfl⟩
  nxE row o hm := ⟨_, stopAt_ok (OS_ok ok0), (m21_15 r y0 o row).trans (by rw [show ((row.length : Int) == 0) = false from by rw [beq_eq_false_iff_ne]; omega]; rfl)⟩
  nr c row o s hc hm hC := by
    have : row = [] := List.length_eq_zero_iff.1 hm
    subst this
    exact ⟨ar35 _ _ _ _ _ _, _, OT_ok ok0, (n35_15 r y0 s).trans (sR15 _ _ _ _ _)⟩
  nrE row s hm := ⟨ar35 _ _ _ _ _ _, _, stopAt_ok (OT_ok ok0), (m35_15 r y0 s row).trans (by rw [show ((row.length : Int) == 0) = false from by rw [beq_eq_false_iff_ne]; omega]; rfl)⟩
  run c n ls o s hc hm hl hC := by
    have := len0 hm; subst this
    exact runR_fact (OT_ok ok0) rdR_15 (rnR_15 r y0 ) (by omega) hl trivial
  al c n ls hc hm := by
    have := len0 hm; subst this
    exact (al_15 n y0)
  sh _ _ _ _ h := h
  c0 := trivial
  frm _ _ _ := rfl
end Go.Proofs.Ythlmbnhelkbchaa
/- UnitNexts: oracles, and the law's run. -/
namespace Go.Proofs.Ythlmbnhelkbchaa
open Go.Ev
set_option maxRecDepth 100000
def knowFW (f : FuncId) (G : List AV → Bool) (V : List AV → AV) (S : Orc) : Orc := addF f (whenO G V) S
theorem knowFW_ok {S : Orc} {f : FuncId} {G : List AV → Bool} {V : List AV → AV} (hf : ∀ a, G a = true → FFact Try.prog tb f a (V a)) (hS : Ok S) : Ok (knowFW f G V S) := addF_ok (fnSim_whenF tbOk hf) natF_when hS
def aggOf : AV → List AV
  | .agg vs => vs
  | _ => []
def nxU (m : Nat) (Fk : List (List Int) → Nat → Ob → Ob) (row : List Int) (o : Ob) : Ob × Int × Int := if row.length = m then (Fk (ones row) 0 (fwd o), (Fk (ones row) 0 (fwd o)).told, 0) else (o, 0, 11)
def nxS (m : Nat) (Hk : List (List Int) → StepF) (row : List Int) (s : Rs) : Rs × Int × Int := if row.length = m then (nextS (Hk (ones row) 0 s).1 (Hk (ones row) 0 s).2, (Hk (ones row) 0 s).2, 0) else (s, 0, 11)
def GX (k r : Int) (ui ua : List Int) (a : List AV) (l : List (Nat × Blk)) : Prop := ∃ row o, a = arg21 row ∧ l = objU k r ui ua o
def vX (m : Nat) (Fk : List (List Int) → Nat → Ob → Ob) (a : List AV) (l : List (Nat × Blk)) : Ob × Int × Int := nxU m Fk (rowOf (nth a 1)) (obOf (objOf l))
noncomputable def VX (m : Nat) (Fk : List (List Int) → Nat → Ob → Ob) (a : List AV) (l : List (Nat × Blk)) : ORes := ((.tup [int64 (vX m Fk a l).2.1, int64 (vX m Fk a l).2.2], [(0, .cells true (putOb (objOf l) (vX m Fk a l).1)), (0, .cells true (putOb (objOf l) (vX m Fk a l).1))]), psU)
def G35 (k r : Int) (ui ua : List Int) (CK : Nat → Nat → Ob → Rs → Prop) (a : List AV) : Prop := ∃ (c : Nat) (row : List Int) (o : Ob) (s : Rs), a = arg35 k r ui ua s row ∧ c ≤ 1000 ∧ CK c 0 o s
def vN (m : Nat) (Hk : List (List Int) → StepF) (a : List AV) : Rs × Int × Int := nxS m Hk (rowOf (nth a 1)) (rsOf (aggOf (nth a 0)))
def V35 (k r : Int) (ui ua : List Int) (m : Nat) (Hk : List (List Int) → StepF) (a : List AV) : AV := resN k r ui ua (vN m Hk a).1 (vN m Hk a).2.1 (vN m Hk a).2.2
def G34n (k r : Int) (ui ua : List Int) (m : Nat) (CK : Nat → Nat → Ob → Rs → Prop) (a : List AV) : Prop := ∃ (c n : Nat) (ls : List (List Int)) (o : Ob) (s : Rs), a = argR k r ui ua s n ls ∧ c + n ≤ 1000 ∧ ls.length = m ∧ (∀ l ∈ ls, l.length = n) ∧ CK c 0 o s
def vR (r : Int) (Hk : List (List Int) → StepF) (a : List AV) : Rs × List Int := runR r (Hk (rowsOf (nth a 2))) 0 (intOf (nth a 1)).toNat (rsOf (aggOf (nth a 0)))
def V34 (k r : Int) (ui ua : List Int) (Hk : List (List Int) → StepF) (a : List AV) : AV := resR k r ui ua (vR r Hk a).1 (ints (vR r Hk a).2) 0
noncomputable def S8 (k r : Int) (ui ua : List Int) (m : Nat) (Fk : List (List Int) → Nat → Ob → Ob) (Hk : List (List Int) → StepF) (CK : Nat → Nat → Ob → Rs → Prop) (S : Orc) : Orc :=
  knowOW Try.prog scU 19 1 [] [] (GU k r ui ua m) (VU (rfOf r Fk)) <| knowOW Try.prog scU 21 1 [] [] (GX k r ui ua) (VX m Fk) <| knowFW 35 (fun a => isSo (G35 k r ui ua CK a)) (V35 k r ui ua m Hk) <| knowFW 34 (fun a => isSo (G34n k r ui ua m CK a)) (V34 k r ui ua Hk) <| O20 S
noncomputable abbrev run8 (S : Orc) (u : AV) (ls : List (List Int)) (first : Int) : Option Bool := evCall Try.prog S tb 100 Bool (.fn 8) [u, lists ls, int64 first] ⟨fun _ => none, 0⟩ .off done
theorem l8_long (k r : Int) (xs ys : List Int) (ls : List (List Int)) (first : Int) : run8 (SL10 (unitV k r xs ys) ls true orc0) (unitV k r xs ys) ls first = bif same [] [] then bif same [unitV k r xs ys, lists ls] [unitV k r xs ys, lists ls] then some true else none else none := by kernel_rfl
noncomputable def pre8 (u : AV) (ls : List (List Int)) (first : Int) (x : Option Bool) : Option Bool :=
  bif same [] [] then bif same [u, lists ls] [u, lists ls] then bif decide (first < 0) then some true else bif decide (first > 100) then some true else x else none else none
theorem l8_pre (k r : Int) (xs ys : List Int) (ls : List (List Int)) (first : Int) : run8 (SL10 (unitV k r xs ys) ls false (stopAt 8 [5] orc0)) (unitV k r xs ys) ls first = pre8 (unitV k r xs ys) ls first none := by kernel_rfl
theorem l8_no (k r : Int) (xs ys : List Int) (ls : List (List Int)) (first : Int) : run8 (SL10 (unitV k r xs ys) ls false (S18no (unitV k r xs ys) orc0)) (unitV k r xs ys) ls first =
    pre8 (unitV k r xs ys) ls first (bif isSo ([unitV k r xs ys] = [unitV k r xs ys] ∧ ([] : List (Nat × Blk)) = []) then bif same [unitV k r xs ys] [unitV k r xs ys] then some true else none else none) := by kernel_rfl
end Go.Proofs.Ythlmbnhelkbchaa
