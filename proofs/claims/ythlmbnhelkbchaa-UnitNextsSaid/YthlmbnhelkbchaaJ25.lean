/- The document's Run: what the kinds do, in closed form. Printed by utegen.py. -/
import Derived.Test.YthlmbnhelkbchaaJ24
import Derived.Test.YthlmbnhelkbchaaJ19
namespace Go.Proofs.Ythlmbnhelkbchaa
open Go.Ev
set_option maxRecDepth 100000
theorem zR_eq {A : Type} (k r : Int) (ui ua : List Int) (o : Rs) (x : Option A) : zR k r ui ua o x = x := by
  have e : sameV (AV.agg (cellsR k r ui ua o)) (AV.agg (cellsR k r ui ua o)) = true := by
    simp [cellsR, sameV, sameL, sameF, int64, ints]
    exact ⟨sameL_ints ui, sameL_ints ua, sameL_ints o.past⟩
  unfold zR
  rw [e]
  rfl
theorem num_b (x : Int) : -1099511627776 ≤ num x ∧ num x ≤ 1099511627776 := by
  obtain ⟨a1, a2, -, -, -⟩ := kept_b x (-1099511627776) 1099511627776 (by omega)
  rw [num_eq]
  exact ⟨a1, a2⟩
def H1 (xs : List Int) (i : Nat) (o : Rs) : Rs × Int := (oscR o (xs.getD i 0), sndR (w64 (w64 (o.phase.tdiv 256) - 8388608)))
def H2 (xs ys : List Int) (i : Nat) (o : Rs) : Rs × Int := (oscR o (xs.getD i 0), if o.phase < w64 (num (ys.getD i 0) * 65536) then 8388607 else -8388607)
def H3 (xs : List Int) (i : Nat) (o : Rs) : Rs × Int := (oscR o (xs.getD i 0), if w64 (o.phase.tdiv 128) ≥ 16777216 then sndR (w64 (25165824 - w64 (o.phase.tdiv 128))) else sndR (w64 (w64 (o.phase.tdiv 128) - 8388608)))
def H4 (_ : Nat) (o : Rs) : Rs × Int := (withN o (rnR o.n), sndR (w64 (w64 ((rnR o.n).tdiv 128) - 8388608)))
def H5 (y0 y1 y2 : Int) (_ : Nat) (o : Rs) : Rs × Int := (withN o (if o.n < y2 then w64 (o.n + 1) else o.n), if o.n ≥ y2 then y1 else w64 (y0 + prodM (w64 (y1 - y0)) o.n y2))
def H6 (y0 y1 y2 y3 : Int) (xs : List Int) (i : Nat) (o : Rs) : Rs × Int := (envG y0 y1 y2 y3 (decide (num (xs.getD i 0) > 0)) o, (envG y0 y1 y2 y3 (decide (num (xs.getD i 0) > 0)) o).n)
def H7 (xs ys : List Int) (i : Nat) (o : Rs) : Rs × Int := (withN o (lowW (xs.getD i 0) (ys.getD i 0) o.n), lowW (xs.getD i 0) (ys.getD i 0) o.n)
def H8 (xs ys : List Int) (i : Nat) (o : Rs) : Rs × Int := (o, num (w64 (num (xs.getD i 0) + num (ys.getD i 0))))
def H9 (xs ys : List Int) (i : Nat) (o : Rs) : Rs × Int := (o, num (prodN (num (xs.getD i 0)) (num (ys.getD i 0))))
def H10 (xs ys : List Int) (i : Nat) (o : Rs) : Rs × Int := (o, into (num (xs.getD i 0)) (w64 (0 - maxI (num (ys.getD i 0)) 0)) (maxI (num (ys.getD i 0)) 0))
def HIn (xs : List Int) (i : Nat) (o : Rs) : Rs × Int := (o, num (xs.getD i 0))
def H15 (y : Int) (_ : Nat) (o : Rs) : Rs × Int := (o, y)
section
variable {A : Type}
theorem sR1 (r u0 : Int) (o : Rs) (x : Int) (f : Rs → Int → Option A) : stepR1 r u0 o x f = f (oscR o x) (sndR (w64 (w64 (o.phase.tdiv 256) - 8388608))) := zR_eq _ _ _ _ _ _
theorem sR2 (r u0 u1 : Int) (o : Rs) (p : Int × Int) (f : Rs → Int → Option A) : stepR2 r u0 u1 o p f = f (oscR o p.1) (if o.phase < w64 (num p.2 * 65536) then 8388607 else -8388607) := by
  unfold stepR2
  simp only [zR_eq]
  by_cases h : o.phase < w64 (num p.2 * 65536)
  · rw [decide_eq_true h, if_pos h]; rfl
  · rw [decide_eq_false h, if_neg h]; rfl
theorem sR3 (r u0 : Int) (o : Rs) (x : Int) (f : Rs → Int → Option A) : stepR3 r u0 o x f = f (oscR o x) (if w64 (o.phase.tdiv 128) ≥ 16777216 then sndR (w64 (25165824 - w64 (o.phase.tdiv 128))) else sndR (w64 (w64 (o.phase.tdiv 128) - 8388608))) := by
  unfold stepR3
  simp only [zR_eq]
  by_cases h : w64 (o.phase.tdiv 128) ≥ 16777216
  · rw [decide_eq_true h, if_pos h]; rfl
  · rw [decide_eq_false h, if_neg h]; rfl
theorem sR4 (r y0 : Int) (o : Rs) (u : Unit) (f : Rs → Int → Option A) : stepR4 r y0 o u f = f (withN o (rnR o.n)) (sndR (w64 (w64 ((rnR o.n).tdiv 128) - 8388608))) := zR_eq _ _ _ _ _ _
theorem sR5 {r y0 y1 y2 : Int} {o : Rs} (a0 : -2199023255552 ≤ w64 (y1 - y0)) (a1 : w64 (y1 - y0) ≤ 2199023255552) (n0 : 0 ≤ o.n) (n1 : o.n ≤ 1000000) (b0 : 1 ≤ y2) (b1 : y2 ≤ 1000000000) (u : Unit) (f : Rs → Int → Option A) : stepR5 r y0 y1 y2 o u f = f (withN o (if o.n < y2 then w64 (o.n + 1) else o.n)) (if o.n ≥ y2 then y1 else w64 (y0 + prodM (w64 (y1 - y0)) o.n y2)) := by
  have g : ∀ x : Option A, h77h (w64 (y1 - y0)) o.n y2 x = x := fun x => by unfold h77h; rw [isSo_true ⟨_, _, _, rfl, a0, a1, n0, n1, b0, b1⟩]; rfl
  unfold stepR5
  simp only [g, zR_eq, E_eq]
  by_cases h1 : o.n < y2
  · rw [decide_eq_true h1, decide_eq_false (by omega : ¬ o.n ≥ y2), if_pos h1, if_neg (by omega)]; rfl
  · rw [decide_eq_false h1, decide_eq_true (by omega : o.n ≥ y2), if_neg h1, if_pos (by omega)]; rfl
theorem sR6 {r u0 y0 y1 y2 y3 : Int} {o : Rs} {x : Int} (h0 : y0 ≥ 1) (h1 : y1 ≥ 1) (h3 : y3 ≥ 1) (f : Rs → Int → Option A) : stepR6 r u0 y0 y1 y2 y3 o x f = f (envG y0 y1 y2 y3 (decide (num x > 0)) o) (envG y0 y1 y2 y3 (decide (num x > 0)) o).n := by
  unfold stepR6
  rw [isSo_true ⟨_, _, _, _, _, _, _, _, rfl, h0, h1, h3⟩, cond_true, E_eq]
theorem sR7 {r u0 u1 : Int} {o : Rs} {p : Int × Int} (n0 : -1099511627776 ≤ o.n) (n1 : o.n ≤ 1099511627776) (f : Rs → Int → Option A) : stepR7 r u0 u1 o p f = f (withN o (lowW p.1 p.2 o.n)) (lowW p.1 p.2 o.n) := by
  have hb := num_b p.1
  have hd : w64 (num p.1 - o.n) = num p.1 - o.n := by unfold w64; rw [IntKind.wrap_i64]; omega
  obtain ⟨c1, c2, -, -, -⟩ := kept_b (num p.2) 0 65536 (by omega)
  rw [← into_eq _ _ _ (by omega)] at c1 c2
  have g : ∀ x : Option A, h77l (w64 (num p.1 - o.n)) (into (num p.2) 0 65536) x = x := fun x => by unfold h77l; rw [isSo_true ⟨_, _, rfl, by omega, by omega, c1, c2⟩]; rfl
  unfold stepR7
  simp only [g, E_eq]
theorem sR8 (r u0 u1 : Int) (o : Rs) (p : Int × Int) (f : Rs → Int → Option A) : stepR8 r u0 u1 o p f = f o (num (w64 (num p.1 + num p.2))) := zR_eq _ _ _ _ _ _
theorem sR9 (r u0 u1 : Int) (o : Rs) (p : Int × Int) (f : Rs → Int → Option A) : stepR9 r u0 u1 o p f = f o (num (prodN (num p.1) (num p.2))) := by
  unfold stepR9 h77g
  rw [isSo_true ⟨_, _, rfl, (num_b p.1).1, (num_b p.1).2, (num_b p.2).1, (num_b p.2).2⟩, cond_true, zR_eq]
theorem sR10 (r u0 u1 : Int) (o : Rs) (p : Int × Int) (f : Rs → Int → Option A) : stepR10 r u0 u1 o p f = f o (into (num p.1) (w64 (0 - maxI (num p.2) 0)) (maxI (num p.2) 0)) := zR_eq _ _ _ _ _ _
theorem sR12 (r y0 : Int) (o : Rs) (x : Int) (f : Rs → Int → Option A) : stepR12 r y0 o x f = f o (num x) := zR_eq _ _ _ _ _ _
theorem sR13 (r u0 y0 : Int) (o : Rs) (x : Int) (f : Rs → Int → Option A) : stepR13 r u0 y0 o x f = f o (num x) := zR_eq _ _ _ _ _ _
theorem sR14 (r y0 : Int) (o : Rs) (x : Int) (f : Rs → Int → Option A) : stepR14 r y0 o x f = f o (num x) := zR_eq _ _ _ _ _ _
theorem sR15 (r y0 : Int) (o : Rs) (u : Unit) (f : Rs → Int → Option A) : stepR15 r y0 o u f = f o y0 := zR_eq _ _ _ _ _ _
end
theorem lowW_b {x w n : Int} (n0 : -1099511627776 ≤ n) (n1 : n ≤ 1099511627776) : -1099511627776 ≤ lowW x w n ∧ lowW x w n ≤ 1099511627776 := by
  have e : lowW x w n = w64 (n + round1 (lowP x w n)) := by
    unfold lowW lowP
    rw [num_eq, num_eq, into_eq _ _ _ (by omega)]
  obtain ⟨a, b, c⟩ := low_raw (x := x) (w := w) n0 n1
  rw [e, a]
  exact ⟨b, c⟩
theorem onR_n (r : Int) (F : StepF) (i : Nat) (o : Rs) : (onR r F i o).n = (bif dueR r o.frame then (F i o).1 else o).n := by
  unfold onR fwdR sayR heldR
  cases dueR r o.frame <;> rfl
theorem rdR_1 {r u0 : Int} {xs : List Int} {n : Nat} (hxs : xs.length = n) : RoundR flR 1 r [u0] [] [xs] (OT orc0) (H1 xs) (fun _ _ => True) n where
  b i o K _ hi := (b34_1 r u0 n i o xs K).trans (bodyR_in (by omega) _ ((H1 xs) i o) (fun f => ldI_get (by omega) f) (fun f => sR1 _ _ _ _ f))
  g i o cs q K _ hi := (g34_1 r u0 n i o xs cs q K).trans (bodyR_in (by omega) _ ((H1 xs) i o) (fun f => ldI_get (by omega) f) (fun f => sR1 _ _ _ _ f))
  b' o K _ := (b34_1 r u0 n n o xs K).trans (bodyR_out (by omega))
  g' o cs q K _ := (g34_1 r u0 n n o xs cs q K).trans (bodyR_out (by omega))
  inv _ _ _ _ := trivial
theorem rnR_1 (r u0 : Int) (xs : List Int) : RunsR flR 1 r [u0] [] [xs] (OT orc0) := ⟨fun n i o o' cs q => by kernel_rfl, fun n i o o' => by kernel_rfl, fun n o => by kernel_rfl⟩
theorem rdR_2 {r u0 u1 : Int} {xs ys : List Int} {n : Nat} (hxs : xs.length = n) (hys : ys.length = n) : RoundR flR 2 r [u0, u1] [] [xs, ys] (OT orc0) (H2 xs ys) (fun _ _ => True) n where
  b i o K _ hi := (b34_2 r u0 u1 n i o xs ys K).trans (bodyR_in (by omega) (xs.getD i 0, ys.getD i 0) ((H2 xs ys) i o) (fun f => (ldI_get (by omega) _).trans (ldI_get (by omega) _)) (fun f => sR2 _ _ _ _ _ f))
  g i o cs q K _ hi := (g34_2 r u0 u1 n i o xs ys cs q K).trans (bodyR_in (by omega) (xs.getD i 0, ys.getD i 0) ((H2 xs ys) i o) (fun f => (ldI_get (by omega) _).trans (ldI_get (by omega) _)) (fun f => sR2 _ _ _ _ _ f))
  b' o K _ := (b34_2 r u0 u1 n n o xs ys K).trans (bodyR_out (by omega))
  g' o cs q K _ := (g34_2 r u0 u1 n n o xs ys cs q K).trans (bodyR_out (by omega))
  inv _ _ _ _ := trivial
theorem rnR_2 (r u0 u1 : Int) (xs ys : List Int) : RunsR flR 2 r [u0, u1] [] [xs, ys] (OT orc0) := ⟨fun n i o o' cs q => by kernel_rfl, fun n i o o' => by kernel_rfl, fun n o => by kernel_rfl⟩
theorem rdR_3 {r u0 : Int} {xs : List Int} {n : Nat} (hxs : xs.length = n) : RoundR flR 3 r [u0] [] [xs] (OT orc0) (H3 xs) (fun _ _ => True) n where
  b i o K _ hi := (b34_3 r u0 n i o xs K).trans (bodyR_in (by omega) _ ((H3 xs) i o) (fun f => ldI_get (by omega) f) (fun f => sR3 _ _ _ _ f))
  g i o cs q K _ hi := (g34_3 r u0 n i o xs cs q K).trans (bodyR_in (by omega) _ ((H3 xs) i o) (fun f => ldI_get (by omega) f) (fun f => sR3 _ _ _ _ f))
  b' o K _ := (b34_3 r u0 n n o xs K).trans (bodyR_out (by omega))
  g' o cs q K _ := (g34_3 r u0 n n o xs cs q K).trans (bodyR_out (by omega))
  inv _ _ _ _ := trivial
theorem rnR_3 (r u0 : Int) (xs : List Int) : RunsR flR 3 r [u0] [] [xs] (OT orc0) := ⟨fun n i o o' cs q => by kernel_rfl, fun n i o o' => by kernel_rfl, fun n o => by kernel_rfl⟩
theorem rdR_4 {r y0 : Int} {n : Nat} : RoundR flR 4 r [] [y0] [] (OT orc0) H4 (fun _ _ => True) n where
  b i o K _ hi := (b34_4 r y0 n i o K).trans (bodyR_in (by omega) () (H4 i o) (fun _ => rfl) (fun f => sR4 _ _ _ _ f))
  g i o cs q K _ hi := (g34_4 r y0 n i o cs q K).trans (bodyR_in (by omega) () (H4 i o) (fun _ => rfl) (fun f => sR4 _ _ _ _ f))
  b' o K _ := (b34_4 r y0 n n o K).trans (bodyR_out (by omega))
  g' o cs q K _ := (g34_4 r y0 n n o cs q K).trans (bodyR_out (by omega))
  inv _ _ _ _ := trivial
theorem rnR_4 (r y0 : Int) : RunsR flR 4 r [] [y0] [] (OT orc0) := ⟨fun n i o o' cs q => by kernel_rfl, fun n i o o' => by kernel_rfl, fun n o => by kernel_rfl⟩
theorem rdR_5 {r y0 y1 y2 : Int} {n : Nat} {c : Int} (a0 : -2199023255552 ≤ w64 (y1 - y0)) (a1 : w64 (y1 - y0) ≤ 2199023255552) (b0 : 1 ≤ y2) (b1 : y2 ≤ 1000000000) (hc : c + n ≤ 1000000) : RoundR flR 5 r [] [y0, y1, y2] [] (OTh orc0) (H5 y0 y1 y2) (fun i o => 0 ≤ o.n ∧ o.n ≤ c + i) n where
  b i o K hv hi := (b34_5 r y0 y1 y2 n i o K).trans (bodyR_in (by omega) () ((H5 y0 y1 y2) i o) (fun _ => rfl) (fun f => sR5 a0 a1 hv.1 (by have := hv.2; omega) b0 b1 _ f))
  g i o cs q K hv hi := (g34_5 r y0 y1 y2 n i o cs q K).trans (bodyR_in (by omega) () ((H5 y0 y1 y2) i o) (fun _ => rfl) (fun f => sR5 a0 a1 hv.1 (by have := hv.2; omega) b0 b1 _ f))
  b' o K _ := (b34_5 r y0 y1 y2 n n o K).trans (bodyR_out (by omega))
  g' o cs q K _ := (g34_5 r y0 y1 y2 n n o cs q K).trans (bodyR_out (by omega))
  inv i o hi hv := by
    obtain ⟨h0, h1⟩ := hv
    rw [onR_n]
    have e : w64 (o.n + 1) = o.n + 1 := by unfold w64; rw [IntKind.wrap_i64]; omega
    cases dueR r o.frame with
    | false => show 0 ≤ o.n ∧ o.n ≤ _; omega
    | true =>
      show 0 ≤ (if o.n < y2 then w64 (o.n + 1) else o.n) ∧ (if o.n < y2 then w64 (o.n + 1) else o.n) ≤ _
      rw [e]
      split <;> omega
theorem rnR_5 (r y0 y1 y2 : Int) : RunsR flR 5 r [] [y0, y1, y2] [] (OTh orc0) := ⟨fun n i o o' cs q => by kernel_rfl, fun n i o o' => by kernel_rfl, fun n o => by kernel_rfl⟩
theorem rdR_6 {r u0 y0 y1 y2 y3 : Int} {xs : List Int} {n : Nat} (hy0 : y0 ≥ 1) (hy1 : y1 ≥ 1) (hy3 : y3 ≥ 1) (hxs : xs.length = n) : RoundR flR 6 r [u0] [y0, y1, y2, y3] [xs] (OT6 orc0) (H6 y0 y1 y2 y3 xs) (fun _ _ => True) n where
  b i o K _ hi := (b34_6 r u0 y0 y1 y2 y3 n i o xs K).trans (bodyR_in (by omega) _ ((H6 y0 y1 y2 y3 xs) i o) (fun f => ldI_get (by omega) f) (fun f => sR6 hy0 hy1 hy3 f))
  g i o cs q K _ hi := (g34_6 r u0 y0 y1 y2 y3 n i o xs cs q K).trans (bodyR_in (by omega) _ ((H6 y0 y1 y2 y3 xs) i o) (fun f => ldI_get (by omega) f) (fun f => sR6 hy0 hy1 hy3 f))
  b' o K _ := (b34_6 r u0 y0 y1 y2 y3 n n o xs K).trans (bodyR_out (by omega))
  g' o cs q K _ := (g34_6 r u0 y0 y1 y2 y3 n n o xs cs q K).trans (bodyR_out (by omega))
  inv _ _ _ _ := trivial
theorem rnR_6 (r u0 y0 y1 y2 y3 : Int) (xs : List Int) : RunsR flR 6 r [u0] [y0, y1, y2, y3] [xs] (OT6 orc0) := ⟨fun n i o o' cs q => by kernel_rfl, fun n i o o' => by kernel_rfl, fun n o => by kernel_rfl⟩
theorem rdR_7 {r u0 u1 : Int} {xs ys : List Int} {n : Nat} (hxs : xs.length = n) (hys : ys.length = n) : RoundR flR 7 r [u0, u1] [] [xs, ys] (OTl orc0) (H7 xs ys) (fun _ o => -1099511627776 ≤ o.n ∧ o.n ≤ 1099511627776) n where
  b i o K hv hi := (b34_7 r u0 u1 n i o xs ys K).trans (bodyR_in (by omega) (xs.getD i 0, ys.getD i 0) ((H7 xs ys) i o) (fun f => (ldI_get (by omega) _).trans (ldI_get (by omega) _)) (fun f => sR7 hv.1 hv.2 f))
  g i o cs q K hv hi := (g34_7 r u0 u1 n i o xs ys cs q K).trans (bodyR_in (by omega) (xs.getD i 0, ys.getD i 0) ((H7 xs ys) i o) (fun f => (ldI_get (by omega) _).trans (ldI_get (by omega) _)) (fun f => sR7 hv.1 hv.2 f))
  b' o K _ := (b34_7 r u0 u1 n n o xs ys K).trans (bodyR_out (by omega))
  g' o cs q K _ := (g34_7 r u0 u1 n n o xs ys cs q K).trans (bodyR_out (by omega))
  inv i o _ hv := by
    rw [onR_n]
    cases dueR r o.frame with
    | false => exact hv
    | true => exact lowW_b hv.1 hv.2
theorem rnR_7 (r u0 u1 : Int) (xs ys : List Int) : RunsR flR 7 r [u0, u1] [] [xs, ys] (OTl orc0) := ⟨fun n i o o' cs q => by kernel_rfl, fun n i o o' => by kernel_rfl, fun n o => by kernel_rfl⟩
theorem rdR_8 {r u0 u1 : Int} {xs ys : List Int} {n : Nat} (hxs : xs.length = n) (hys : ys.length = n) : RoundR flR 8 r [u0, u1] [] [xs, ys] (OT orc0) (H8 xs ys) (fun _ _ => True) n where
  b i o K _ hi := (b34_8 r u0 u1 n i o xs ys K).trans (bodyR_in (by omega) (xs.getD i 0, ys.getD i 0) ((H8 xs ys) i o) (fun f => (ldI_get (by omega) _).trans (ldI_get (by omega) _)) (fun f => sR8 _ _ _ _ _ f))
  g i o cs q K _ hi := (g34_8 r u0 u1 n i o xs ys cs q K).trans (bodyR_in (by omega) (xs.getD i 0, ys.getD i 0) ((H8 xs ys) i o) (fun f => (ldI_get (by omega) _).trans (ldI_get (by omega) _)) (fun f => sR8 _ _ _ _ _ f))
  b' o K _ := (b34_8 r u0 u1 n n o xs ys K).trans (bodyR_out (by omega))
  g' o cs q K _ := (g34_8 r u0 u1 n n o xs ys cs q K).trans (bodyR_out (by omega))
  inv _ _ _ _ := trivial
theorem rnR_8 (r u0 u1 : Int) (xs ys : List Int) : RunsR flR 8 r [u0, u1] [] [xs, ys] (OT orc0) := ⟨fun n i o o' cs q => by kernel_rfl, fun n i o o' => by kernel_rfl, fun n o => by kernel_rfl⟩
theorem rdR_9 {r u0 u1 : Int} {xs ys : List Int} {n : Nat} (hxs : xs.length = n) (hys : ys.length = n) : RoundR flR 9 r [u0, u1] [] [xs, ys] (OTg orc0) (H9 xs ys) (fun _ _ => True) n where
  b i o K _ hi := (b34_9 r u0 u1 n i o xs ys K).trans (bodyR_in (by omega) (xs.getD i 0, ys.getD i 0) ((H9 xs ys) i o) (fun f => (ldI_get (by omega) _).trans (ldI_get (by omega) _)) (fun f => sR9 _ _ _ _ _ f))
  g i o cs q K _ hi := (g34_9 r u0 u1 n i o xs ys cs q K).trans (bodyR_in (by omega) (xs.getD i 0, ys.getD i 0) ((H9 xs ys) i o) (fun f => (ldI_get (by omega) _).trans (ldI_get (by omega) _)) (fun f => sR9 _ _ _ _ _ f))
  b' o K _ := (b34_9 r u0 u1 n n o xs ys K).trans (bodyR_out (by omega))
  g' o cs q K _ := (g34_9 r u0 u1 n n o xs ys cs q K).trans (bodyR_out (by omega))
  inv _ _ _ _ := trivial
theorem rnR_9 (r u0 u1 : Int) (xs ys : List Int) : RunsR flR 9 r [u0, u1] [] [xs, ys] (OTg orc0) := ⟨fun n i o o' cs q => by kernel_rfl, fun n i o o' => by kernel_rfl, fun n o => by kernel_rfl⟩
theorem rdR_10 {r u0 u1 : Int} {xs ys : List Int} {n : Nat} (hxs : xs.length = n) (hys : ys.length = n) : RoundR flR 10 r [u0, u1] [] [xs, ys] (OT orc0) (H10 xs ys) (fun _ _ => True) n where
  b i o K _ hi := (b34_10 r u0 u1 n i o xs ys K).trans (bodyR_in (by omega) (xs.getD i 0, ys.getD i 0) ((H10 xs ys) i o) (fun f => (ldI_get (by omega) _).trans (ldI_get (by omega) _)) (fun f => sR10 _ _ _ _ _ f))
  g i o cs q K _ hi := (g34_10 r u0 u1 n i o xs ys cs q K).trans (bodyR_in (by omega) (xs.getD i 0, ys.getD i 0) ((H10 xs ys) i o) (fun f => (ldI_get (by omega) _).trans (ldI_get (by omega) _)) (fun f => sR10 _ _ _ _ _ f))
  b' o K _ := (b34_10 r u0 u1 n n o xs ys K).trans (bodyR_out (by omega))
  g' o cs q K _ := (g34_10 r u0 u1 n n o xs ys cs q K).trans (bodyR_out (by omega))
  inv _ _ _ _ := trivial
theorem rnR_10 (r u0 u1 : Int) (xs ys : List Int) : RunsR flR 10 r [u0, u1] [] [xs, ys] (OT orc0) := ⟨fun n i o o' cs q => by kernel_rfl, fun n i o o' => by kernel_rfl, fun n o => by kernel_rfl⟩
theorem rdR_12 {r y0 : Int} {xs : List Int} {n : Nat} (hxs : xs.length = n) : RoundR flR 12 r [] [y0] [xs] (OT orc0) (HIn xs) (fun _ _ => True) n where
  b i o K _ hi := (b34_12 r y0 n i o xs K).trans (bodyR_in (by omega) _ ((HIn xs) i o) (fun f => ldI_get (by omega) f) (fun f => sR12 _ _ _ _ f))
  g i o cs q K _ hi := (g34_12 r y0 n i o xs cs q K).trans (bodyR_in (by omega) _ ((HIn xs) i o) (fun f => ldI_get (by omega) f) (fun f => sR12 _ _ _ _ f))
  b' o K _ := (b34_12 r y0 n n o xs K).trans (bodyR_out (by omega))
  g' o cs q K _ := (g34_12 r y0 n n o xs cs q K).trans (bodyR_out (by omega))
  inv _ _ _ _ := trivial
theorem rnR_12 (r y0 : Int) (xs : List Int) : RunsR flR 12 r [] [y0] [xs] (OT orc0) := ⟨fun n i o o' cs q => by kernel_rfl, fun n i o o' => by kernel_rfl, fun n o => by kernel_rfl⟩
theorem rdR_13 {r u0 y0 : Int} {xs : List Int} {n : Nat} (hxs : xs.length = n) : RoundR flR 13 r [u0] [y0] [xs] (OT orc0) (HIn xs) (fun _ _ => True) n where
  b i o K _ hi := (b34_13 r u0 y0 n i o xs K).trans (bodyR_in (by omega) _ ((HIn xs) i o) (fun f => ldI_get (by omega) f) (fun f => sR13 _ _ _ _ _ f))
  g i o cs q K _ hi := (g34_13 r u0 y0 n i o xs cs q K).trans (bodyR_in (by omega) _ ((HIn xs) i o) (fun f => ldI_get (by omega) f) (fun f => sR13 _ _ _ _ _ f))
  b' o K _ := (b34_13 r u0 y0 n n o xs K).trans (bodyR_out (by omega))
  g' o cs q K _ := (g34_13 r u0 y0 n n o xs cs q K).trans (bodyR_out (by omega))
  inv _ _ _ _ := trivial
theorem rnR_13 (r u0 y0 : Int) (xs : List Int) : RunsR flR 13 r [u0] [y0] [xs] (OT orc0) := ⟨fun n i o o' cs q => by kernel_rfl, fun n i o o' => by kernel_rfl, fun n o => by kernel_rfl⟩
theorem rdR_14 {r y0 : Int} {xs : List Int} {n : Nat} (hxs : xs.length = n) : RoundR flR 14 r [] [y0] [xs] (OT orc0) (HIn xs) (fun _ _ => True) n where
  b i o K _ hi := (b34_14 r y0 n i o xs K).trans (bodyR_in (by omega) _ ((HIn xs) i o) (fun f => ldI_get (by omega) f) (fun f => sR14 _ _ _ _ f))
  g i o cs q K _ hi := (g34_14 r y0 n i o xs cs q K).trans (bodyR_in (by omega) _ ((HIn xs) i o) (fun f => ldI_get (by omega) f) (fun f => sR14 _ _ _ _ f))
  b' o K _ := (b34_14 r y0 n n o xs K).trans (bodyR_out (by omega))
  g' o cs q K _ := (g34_14 r y0 n n o xs cs q K).trans (bodyR_out (by omega))
  inv _ _ _ _ := trivial
theorem rnR_14 (r y0 : Int) (xs : List Int) : RunsR flR 14 r [] [y0] [xs] (OT orc0) := ⟨fun n i o o' cs q => by kernel_rfl, fun n i o o' => by kernel_rfl, fun n o => by kernel_rfl⟩
theorem rdR_15 {r y0 : Int} {n : Nat} : RoundR flR 15 r [] [y0] [] (OT orc0) (H15 y0) (fun _ _ => True) n where
  b i o K _ hi := (b34_15 r y0 n i o K).trans (bodyR_in (by omega) () ((H15 y0) i o) (fun _ => rfl) (fun f => sR15 _ _ _ _ f))
  g i o cs q K _ hi := (g34_15 r y0 n i o cs q K).trans (bodyR_in (by omega) () ((H15 y0) i o) (fun _ => rfl) (fun f => sR15 _ _ _ _ f))
  b' o K _ := (b34_15 r y0 n n o K).trans (bodyR_out (by omega))
  g' o cs q K _ := (g34_15 r y0 n n o cs q K).trans (bodyR_out (by omega))
  inv _ _ _ _ := trivial
theorem rnR_15 (r y0 : Int) : RunsR flR 15 r [] [y0] [] (OT orc0) := ⟨fun n i o o' cs q => by kernel_rfl, fun n i o o' => by kernel_rfl, fun n o => by kernel_rfl⟩
end Go.Proofs.Ythlmbnhelkbchaa
/- The document's Run of a delay. -/
namespace Go.Proofs.Ythlmbnhelkbchaa
open Go.Ev
set_option maxRecDepth 100000
theorem push_eq (p : Int) (ps : List Int) (x : Int) : pushL p ps x = (ps ++ [num x]).map int64 := by
  unfold pushL
  rw [takeA_eq, dropA_eq, appA_eq, Nat.mul_one, Nat.mul_one, List.map_cons, List.drop_succ_cons, List.drop_zero, List.take_of_length_le (by simp), List.map_append]
  rfl
theorem pushV_eq (p : Int) (ps : List Int) (x : Int) : pushV p ps x = ints (ps ++ [num x]) := by
  unfold pushV
  have e := fix_ints (ps ++ [num x])
  rw [push_eq]
  have hl : (ps ++ [num x]).length = ps.length + 1 := by simp
  rw [hl] at e
  rw [e]
  unfold ints
  rw [hl]
theorem stepR11_eq {A : Type} {p : Int} {ps : List Int} {o : Rs} {x : Int} (hp : ps.length ≤ 1000000) (f : AV → Rs → Int → Option A) : stepR11 p ps o x f = f (ints (ps ++ [num x])) o p := by
  have e0 : ldI (A := A) (p :: ps) 0 = fun k => k p := by
    funext k
    exact ldI_eq (xs := p :: ps) (i := 0) (by simp) k
  have e1 : Nat.beq (ps.length + 1) (ps.length + 1) = true := beq_eq.2 rfl
  unfold stepR11
  rw [e0, pushV_eq]
  simp only [Nat.ble_eq_true_of_le (Nat.le_refl (ps.length + 1)), limit_ok (show ps.length + 1 ≤ 17592186044416 by omega), e1, guardK, cond_true, Bool.and_self]
def H11 (xs : List Int) (i : Nat) (o : Rs) : Rs × Int := (⟨o.frame, o.held, o.phase, o.n, o.stage, o.gate, o.fall, o.past.drop 1 ++ [num (xs.getD i 0)]⟩, o.past.getD 0 0)
abbrev flD : Flat := ⟨[8], [0], [31]⟩
theorem rdR_11 {r u0 y0 : Int} {xs : List Int} {n N : Nat} (hN : 1 ≤ N) (hN' : N ≤ 100000) (hxs : xs.length = n) : RoundR flD 11 r [u0] [y0] [xs] (OT orc0) (H11 xs) (fun _ o => o.past.length = N) n where
  b i o K hv hi := by
    obtain ⟨p, ps, hp⟩ : ∃ p ps, o.past = p :: ps := by
      cases h : o.past with
      | nil => rw [h] at hv; simp at hv; omega
      | cons p ps => exact ⟨p, ps, rfl⟩
    have hl : ps.length ≤ 1000000 := by rw [hp] at hv; simp at hv; omega
    have e : st34 11 r [u0] [y0] n [xs] i o (.sl none 0 0 true 0) [] = st34d r u0 y0 n [xs] i o (ints (p :: ps)) (.sl none 0 0 true 0) [] := by rw [← hp]; rfl
    unfold B34f
    rw [e, b34d]
    unfold bodyRd
    rw [decide_eq_true (by omega : (i : Int) < (n : Int)), cond_true, ldI_get (by omega), dueRT_eq]
    cases dueR r o.frame with
    | false =>
      simp only [cond_false]
      unfold noR0 tailR0
      rw [← hp]
      rfl
    | true =>
      simp only [cond_true]
      unfold yesR0 tailR0
      rw [stepR11_eq hl, push_eq, allS_ints]
      unfold H11
      rw [hp]
      rfl
  g i o cs q K hv hi := by
    obtain ⟨p, ps, hp⟩ : ∃ p ps, o.past = p :: ps := by
      cases h : o.past with
      | nil => rw [h] at hv; simp at hv; omega
      | cons p ps => exact ⟨p, ps, rfl⟩
    have hl : ps.length ≤ 1000000 := by rw [hp] at hv; simp at hv; omega
    have e : st34 11 r [u0] [y0] n [xs] i o (.gr (8, 0) (q + 1) 1) [(8, .cells true cs)] = st34d r u0 y0 n [xs] i o (ints (p :: ps)) (.gr (8, 0) (q + 1) 1) [(8, .cells true cs)] := by rw [← hp]; rfl
    unfold G34f
    rw [e, g34d]
    unfold bodyRd
    rw [decide_eq_true (by omega : (i : Int) < (n : Int)), cond_true, ldI_get (by omega), dueRT_eq]
    cases dueR r o.frame with
    | false =>
      simp only [cond_false]
      unfold noRG tailRG
      rw [← hp]
      rfl
    | true =>
      simp only [cond_true]
      unfold yesRG tailRG
      rw [stepR11_eq hl, push_eq, allS_ints]
      unfold H11
      rw [hp]
      rfl
  b' o K hv := by
    obtain ⟨p, ps, hp⟩ : ∃ p ps, o.past = p :: ps := by
      cases h : o.past with
      | nil => rw [h] at hv; simp at hv; omega
      | cons p ps => exact ⟨p, ps, rfl⟩
    have e : st34 11 r [u0] [y0] n [xs] n o (.sl none 0 0 true 0) [] = st34d r u0 y0 n [xs] n o (ints (p :: ps)) (.sl none 0 0 true 0) [] := by rw [← hp]; rfl
    unfold B34f exR0
    rw [e, b34d]
    unfold bodyRd
    rw [decide_eq_false (by omega : ¬ (n : Int) < (n : Int)), cond_false]
  g' o cs q K hv := by
    obtain ⟨p, ps, hp⟩ : ∃ p ps, o.past = p :: ps := by
      cases h : o.past with
      | nil => rw [h] at hv; simp at hv; omega
      | cons p ps => exact ⟨p, ps, rfl⟩
    have e : st34 11 r [u0] [y0] n [xs] n o (.gr (8, 0) (q + 1) 1) [(8, .cells true cs)] = st34d r u0 y0 n [xs] n o (ints (p :: ps)) (.gr (8, 0) (q + 1) 1) [(8, .cells true cs)] := by rw [← hp]; rfl
    unfold G34f exRG
    rw [e, g34d]
    unfold bodyRd
    rw [decide_eq_false (by omega : ¬ (n : Int) < (n : Int)), cond_false]
  inv i o _ hv := by
    show (onR r (H11 xs) i o).past.length = N
    unfold onR
    cases dueR r o.frame with
    | false => exact hv
    | true =>
      show (o.past.drop 1 ++ [num (xs.getD i 0)]).length = N
      simp only [List.length_append, List.length_drop, List.length_cons, List.length_nil]
      omega
theorem rnR_11 (r u0 y0 : Int) (xs : List Int) : RunsR flD 11 r [u0] [y0] [xs] (OT orc0) := ⟨fun n i o o' cs q => by kernel_rfl, fun n i o o' => by kernel_rfl, fun n o => by kernel_rfl⟩
end Go.Proofs.Ythlmbnhelkbchaa
/- The program's product is the document's, brought to its bounds. -/
namespace Go.Proofs.Ythlmbnhelkbchaa
open Go.Ev
set_option maxRecDepth 100000
theorem tdiv65 (a : Int) : a.tdiv 65536 = if a < 0 then -((-a) / 65536) else a / 65536 := by
  by_cases h : a < 0
  · rw [if_pos h]
    have := Int.neg_tdiv (a := -a) (b := 65536)
    rw [Int.neg_neg] at this
    rw [this, Int.tdiv_eq_ediv_of_nonneg (by omega)]
  · rw [if_neg h, Int.tdiv_eq_ediv_of_nonneg (by omega)]
theorem tmod65 (a : Int) : a.tmod 65536 = if a < 0 then -((-a) % 65536) else a % 65536 := by
  by_cases h : a < 0
  · rw [if_pos h]
    have := Int.neg_tmod (a := -a) (b := 65536)
    rw [Int.neg_neg] at this
    rw [this, Int.tmod_eq_emod_of_nonneg (by omega)]
  · rw [if_neg h, Int.tmod_eq_emod_of_nonneg (by omega)]
theorem abs_mul (a b : Int) : absI a * absI b = if a * b < 0 then -(a * b) else a * b := by
  unfold absI
  by_cases ha : a < 0 <;> by_cases hb : b < 0
  · rw [if_pos ha, if_pos hb, Int.neg_mul_neg]
    have := Int.mul_nonneg (show 0 ≤ -a by omega) (show 0 ≤ -b by omega)
    rw [Int.neg_mul_neg] at this
    rw [if_neg (by omega)]
  · rw [if_pos ha, if_neg hb, Int.neg_mul]
    have := Int.mul_nonneg (show 0 ≤ -a by omega) (show 0 ≤ b by omega)
    rw [Int.neg_mul] at this
    split <;> omega
  · rw [if_neg ha, if_pos hb, Int.mul_neg]
    have := Int.mul_nonneg (show 0 ≤ a by omega) (show 0 ≤ -b by omega)
    rw [Int.mul_neg] at this
    split <;> omega
  · rw [if_neg ha, if_neg hb]
    have := Int.mul_nonneg (show 0 ≤ a by omega) (show 0 ≤ b by omega)
    rw [if_neg (by omega)]
def RI (p : Int) : Int := if p < 0 then -((-p + 32768) / 65536) else (p + 32768) / 65536
theorem kMl_cases (n : Int) : kMl n = if n < -1099511627776 then -1099511627776 else if n > 1099511627776 then 1099511627776 else n := by
  unfold kMl kept maxI minI
  split <;> split <;> split <;> omega
theorem num_prodN (a b : Int) : num (prodN a b) = kMl (RI (a * b)) := by
  rw [num_eq, kMl_cases, kMl_cases]
  have hq : qI a b = if a * b < 0 then (-(a * b) + 32768) / 65536 else (a * b + 32768) / 65536 := by
    unfold qI
    rw [abs_mul]
    split <;> rfl
  have hs : prodN a b = if a * b < 0 then -(min (qI a b) 4611686018427387904) else min (qI a b) 4611686018427387904 := by
    unfold prodN
    by_cases ha : a < 0 <;> by_cases hb : b < 0
    · have := Int.mul_nonneg (show 0 ≤ -a by omega) (show 0 ≤ -b by omega)
      rw [Int.neg_mul_neg] at this
      rw [if_neg (by omega), if_neg (by omega)]
    · rw [if_pos (.inl ⟨ha, hb⟩)]
      have := Int.mul_nonneg (show 0 ≤ -a by omega) (show 0 ≤ b by omega)
      rw [Int.neg_mul] at this
      by_cases hz : a * b < 0
      · rw [if_pos hz]
      · rw [if_neg hz]
        have : a * b = 0 := by omega
        rw [hq, this]
        decide
    · rw [if_pos (.inr ⟨ha, hb⟩)]
      have := Int.mul_nonneg (show 0 ≤ a by omega) (show 0 ≤ -b by omega)
      rw [Int.mul_neg] at this
      by_cases hz : a * b < 0
      · rw [if_pos hz]
      · rw [if_neg hz]
        have : a * b = 0 := by omega
        rw [hq, this]
        decide
    · have := Int.mul_nonneg (show 0 ≤ a by omega) (show 0 ≤ b by omega)
      rw [if_neg (by omega), if_neg (by omega)]
  rw [hs, hq]
  unfold RI
  generalize a * b = p
  by_cases hp : p < 0
  · simp only [if_pos hp]
    omega
  · simp only [if_neg hp]
    omega
theorem fin_eq {w r p : Int} (w0 : -4611686018427387904 ≤ w) (w1 : w ≤ 4611686018427387904) (r0 : -65536 < r) (r1 : r < 65536) (hp : p = 65536 * w + r) (h1 : 0 < w → 0 ≤ r) (h2 : w < 0 → r ≤ 0) : fin2I w r = kMl (RI p) := by
  unfold fin2I
  rw [round1_eq (by omega) (by omega)]
  have e : w64 (w + if r < 0 then -((-r + 32768) / 65536) else (r + 32768) / 65536) = RI p := by
    unfold w64 RI
    rw [IntKind.wrap_i64]
    split <;> split <;> omega
  rw [e]
  rfl
theorem rest_eq {w r p : Int} (w0 : -4398046511104 ≤ w) (w1 : w ≤ 4398046511104) (r0 : -65536 < r) (r1 : r < 65536) (hp : p = 65536 * w + r) : rest1I w r = kMl (RI p) := by
  have f : ∀ w r : Int, -4611686018427387904 < w → w < 4611686018427387904 → -65536 < r → r < 65536 → p = 65536 * w + r → (0 < w → 0 ≤ r) → fin1I w r = kMl (RI p) := fun w r w0 w1 r0 r1 hp h => by
    unfold fin1I
    by_cases h1 : w < 0
    · rw [decide_eq_true h1, cond_true]
      by_cases h2 : r > 0
      · rw [decide_eq_true h2, cond_true]
        have e1 : w64 (w + 1) = w + 1 := by unfold w64; rw [IntKind.wrap_i64]; omega
        have e2 : w64 (r - 65536) = r - 65536 := by unfold w64; rw [IntKind.wrap_i64]; omega
        rw [e1, e2]
        exact fin_eq (by omega) (by omega) (by omega) (by omega) (by omega) (by omega) (by omega)
      · rw [decide_eq_false h2, cond_false]
        exact fin_eq (by omega) (by omega) r0 r1 hp h (by omega)
    · rw [decide_eq_false h1, cond_false]
      exact fin_eq (by omega) (by omega) r0 r1 hp h (by omega)
  unfold rest1I
  by_cases h1 : w > 0
  · rw [decide_eq_true h1, cond_true]
    by_cases h2 : r < 0
    · rw [decide_eq_true h2, cond_true]
      have e1 : w64 (w - 1) = w - 1 := by unfold w64; rw [IntKind.wrap_i64]; omega
      have e2 : w64 (r + 65536) = r + 65536 := by unfold w64; rw [IntKind.wrap_i64]; omega
      rw [e1, e2]
      exact f _ _ (by omega) (by omega) (by omega) (by omega) (by omega) (by omega)
    · rw [decide_eq_false h2, cond_false]
      exact f _ _ (by omega) (by omega) r0 r1 hp (by omega)
  · rw [decide_eq_false h1, cond_false]
    exact f _ _ (by omega) (by omega) r0 r1 hp (by omega)
theorem size_eq {n : Int} (h0 : -4611686018427387904 < n) (h1 : n < 4611686018427387904) : sizeI n = absI n := by
  unfold sizeI maxI absI
  rw [IntKind.wrap_i64]
  split <;> split <;> omega
theorem abs_le {x m : Int} (h : absI x ≤ m) : -m ≤ x ∧ x ≤ m := by unfold absI at h; split at h <;> omega
theorem le_abs {x m : Int} (h0 : -m ≤ x) (h1 : x ≤ m) : absI x ≤ m := by unfold absI; split <;> omega
theorem abs_nn (x : Int) : 0 ≤ absI x := by unfold absI; split <;> omega
theorem abs_abs (a b : Int) : absI a * absI b = absI (a * b) := by rw [abs_mul]; rfl
theorem prod_law {a b : Int} (a0 : -1099511627776 ≤ a) (a1 : a ≤ 1099511627776) (b0 : -1099511627776 ≤ b) (b1 : b ≤ 1099511627776) : prodI a b = num (prodN a b) := by
  rw [num_prodN]
  have hA := tdiv65 a
  have hal := tmod65 a
  have hB := tdiv65 b
  have hbl := tmod65 b
  generalize hAe : a.tdiv 65536 = A at *
  generalize hale : a.tmod 65536 = al at *
  generalize hBe : b.tdiv 65536 = B at *
  generalize hble : b.tmod 65536 = bl at *
  have ea : a = 65536 * A + al := by rw [hA, hal]; split <;> omega
  have eb : b = 65536 * B + bl := by rw [hB, hbl]; split <;> omega
  have A0 : -16777216 ≤ A ∧ A ≤ 16777216 := by rw [hA]; split <;> omega
  have al0 : -65536 < al ∧ al < 65536 := by rw [hal]; split <;> omega
  have B0 : -16777216 ≤ B ∧ B ≤ 16777216 := by rw [hB]; split <;> omega
  have bl0 : -65536 < bl ∧ bl < 65536 := by rw [hbl]; split <;> omega
  have wA : w64 A = A := by unfold w64; rw [IntKind.wrap_i64]; omega
  have wB : w64 B = B := by unfold w64; rw [IntKind.wrap_i64]; omega
  have key : a * b = 65536 * (A * b + al * B) + al * bl := by
    have e1 : a * b = (65536 * A + al) * b := by rw [← ea]
    have e2 : al * b = al * (65536 * B + bl) := by rw [← eb]
    rw [e1, Int.add_mul, e2, Int.mul_add, Int.mul_assoc, Int.mul_left_comm al 65536 B]
    omega
  have nA := abs_nn A
  have nb := abs_nn b
  have sA : sizeI A = absI A := size_eq (by omega) (by omega)
  have sb : sizeI b = absI b := size_eq (by omega) (by omega)
  -- where the product stays small
  have small : absI A * absI b ≤ 2199023255552 → rest0I a b = kMl (RI (a * b)) := fun hs => by
    rw [abs_abs] at hs
    obtain ⟨u0, u1⟩ := abs_le hs
    have v : absI (al * B) ≤ 65535 * 16777216 := by
      rw [← abs_abs]
      exact Int.mul_le_mul (le_abs (by omega) (by omega)) (le_abs (by omega) (by omega)) (abs_nn _) (by omega)
    obtain ⟨v0, v1⟩ := abs_le v
    have c : absI (al * bl) ≤ 65535 * 65535 := by
      rw [← abs_abs]
      exact Int.mul_le_mul (le_abs (by omega) (by omega)) (le_abs (by omega) (by omega)) (abs_nn _) (by omega)
    obtain ⟨c0, c1⟩ := abs_le c
    unfold rest0I
    rw [hAe, hale, hBe, hble, wA, wB]
    have w1 : w64 (A * b) = A * b := by unfold w64; rw [IntKind.wrap_i64]; omega
    have w2 : w64 (al * B) = al * B := by unfold w64; rw [IntKind.wrap_i64]; omega
    have w3 : w64 (al * bl) = al * bl := by unfold w64; rw [IntKind.wrap_i64]; omega
    rw [w1, w2, w3, tdiv65 (al * bl), tmod65 (al * bl), key]
    generalize A * b = x at *
    generalize al * B = y at *
    generalize al * bl = z at *
    by_cases hz : z < 0
    · rw [if_pos hz, if_pos hz]
      have w4 : w64 (w64 (x + y) + w64 (-(-z / 65536))) = x + y + -(-z / 65536) := by unfold w64; simp only [IntKind.wrap_i64]; omega
      rw [w4]
      exact rest_eq (by omega) (by omega) (by omega) (by omega) (by omega)
    · rw [if_neg hz, if_neg hz]
      have w4 : w64 (w64 (x + y) + w64 (z / 65536)) = x + y + z / 65536 := by unfold w64; simp only [IntKind.wrap_i64]; omega
      rw [w4]
      exact rest_eq (by omega) (by omega) (by omega) (by omega) (by omega)
  unfold prodI
  rw [hAe, wA, sA, sb]
  by_cases h1 : absI A > 0
  · rw [decide_eq_true h1, Bool.true_and]
    have e1 : w64 ((2199023255552 : Int).tdiv (absI A)) = 2199023255552 / absI A := by
      rw [Int.tdiv_eq_ediv_of_nonneg (by omega)]
      have := Int.ediv_le_self (absI A) (show (0 : Int) ≤ 2199023255552 by omega)
      have := Int.ediv_nonneg (show (0 : Int) ≤ 2199023255552 by omega) nA
      unfold w64
      rw [IntKind.wrap_i64]
      omega
    rw [e1]
    have d1 : absI A * (2199023255552 / absI A) ≤ 2199023255552 := Int.mul_ediv_self_le (by omega)
    have d2 : 2199023255552 < absI A * (2199023255552 / absI A) + absI A := Int.lt_mul_ediv_self_add (by omega)
    by_cases h2 : absI b > 2199023255552 / absI A
    · rw [decide_eq_true h2, cond_true]
      have d3 : absI A * (2199023255552 / absI A + 1) ≤ absI A * absI b := Int.mul_le_mul_of_nonneg_left (by omega) nA
      rw [Int.mul_add, Int.mul_one] at d3
      -- so it is beyond the bounds
      have d4 : 65536 * (absI A * absI b) ≤ absI a * absI b := by
        rw [← Int.mul_assoc]
        refine Int.mul_le_mul_of_nonneg_right ?_ nb
        unfold absI
        rw [hA]
        split <;> split <;> omega
      rw [abs_abs a b] at d4
      have hAne : A ≠ 0 := fun h => by rw [h] at h1; simp [absI] at h1
      have hbne : b ≠ 0 := fun h => by
        have hb0 : absI b = 0 := by rw [h]; rfl
        rw [hb0, Int.mul_zero] at d3
        omega
      unfold bigI
      have hsA : signI A = if a < 0 then -1 else 1 := by
        unfold signI
        by_cases h : A < 0
        · rw [decide_eq_true h, cond_true, if_pos (by rw [hA] at h; split at h <;> omega)]
        · rw [decide_eq_false h, cond_false, if_neg (by rw [hA] at h hAne; split at h <;> omega)]
      have hsb : signI b = if b < 0 then -1 else 1 := by
        unfold signI
        by_cases h : b < 0
        · rw [decide_eq_true h, if_pos h]; rfl
        · rw [decide_eq_false h, if_neg h]; rfl
      rw [hsA, hsb]
      have hsg : a * b < 0 ↔ (a < 0 ∧ ¬ b < 0) ∨ (¬ a < 0 ∧ b < 0) := by
        by_cases ha : a < 0 <;> by_cases hb : b < 0
        · have := Int.mul_nonneg (show 0 ≤ -a by omega) (show 0 ≤ -b by omega)
          rw [Int.neg_mul_neg] at this
          omega
        · have := Int.mul_nonneg (show 0 ≤ -a by omega) (show 0 ≤ b by omega)
          rw [Int.neg_mul] at this
          have : absI (a * b) = -(a * b) := by unfold absI; split <;> omega
          omega
        · have := Int.mul_nonneg (show 0 ≤ a by omega) (show 0 ≤ -b by omega)
          rw [Int.mul_neg] at this
          have : absI (a * b) = -(a * b) := by unfold absI; split <;> omega
          omega
        · have := Int.mul_nonneg (show 0 ≤ a by omega) (show 0 ≤ b by omega)
          omega
      have hbig : (if a * b < 0 then -(a * b) else a * b) > 65536 * 2199023255552 := by
        have : absI (a * b) = if a * b < 0 then -(a * b) else a * b := rfl
        omega
      have hR : kMl (RI (a * b)) = if a * b < 0 then -1099511627776 else 1099511627776 := by
        rw [kMl_cases]
        unfold RI
        generalize a * b = p at *
        by_cases hp : p < 0
        · rw [if_pos hp] at hbig
          rw [if_pos hp, if_pos hp, if_pos (by omega)]
        · rw [if_neg hp] at hbig
          rw [if_neg hp, if_neg hp, if_neg (by omega), if_pos (by omega)]
      rw [hR]
      by_cases ha : a < 0 <;> by_cases hb : b < 0
      · rw [if_pos ha, if_pos hb, if_neg (by rw [hsg]; omega)]; decide
      · rw [if_pos ha, if_neg hb, if_pos (by rw [hsg]; omega)]; decide
      · rw [if_neg ha, if_pos hb, if_pos (by rw [hsg]; omega)]; decide
      · rw [if_neg ha, if_neg hb, if_neg (by rw [hsg]; omega)]; decide
    · rw [decide_eq_false h2, cond_false]
      refine small ?_
      have := Int.mul_le_mul_of_nonneg_left (show absI b ≤ 2199023255552 / absI A by omega) nA
      omega
  · rw [decide_eq_false h1, Bool.false_and, cond_false]
    refine small ?_
    have : absI A = 0 := by omega
    rw [this, Int.zero_mul]
    omega
end Go.Proofs.Ythlmbnhelkbchaa
