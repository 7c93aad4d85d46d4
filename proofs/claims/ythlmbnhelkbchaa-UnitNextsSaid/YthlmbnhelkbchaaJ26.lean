/- The unit and the document's unit tell alike. -/
import Derived.Test.YthlmbnhelkbchaaJ25
import Derived.Test.YthlmbnhelkbchaaJ22
import Derived.Test.YthlmbnhelkbchaaJ23
import Derived.Test.YthlmbnhelkbchaaJ21
import Derived.Test.YthlmbnhelkbchaaJ20
import Derived.Test.YthlmbnhelkbchaaJ18
namespace Go.Proofs.Ythlmbnhelkbchaa
open Go.Ev
set_option maxRecDepth 100000
theorem due_eq {r fr : Int} (hr : r = 1 ∨ r = 2 ∨ r = 3) : due r fr = dueR r fr := by
  unfold due dueR
  rcases hr with rfl | rfl | rfl
  · rw [if_pos rfl, if_neg (by omega), if_neg (by omega)]
  · rw [if_neg (by omega), if_pos rfl, if_neg (by omega), if_pos rfl]
    by_cases h : fr = 0
    · subst h; rfl
    · rw [decide_eq_false h, Bool.or_false]
  · rw [if_neg (by omega), if_neg (by omega), if_pos rfl]
def setO (o : Ob) (f t : Int) : Ob := ⟨o.at', f, t, o.n, o.rnd, o.last, o.stage, o.level, o.frm, o.gate⟩
def setR (s : Rs) (f h : Int) : Rs := ⟨f, h, s.phase, s.n, s.stage, s.gate, s.fall, s.past⟩
structure Alike (F : Nat → Ob → Ob) (G : StepF) (C : Nat → Ob → Rs → Prop) (N : Nat) : Prop where
  step : ∀ i o s, i < N → C i o s → C (i + 1) (F i o) (G i s).1 ∧ (F i o).told = (G i s).2 ∧ (F i o).frame = o.frame ∧ (G i s).1.frame = s.frame
  set : ∀ i o s f t g h, C i o s → C i (setO o f t) (setR s g h)
  wait : ∀ i o s, C i o s → C (i + 1) o s
structure Same (C : Nat → Ob → Rs → Prop) (i : Nat) (o : Ob) (s : Rs) : Prop where
  c : C i o s
  f : o.frame = s.frame
  t : o.told = s.held
theorem on_same {r : Int} {F : Nat → Ob → Ob} {G : StepF} {C : Nat → Ob → Rs → Prop} {N : Nat} (hr : r = 1 ∨ r = 2 ∨ r = 3) (A : Alike F G C N) {i : Nat} {o : Ob} {s : Rs} (hi : i < N) (h : Same C i o s) : Same C (i + 1) (onO r F i o) (onR r G i s) := by
  unfold onO onR
  rw [due_eq hr, h.f]
  cases dueR r s.frame with
  | false =>
    have := A.set (i + 1) o s (w64 (o.frame + 1)) o.told (w64 (s.frame + 1)) s.held (A.wait i o s h.c)
    exact ⟨this, congrArg (fun x => w64 (x + 1)) h.f, h.t⟩
  | true =>
    obtain ⟨h1, h2, h3, h4⟩ := A.step i o s hi h.c
    have := A.set (i + 1) (F i o) (G i s).1 (w64 ((F i o).frame + 1)) (F i o).told (w64 ((G i s).1.frame + 1)) (G i s).2 h1
    refine ⟨this, ?_, h2⟩
    show w64 ((F i o).frame + 1) = w64 ((G i s).1.frame + 1)
    rw [h3, h4, h.f]
theorem run_same {r : Int} {F : Nat → Ob → Ob} {G : StepF} {C : Nat → Ob → Rs → Prop} {N : Nat} (hr : r = 1 ∨ r = 2 ∨ r = 3) (A : Alike F G C N) : ∀ (d i : Nat) (o : Ob) (s : Rs), i + d ≤ N → Same C i o s → (runO r F i d o).2 = (runR r G i d s).2 ∧ Same C (i + d) (runO r F i d o).1 (runR r G i d s).1
  | 0, _, _, _, _, h => ⟨rfl, h⟩
  | d + 1, i, o, s, hi, h => by
    have h' := on_same hr A (by omega) h
    obtain ⟨e1, e2⟩ := run_same hr A d (i + 1) _ _ (by omega) h'
    simp only [runO, runR]
    rw [e1, h'.t]
    rw [show i + 1 + d = i + (d + 1) by omega] at e2
    exact ⟨rfl, e2⟩
theorem num_kM (x : Int) : num x = kM' x := num_eq x
theorem sndR_eq (n : Int) : sndR n = snd n := into_eq _ _ _ (by omega)
theorem ph_eq (p x : Int) : phR p (num x) = phN p (kM' x) := by rw [num_kM]; rfl
def C1 (_ : Nat) (o : Ob) (s : Rs) : Prop := o.at' = s.phase
theorem al_1 (N : Nat) (xs : List Int) : Alike (F1 xs) (H1 xs) C1 N := ⟨fun i o s _ h => by
  have h : o.at' = s.phase := h
  refine ⟨?_, ?_, rfl, rfl⟩
  · show phN o.at' (kM' _) = phR s.phase (num _)
    rw [ph_eq, h]
  · show saw o.at' = sndR _
    rw [sndR_eq, h]
    rfl, fun _ _ _ _ _ _ _ h => h, fun _ _ _ h => h⟩
theorem al_2 (N : Nat) (xs ys : List Int) : Alike (F2 xs ys) (H2 xs ys) C1 N := ⟨fun i o s _ h => by
  have h : o.at' = s.phase := h
  refine ⟨?_, ?_, rfl, rfl⟩
  · show phN o.at' (kM' _) = phR s.phase (num _)
    rw [ph_eq, h]
  · show pul o.at' _ = if s.phase < w64 (num _ * 65536) then _ else _
    rw [num_kM, h]
    rfl, fun _ _ _ _ _ _ _ h => h, fun _ _ _ h => h⟩
theorem al_3 (N : Nat) (xs : List Int) : Alike (F3 xs) (H3 xs) C1 N := ⟨fun i o s _ h => by
  have h : o.at' = s.phase := h
  refine ⟨?_, ?_, rfl, rfl⟩
  · show phN o.at' (kM' _) = phR s.phase (num _)
    rw [ph_eq, h]
  · show tri o.at' = if _ then sndR _ else sndR _
    rw [sndR_eq, sndR_eq, h]
    rfl, fun _ _ _ _ _ _ _ h => h, fun _ _ _ h => h⟩
def C4 (_ : Nat) (o : Ob) (s : Rs) : Prop := o.rnd = s.n
theorem al_4 (N : Nat) : Alike F4 H4 C4 N := ⟨fun i o s _ h => by
  have h : o.rnd = s.n := h
  refine ⟨?_, ?_, rfl, rfl⟩
  · show rnN o.rnd = rnR s.n
    rw [h]
    rfl
  · show snd _ = sndR _
    rw [sndR_eq, h]
    rfl, fun _ _ _ _ _ _ _ h => h, fun _ _ _ h => h⟩
theorem part_prod {a i n : Int} (a0 : -2199023255552 ≤ a) (a1 : a ≤ 2199023255552) (i0 : 0 ≤ i) (i1 : i ≤ 1000000) (n0 : 1 ≤ n) (n1 : n ≤ 1000000000) : partI a i n = prodM a i n := by
  have hq : ∀ b : Int, 0 ≤ b → b ≤ 2199023255552 → 0 ≤ b / n * i ∧ b / n * i ≤ 2199023255552 * 1000000 ∧ 0 ≤ b % n * i ∧ b % n * i ≤ 1000000000 * 1000000 ∧ (b * i + n / 2) / n = b / n * i + (b % n * i + n / 2) / n := fun b b0 b1 => by
    have q0 : 0 ≤ b / n := Int.ediv_nonneg b0 (by omega)
    have q1 : b / n ≤ b := Int.ediv_le_self _ b0
    have r0 : 0 ≤ b % n := Int.emod_nonneg _ (by omega)
    have r1 : b % n < n := Int.emod_lt_of_pos _ (by omega)
    refine ⟨Int.mul_nonneg q0 i0, Int.mul_le_mul (by omega) i1 i0 (by omega), Int.mul_nonneg r0 i0, Int.mul_le_mul (by omega) i1 i0 (by omega), ?_⟩
    have e : b * i + n / 2 = (b % n * i + n / 2) + n * (b / n * i) := by
      have h1 : b * i = (n * (b / n) + b % n) * i := by rw [Int.mul_ediv_add_emod]
      rw [h1, Int.add_mul, Int.mul_assoc]
      omega
    rw [e, Int.add_mul_ediv_left _ _ (by omega)]
    omega
  have w : ∀ x : Int, -4611686018427387904 ≤ x → x ≤ 4611686018427387904 → w64 x = x := fun x x0 x1 => by unfold w64; rw [IntKind.wrap_i64]; omega
  have hn2 : w64 (n.tdiv 2) = n / 2 := by rw [Int.tdiv_eq_ediv_of_nonneg (by omega)]; exact w _ (by omega) (by omega)
  rcases Int.lt_or_le a 0 with ha | ha
  · obtain ⟨b, rfl⟩ : ∃ b, a = -b := ⟨-a, by omega⟩
    obtain ⟨h1, h2, h3, h4, h5⟩ := hq b (by omega) (by omega)
    have t1 : (-b).tdiv n = -(b / n) := by rw [Int.neg_tdiv, Int.tdiv_eq_ediv_of_nonneg (by omega)]
    have t2 : (-b).tmod n = -(b % n) := by rw [Int.neg_tmod, Int.tmod_eq_emod_of_nonneg (by omega)]
    have q0 : 0 ≤ b / n := Int.ediv_nonneg (by omega) (by omega)
    have q1 : b / n ≤ b := Int.ediv_le_self _ (by omega)
    have e0 : absI (-b) = b := by unfold absI; rw [if_pos (by omega)]; omega
    unfold partI prodM
    rw [if_pos ha, e0, h5, t1, t2, w (-(b / n)) (by omega) (by omega), Int.neg_mul, Int.neg_mul, w (-(b / n * i)) (by omega) (by omega), w (-(b % n * i)) (by omega) (by omega)]
    unfold rndI
    rw [hn2]
    have s0 : 0 ≤ (b % n * i + n / 2) / n := Int.ediv_nonneg (by omega) (by omega)
    have s1 : (b % n * i + n / 2) / n ≤ b % n * i + n / 2 := Int.ediv_le_self _ (by omega)
    by_cases hz : -(b % n * i) < 0
    · rw [if_pos hz, show (0 : Int) - -(b % n * i) = b % n * i by omega, w (b % n * i) (by omega) (by omega), w (b % n * i + n / 2) (by omega) (by omega), Int.tdiv_eq_ediv_of_nonneg (by omega), w ((b % n * i + n / 2) / n) (by omega) (by omega), w (0 - (b % n * i + n / 2) / n) (by omega) (by omega), w _ (by omega) (by omega)]
      omega
    · have hz' : b % n * i = 0 := by omega
      rw [if_neg hz, hz']
      have e1 : ((0 : Int) + n / 2) / n = 0 := Int.ediv_eq_zero_of_lt (by omega) (by omega)
      rw [show (-(0 : Int) + n / 2) = 0 + n / 2 by omega, w (0 + n / 2) (by omega) (by omega), Int.tdiv_eq_ediv_of_nonneg (by omega), e1, w 0 (by omega) (by omega), w _ (by omega) (by omega)]
      omega
  · obtain ⟨h1, h2, h3, h4, h5⟩ := hq a ha a1
    have q0 : 0 ≤ a / n := Int.ediv_nonneg (by omega) (by omega)
    have q1 : a / n ≤ a := Int.ediv_le_self _ (by omega)
    have e0 : absI a = a := by unfold absI; rw [if_neg (by omega)]
    have s0 : 0 ≤ (a % n * i + n / 2) / n := Int.ediv_nonneg (by omega) (by omega)
    have s1 : (a % n * i + n / 2) / n ≤ a % n * i + n / 2 := Int.ediv_le_self _ (by omega)
    unfold partI prodM
    rw [if_neg (by omega), e0, h5, Int.tdiv_eq_ediv_of_nonneg ha, Int.tmod_eq_emod_of_nonneg ha, w (a / n) (by omega) (by omega), w (a / n * i) (by omega) (by omega), w (a % n * i) (by omega) (by omega)]
    unfold rndI
    rw [if_neg (by omega), hn2, w (a % n * i + n / 2) (by omega) (by omega), Int.tdiv_eq_ediv_of_nonneg (by omega), w ((a % n * i + n / 2) / n) (by omega) (by omega), w _ (by omega) (by omega)]
def C5 (c : Int) (i : Nat) (o : Ob) (s : Rs) : Prop := o.n = s.n ∧ 0 ≤ s.n ∧ s.n ≤ c + i
theorem al_5 {y0 y1 y2 c : Int} {N : Nat} (a0 : -2199023255552 ≤ w64 (y1 - y0)) (a1 : w64 (y1 - y0) ≤ 2199023255552) (b0 : 1 ≤ y2) (b1 : y2 ≤ 1000000000) (hc : c + N ≤ 1000000) : Alike (F5 y0 y1 y2) (H5 y0 y1 y2) (C5 c) N := ⟨fun i o s hi h => by
  obtain ⟨h1, h2, h3⟩ := h
  have e : w64 (s.n + 1) = s.n + 1 := by unfold w64; rw [IntKind.wrap_i64]; omega
  refine ⟨?_, ?_, rfl, rfl⟩
  · show linN y2 o = (if s.n < y2 then w64 (s.n + 1) else s.n) ∧ 0 ≤ (if s.n < y2 then w64 (s.n + 1) else s.n) ∧ (if s.n < y2 then w64 (s.n + 1) else s.n) ≤ c + ((i + 1 : Nat) : Int)
    unfold linN
    rw [h1, e]
    refine ⟨rfl, ?_⟩
    split <;> omega
  · show linV y0 y1 y2 o = if s.n ≥ y2 then y1 else w64 (y0 + prodM (w64 (y1 - y0)) s.n y2)
    unfold linV
    rw [h1]
    by_cases hn : s.n ≥ y2
    · rw [if_pos hn, if_pos hn]
    · rw [if_neg hn, if_neg hn, part_prod a0 a1 h2 (by omega) b0 b1], fun _ _ _ _ _ _ _ h => h, fun i o s h => by obtain ⟨h1, h2, h3⟩ := h; exact ⟨h1, h2, by omega⟩⟩
def C6 (r : Int) (_ : Nat) (o : Ob) (s : Rs) : Prop := Rel r ⟨o.stage, o.level, o.frm, o.gate⟩ ⟨s.stage, s.n, s.fall, s.gate⟩
theorem al_6 {y0 y1 y2 y3 : Int} (h0 : y0 ≥ 1) (h1 : y1 ≥ 1) (h3 : y3 ≥ 1) (N : Nat) (xs : List Int) : Alike (F6 y0 y1 y2 y3 xs) (H6 y0 y1 y2 y3 xs) (C6 y3) N := ⟨fun i o s _ h => by
  have h : Rel y3 ⟨o.stage, o.level, o.frm, o.gate⟩ ⟨s.stage, s.n, s.fall, s.gate⟩ := h
  have hr := env_rel (a := y0) (d := y1) (kp := y2) (decide (kM' (xs.getD i 0) > 0)) h
  obtain ⟨e1, e2⟩ := envT_eq (A := Unit) h0 h1 h3 (decide (kM' (xs.getD i 0) > 0)) ⟨o.stage, o.level, o.frm, o.gate⟩ (kp := y2) (fun _ _ _ => some ())
  obtain ⟨f1, f2⟩ := envR_eq (A := Unit) h0 h1 h3 (decide (kM' (xs.getD i 0) > 0)) ⟨s.stage, s.n, s.fall, s.gate⟩ (kp := y2) (fun _ _ _ => some ())
  obtain ⟨r1, r2, r3, r4⟩ := hr
  have hd : decide (num (xs.getD i 0) > 0) = decide (kM' (xs.getD i 0) > 0) := by rw [num_kM]
  refine ⟨?_, ?_, rfl, rfl⟩
  · unfold H6
    rw [hd]
    exact ⟨r1, r2, rfl, r4⟩
  · unfold H6
    rw [hd]
    exact r2.symm, fun _ _ _ _ _ _ _ h => h, fun _ _ _ h => h⟩
def C7 (_ : Nat) (o : Ob) (s : Rs) : Prop := o.last = s.n ∧ -1099511627776 ≤ s.n ∧ s.n ≤ 1099511627776
theorem al_7 (N : Nat) (xs ys : List Int) : Alike (F7 xs ys) (H7 xs ys) C7 N := ⟨fun i o s _ h => by
  obtain ⟨h1, h2, h3⟩ := h
  have e : lwV (xs.getD i 0) (ys.getD i 0) o.last = lowW (xs.getD i 0) (ys.getD i 0) s.n := by
    obtain ⟨a, b, c⟩ := low_raw (x := xs.getD i 0) (w := ys.getD i 0) h2 h3
    have e1 : lowW (xs.getD i 0) (ys.getD i 0) s.n = w64 (s.n + round1 (lowP (xs.getD i 0) (ys.getD i 0) s.n)) := by
      unfold lowW lowP
      rw [num_eq, num_eq, into_eq _ _ _ (by omega)]
    rw [e1, a, h1]
    rfl
  exact ⟨⟨e, lowW_b h2 h3⟩, e, rfl, rfl⟩, fun _ _ _ _ _ _ _ h => h, fun _ _ _ h => h⟩
def CT (_ : Nat) (_ : Ob) (_ : Rs) : Prop := True
theorem al_8 (N : Nat) (xs ys : List Int) : Alike (F8 xs ys) (H8 xs ys) CT N := ⟨fun _ _ _ _ _ => ⟨trivial, by show kM' (w64 (kM' _ + kM' _)) = num (w64 (num _ + num _)); rw [num_kM, num_kM, num_kM], rfl, rfl⟩, fun _ _ _ _ _ _ _ _ => trivial, fun _ _ _ _ => trivial⟩
theorem al_9 (N : Nat) (xs ys : List Int) : Alike (F9 xs ys) (H9 xs ys) CT N := ⟨fun i o s _ _ => ⟨trivial, by
  have a := num_b (xs.getD i 0)
  have b := num_b (ys.getD i 0)
  rw [num_kM] at a b
  show prodI (kM' _) (kM' _) = num (prodN (num _) (num _))
  rw [num_kM (xs.getD i 0), num_kM (ys.getD i 0)]
  exact prod_law a.1 a.2 b.1 b.2, rfl, rfl⟩, fun _ _ _ _ _ _ _ _ => trivial, fun _ _ _ _ => trivial⟩
theorem al_10 (N : Nat) (xs ys : List Int) : Alike (F10 xs ys) (H10 xs ys) CT N := ⟨fun i o s _ _ => ⟨trivial, by
  have b := num_b (ys.getD i 0)
  rw [num_kM] at b
  show kept (kM' _) (w64 (0 - maxI (kM' _) 0)) (maxI (kM' _) 0) = into (num _) (w64 (0 - maxI (num _) 0)) (maxI (num _) 0)
  rw [num_kM, num_kM, into_eq]
  have e : 0 ≤ maxI (kM' (ys.getD i 0)) 0 ∧ maxI (kM' (ys.getD i 0)) 0 ≤ 1099511627776 := by unfold maxI; split <;> omega
  unfold w64
  rw [IntKind.wrap_i64]
  omega, rfl, rfl⟩, fun _ _ _ _ _ _ _ _ => trivial, fun _ _ _ _ => trivial⟩
theorem al_In (N : Nat) (xs : List Int) : Alike (FIn xs) (HIn xs) CT N := ⟨fun _ _ _ _ _ => ⟨trivial, (num_kM _).symm, rfl, rfl⟩, fun _ _ _ _ _ _ _ _ => trivial, fun _ _ _ _ => trivial⟩
theorem al_15 (N : Nat) (y : Int) : Alike (F15 y) (H15 y) CT N := ⟨fun _ _ _ _ _ => ⟨trivial, rfl, rfl, rfl⟩, fun _ _ _ _ _ _ _ _ => trivial, fun _ _ _ _ => trivial⟩
end Go.Proofs.Ythlmbnhelkbchaa
/- Run of a delay, told of once for all; it tells what the document's tells. -/
namespace Go.Proofs.Ythlmbnhelkbchaa
open Go.Ev
set_option maxRecDepth 100000
noncomputable def resD (own : Bool) (r u0 y0 : Int) (o : Ob) (N : Nat) (L os : List Int) : ORes := bif own then ((.tup [ints os, int64 0], grabC r u0 y0 o N (L.map int64)), psD 17) else ((.tup [ints os, int64 0], grabB r u0 y0 o N (L.map int64)), psD 1)
theorem run_factD {r u0 y0 : Int} {xs : List Int} {n N : Nat} {o : Ob} {L : List Int} (hN : 1 ≤ N) (hN' : N ≤ 100000) (hxs : xs.length = n) (hn : n ≤ 4096) (hL : L.length = N) :
    OFact Try.prog tb scD 19 2 [1, 17] (argU n [xs]) (objD r u0 y0 o N (L.map int64)) (resD (runD r xs 0 n ⟨false, o, L⟩).1.own r u0 y0 (runD r xs 0 n ⟨false, o, L⟩).1.o N (runD r xs 0 n ⟨false, o, L⟩).1.L (runD r xs 0 n ⟨false, o, L⟩).2).1.1
      (resD (runD r xs 0 n ⟨false, o, L⟩).1.own r u0 y0 (runD r xs 0 n ⟨false, o, L⟩).1.o N (runD r xs 0 n ⟨false, o, L⟩).1.L (runD r xs 0 n ⟨false, o, L⟩).2).1.2 (resD (runD r xs 0 n ⟨false, o, L⟩).1.own r u0 y0 (runD r xs 0 n ⟨false, o, L⟩).1.o N (runD r xs 0 n ⟨false, o, L⟩).1.L (runD r xs 0 n ⟨false, o, L⟩).2).2 := by
  have go : ∀ {A : Type} (x : Option A), goD r u0 y0 (n : Int) [xs] o N (L.map int64) x = x := fun x => by unfold goD; rw [sameSt_self, allS_ints]; rfl
  have gi : ∀ x : Option ORes, inD r u0 y0 o N (L.map int64) x = x := fun x => by unfold inD; rw [allS_ints, isSo_true ⟨r, u0, y0, o, N, _, rfl, rfl, allS_ints L⟩]; rfl
  have hl : ∀ l ∈ [xs], l.length = n := by simp [hxs]
  rcases Nat.eq_zero_or_pos n with rfl | h0
  · have h := loopD_nil (r := r) (u0 := u0) (y0 := y0) (xs := xs) hN (s := ⟨false, o, L⟩) hL
    refine ⟨_, knowLG_ok tbOk (N := N71) (LFact.flatG (OId_ok ok0) h) (OId_ok ok0) (ep := e71) rfl norm71 count71, (r19d_n r u0 y0 ((0 : Nat) : Int) ((0 : Nat) : Int) o o xs N (L.map int64) (L.map int64)).trans ?_⟩
    rw [rangeT_ok (by omega), gi, sizeT_ok _ _ [xs] hl, go]
    unfold errD
    rw [allS_ints]
    rfl
  · have h := loopD_all (r := r) (u0 := u0) (y0 := y0) hN hN' hxs (by omega) (s := ⟨false, o, L⟩) hL h0
    obtain ⟨m, hm⟩ : ∃ m, (runD r xs 0 n ⟨false, o, L⟩).2.length = m + 1 := ⟨n - 1, by rw [runD_len]; omega⟩
    have e := fix_ints (runD r xs 0 n ⟨false, o, L⟩).2
    have e2 : allS (dropA ((runD r xs 0 n ⟨false, o, L⟩).2.map int64) 0) = true := by rw [dropA_eq, List.drop_zero, allS_ints]
    unfold soD stD at h
    generalize hp : runD r xs 0 n ⟨false, o, L⟩ = p at *
    obtain ⟨⟨own, o', L'⟩, os⟩ := p
    simp only at h hm e e2 ⊢
    rw [hm] at h e
    cases own with
    | false =>
      simp only [cond_false] at h
      refine ⟨_, knowLG_ok tbOk (N := N71) (LFact.flatG (OId_ok ok0) h) (OId_ok ok0) (ep := e71) rfl norm71 count71, (r19d_B r u0 y0 n n o o' xs N (L.map int64) (L'.map int64) _ m).trans ?_⟩
      rw [rangeT_ok hn, gi, sizeT_ok _ _ [xs] hl, go, e, e2, allS_ints]
      unfold resD ints
      rw [hm]
      rfl
    | true =>
      simp only [cond_true, cond_false] at h
      refine ⟨_, knowLG_ok tbOk (N := N71) (LFact.flatG (OId_ok ok0) h) (OId_ok ok0) (ep := e71) rfl norm71 count71, (r19d_C r u0 y0 n n o o' xs N (L.map int64) (L'.map int64) _ m).trans ?_⟩
      rw [rangeT_ok hn, gi, sizeT_ok _ _ [xs] hl, go, e, e2, allS_ints]
      unfold resD ints
      rw [hm]
      rfl
/-! ### The oracle: the list goes by a new number behind each call, wherever it lies -/
theorem vwBlksO_len {P : Program} {φ : List (Nat × Nat)} {h hf : Heap} {ty : Nat → Option TypeId} {raw : Nat × Nat → Bool} : ∀ l : List (Nat × Nat), (vwBlksO P φ h hf ty raw l).length ≤ l.length
  | [] => Nat.le_refl _
  | x :: l => by
    have ih := vwBlksO_len (P := P) (φ := φ) (h := h) (hf := hf) (ty := ty) (raw := raw) l
    simp only [vwBlksO]
    split
    · simp only [List.length_cons]; omega
    · simp only [List.length_cons]; omega
theorem two_pairs {ps : List (Option Nat)} (hl : lenO ps = 2) (h2 : 2 ≤ (pairsOf 0 ps 0 []).length) : ∃ x y, pairsOf 0 ps 0 [] = [(y, 1), (x, 0)] := by
  rcases ps with _ | ⟨a, _ | ⟨b, _ | ⟨_, _⟩⟩⟩ <;> simp [lenO] at hl
  cases a with
  | none =>
    cases b with
    | none => simp [pairsOf] at h2
    | some y =>
      exfalso
      revert h2
      simp only [pairsOf]
      cases (Nat.ble 0 y && isNone' (find1 y [])) <;> simp
  | some x =>
    have e1 : (Nat.ble 0 x && isNone' (find1 x [])) = true := by
      have : Nat.ble 0 x = true := Nat.ble_eq_true_of_le (Nat.zero_le _)
      rw [this]; rfl
    cases b with
    | none =>
      exfalso
      revert h2
      simp only [pairsOf, e1, cond_true]
      simp
    | some y =>
      refine ⟨x, y, ?_⟩
      revert h2
      simp only [pairsOf, e1, cond_true]
      cases (Nat.ble 0 y && isNone' (find1 y [(x, 0 + 0)])) with
      | true => intro _; rfl
      | false => intro h2; simp at h2
theorem same_blks (r u0 y0 : Int) (o : Ob) (N : Nat) (L : List AV) (x nx : Nat) :
    vwBlksO Try.prog [(1, nx + 1), (0, x)] (mkHeap (grabB r u0 y0 o N L) 0) (mkHeap (grabB r u0 y0 o N L) 0) (tyAt (psD 1)) (fun z => [1, 17].any (Nat.beq z.1)) [(1, nx + 1), (0, x)] =
    vwBlksO Try.prog [(17, nx + 1), (0, x)] (mkHeap (grabC r u0 y0 o N L) 0) (mkHeap (grabC r u0 y0 o N L) 0) (tyAt (psD 17)) (fun z => [1, 17].any (Nat.beq z.1)) [(17, nx + 1), (0, x)] := by kernel_rfl
theorem same_res (φ : List (Nat × Nat)) (H : Heap) (os : List Int) : vwRes Try.prog φ H (resOf Try.prog 19) (.tup [ints os, int64 0]) = .tup [ints os, int64 0] := by kernel_rfl
def lenV : AV → Nat
  | .gr _ n _ => n
  | _ => 0
def putD (vs : List AV) (o : Ob) : List AV := [int64 o.at', nth vs 1, nth vs 2, nth vs 3, nth vs 4, int64 o.frame, int64 o.told, int64 o.n, int64 o.rnd, int64 o.last, .gr (17, 0) (lenV (nth vs 10)) 1, int64 o.stage, int64 o.level, int64 o.frm, .bool o.gate]
def lateOf : List (Nat × Blk) → List Int
  | (_, .cells _ L) :: _ => L.map intOf
  | _ => []
def objOf2 : List (Nat × Blk) → List AV
  | [_, (_, .cells _ vs)] => vs
  | _ => []
def sD (a : List AV) (l : List (Nat × Blk)) : Ds × List Int := runD (intOf (nth (objOf2 l) 2)) ((rowsOf (nth a 2)).getD 0 []) 0 (intOf (nth a 1)).toNat ⟨false, obOf (objOf2 l), lateOf l⟩
noncomputable def VD (a : List AV) (l : List (Nat × Blk)) : ORes := ((.tup [ints (sD a l).2, int64 0], [(0, .cells true (putD (objOf2 l) (sD a l).1.o)), (17, .cells true ((sD a l).1.L.map int64)), (0, .cells true (putD (objOf2 l) (sD a l).1.o))]), psD 17)
theorem ints_back (L : List Int) : (L.map int64).map intOf = L := by
  rw [List.map_map]
  exact List.map_id'' (fun _ => rfl) L
theorem sD_eq (r u0 y0 : Int) (o : Ob) (N : Nat) (L : List Int) (xs : List Int) (n : Nat) : sD (argU n [xs]) (objD r u0 y0 o N (L.map int64)) = runD r xs 0 n ⟨false, o, L⟩ := by
  unfold sD
  show runD r ((rowsOf (lists [xs])).getD 0 []) 0 (intOf (int64 (n : Int))).toNat ⟨false, o, (L.map int64).map intOf⟩ = _
  rw [ints_back, rowsOf_lists]
  rfl
theorem VD_eq (r u0 y0 : Int) (o : Ob) (N : Nat) (L : List Int) (xs : List Int) (n : Nat) : VD (argU n [xs]) (objD r u0 y0 o N (L.map int64)) = resD true r u0 y0 (runD r xs 0 n ⟨false, o, L⟩).1.o N (runD r xs 0 n ⟨false, o, L⟩).1.L (runD r xs 0 n ⟨false, o, L⟩).2 := by
  unfold VD
  rw [sD_eq]
  rfl
def GD (a : List AV) (l : List (Nat × Blk)) : Prop := ∃ (r u0 y0 : Int) (o : Ob) (N : Nat) (L xs : List Int) (n : Nat), a = argU n [xs] ∧ l = objD r u0 y0 o N (L.map int64) ∧ 1 ≤ N ∧ N ≤ 100000 ∧ L.length = N ∧ xs.length = n ∧ n ≤ 4096
theorem fnSim_D : FnSim Try.prog (LP tb) 19 (whenOg Try.prog scD 19 1 2 [1] [1, 17] GD VD) := by
  intro A K r args h u args' ρ Z w kind cs₀ cs hL hg hrep ha hcs
  have hg0 := hg
  unfold whenOg at hg
  cases u <;> first | (cases hg; done) | skip
  simp only at hg
  obtain ⟨g1, hg⟩ := guardK_some hg
  generalize ha0 : vwArgs Try.prog (pairsOf 0 (fst1 (posObj Try.prog args (parsOf Try.prog 19) h scD.owns)) 0 []) none0 (parsOf Try.prog 19) args = a0 at hg
  generalize hl0 : vwBlksO Try.prog (pairsOf 0 (fst1 (posObj Try.prog args (parsOf Try.prog 19) h scD.owns)) 0 []) h none0 (tyAt (posObj Try.prog args (parsOf Try.prog 19) h scD.owns)) (fun x => [1].any (Nat.beq x.2)) (pairsOf 0 (fst1 (posObj Try.prog args (parsOf Try.prog 19) h scD.owns)) 0 []) = l0 at hg
  cases hs : isSo (GD a0 l0) with
  | false => rw [hs] at hg; cases hg
  | true =>
  rw [hs] at hg
  simp only [cond_true] at hg
  obtain ⟨rr, u0, y0, o, N, L, xs, n, rfl, hl1, n1, n2, n3, n4, n5⟩ := isSo_iff.1 hs
  have fact := run_factD (r := rr) (u0 := u0) (y0 := y0) (o := o) n1 n2 n4 n5 n3
  rw [← hl1] at fact
  have hV : VD (argU n [xs]) l0 = resD true rr u0 y0 (runD rr xs 0 n ⟨false, o, L⟩).1.o N (runD rr xs 0 n ⟨false, o, L⟩).1.L (runD rr xs 0 n ⟨false, o, L⟩).2 := by rw [hl1]; exact VD_eq _ _ _ _ _ _ _ _
  rw [hV] at hg
  simp only [Bool.and_eq_true] at g1
  obtain ⟨x, y, hφ⟩ := two_pairs (Nat.eq_of_beq_eq_true g1.2) (by
    have := vwBlksO_len (P := Try.prog) (φ := pairsOf 0 (fst1 (posObj Try.prog args (parsOf Try.prog 19) h scD.owns)) 0 []) (h := h) (hf := none0) (ty := tyAt (posObj Try.prog args (parsOf Try.prog 19) h scD.owns)) (raw := fun x => [1].any (Nat.beq x.2)) (pairsOf 0 (fst1 (posObj Try.prog args (parsOf Try.prog 19) h scD.owns)) 0 [])
    rw [hl0, hl1] at this
    exact this)
  refine fnSim_whenOg tbOk (kn := 1) (fl0 := [1]) (G := fun a l => a = argU n [xs] ∧ l = l0) (V := fun _ _ => resD (runD rr xs 0 n ⟨false, o, L⟩).1.own rr u0 y0 (runD rr xs 0 n ⟨false, o, L⟩).1.o N (runD rr xs 0 n ⟨false, o, L⟩).1.L (runD rr xs 0 n ⟨false, o, L⟩).2) (fun a l hal => by obtain ⟨rfl, rfl⟩ := hal; exact fact) A K r args h .off args' ρ Z w kind cs₀ cs hL ?_ hrep ha hcs
  unfold whenOg
  simp only
  rw [ha0, hl0, isSo_true ⟨rfl, rfl⟩, g1.1, g1.2]
  simp only [Bool.and_self, guardK, cond_true]
  rw [hφ] at hg ⊢
  generalize (runD rr xs 0 n ⟨false, o, L⟩).1.o = o' at hg ⊢
  generalize (runD rr xs 0 n ⟨false, o, L⟩).1.L = L' at hg ⊢
  generalize (runD rr xs 0 n ⟨false, o, L⟩).2 = os at hg ⊢
  cases (runD rr xs 0 n ⟨false, o, L⟩).1.own with
  | true => exact hg
  | false =>
    have eB : pairsNew h.next (fst1 (psD 1)) 0 (accOf 1 [(y, 1), (x, 0)]) = [(1, h.next + 1), (0, x)] := rfl
    have eC : pairsNew h.next (fst1 (psD 17)) 0 (accOf 1 [(y, 1), (x, 0)]) = [(17, h.next + 1), (0, x)] := rfl
    unfold resD at hg ⊢
    simp only [cond_true, cond_false] at hg ⊢
    rw [eC, same_res] at hg
    rw [eB, same_res, same_blks]
    exact hg
noncomputable def OD (S : Orc) : Orc := addF 19 (whenOg Try.prog scD 19 1 2 [1] [1, 17] GD VD) S
theorem OD_ok {S : Orc} (h : Ok S) : Ok (OD S) := addF_ok fnSim_D natF_whenOg h
/-! ### Alike -/
structure SameD (N : Nat) (s : Ds) (t : Rs) : Prop where
  l : s.L = t.past
  n : s.L.length = N
  f : s.o.frame = t.frame
  t : s.o.told = t.held
theorem onD_same {r : Int} {xs : List Int} {N i : Nat} {s : Ds} {t : Rs} (hr : r = 1 ∨ r = 2 ∨ r = 3) (hN : 1 ≤ N) (h : SameD N s t) : SameD N (onD r xs i s) (onR r (H11 xs) i t) := by
  have hl := onD_len (r := r) (xs := xs) (i := i) hN h.n
  obtain ⟨h1, h2, h3, h4⟩ := h
  have hd : due r s.o.frame = dueR r t.frame := by rw [due_eq hr, h3]
  unfold onD at hl ⊢
  unfold onR
  rw [hd] at hl ⊢
  cases hq : dueR r t.frame with
  | false => rw [hq] at hl; exact ⟨h1, hl, congrArg (fun x => w64 (x + 1)) h3, h4⟩
  | true =>
    rw [hq] at hl
    refine ⟨?_, hl, congrArg (fun x => w64 (x + 1)) h3, ?_⟩
    · show s.L.drop 1 ++ [kM' _] = t.past.drop 1 ++ [num _]
      rw [h1, num_kM]
    · show s.L.getD 0 0 = t.past.getD 0 0
      rw [h1]
theorem runD_same {r : Int} {xs : List Int} {N : Nat} (hr : r = 1 ∨ r = 2 ∨ r = 3) (hN : 1 ≤ N) : ∀ (d i : Nat) (s : Ds) (t : Rs), SameD N s t → (runD r xs i d s).2 = (runR r (H11 xs) i d t).2 ∧ SameD N (runD r xs i d s).1 (runR r (H11 xs) i d t).1
  | 0, _, _, _, h => ⟨rfl, h⟩
  | d + 1, i, s, t, h => by
    have h' := onD_same (xs := xs) (i := i) hr hN h
    obtain ⟨e1, e2⟩ := runD_same (xs := xs) hr hN d (i + 1) _ _ h'
    simp only [runD, runR]
    rw [e1, h'.t]
    exact ⟨rfl, e2⟩
end Go.Proofs.Ythlmbnhelkbchaa
/- New of a delay and of what is no unit; copies. -/
namespace Go.Proofs.Ythlmbnhelkbchaa
open Go.Ev
set_option maxRecDepth 100000
theorem n18_no (k r : Int) (xs ys : List Int) : run18 (knowC Try.prog 29 [unitV k r xs ys] (.bool false) orc0) (unitV k r xs ys) = (Us (unitV k r xs ys) <| some ((.tup [.ptr none, int64 1], []), [(none, tyPt Try.prog 37)])) := by kernel_rfl
theorem n32_no (k r : Int) (xs ys : List Int) : run32 (knowC Try.prog 13 [unitV k r xs ys] (.bool false) orc0) (unitV k r xs ys) = (Us (unitV k r xs ys) <| some (.tup [.agg (cellsR 0 0 [] [] ⟨0, 0, 0, 0, 0, false, 0, []⟩), int64 1])) := by kernel_rfl
def scNd : Sc := ⟨[], [(0, [10])]⟩
noncomputable def psNd : List (Option Nat × Option TypeId) := [(some 11, tyPt Try.prog 37), (some 12, some 3)]
abbrev mkN (n : Int) : Bool := decide (0 ≤ n) && decide (n ≤ n) && decide (n ≤ (limit : Int)) && decide ((8 : Int) * n ≤ (limit : Int))
theorem n18_11 (r u0 y0 : Int) : evCall Try.prog (N18 (unitV 11 r [u0] [y0])) tb 100 ORes (.fn 18) [unitV 11 r [u0] [y0]] (mkHeap [] 0) .off (objK Try.prog scNd 18 0 [12] [unitV 11 r [u0] [y0]]) =
    (Us (unitV 11 r [u0] [y0]) <| Zs [y0] <| guardK (mkN y0) <| guardK (allS (repL [int64 0] y0.toNat) && true && true) <|
     some ((.tup [.ptr (some (11, 0)), int64 0], [(11, .cells true (cellsD r u0 y0 ⟨0, 0, 0, 0, 0, 0, 0, 0, 0, false⟩ (.sl (some (12, 0)) y0.toNat y0.toNat true 1))), (12, .cells true (repL [int64 0] y0.toNat))]), psNd)) := by kernel_rfl
theorem n32_11 (r u0 y0 : Int) : run32 (N32 (unitV 11 r [u0] [y0])) (unitV 11 r [u0] [y0]) =
    (Us (unitV 11 r [u0] [y0]) <| guardK (mkN y0) <| guardK (allS (dropA (repL [int64 0] y0.toNat) 0) && true && true) <|
     some (.tup [.agg (cellsRd r u0 y0 ⟨0, 0, 0, 0, 0, false, 0, []⟩ (.fz (fixLen (y0.toNat * 1) (dropA (repL [int64 0] y0.toNat) 0)) y0.toNat false 1)), int64 0])) := by kernel_rfl
/-! ### Copies -/
def scK : Sc := ⟨[(0, [])], [(0, [])]⟩
noncomputable def psK : List (Option Nat × Option TypeId) := [(some 0, tyPt Try.prog 37), (some 1, tyPt Try.prog 37)]
theorem c23 (k r : Int) (ui ua : List Int) (o : Ob) : evCall Try.prog (OC2 orc0) tb 100 ORes (.fn 23) [.ptr (some (0, 0))] (mkHeap (objU k r ui ua o) 1) .off (objK Try.prog scK 23 1 [] [.ptr (some (0, 0))]) =
    some ((.ptr (some (1, 0)), [(0, .cells true (cellsU k r ui ua o)), (1, .cells true (cellsU k r ui ua o)), (0, .cells true (cellsU k r ui ua o))]), psK) := by kernel_rfl
end Go.Proofs.Ythlmbnhelkbchaa
/- Whether a unit or inputs are longer than is looked at. -/
namespace Go.Proofs.Ythlmbnhelkbchaa
open Go.Ev
set_option maxRecDepth 100000
def bl24 (k r : Int) (xs ys : List Int) : List (Nat × Blk) := [(0, .cells true [int64 k, int64 r, ints xs, ints ys])]
def st24 (k r : Int) (xs ys : List Int) (ls : List (List Int)) (i : Int) : St := ⟨[.dead, lists ls, .dead, .dead, .dead, int64 i] ++ repA .dead 27, mkHeap (bl24 k r xs ys) 4, [], .off⟩
def rt24 (k r : Int) (xs ys : List Int) : St := ⟨[.dead, .dead, .dead, .dead, .bool true, .dead] ++ repA .dead 27, mkHeap (bl24 k r xs ys) 4, [], .off⟩
noncomputable def body24 {A : Type} (k r : Int) (xs ys : List Int) (ls : List (List Int)) (i : Int) (K : Ex → St → Option A) : Option A :=
  bif decide (i < (ls.length : Int)) then
    guardK (decide (0 ≤ i) && decide (i < (ls.length : Int))) <| guardK (Nat.blt (i.toNat * 1) (lenA (ls.map ints))) <| guardK (isFzN (nth (ls.map ints) (i.toNat * 1))) <|
      bif decide ((fzL (nth (ls.map ints) (i.toNat * 1)) : Int) > 500) then K .ret (rt24 k r xs ys) else K .normal (st24 k r xs ys ls (IntKind.i64.wrap (i + 1)))
  else K (.exit 0) (st24 k r xs ys ls i)
theorem b24 {A : Type} (k r : Int) (xs ys : List Int) (ls : List (List Int)) (i : Int) (K : Ex → St → Option A) : loopB Try.prog orc0 tb 24 4 1 (st24 k r xs ys ls i) K = body24 k r xs ys ls i K := by kernel_rfl
theorem body24_eq {A : Type} {k r : Int} {xs ys : List Int} {ls : List (List Int)} {i : Nat} (h : i < ls.length) (hm : ls.length ≤ 10) (K : Ex → St → Option A) :
    body24 k r xs ys ls (i : Int) K = bif decide (ls[i].length > 500) then K .ret (rt24 k r xs ys) else K .normal (st24 k r xs ys ls ((i + 1 : Nat) : Int)) := by
  have h3 : (i : Int).toNat * 1 = i := by omega
  have h5 : Nat.blt i ls.length = true := Nat.ble_eq_true_of_le h
  have h8 : isFzN (ints ls[i]) = true := rfl
  have h9 : fzL (ints ls[i]) = ls[i].length := rfl
  have h10 : decide (((ls[i].length : Nat) : Int) > 500) = decide (ls[i].length > 500) := by
    rw [Bool.eq_iff_iff]
    simp only [decide_eq_true_eq]
    omega
  unfold body24
  simp only [h3, wrapN (by omega : i < 9223372036854775807), lenM, nthM ints ls i h, h8, h9, h10, decide_eq_true (by omega : (i : Int) < (ls.length : Int)), decide_eq_true (Int.natCast_nonneg i), cond_true, guardK, Bool.and_self, h5]
def anyL (ls : List (List Int)) : Bool := ls.any fun l => decide (l.length > 500)
theorem loop24 {k r : Int} {xs ys : List Int} {ls : List (List Int)} (hm : ls.length ≤ 10) : ∀ (d i n : Nat), i + d = ls.length → d < n →
    loopN (loopB Try.prog orc0 tb 24 4 1) n (st24 k r xs ys ls (i : Int)) pairE = some (bif anyL (ls.drop i) then (.ret, rt24 k r xs ys) else (.exit 0, st24 k r xs ys ls (ls.length : Int))) := by
  intro d
  induction d with
  | zero =>
    intro i n hi hn
    obtain ⟨n, rfl⟩ : ∃ m, n = m + 1 := ⟨n - 1, by omega⟩
    have hi : i = ls.length := by omega
    subst hi
    rw [loopN_succ, b24, List.drop_eq_nil_of_le (Nat.le_refl _)]
    unfold body24
    rw [decide_eq_false (by omega : ¬ ((ls.length : Int) < (ls.length : Int)))]
    rfl
  | succ d ih =>
    intro i n hi hn
    obtain ⟨n, rfl⟩ : ∃ m, n = m + 1 := ⟨n - 1, by omega⟩
    have h : i < ls.length := by omega
    have ih' := ih (i + 1) n (by omega) (by omega)
    rw [loopN_succ, b24, body24_eq h hm, List.drop_eq_getElem_cons h]
    unfold anyL at ih' ⊢
    rw [List.any_cons]
    cases decide (ls[i].length > 500) with
    | true => rfl
    | false =>
      simp only [cond_false, Bool.false_or]
      exact ih'
def N24l : Norm := ⟨[1, 4, 5], []⟩
theorem norm24l : loopN0 tb 24 4 = some N24l := by kernel_rfl
theorem count24l : Nat.ble (countL 4 e24.code) 1 = true := by kernel_rfl
noncomputable def pre24 (xs ys : List Int) (ls : List (List Int)) (x : Option AV) : Option AV :=
  bif decide ((xs.length : Int) > 10) then some (.bool true) else bif decide ((ys.length : Int) > 10) then some (.bool true) else bif decide ((ls.length : Int) > 10) then some (.bool true) else x
theorem run24_0 (k r : Int) (xs ys : List Int) (ls : List (List Int)) (h : Heap) : evCall Try.prog (stopAt 24 [3] orc0) tb 100 AV (.fn 24) (vwArgs Try.prog [] h (parsOf Try.prog 24) [unitV k r xs ys, lists ls]) (mkHeap [] 0) .off rv = pre24 xs ys ls none := by kernel_rfl
theorem run24_t (k r : Int) (xs ys : List Int) (ls : List (List Int)) (h : Heap) : evCall Try.prog (knowL Try.prog 24 4 N24l 1 (st24 k r xs ys ls 0) .ret (rt24 k r xs ys) orc0) tb 100 AV (.fn 24) (vwArgs Try.prog [] h (parsOf Try.prog 24) [unitV k r xs ys, lists ls]) (mkHeap [] 0) .off rv =
    pre24 xs ys ls (bif sameSt (st24 k r xs ys ls 0) (st24 k r xs ys ls 0) then some (.bool true) else none) := by kernel_rfl
theorem run24_f (k r : Int) (xs ys : List Int) (ls : List (List Int)) (i : Int) (h : Heap) : evCall Try.prog (knowL Try.prog 24 4 N24l 1 (st24 k r xs ys ls 0) (.exit 0) (st24 k r xs ys ls i) orc0) tb 100 AV (.fn 24) (vwArgs Try.prog [] h (parsOf Try.prog 24) [unitV k r xs ys, lists ls]) (mkHeap [] 0) .off rv =
    pre24 xs ys ls (bif sameSt (st24 k r xs ys ls 0) (st24 k r xs ys ls 0) then some (.bool false) else none) := by kernel_rfl
def longB (xs ys : List Int) (ls : List (List Int)) : Bool := decide (xs.length > 10) || decide (ys.length > 10) || decide (ls.length > 10) || anyL ls
theorem long_fact (k r : Int) (xs ys : List Int) (ls : List (List Int)) : F 24 [unitV k r xs ys, lists ls] (.bool (longB xs ys ls)) := by
  have hr : rounds = 100000000000000000000 := rfl
  have d1 : decide ((xs.length : Int) > 10) = decide (xs.length > 10) := by rw [Bool.eq_iff_iff]; simp only [decide_eq_true_eq]; omega
  have d2 : decide ((ys.length : Int) > 10) = decide (ys.length > 10) := by rw [Bool.eq_iff_iff]; simp only [decide_eq_true_eq]; omega
  have d3 : decide ((ls.length : Int) > 10) = decide (ls.length > 10) := by rw [Bool.eq_iff_iff]; simp only [decide_eq_true_eq]; omega
  by_cases hc : xs.length > 10 ∨ ys.length > 10 ∨ ls.length > 10
  · refine .of (stopAt_ok ok0) rfl fun h => (run24_0 k r xs ys ls h).trans ?_
    unfold pre24 longB
    rw [d1, d2, d3]
    by_cases h1 : xs.length > 10
    · rw [decide_eq_true h1]; rfl
    rw [decide_eq_false h1]
    by_cases h2 : ys.length > 10
    · rw [decide_eq_true h2]; rfl
    rw [decide_eq_false h2]
    by_cases h3 : ls.length > 10
    · rw [decide_eq_true h3]; rfl
    omega
  · have hl := loop24 (k := k) (r := r) (xs := xs) (ys := ys) (ls := ls) (by omega) ls.length 0 rounds (by omega) (by omega)
    rw [List.drop_zero] at hl
    have hb : longB xs ys ls = anyL ls := by
      unfold longB
      rw [decide_eq_false (by omega), decide_eq_false (by omega), decide_eq_false (by omega)]
      rfl
    rw [hb]
    cases ha : anyL ls with
    | true =>
      rw [ha] at hl
      refine .of (knowL_ok tbOk (N := N24l) ⟨orc0, ok0, hl⟩ ok0 (ep := e24) rfl norm24l count24l) rfl fun h => (run24_t k r xs ys ls h).trans ?_
      unfold pre24
      rw [d1, d2, d3, decide_eq_false (by omega), decide_eq_false (by omega), decide_eq_false (by omega), sameSt_self]
      rfl
    | false =>
      rw [ha] at hl
      refine .of (knowL_ok tbOk (N := N24l) ⟨orc0, ok0, hl⟩ ok0 (ep := e24) rfl norm24l count24l) rfl fun h => (run24_f k r xs ys ls _ h).trans ?_
      unfold pre24
      rw [d1, d2, d3, decide_eq_false (by omega), decide_eq_false (by omega), decide_eq_false (by omega), sameSt_self]
      rfl
end Go.Proofs.Ythlmbnhelkbchaa
/- UnitRuns: the law's run, where there is no unit, or more than is looked at. -/
namespace Go.Proofs.Ythlmbnhelkbchaa
open Go.Ev
set_option maxRecDepth 100000
noncomputable abbrev arg10 (u : AV) (ls : List (List Int)) (fr : Int) (cuts : List Int) : List AV := [u, lists ls, int64 fr, ints cuts]
noncomputable abbrev run10 (S : Orc) (u : AV) (ls : List (List Int)) (fr : Int) (cuts : List Int) : Option Bool := evCall Try.prog S tb 100 Bool (.fn 10) (arg10 u ls fr cuts) ⟨fun _ => none, 0⟩ .off done
noncomputable def SL10 (u : AV) (ls : List (List Int)) (b : Bool) (S : Orc) : Orc := know 12 [] (.bool true) (know 24 [u, lists ls] (.bool b) S)
noncomputable def pre10 (u : AV) (ls : List (List Int)) (fr : Int) (cuts : List Int) (x : Option Bool) : Option Bool :=
  bif same [] [] then bif same [u, lists ls] [u, lists ls] then
    bif decide (fr > 500) then (bif decide (fr ≤ 4096) then some true else bif decide ((cuts.length : Int) > 30) then some true else x) else bif decide ((cuts.length : Int) > 30) then some true else x
  else none else none
noncomputable def S18no (u : AV) (S : Orc) : Orc := knowO Try.prog scN 18 0 [] [] [u] [] (.tup [.ptr none, int64 1]) [] [(none, tyPt Try.prog 37)] (knowF 32 [u] (.tup [.agg (cellsR 0 0 [] [] ⟨0, 0, 0, 0, 0, false, 0, []⟩), int64 1]) S)
abbrev ob0 (rnd : Int) : Ob := ⟨0, 0, 0, 0, rnd, 0, 0, 0, 0, false⟩
abbrev rs0 (rnd : Int) : Rs := ⟨0, 0, 0, rnd, 0, false, 0, []⟩
noncomputable def S18y (k r : Int) (ui ua : List Int) (rnd : Int) (S : Orc) : Orc := knowO Try.prog scN 18 0 [] [] [unitV k r ui ua] [] (.tup [.ptr (some (11, 0)), int64 0]) [(11, .cells true (rawN k r ui ua rnd))] psN (knowF 32 [unitV k r ui ua] (.tup [.agg (cellsR k r ui ua (rs0 rnd)), int64 0]) S)
noncomputable abbrev new10 (u : AV) (x : Option Bool) : Option Bool := bif isSo ([u] = [u] ∧ ([] : List (Nat × Blk)) = []) then bif same [u] [u] then x else none else none
noncomputable def Serr (k r : Int) (ui ua : List Int) (rnd e fr : Int) (ls : List (List Int)) (S : Orc) : Orc := S18y k r ui ua rnd (knowO Try.prog scU 19 1 [] [] (argU fr ls) (objU k r ui ua (ob0 rnd)) (errU e) (objU2 k r ui ua (ob0 rnd)) psU (knowF 34 (argR k r ui ua (rs0 rnd) fr ls) (resR k r ui ua (rs0 rnd) (ints []) e) (O20 S)))
end Go.Proofs.Ythlmbnhelkbchaa
/- UnitRuns: the law's own loop, whatever the kind (but a delay). -/
namespace Go.Proofs.Ythlmbnhelkbchaa
open Go.Ev
set_option maxRecDepth 100000
abbrev RunF := List (List Int) → Nat → Ob → Ob × List Int
def GU (k r : Int) (ui ua : List Int) (m : Nat) (a : List AV) (l : List (Nat × Blk)) : Prop := ∃ (n : Nat) (ls : List (List Int)) (o : Ob), a = argU n ls ∧ l = objU k r ui ua o ∧ ls.length = m ∧ (∀ x ∈ ls, x.length = n) ∧ n ≤ 4096
def rU' (rf : RunF) (a : List AV) (l : List (Nat × Blk)) : Ob × List Int := rf (rowsOf (nth a 2)) (intOf (nth a 1)).toNat (obOf (objOf l))
noncomputable def VU (rf : RunF) (a : List AV) (l : List (Nat × Blk)) : ORes := ((.tup [ints (rU' rf a l).2, int64 0], [(0, .cells true (putOb (objOf l) (rU' rf a l).1)), (0, .cells true (putOb (objOf l) (rU' rf a l).1))]), psU)
def GC (k r : Int) (ui ua : List Int) (a : List AV) (l : List (Nat × Blk)) : Prop := ∃ o, a = [.ptr (some (0, 0))] ∧ l = objU k r ui ua o
noncomputable def VC (_ : List AV) (l : List (Nat × Blk)) : ORes := ((.ptr (some (1, 0)), [(0, .cells true (objOf l)), (1, .cells true (objOf l)), (0, .cells true (objOf l))]), psK)
noncomputable def S17 (k r : Int) (ui ua : List Int) (m : Nat) (rf : RunF) (S : Orc) : Orc := knowOW Try.prog scU 19 1 [] [] (GU k r ui ua m) (VU rf) (knowOW Try.prog scK 23 1 [] [] (GC k r ui ua) VC (O20 S))
def stR (k r : Int) (ui ua : List Int) (rnd fr : Int) (ls : List (List Int)) (cuts want : List Int) (o1 : Ob) (en : Rs) (at' n : Int) (o : Ob) : St := ⟨[.dead, lists ls, int64 fr, ints cuts, .dead, .dead, .dead, .dead, .dead, .ptr (some (21, 0)), .dead, .dead, .dead, .dead, .dead, ints want, int64 at', int64 n] ++ repA .dead 191,
  mkHeap [(21, .cells true (cellsU k r ui ua o)), (4, .cells true (cellsR k r ui ua en)), (2, .cells true (cellsR k r ui ua (rs0 rnd))), (1, .cells true (cellsU k r ui ua o1)), (0, .cells true [int64 k, int64 r, ints ui, ints ua])] 31, [], .off⟩
section
variable {A : Type}
def lenT' (fr : Int) (cuts : List Int) (at' n : Int) (f : Int → Option A) : Option A :=
  let B (k : Int) : Option A := f (minI k (w64 (fr - at')))
  let A' (k : Int) : Option A := bif decide (n > 100) then B fr else B k
  bif decide (n < (cuts.length : Int)) then ldI cuts n fun c => bif decide (c ≥ 0) then ldI cuts n fun c => A' (c.tmod 100) else A' (w64 (1 + at'.tmod 90)) else A' (w64 (1 + at'.tmod 90))
def cutV (xs : List Int) (lo hi : Int) : AV := .fz (takeA (dropA (xs.map int64) (lo.toNat * 1)) ((hi.toNat - lo.toNat) * 1)) (hi.toNat - lo.toNat) false 1
def cutT (xs : List Int) (lo hi : Int) (x : Option A) : Option A := guardK (decide (0 ≤ hi)) <| guardK (decide (0 ≤ lo)) <| guardK (Nat.ble hi.toNat xs.length) <| guardK (Nat.ble lo.toNat hi.toNat) x
noncomputable def roundT (k r : Int) (ui ua : List Int) (m : Nat) (rf : RunF) (rnd fr : Int) (ls : List (List Int)) (cuts want : List Int) (o1 : Ob) (en : Rs) (at' n : Int) (o : Ob) (kk : Int) (pieces : List AV) (K : Ex → St → Option A) : Option A :=
  let a : List AV := [.ptr (some (0, 0)), int64 kk, .fz pieces m false 1]
  let p := rU' rf a (objU k r ui ua o)
  bif isSo (GC k r ui ua [.ptr (some (0, 0))] (objU k r ui ua o)) then bif isSo (GU k r ui ua m a (objU k r ui ua o)) then bif isSo (GU k r ui ua m a (objU k r ui ua o)) then
    cutT want at' (w64 (at' + kk)) <| bif isSo (is20 [ints p.2, cutV want at' (w64 (at' + kk))]) then bif !(decide (rowOf (ints p.2) = rowOf (cutV want at' (w64 (at' + kk))))) then none else
      bif isSo (is20 [ints p.2, ints p.2]) then bif !(decide (rowOf (ints p.2) = rowOf (ints p.2))) then none else bif !(p.1.frame == p.1.frame) then none else
        K .normal (stR k r ui ua rnd fr ls cuts want o1 en (w64 (at' + kk)) (w64 (n + 1)) p.1)
      else none
    else none
  else none else none else none
end
theorem b17_1 {A : Type} (k r : Int) (ui ua : List Int) (rf : RunF) (rnd fr : Int) (xs : List Int) (cuts want : List Int) (o1 : Ob) (en : Rs) (at' n : Int) (o : Ob) (K : Ex → St → Option A) :
    loopB Try.prog (S17 k r ui ua 1 rf (stopAt 10 [34] orc0)) tb 10 17 22 (stR k r ui ua rnd fr [xs] cuts want o1 en at' n o) K =
    bif decide (at' < fr) then lenT' fr cuts at' n fun kk => cutT xs at' (w64 (at' + kk)) <| roundT k r ui ua 1 rf rnd fr [xs] cuts want o1 en at' n o kk [cutV xs at' (w64 (at' + kk))] K else K (.exit 0) (stR k r ui ua rnd fr [xs] cuts want o1 en at' n o) := by kernel_rfl
end Go.Proofs.Ythlmbnhelkbchaa
/- UnitRuns: the law's own loop, no rows or two; the law's run. -/
namespace Go.Proofs.Ythlmbnhelkbchaa
open Go.Ev
set_option maxRecDepth 100000
theorem b17_0 {A : Type} (k r : Int) (ui ua : List Int) (rf : RunF) (rnd fr : Int) (cuts want : List Int) (o1 : Ob) (en : Rs) (at' n : Int) (o : Ob) (K : Ex → St → Option A) :
    loopB Try.prog (S17 k r ui ua 0 rf (stopAt 10 [34] orc0)) tb 10 17 22 (stR k r ui ua rnd fr [] cuts want o1 en at' n o) K =
    bif decide (at' < fr) then lenT' fr cuts at' n fun kk => roundT k r ui ua 0 rf rnd fr [] cuts want o1 en at' n o kk [] K else K (.exit 0) (stR k r ui ua rnd fr [] cuts want o1 en at' n o) := by kernel_rfl
theorem b17_2 {A : Type} (k r : Int) (ui ua : List Int) (rf : RunF) (rnd fr : Int) (xs ys : List Int) (cuts want : List Int) (o1 : Ob) (en : Rs) (at' n : Int) (o : Ob) (K : Ex → St → Option A) :
    loopB Try.prog (S17 k r ui ua 2 rf (stopAt 10 [34] orc0)) tb 10 17 22 (stR k r ui ua rnd fr [xs, ys] cuts want o1 en at' n o) K =
    bif decide (at' < fr) then lenT' fr cuts at' n fun kk => cutT xs at' (w64 (at' + kk)) <| cutT ys at' (w64 (at' + kk)) <| roundT k r ui ua 2 rf rnd fr [xs, ys] cuts want o1 en at' n o kk [cutV xs at' (w64 (at' + kk)), cutV ys at' (w64 (at' + kk))] K else K (.exit 0) (stR k r ui ua rnd fr [xs, ys] cuts want o1 en at' n o) := by kernel_rfl
end Go.Proofs.Ythlmbnhelkbchaa
/- UnitRuns: the law's run. -/
namespace Go.Proofs.Ythlmbnhelkbchaa
open Go.Ev
set_option maxRecDepth 100000
def N17 : Norm := ⟨[1, 2, 3, 8, 9, 15, 16, 17], [(9, [10])]⟩
noncomputable def SG (k r : Int) (ui ua : List Int) (m : Nat) (rf : RunF) (rnd fr : Int) (ls : List (List Int)) (en : Rs) (want : List Int) (st0 s1 : St) (S : Orc) : Orc :=
  S18y k r ui ua rnd (knowF 34 (argR k r ui ua (rs0 rnd) fr ls) (resR k r ui ua en (ints want) 0) (S17 k r ui ua m rf (knowL Try.prog 10 17 N17 22 st0 (.exit 0) s1 S)))
end Go.Proofs.Ythlmbnhelkbchaa
