/- UnitRuns: what is asked of a kind, kind by kind. Printed by uvkgen.py. -/
import Derived.Test.YthlmbnhelkbchaaJ27
namespace Go.Proofs.Ythlmbnhelkbchaa
open Go.Ev
set_option maxRecDepth 100000
theorem unit_nowV (f : FuncId) (hp : parsOf Try.prog f = [26]) (k r : Int) (xs ys : List Int) : vwArgs Try.prog [] none0 (parsOf Try.prog f) [unitV k r xs ys] = [unitV k r xs ys] := by
  rw [hp]
  kernel_rfl
theorem N18_ok {k r : Int} {xs ys : List Int} (h : F 29 [unitV k r xs ys] (.bool true)) : Ok (N18 (unitV k r xs ys)) := knowC_ok tbOk (h.now (unit_nowV 29 (by kernel_rfl) _ _ _ _)) (OC2_ok ok0)
theorem N32_ok {k r : Int} {xs ys : List Int} (h : F 13 [unitV k r xs ys] (.bool true)) : Ok (N32 (unitV k r xs ys)) := knowC_ok tbOk (h.now (unit_nowV 13 (by kernel_rfl) _ _ _ _)) ok0
theorem Us_eq {A : Type} (u : AV) (x : Option A) : Us u x = x := by show (bif same [u] [u] then x else none) = x; rw [same_self]; rfl
theorem Zs_eq {A : Type} (l : List Int) (x : Option A) : Zs l x = x := by show (bif sameV (ints l) (ints l) then x else none) = x; rw [sameV_ints]; rfl
theorem shape_noV {k r : Int} {xs ys : List Int} (h29 : F 29 [unitV k r xs ys] (.bool false)) (h13 : F 13 [unitV k r xs ys] (.bool false)) (p : Prop) : ∃ v, F 29 [unitV k r xs ys] (.bool v) ∧ F 13 [unitV k r xs ys] (.bool v) ∧ (v = true → p) := ⟨false, h29, h13, fun h => by cases h⟩
theorem len0 {ls : List (List Int)} (h : ls.length = 0) : ls = [] := List.length_eq_zero_iff.1 h
theorem len1 {ls : List (List Int)} (h : ls.length = 1) : ∃ xs, ls = [xs] := List.length_eq_one_iff.1 h
theorem len2 {ls : List (List Int)} (h : ls.length = 2) : ∃ xs ys, ls = [xs, ys] := by
  rcases ls with _ | ⟨a, _ | ⟨b, _ | ⟨c, t⟩⟩⟩ <;> simp at h
  exact ⟨a, b, rfl⟩
theorem cutL_get (xs : List Int) (a kk q : Nat) (h : q < kk) : (cutL xs a kk).getD (0 + q) 0 = xs.getD (a + q) 0 := by
  unfold cutL
  rw [List.getD_eq_getElem?_getD, List.getD_eq_getElem?_getD, Nat.zero_add, List.getElem?_take, if_pos h, List.getElem?_drop]
theorem sizeT_bad {A : Type} {n : Nat} (x y : Option A) : ∀ (ls : List (List Int)), ¬ (∀ l ∈ ls, l.length = n) → sizeT (n : Int) x y ls = x
  | [], h => absurd (fun l hl => absurd hl List.not_mem_nil) h
  | l :: ls, h => by
    by_cases hl : l.length = n
    · have : ¬ ∀ l ∈ ls, l.length = n := fun h' => h fun m hm => by
        rcases List.mem_cons.1 hm with rfl | hm
        · exact hl
        · exact h' m hm
      have ih := sizeT_bad x y ls this
      simp only [sizeT]
      rw [ih]
      cases hb : ((l.length : Int) == (n : Int)) <;> simp_all
    · simp only [sizeT]
      rw [show ((l.length : Int) == (n : Int)) = false from by rw [beq_eq_false_iff_ne]; omega]
      rfl
theorem sizeRT_bad {A : Type} {n : Nat} (x y : Option A) : ∀ (ls : List (List Int)), ¬ (∀ l ∈ ls, l.length = n) → sizeRT (n : Int) x y ls = x
  | [], h => absurd (fun l hl => absurd hl List.not_mem_nil) h
  | l :: ls, h => by
    by_cases hl : l.length = n
    · have : ¬ ∀ l ∈ ls, l.length = n := fun h' => h fun m hm => by
        rcases List.mem_cons.1 hm with rfl | hm
        · exact hl
        · exact h' m hm
      have ih := sizeRT_bad x y ls this
      simp only [sizeRT]
      rw [ih]
      cases hb : ((l.length : Int) == (n : Int)) <;> simp_all
    · simp only [sizeRT]
      rw [show ((l.length : Int) == (n : Int)) = false from by rw [beq_eq_false_iff_ne]; omega]
      rfl
theorem runO_frame {r : Int} {F : Nat → Ob → Ob} (hF : ∀ i o, (F i o).frame = o.frame) : ∀ (d i : Nat) (o : Ob), 0 ≤ o.frame → o.frame + d ≤ 1000000 → (runO r F i d o).1.frame = o.frame + d
  | 0, _, o, _, _ => by simp [runO]
  | d + 1, i, o, h0, h1 => by
    have e : (onO r F i o).frame = o.frame + 1 := by
      have : (onO r F i o).frame = w64 ((bif due r o.frame then F i o else o).frame + 1) := rfl
      rw [this]
      have : (bif due r o.frame then F i o else o).frame = o.frame := by cases due r o.frame <;> simp [hF]
      rw [this]
      unfold w64
      rw [IntKind.wrap_i64]
      omega
    have ih := runO_frame (r := r) hF d (i + 1) (onO r F i o) (by omega) (by omega)
    simp only [runO]
    rw [ih, e]
    omega
theorem same_of {r : Int} {F : Nat → Ob → Ob} {G : StepF} {C : Nat → Ob → Rs → Prop} {n : Nat} (hr : 1 ≤ r ∧ r ≤ 3) (hn : n ≤ 500) (A : Alike F G C n) (hF : ∀ i o, (F i o).frame = o.frame) {rnd : Int} (h : C 0 (ob0 rnd) (rs0 rnd)) :
    (runO r F 0 n (ob0 rnd)).2 = (runR r G 0 n (rs0 rnd)).2 ∧ (runO r F 0 n (ob0 rnd)).1.frame = (runR r G 0 n (rs0 rnd)).1.frame ∧ (runO r F 0 n (ob0 rnd)).1.frame = (n : Int) := by
  have hr' : r = 1 ∨ r = 2 ∨ r = 3 := by omega
  obtain ⟨h1, h2⟩ := run_same hr' A n 0 (ob0 rnd) (rs0 rnd) (by omega) ⟨h, rfl, rfl⟩
  refine ⟨h1, h2.f, ?_⟩
  rw [runO_frame (r := r) hF n 0 (ob0 rnd) (by show (0 : Int) ≤ 0; omega) (by show (0 : Int) + n ≤ _; omega)]
  show (0 : Int) + n = n
  omega
theorem copy_of (k r : Int) (ui ua : List Int) (o : Ob) : OFact Try.prog tb scK 23 1 [] [.ptr (some (0, 0))] (objU k r ui ua o) (.ptr (some (1, 0))) [(0, .cells true (cellsU k r ui ua o)), (1, .cells true (cellsU k r ui ua o)), (0, .cells true (cellsU k r ui ua o))] psK := ⟨_, OC2_ok ok0, c23 k r ui ua o⟩
theorem loop_0 (k r : Int) (ui ua : List Int) (rf : RunF) (rnd fr : Int) (ls : List (List Int)) (cuts want : List Int) (o1 : Ob) (en : Rs) (at' n : Int) (o : Ob) (K : Ex → St → Option (Ex × St)) (hm : ls.length = 0) : loopB Try.prog (S17 k r ui ua 0 rf (stopAt 10 [34] orc0)) tb 10 17 22 (stR k r ui ua rnd fr ls cuts want o1 en at' n o) K =
      bif decide (at' < fr) then lenT' fr cuts at' n fun kk => cutsT at' (w64 (at' + kk)) (roundT k r ui ua 0 rf rnd fr ls cuts want o1 en at' n o kk (ls.map fun xs => cutV xs at' (w64 (at' + kk))) K) ls else K (.exit 0) (stR k r ui ua rnd fr ls cuts want o1 en at' n o) := by
  rw [len0 hm]
  exact b17_0 k r ui ua rf rnd fr cuts want o1 en at' n o K
theorem loop_1 (k r : Int) (ui ua : List Int) (rf : RunF) (rnd fr : Int) (ls : List (List Int)) (cuts want : List Int) (o1 : Ob) (en : Rs) (at' n : Int) (o : Ob) (K : Ex → St → Option (Ex × St)) (hm : ls.length = 1) : loopB Try.prog (S17 k r ui ua 1 rf (stopAt 10 [34] orc0)) tb 10 17 22 (stR k r ui ua rnd fr ls cuts want o1 en at' n o) K =
      bif decide (at' < fr) then lenT' fr cuts at' n fun kk => cutsT at' (w64 (at' + kk)) (roundT k r ui ua 1 rf rnd fr ls cuts want o1 en at' n o kk (ls.map fun xs => cutV xs at' (w64 (at' + kk))) K) ls else K (.exit 0) (stR k r ui ua rnd fr ls cuts want o1 en at' n o) := by
  obtain ⟨xs, rfl⟩ := len1 hm
  exact b17_1 k r ui ua rf rnd fr xs cuts want o1 en at' n o K
theorem loop_2 (k r : Int) (ui ua : List Int) (rf : RunF) (rnd fr : Int) (ls : List (List Int)) (cuts want : List Int) (o1 : Ob) (en : Rs) (at' n : Int) (o : Ob) (K : Ex → St → Option (Ex × St)) (hm : ls.length = 2) : loopB Try.prog (S17 k r ui ua 2 rf (stopAt 10 [34] orc0)) tb 10 17 22 (stR k r ui ua rnd fr ls cuts want o1 en at' n o) K =
      bif decide (at' < fr) then lenT' fr cuts at' n fun kk => cutsT at' (w64 (at' + kk)) (roundT k r ui ua 2 rf rnd fr ls cuts want o1 en at' n o kk (ls.map fun xs => cutV xs at' (w64 (at' + kk))) K) ls else K (.exit 0) (stR k r ui ua rnd fr ls cuts want o1 en at' n o) := by
  obtain ⟨xs, ys, rfl⟩ := len2 hm
  exact b17_2 k r ui ua rf rnd fr xs ys cuts want o1 en at' n o K
theorem sh_1 (r : Int) (xs ys : List Int) : ∃ v, F 29 [unitV 1 r xs ys] (.bool v) ∧ F 13 [unitV 1 r xs ys] (.bool v) ∧ (v = true → ∃ u0, xs = [u0] ∧ ys = [] ∧ (1 ≤ r ∧ r ≤ 3)) := by
  by_cases hm : xs.length = 1 ∧ ys.length = 0
  · obtain ⟨hx, hy⟩ := hm
    rcases xs with _ | ⟨u0, _ | ⟨_, _⟩⟩ <;> simp at hx
    rcases ys with _ | ⟨_, _⟩ <;> simp at hy
    refine ⟨_, .of ok0 rfl fun h => (v29_1 r u0 h).trans (ch_eq _ _), .of ok0 rfl fun h => (v13_1 r u0 h).trans ((ch_eq _ _).trans ?_), fun h => ?_⟩
    · congr 2 <;> first | done | rfl |
      (rw [Bool.eq_iff_iff]
       simp only [allc, Bool.and_true, Bool.and_eq_true, Bool.not_eq_true', decide_eq_false_iff_not, Bool.not_not, decide_eq_true_eq, Int.not_lt] <;> omega)
    · simp only [allc, Bool.and_true, Bool.and_eq_true, Bool.not_not, decide_eq_true_eq] at h
      exact ⟨u0, rfl, rfl, by omega⟩
  · refine shape_noV (.of (stopAt_ok ok0) rfl fun h => (m29_1 r xs ys h).trans (ch_none _ ?_)) (.of (stopAt_ok ok0) rfl fun h => (m13_1 r xs ys h).trans (ch_none _ ?_)) _ <;>
      (rw [← Bool.not_eq_true]
       simp only [allc, Bool.and_true, Bool.and_eq_true, Bool.not_eq_true', decide_eq_false_iff_not, Bool.not_not, decide_eq_true_eq, beq_iff_eq]
       omega)
theorem kd_1 {r u0 : Int} (hr : 1 ≤ r ∧ r ≤ 3) (h29 : F 29 [(unitV 1 r [u0] [])] (.bool true)) (h13 : F 13 [(unitV 1 r [u0] [])] (.bool true)) : KindU 1 r [u0] [] 1 0 (fun ls => F1 (ls.getD 0 [])) (fun ls => H1 (ls.getD 0 [])) where
  new := ⟨_, N18_ok h29, (n18_1 r u0).trans ((Us_eq _ _).trans (Zs_eq _ _))⟩
  newR := ⟨unit_nowV 32 (by kernel_rfl) _ _ _ _, _, N32_ok h13, (n32_1 r u0).trans (Us_eq _ _)⟩
  bad n ls hn hno := by
    by_cases hm : ls.length = 1
    · have hl : ¬ ∀ l ∈ ls, l.length = n := fun h => hno ⟨hm, h⟩
      obtain ⟨xs, rfl⟩ := len1 hm
      refine ⟨⟨_, stopAt_ok (OI_ok ok0), (eb_1 r u0 n _ xs).trans ?_⟩, ar34 _ _ _ _ _ _ _, _, stopAt_ok ok0, (ebR_1 r u0 n _ xs).trans ?_⟩
      · rw [rangeT_ok hn, sizeT_bad _ _ _ hl] <;> rfl
      · rw [rangeRT_ok hn, sizeRT_bad _ _ _ hl]
    · refine ⟨⟨_, stopAt_ok (OI_ok ok0), (ea_1 r u0 n _ ls).trans ?_⟩, ar34 _ _ _ _ _ _ _, _, stopAt_ok ok0, (eaR_1 r u0 n _ ls).trans ?_⟩
      · rw [rangeT_ok hn, show ((ls.length : Int) == 1) = false from by rw [beq_eq_false_iff_ne]; omega]
        rfl
      · rw [rangeRT_ok hn, show ((ls.length : Int) == 1) = false from by rw [beq_eq_false_iff_ne]; omega]
        rfl
  rnI n ls o hn hm hl := by
    obtain ⟨xs, rfl⟩ := len1 hm
    have hxs : xs.length = n := hl _ List.mem_cons_self
    exact run_fact (OI_ok ok0) (round1' hxs) (runs1 r u0 xs) hn hl trivial
  rnR n ls hn hm hl := by
    obtain ⟨xs, rfl⟩ := len1 hm
    have hxs : xs.length = n := hl _ List.mem_cons_self
    exact runR_fact (OT_ok ok0) (rdR_1 hxs) (rnR_1 r u0 xs) (by omega) hl trivial
  same n ls hn hm hl := by
    obtain ⟨xs, rfl⟩ := len1 hm
    exact same_of hr hn (al_1 n xs) (fun _ _ => rfl) rfl
  cut ls fr a kk q hm hl hk hq := by
    obtain ⟨xs, rfl⟩ := len1 hm
    show F1 (cutL xs a kk) (0 + q) = F1 xs (a + q)
    funext o
    unfold F1
    simp only [cutL_get _ a kk q hq]
  loop := fun fr ls cuts want o1 en at' n o K hm => loop_1 _ _ _ _ _ _ fr ls cuts want o1 en at' n o K hm
  copy := copy_of _ _ _ _
theorem sh_2 (r : Int) (xs ys : List Int) : ∃ v, F 29 [unitV 2 r xs ys] (.bool v) ∧ F 13 [unitV 2 r xs ys] (.bool v) ∧ (v = true → ∃ u0 u1, xs = [u0, u1] ∧ ys = [] ∧ (1 ≤ r ∧ r ≤ 3)) := by
  by_cases hm : xs.length = 2 ∧ ys.length = 0
  · obtain ⟨hx, hy⟩ := hm
    rcases xs with _ | ⟨u0, _ | ⟨u1, _ | ⟨_, _⟩⟩⟩ <;> simp at hx
    rcases ys with _ | ⟨_, _⟩ <;> simp at hy
    refine ⟨_, .of ok0 rfl fun h => (v29_2 r u0 u1 h).trans (ch_eq _ _), .of ok0 rfl fun h => (v13_2 r u0 u1 h).trans ((ch_eq _ _).trans ?_), fun h => ?_⟩
    · congr 2 <;> first | done | rfl |
      (rw [Bool.eq_iff_iff]
       simp only [allc, Bool.and_true, Bool.and_eq_true, Bool.not_eq_true', decide_eq_false_iff_not, Bool.not_not, decide_eq_true_eq, Int.not_lt] <;> omega)
    · simp only [allc, Bool.and_true, Bool.and_eq_true, Bool.not_not, decide_eq_true_eq] at h
      exact ⟨u0, u1, rfl, rfl, by omega⟩
  · refine shape_noV (.of (stopAt_ok ok0) rfl fun h => (m29_2 r xs ys h).trans (ch_none _ ?_)) (.of (stopAt_ok ok0) rfl fun h => (m13_2 r xs ys h).trans (ch_none _ ?_)) _ <;>
      (rw [← Bool.not_eq_true]
       simp only [allc, Bool.and_true, Bool.and_eq_true, Bool.not_eq_true', decide_eq_false_iff_not, Bool.not_not, decide_eq_true_eq, beq_iff_eq]
       omega)
theorem kd_2 {r u0 u1 : Int} (hr : 1 ≤ r ∧ r ≤ 3) (h29 : F 29 [(unitV 2 r [u0, u1] [])] (.bool true)) (h13 : F 13 [(unitV 2 r [u0, u1] [])] (.bool true)) : KindU 2 r [u0, u1] [] 2 0 (fun ls => F2 (ls.getD 0 []) (ls.getD 1 [])) (fun ls => H2 (ls.getD 0 []) (ls.getD 1 [])) where
  new := ⟨_, N18_ok h29, (n18_2 r u0 u1).trans ((Us_eq _ _).trans (Zs_eq _ _))⟩
  newR := ⟨unit_nowV 32 (by kernel_rfl) _ _ _ _, _, N32_ok h13, (n32_2 r u0 u1).trans (Us_eq _ _)⟩
  bad n ls hn hno := by
    by_cases hm : ls.length = 2
    · have hl : ¬ ∀ l ∈ ls, l.length = n := fun h => hno ⟨hm, h⟩
      obtain ⟨xs, ys, rfl⟩ := len2 hm
      refine ⟨⟨_, stopAt_ok (OI_ok ok0), (eb_2 r u0 u1 n _ xs ys).trans ?_⟩, ar34 _ _ _ _ _ _ _, _, stopAt_ok ok0, (ebR_2 r u0 u1 n _ xs ys).trans ?_⟩
      · rw [rangeT_ok hn, sizeT_bad _ _ _ hl] <;> rfl
      · rw [rangeRT_ok hn, sizeRT_bad _ _ _ hl]
    · refine ⟨⟨_, stopAt_ok (OI_ok ok0), (ea_2 r u0 u1 n _ ls).trans ?_⟩, ar34 _ _ _ _ _ _ _, _, stopAt_ok ok0, (eaR_2 r u0 u1 n _ ls).trans ?_⟩
      · rw [rangeT_ok hn, show ((ls.length : Int) == 2) = false from by rw [beq_eq_false_iff_ne]; omega]
        rfl
      · rw [rangeRT_ok hn, show ((ls.length : Int) == 2) = false from by rw [beq_eq_false_iff_ne]; omega]
        rfl
  rnI n ls o hn hm hl := by
    obtain ⟨xs, ys, rfl⟩ := len2 hm
    have hxs : xs.length = n := hl _ List.mem_cons_self
    have hys : ys.length = n := hl _ (List.mem_cons_of_mem _ List.mem_cons_self)
    exact run_fact (OI_ok ok0) (round2' hxs hys) (runs2 r u0 u1 xs ys) hn hl trivial
  rnR n ls hn hm hl := by
    obtain ⟨xs, ys, rfl⟩ := len2 hm
    have hxs : xs.length = n := hl _ List.mem_cons_self
    have hys : ys.length = n := hl _ (List.mem_cons_of_mem _ List.mem_cons_self)
    exact runR_fact (OT_ok ok0) (rdR_2 hxs hys) (rnR_2 r u0 u1 xs ys) (by omega) hl trivial
  same n ls hn hm hl := by
    obtain ⟨xs, ys, rfl⟩ := len2 hm
    exact same_of hr hn (al_2 n xs ys) (fun _ _ => rfl) rfl
  cut ls fr a kk q hm hl hk hq := by
    obtain ⟨xs, ys, rfl⟩ := len2 hm
    show F2 (cutL xs a kk) (cutL ys a kk) (0 + q) = F2 xs ys (a + q)
    funext o
    unfold F2
    simp only [cutL_get _ a kk q hq]
  loop := fun fr ls cuts want o1 en at' n o K hm => loop_2 _ _ _ _ _ _ fr ls cuts want o1 en at' n o K hm
  copy := copy_of _ _ _ _
theorem sh_3 (r : Int) (xs ys : List Int) : ∃ v, F 29 [unitV 3 r xs ys] (.bool v) ∧ F 13 [unitV 3 r xs ys] (.bool v) ∧ (v = true → ∃ u0, xs = [u0] ∧ ys = [] ∧ (1 ≤ r ∧ r ≤ 3)) := by
  by_cases hm : xs.length = 1 ∧ ys.length = 0
  · obtain ⟨hx, hy⟩ := hm
    rcases xs with _ | ⟨u0, _ | ⟨_, _⟩⟩ <;> simp at hx
    rcases ys with _ | ⟨_, _⟩ <;> simp at hy
    refine ⟨_, .of ok0 rfl fun h => (v29_3 r u0 h).trans (ch_eq _ _), .of ok0 rfl fun h => (v13_3 r u0 h).trans ((ch_eq _ _).trans ?_), fun h => ?_⟩
    · congr 2 <;> first | done | rfl |
      (rw [Bool.eq_iff_iff]
       simp only [allc, Bool.and_true, Bool.and_eq_true, Bool.not_eq_true', decide_eq_false_iff_not, Bool.not_not, decide_eq_true_eq, Int.not_lt] <;> omega)
    · simp only [allc, Bool.and_true, Bool.and_eq_true, Bool.not_not, decide_eq_true_eq] at h
      exact ⟨u0, rfl, rfl, by omega⟩
  · refine shape_noV (.of (stopAt_ok ok0) rfl fun h => (m29_3 r xs ys h).trans (ch_none _ ?_)) (.of (stopAt_ok ok0) rfl fun h => (m13_3 r xs ys h).trans (ch_none _ ?_)) _ <;>
      (rw [← Bool.not_eq_true]
       simp only [allc, Bool.and_true, Bool.and_eq_true, Bool.not_eq_true', decide_eq_false_iff_not, Bool.not_not, decide_eq_true_eq, beq_iff_eq]
       omega)
theorem kd_3 {r u0 : Int} (hr : 1 ≤ r ∧ r ≤ 3) (h29 : F 29 [(unitV 3 r [u0] [])] (.bool true)) (h13 : F 13 [(unitV 3 r [u0] [])] (.bool true)) : KindU 3 r [u0] [] 1 0 (fun ls => F3 (ls.getD 0 [])) (fun ls => H3 (ls.getD 0 [])) where
  new := ⟨_, N18_ok h29, (n18_3 r u0).trans ((Us_eq _ _).trans (Zs_eq _ _))⟩
  newR := ⟨unit_nowV 32 (by kernel_rfl) _ _ _ _, _, N32_ok h13, (n32_3 r u0).trans (Us_eq _ _)⟩
  bad n ls hn hno := by
    by_cases hm : ls.length = 1
    · have hl : ¬ ∀ l ∈ ls, l.length = n := fun h => hno ⟨hm, h⟩
      obtain ⟨xs, rfl⟩ := len1 hm
      refine ⟨⟨_, stopAt_ok (OI_ok ok0), (eb_3 r u0 n _ xs).trans ?_⟩, ar34 _ _ _ _ _ _ _, _, stopAt_ok ok0, (ebR_3 r u0 n _ xs).trans ?_⟩
      · rw [rangeT_ok hn, sizeT_bad _ _ _ hl] <;> rfl
      · rw [rangeRT_ok hn, sizeRT_bad _ _ _ hl]
    · refine ⟨⟨_, stopAt_ok (OI_ok ok0), (ea_3 r u0 n _ ls).trans ?_⟩, ar34 _ _ _ _ _ _ _, _, stopAt_ok ok0, (eaR_3 r u0 n _ ls).trans ?_⟩
      · rw [rangeT_ok hn, show ((ls.length : Int) == 1) = false from by rw [beq_eq_false_iff_ne]; omega]
        rfl
      · rw [rangeRT_ok hn, show ((ls.length : Int) == 1) = false from by rw [beq_eq_false_iff_ne]; omega]
        rfl
  rnI n ls o hn hm hl := by
    obtain ⟨xs, rfl⟩ := len1 hm
    have hxs : xs.length = n := hl _ List.mem_cons_self
    exact run_fact (OI_ok ok0) (round3' hxs) (runs3 r u0 xs) hn hl trivial
  rnR n ls hn hm hl := by
    obtain ⟨xs, rfl⟩ := len1 hm
    have hxs : xs.length = n := hl _ List.mem_cons_self
    exact runR_fact (OT_ok ok0) (rdR_3 hxs) (rnR_3 r u0 xs) (by omega) hl trivial
  same n ls hn hm hl := by
    obtain ⟨xs, rfl⟩ := len1 hm
    exact same_of hr hn (al_3 n xs) (fun _ _ => rfl) rfl
  cut ls fr a kk q hm hl hk hq := by
    obtain ⟨xs, rfl⟩ := len1 hm
    show F3 (cutL xs a kk) (0 + q) = F3 xs (a + q)
    funext o
    unfold F3
    simp only [cutL_get _ a kk q hq]
  loop := fun fr ls cuts want o1 en at' n o K hm => loop_1 _ _ _ _ _ _ fr ls cuts want o1 en at' n o K hm
  copy := copy_of _ _ _ _
theorem sh_4 (r : Int) (xs ys : List Int) : ∃ v, F 29 [unitV 4 r xs ys] (.bool v) ∧ F 13 [unitV 4 r xs ys] (.bool v) ∧ (v = true → ∃ y0, xs = [] ∧ ys = [y0] ∧ (1 ≤ r ∧ r ≤ 3)) := by
  by_cases hm : xs.length = 0 ∧ ys.length = 1
  · obtain ⟨hx, hy⟩ := hm
    rcases xs with _ | ⟨_, _⟩ <;> simp at hx
    rcases ys with _ | ⟨y0, _ | ⟨_, _⟩⟩ <;> simp at hy
    refine ⟨_, .of ok0 rfl fun h => (v29_4 r y0 h).trans (ch_eq _ _), .of ok0 rfl fun h => (v13_4 r y0 h).trans ((ch_eq _ _).trans ?_), fun h => ?_⟩
    · congr 2 <;> first | done | rfl |
      (rw [Bool.eq_iff_iff]
       simp only [allc, Bool.and_true, Bool.and_eq_true, Bool.not_eq_true', decide_eq_false_iff_not, Bool.not_not, decide_eq_true_eq, Int.not_lt] <;> omega)
    · simp only [allc, Bool.and_true, Bool.and_eq_true, Bool.not_not, decide_eq_true_eq] at h
      exact ⟨y0, rfl, rfl, by omega⟩
  · refine shape_noV (.of (stopAt_ok ok0) rfl fun h => (m29_4 r xs ys h).trans (ch_none _ ?_)) (.of (stopAt_ok ok0) rfl fun h => (m13_4 r xs ys h).trans (ch_none _ ?_)) _ <;>
      (rw [← Bool.not_eq_true]
       simp only [allc, Bool.and_true, Bool.and_eq_true, Bool.not_eq_true', decide_eq_false_iff_not, Bool.not_not, decide_eq_true_eq, beq_iff_eq]
       omega)
theorem kd_4 {r y0 : Int} (hr : 1 ≤ r ∧ r ≤ 3) (h29 : F 29 [(unitV 4 r [] [y0])] (.bool true)) (h13 : F 13 [(unitV 4 r [] [y0])] (.bool true)) : KindU 4 r [] [y0] 0 y0 (fun _ => F4) (fun _ => H4) where
  new := ⟨_, N18_ok h29, (n18_4 r y0).trans ((Us_eq _ _).trans (Zs_eq _ _))⟩
  newR := ⟨unit_nowV 32 (by kernel_rfl) _ _ _ _, _, N32_ok h13, (n32_4 r y0).trans (Us_eq _ _)⟩
  bad n ls hn hno := by
    by_cases hm : ls.length = 0
    · refine absurd ⟨hm, fun l hl => ?_⟩ hno
      rw [len0 hm] at hl
      exact absurd hl List.not_mem_nil
    · refine ⟨⟨_, stopAt_ok (OI_ok ok0), (ea_4 r y0 n _ ls).trans ?_⟩, ar34 _ _ _ _ _ _ _, _, stopAt_ok ok0, (eaR_4 r y0 n _ ls).trans ?_⟩
      · rw [rangeT_ok hn, show ((ls.length : Int) == 0) = false from by rw [beq_eq_false_iff_ne]; omega]
        rfl
      · rw [rangeRT_ok hn, show ((ls.length : Int) == 0) = false from by rw [beq_eq_false_iff_ne]; omega]
        rfl
  rnI n ls o hn hm hl := by
    have := len0 hm; subst this
    exact run_fact (OS_ok ok0) rd_4 (rn_4 r y0 ) hn hl trivial
  rnR n ls hn hm hl := by
    have := len0 hm; subst this
    exact runR_fact (OT_ok ok0) rdR_4 (rnR_4 r y0 ) (by omega) hl trivial
  same n ls hn hm hl := by
    have := len0 hm; subst this
    exact same_of hr hn (al_4 n) (fun _ _ => rfl) rfl
  cut ls fr a kk q hm hl hk hq := by
    have := len0 hm; subst this
    rfl
  loop := fun fr ls cuts want o1 en at' n o K hm => loop_0 _ _ _ _ _ _ fr ls cuts want o1 en at' n o K hm
  copy := copy_of _ _ _ _
theorem sh_5 (r : Int) (xs ys : List Int) : ∃ v, F 29 [unitV 5 r xs ys] (.bool v) ∧ F 13 [unitV 5 r xs ys] (.bool v) ∧ (v = true → ∃ y0 y1 y2, xs = [] ∧ ys = [y0, y1, y2] ∧ (1 ≤ r ∧ r ≤ 3) ∧ (-1099511627776 ≤ y0 ∧ y0 ≤ 1099511627776 ∧ -1099511627776 ≤ y1 ∧ y1 ≤ 1099511627776 ∧ 1 ≤ y2 ∧ y2 ≤ 1000000000)) := by
  by_cases hm : xs.length = 0 ∧ ys.length = 3
  · obtain ⟨hx, hy⟩ := hm
    rcases xs with _ | ⟨_, _⟩ <;> simp at hx
    rcases ys with _ | ⟨y0, _ | ⟨y1, _ | ⟨y2, _ | ⟨_, _⟩⟩⟩⟩ <;> simp at hy
    refine ⟨_, .of ok0 rfl fun h => (v29_5 r y0 y1 y2 h).trans (ch_eq _ _), .of ok0 rfl fun h => (v13_5 r y0 y1 y2 h).trans ((ch_eq _ _).trans ?_), fun h => ?_⟩
    · congr 2 <;> first | done | rfl |
      (rw [Bool.eq_iff_iff]
       simp only [allc, Bool.and_true, Bool.and_eq_true, Bool.not_eq_true', decide_eq_false_iff_not, Bool.not_not, decide_eq_true_eq, Int.not_lt] <;> omega)
    · simp only [allc, Bool.and_true, Bool.and_eq_true, Bool.not_not, decide_eq_true_eq] at h
      exact ⟨y0, y1, y2, rfl, rfl, by omega, by omega⟩
  · refine shape_noV (.of (stopAt_ok ok0) rfl fun h => (m29_5 r xs ys h).trans (ch_none _ ?_)) (.of (stopAt_ok ok0) rfl fun h => (m13_5 r xs ys h).trans (ch_none _ ?_)) _ <;>
      (rw [← Bool.not_eq_true]
       simp only [allc, Bool.and_true, Bool.and_eq_true, Bool.not_eq_true', decide_eq_false_iff_not, Bool.not_not, decide_eq_true_eq, beq_iff_eq]
       omega)
theorem kd_5 {r y0 y1 y2 : Int} (hr : 1 ≤ r ∧ r ≤ 3) (hb : (-1099511627776 ≤ y0 ∧ y0 ≤ 1099511627776 ∧ -1099511627776 ≤ y1 ∧ y1 ≤ 1099511627776 ∧ 1 ≤ y2 ∧ y2 ≤ 1000000000)) (h29 : F 29 [(unitV 5 r [] [y0, y1, y2])] (.bool true)) (h13 : F 13 [(unitV 5 r [] [y0, y1, y2])] (.bool true)) : KindU 5 r [] [y0, y1, y2] 0 0 (fun _ => F5 y0 y1 y2) (fun _ => H5 y0 y1 y2) where
  new := ⟨_, N18_ok h29, (n18_5 r y0 y1 y2).trans ((Us_eq _ _).trans (Zs_eq _ _))⟩
  newR := ⟨unit_nowV 32 (by kernel_rfl) _ _ _ _, _, N32_ok h13, (n32_5 r y0 y1 y2).trans (Us_eq _ _)⟩
  bad n ls hn hno := by
    by_cases hm : ls.length = 0
    · refine absurd ⟨hm, fun l hl => ?_⟩ hno
      rw [len0 hm] at hl
      exact absurd hl List.not_mem_nil
    · refine ⟨⟨_, stopAt_ok (OI_ok ok0), (ea_5 r y0 y1 y2 n _ ls).trans ?_⟩, ar34 _ _ _ _ _ _ _, _, stopAt_ok ok0, (eaR_5 r y0 y1 y2 n _ ls).trans ?_⟩
      · rw [rangeT_ok hn, show ((ls.length : Int) == 0) = false from by rw [beq_eq_false_iff_ne]; omega]
        rfl
      · rw [rangeRT_ok hn, show ((ls.length : Int) == 0) = false from by rw [beq_eq_false_iff_ne]; omega]
        rfl
  rnI n ls o hn hm hl := by
    obtain ⟨b1, b2, b3, b4, b5, b6⟩ := hb
    have a0 : -2199023255552 ≤ w64 (y1 - y0) := by unfold w64; rw [IntKind.wrap_i64]; omega
    have a1 : w64 (y1 - y0) ≤ 2199023255552 := by unfold w64; rw [IntKind.wrap_i64]; omega
    have := len0 hm; subst this
    exact run_fact (OS_ok ok0) (rd_5 (by omega)) (rn_5 r y0 y1 y2 ) hn hl trivial
  rnR n ls hn hm hl := by
    obtain ⟨b1, b2, b3, b4, b5, b6⟩ := hb
    have a0 : -2199023255552 ≤ w64 (y1 - y0) := by unfold w64; rw [IntKind.wrap_i64]; omega
    have a1 : w64 (y1 - y0) ≤ 2199023255552 := by unfold w64; rw [IntKind.wrap_i64]; omega
    have := len0 hm; subst this
    exact runR_fact (OTh_ok ok0) (rdR_5 (c := 0) a0 a1 b5 b6 (by omega)) (rnR_5 r y0 y1 y2 ) (by omega) hl ⟨Int.le_refl 0, by show (0 : Int) ≤ 0 + ((0 : Nat) : Int); omega⟩
  same n ls hn hm hl := by
    obtain ⟨b1, b2, b3, b4, b5, b6⟩ := hb
    have a0 : -2199023255552 ≤ w64 (y1 - y0) := by unfold w64; rw [IntKind.wrap_i64]; omega
    have a1 : w64 (y1 - y0) ≤ 2199023255552 := by unfold w64; rw [IntKind.wrap_i64]; omega
    have := len0 hm; subst this
    exact same_of hr hn (al_5 (c := 0) a0 a1 b5 b6 (by omega)) (fun _ _ => rfl) ⟨rfl, Int.le_refl 0, by show (0 : Int) ≤ 0 + ((0 : Nat) : Int); omega⟩
  cut ls fr a kk q hm hl hk hq := by
    have := len0 hm; subst this
    rfl
  loop := fun fr ls cuts want o1 en at' n o K hm => loop_0 _ _ _ _ _ _ fr ls cuts want o1 en at' n o K hm
  copy := copy_of _ _ _ _
theorem sh_6 (r : Int) (xs ys : List Int) : ∃ v, F 29 [unitV 6 r xs ys] (.bool v) ∧ F 13 [unitV 6 r xs ys] (.bool v) ∧ (v = true → ∃ u0 y0 y1 y2 y3, xs = [u0] ∧ ys = [y0, y1, y2, y3] ∧ (1 ≤ r ∧ r ≤ 3) ∧ (y0 ≥ 1 ∧ y1 ≥ 1 ∧ y3 ≥ 1)) := by
  by_cases hm : xs.length = 1 ∧ ys.length = 4
  · obtain ⟨hx, hy⟩ := hm
    rcases xs with _ | ⟨u0, _ | ⟨_, _⟩⟩ <;> simp at hx
    rcases ys with _ | ⟨y0, _ | ⟨y1, _ | ⟨y2, _ | ⟨y3, _ | ⟨_, _⟩⟩⟩⟩⟩ <;> simp at hy
    refine ⟨_, .of ok0 rfl fun h => (v29_6 r u0 y0 y1 y2 y3 h).trans (ch_eq _ _), .of ok0 rfl fun h => (v13_6 r u0 y0 y1 y2 y3 h).trans ((ch_eq _ _).trans ?_), fun h => ?_⟩
    · congr 2 <;> first | done | rfl |
      (rw [Bool.eq_iff_iff]
       simp only [allc, Bool.and_true, Bool.and_eq_true, Bool.not_eq_true', decide_eq_false_iff_not, Bool.not_not, decide_eq_true_eq, Int.not_lt] <;> omega)
    · simp only [allc, Bool.and_true, Bool.and_eq_true, Bool.not_not, decide_eq_true_eq] at h
      exact ⟨u0, y0, y1, y2, y3, rfl, rfl, by omega, by omega⟩
  · refine shape_noV (.of (stopAt_ok ok0) rfl fun h => (m29_6 r xs ys h).trans (ch_none _ ?_)) (.of (stopAt_ok ok0) rfl fun h => (m13_6 r xs ys h).trans (ch_none _ ?_)) _ <;>
      (rw [← Bool.not_eq_true]
       simp only [allc, Bool.and_true, Bool.and_eq_true, Bool.not_eq_true', decide_eq_false_iff_not, Bool.not_not, decide_eq_true_eq, beq_iff_eq]
       omega)
theorem kd_6 {r u0 y0 y1 y2 y3 : Int} (hr : 1 ≤ r ∧ r ≤ 3) (hb : (y0 ≥ 1 ∧ y1 ≥ 1 ∧ y3 ≥ 1)) (h29 : F 29 [(unitV 6 r [u0] [y0, y1, y2, y3])] (.bool true)) (h13 : F 13 [(unitV 6 r [u0] [y0, y1, y2, y3])] (.bool true)) : KindU 6 r [u0] [y0, y1, y2, y3] 1 0 (fun ls => F6 y0 y1 y2 y3 (ls.getD 0 [])) (fun ls => H6 y0 y1 y2 y3 (ls.getD 0 [])) where
  new := ⟨_, N18_ok h29, (n18_6 r u0 y0 y1 y2 y3).trans ((Us_eq _ _).trans (Zs_eq _ _))⟩
  newR := ⟨unit_nowV 32 (by kernel_rfl) _ _ _ _, _, N32_ok h13, (n32_6 r u0 y0 y1 y2 y3).trans (Us_eq _ _)⟩
  bad n ls hn hno := by
    by_cases hm : ls.length = 1
    · have hl : ¬ ∀ l ∈ ls, l.length = n := fun h => hno ⟨hm, h⟩
      obtain ⟨xs, rfl⟩ := len1 hm
      refine ⟨⟨_, stopAt_ok (OI_ok ok0), (eb_6 r u0 y0 y1 y2 y3 n _ xs).trans ?_⟩, ar34 _ _ _ _ _ _ _, _, stopAt_ok ok0, (ebR_6 r u0 y0 y1 y2 y3 n _ xs).trans ?_⟩
      · rw [rangeT_ok hn, sizeT_bad _ _ _ hl] <;> rfl
      · rw [rangeRT_ok hn, sizeRT_bad _ _ _ hl]
    · refine ⟨⟨_, stopAt_ok (OI_ok ok0), (ea_6 r u0 y0 y1 y2 y3 n _ ls).trans ?_⟩, ar34 _ _ _ _ _ _ _, _, stopAt_ok ok0, (eaR_6 r u0 y0 y1 y2 y3 n _ ls).trans ?_⟩
      · rw [rangeT_ok hn, show ((ls.length : Int) == 1) = false from by rw [beq_eq_false_iff_ne]; omega]
        rfl
      · rw [rangeRT_ok hn, show ((ls.length : Int) == 1) = false from by rw [beq_eq_false_iff_ne]; omega]
        rfl
  rnI n ls o hn hm hl := by
    obtain ⟨b1, b2, b3⟩ := hb
    obtain ⟨xs, rfl⟩ := len1 hm
    have hxs : xs.length = n := hl _ List.mem_cons_self
    exact run_fact (O6_ok ok0) (rd_6 b1 b2 b3 hxs) (rn_6 r u0 y0 y1 y2 y3 xs) hn hl trivial
  rnR n ls hn hm hl := by
    obtain ⟨b1, b2, b3⟩ := hb
    obtain ⟨xs, rfl⟩ := len1 hm
    have hxs : xs.length = n := hl _ List.mem_cons_self
    exact runR_fact (OT6_ok ok0) (rdR_6 b1 b2 b3 hxs) (rnR_6 r u0 y0 y1 y2 y3 xs) (by omega) hl trivial
  same n ls hn hm hl := by
    obtain ⟨b1, b2, b3⟩ := hb
    obtain ⟨xs, rfl⟩ := len1 hm
    exact same_of hr hn (al_6 b1 b2 b3 n xs) (fun _ _ => rfl) ⟨rfl, rfl, rfl, fun h => absurd h (by show ¬ ((0 : Int) = 4); omega)⟩
  cut ls fr a kk q hm hl hk hq := by
    obtain ⟨xs, rfl⟩ := len1 hm
    show F6 y0 y1 y2 y3 (cutL xs a kk) (0 + q) = F6 y0 y1 y2 y3 xs (a + q)
    funext o
    unfold F6
    simp only [cutL_get _ a kk q hq]
  loop := fun fr ls cuts want o1 en at' n o K hm => loop_1 _ _ _ _ _ _ fr ls cuts want o1 en at' n o K hm
  copy := copy_of _ _ _ _
theorem sh_7 (r : Int) (xs ys : List Int) : ∃ v, F 29 [unitV 7 r xs ys] (.bool v) ∧ F 13 [unitV 7 r xs ys] (.bool v) ∧ (v = true → ∃ u0 u1, xs = [u0, u1] ∧ ys = [] ∧ (1 ≤ r ∧ r ≤ 3)) := by
  by_cases hm : xs.length = 2 ∧ ys.length = 0
  · obtain ⟨hx, hy⟩ := hm
    rcases xs with _ | ⟨u0, _ | ⟨u1, _ | ⟨_, _⟩⟩⟩ <;> simp at hx
    rcases ys with _ | ⟨_, _⟩ <;> simp at hy
    refine ⟨_, .of ok0 rfl fun h => (v29_7 r u0 u1 h).trans (ch_eq _ _), .of ok0 rfl fun h => (v13_7 r u0 u1 h).trans ((ch_eq _ _).trans ?_), fun h => ?_⟩
    · congr 2 <;> first | done | rfl |
      (rw [Bool.eq_iff_iff]
       simp only [allc, Bool.and_true, Bool.and_eq_true, Bool.not_eq_true', decide_eq_false_iff_not, Bool.not_not, decide_eq_true_eq, Int.not_lt] <;> omega)
    · simp only [allc, Bool.and_true, Bool.and_eq_true, Bool.not_not, decide_eq_true_eq] at h
      exact ⟨u0, u1, rfl, rfl, by omega⟩
  · refine shape_noV (.of (stopAt_ok ok0) rfl fun h => (m29_7 r xs ys h).trans (ch_none _ ?_)) (.of (stopAt_ok ok0) rfl fun h => (m13_7 r xs ys h).trans (ch_none _ ?_)) _ <;>
      (rw [← Bool.not_eq_true]
       simp only [allc, Bool.and_true, Bool.and_eq_true, Bool.not_eq_true', decide_eq_false_iff_not, Bool.not_not, decide_eq_true_eq, beq_iff_eq]
       omega)
theorem kd_7 {r u0 u1 : Int} (hr : 1 ≤ r ∧ r ≤ 3) (h29 : F 29 [(unitV 7 r [u0, u1] [])] (.bool true)) (h13 : F 13 [(unitV 7 r [u0, u1] [])] (.bool true)) : KindU 7 r [u0, u1] [] 2 0 (fun ls => F7 (ls.getD 0 []) (ls.getD 1 [])) (fun ls => H7 (ls.getD 0 []) (ls.getD 1 [])) where
  new := ⟨_, N18_ok h29, (n18_7 r u0 u1).trans ((Us_eq _ _).trans (Zs_eq _ _))⟩
  newR := ⟨unit_nowV 32 (by kernel_rfl) _ _ _ _, _, N32_ok h13, (n32_7 r u0 u1).trans (Us_eq _ _)⟩
  bad n ls hn hno := by
    by_cases hm : ls.length = 2
    · have hl : ¬ ∀ l ∈ ls, l.length = n := fun h => hno ⟨hm, h⟩
      obtain ⟨xs, ys, rfl⟩ := len2 hm
      refine ⟨⟨_, stopAt_ok (OI_ok ok0), (eb_7 r u0 u1 n _ xs ys).trans ?_⟩, ar34 _ _ _ _ _ _ _, _, stopAt_ok ok0, (ebR_7 r u0 u1 n _ xs ys).trans ?_⟩
      · rw [rangeT_ok hn, sizeT_bad _ _ _ hl] <;> rfl
      · rw [rangeRT_ok hn, sizeRT_bad _ _ _ hl]
    · refine ⟨⟨_, stopAt_ok (OI_ok ok0), (ea_7 r u0 u1 n _ ls).trans ?_⟩, ar34 _ _ _ _ _ _ _, _, stopAt_ok ok0, (eaR_7 r u0 u1 n _ ls).trans ?_⟩
      · rw [rangeT_ok hn, show ((ls.length : Int) == 2) = false from by rw [beq_eq_false_iff_ne]; omega]
        rfl
      · rw [rangeRT_ok hn, show ((ls.length : Int) == 2) = false from by rw [beq_eq_false_iff_ne]; omega]
        rfl
  rnI n ls o hn hm hl := by
    obtain ⟨xs, ys, rfl⟩ := len2 hm
    have hxs : xs.length = n := hl _ List.mem_cons_self
    have hys : ys.length = n := hl _ (List.mem_cons_of_mem _ List.mem_cons_self)
    exact run_fact (OS_ok ok0) (rd_7 hxs hys) (rn_7 r u0 u1 xs ys) hn hl trivial
  rnR n ls hn hm hl := by
    obtain ⟨xs, ys, rfl⟩ := len2 hm
    have hxs : xs.length = n := hl _ List.mem_cons_self
    have hys : ys.length = n := hl _ (List.mem_cons_of_mem _ List.mem_cons_self)
    exact runR_fact (OTl_ok ok0) (rdR_7 hxs hys) (rnR_7 r u0 u1 xs ys) (by omega) hl ⟨by show (-1099511627776 : Int) ≤ 0; omega, by show (0 : Int) ≤ 1099511627776; omega⟩
  same n ls hn hm hl := by
    obtain ⟨xs, ys, rfl⟩ := len2 hm
    exact same_of hr hn (al_7 n xs ys) (fun _ _ => rfl) ⟨rfl, by show (-1099511627776 : Int) ≤ 0; omega, by show (0 : Int) ≤ 1099511627776; omega⟩
  cut ls fr a kk q hm hl hk hq := by
    obtain ⟨xs, ys, rfl⟩ := len2 hm
    show F7 (cutL xs a kk) (cutL ys a kk) (0 + q) = F7 xs ys (a + q)
    funext o
    unfold F7
    simp only [cutL_get _ a kk q hq]
  loop := fun fr ls cuts want o1 en at' n o K hm => loop_2 _ _ _ _ _ _ fr ls cuts want o1 en at' n o K hm
  copy := copy_of _ _ _ _
theorem sh_8 (r : Int) (xs ys : List Int) : ∃ v, F 29 [unitV 8 r xs ys] (.bool v) ∧ F 13 [unitV 8 r xs ys] (.bool v) ∧ (v = true → ∃ u0 u1, xs = [u0, u1] ∧ ys = [] ∧ (1 ≤ r ∧ r ≤ 3)) := by
  by_cases hm : xs.length = 2 ∧ ys.length = 0
  · obtain ⟨hx, hy⟩ := hm
    rcases xs with _ | ⟨u0, _ | ⟨u1, _ | ⟨_, _⟩⟩⟩ <;> simp at hx
    rcases ys with _ | ⟨_, _⟩ <;> simp at hy
    refine ⟨_, .of ok0 rfl fun h => (v29_8 r u0 u1 h).trans (ch_eq _ _), .of ok0 rfl fun h => (v13_8 r u0 u1 h).trans ((ch_eq _ _).trans ?_), fun h => ?_⟩
    · congr 2 <;> first | done | rfl |
      (rw [Bool.eq_iff_iff]
       simp only [allc, Bool.and_true, Bool.and_eq_true, Bool.not_eq_true', decide_eq_false_iff_not, Bool.not_not, decide_eq_true_eq, Int.not_lt] <;> omega)
    · simp only [allc, Bool.and_true, Bool.and_eq_true, Bool.not_not, decide_eq_true_eq] at h
      exact ⟨u0, u1, rfl, rfl, by omega⟩
  · refine shape_noV (.of (stopAt_ok ok0) rfl fun h => (m29_8 r xs ys h).trans (ch_none _ ?_)) (.of (stopAt_ok ok0) rfl fun h => (m13_8 r xs ys h).trans (ch_none _ ?_)) _ <;>
      (rw [← Bool.not_eq_true]
       simp only [allc, Bool.and_true, Bool.and_eq_true, Bool.not_eq_true', decide_eq_false_iff_not, Bool.not_not, decide_eq_true_eq, beq_iff_eq]
       omega)
theorem kd_8 {r u0 u1 : Int} (hr : 1 ≤ r ∧ r ≤ 3) (h29 : F 29 [(unitV 8 r [u0, u1] [])] (.bool true)) (h13 : F 13 [(unitV 8 r [u0, u1] [])] (.bool true)) : KindU 8 r [u0, u1] [] 2 0 (fun ls => F8 (ls.getD 0 []) (ls.getD 1 [])) (fun ls => H8 (ls.getD 0 []) (ls.getD 1 [])) where
  new := ⟨_, N18_ok h29, (n18_8 r u0 u1).trans ((Us_eq _ _).trans (Zs_eq _ _))⟩
  newR := ⟨unit_nowV 32 (by kernel_rfl) _ _ _ _, _, N32_ok h13, (n32_8 r u0 u1).trans (Us_eq _ _)⟩
  bad n ls hn hno := by
    by_cases hm : ls.length = 2
    · have hl : ¬ ∀ l ∈ ls, l.length = n := fun h => hno ⟨hm, h⟩
      obtain ⟨xs, ys, rfl⟩ := len2 hm
      refine ⟨⟨_, stopAt_ok (OI_ok ok0), (eb_8 r u0 u1 n _ xs ys).trans ?_⟩, ar34 _ _ _ _ _ _ _, _, stopAt_ok ok0, (ebR_8 r u0 u1 n _ xs ys).trans ?_⟩
      · rw [rangeT_ok hn, sizeT_bad _ _ _ hl] <;> rfl
      · rw [rangeRT_ok hn, sizeRT_bad _ _ _ hl]
    · refine ⟨⟨_, stopAt_ok (OI_ok ok0), (ea_8 r u0 u1 n _ ls).trans ?_⟩, ar34 _ _ _ _ _ _ _, _, stopAt_ok ok0, (eaR_8 r u0 u1 n _ ls).trans ?_⟩
      · rw [rangeT_ok hn, show ((ls.length : Int) == 2) = false from by rw [beq_eq_false_iff_ne]; omega]
        rfl
      · rw [rangeRT_ok hn, show ((ls.length : Int) == 2) = false from by rw [beq_eq_false_iff_ne]; omega]
        rfl
  rnI n ls o hn hm hl := by
    obtain ⟨xs, ys, rfl⟩ := len2 hm
    have hxs : xs.length = n := hl _ List.mem_cons_self
    have hys : ys.length = n := hl _ (List.mem_cons_of_mem _ List.mem_cons_self)
    exact run_fact (OS_ok ok0) (rd_8 hxs hys) (rn_8 r u0 u1 xs ys) hn hl trivial
  rnR n ls hn hm hl := by
    obtain ⟨xs, ys, rfl⟩ := len2 hm
    have hxs : xs.length = n := hl _ List.mem_cons_self
    have hys : ys.length = n := hl _ (List.mem_cons_of_mem _ List.mem_cons_self)
    exact runR_fact (OT_ok ok0) (rdR_8 hxs hys) (rnR_8 r u0 u1 xs ys) (by omega) hl trivial
  same n ls hn hm hl := by
    obtain ⟨xs, ys, rfl⟩ := len2 hm
    exact same_of hr hn (al_8 n xs ys) (fun _ _ => rfl) trivial
  cut ls fr a kk q hm hl hk hq := by
    obtain ⟨xs, ys, rfl⟩ := len2 hm
    show F8 (cutL xs a kk) (cutL ys a kk) (0 + q) = F8 xs ys (a + q)
    funext o
    unfold F8
    simp only [cutL_get _ a kk q hq]
  loop := fun fr ls cuts want o1 en at' n o K hm => loop_2 _ _ _ _ _ _ fr ls cuts want o1 en at' n o K hm
  copy := copy_of _ _ _ _
theorem sh_9 (r : Int) (xs ys : List Int) : ∃ v, F 29 [unitV 9 r xs ys] (.bool v) ∧ F 13 [unitV 9 r xs ys] (.bool v) ∧ (v = true → ∃ u0 u1, xs = [u0, u1] ∧ ys = [] ∧ (1 ≤ r ∧ r ≤ 3)) := by
  by_cases hm : xs.length = 2 ∧ ys.length = 0
  · obtain ⟨hx, hy⟩ := hm
    rcases xs with _ | ⟨u0, _ | ⟨u1, _ | ⟨_, _⟩⟩⟩ <;> simp at hx
    rcases ys with _ | ⟨_, _⟩ <;> simp at hy
    refine ⟨_, .of ok0 rfl fun h => (v29_9 r u0 u1 h).trans (ch_eq _ _), .of ok0 rfl fun h => (v13_9 r u0 u1 h).trans ((ch_eq _ _).trans ?_), fun h => ?_⟩
    · congr 2 <;> first | done | rfl |
      (rw [Bool.eq_iff_iff]
       simp only [allc, Bool.and_true, Bool.and_eq_true, Bool.not_eq_true', decide_eq_false_iff_not, Bool.not_not, decide_eq_true_eq, Int.not_lt] <;> omega)
    · simp only [allc, Bool.and_true, Bool.and_eq_true, Bool.not_not, decide_eq_true_eq] at h
      exact ⟨u0, u1, rfl, rfl, by omega⟩
  · refine shape_noV (.of (stopAt_ok ok0) rfl fun h => (m29_9 r xs ys h).trans (ch_none _ ?_)) (.of (stopAt_ok ok0) rfl fun h => (m13_9 r xs ys h).trans (ch_none _ ?_)) _ <;>
      (rw [← Bool.not_eq_true]
       simp only [allc, Bool.and_true, Bool.and_eq_true, Bool.not_eq_true', decide_eq_false_iff_not, Bool.not_not, decide_eq_true_eq, beq_iff_eq]
       omega)
theorem kd_9 {r u0 u1 : Int} (hr : 1 ≤ r ∧ r ≤ 3) (h29 : F 29 [(unitV 9 r [u0, u1] [])] (.bool true)) (h13 : F 13 [(unitV 9 r [u0, u1] [])] (.bool true)) : KindU 9 r [u0, u1] [] 2 0 (fun ls => F9 (ls.getD 0 []) (ls.getD 1 [])) (fun ls => H9 (ls.getD 0 []) (ls.getD 1 [])) where
  new := ⟨_, N18_ok h29, (n18_9 r u0 u1).trans ((Us_eq _ _).trans (Zs_eq _ _))⟩
  newR := ⟨unit_nowV 32 (by kernel_rfl) _ _ _ _, _, N32_ok h13, (n32_9 r u0 u1).trans (Us_eq _ _)⟩
  bad n ls hn hno := by
    by_cases hm : ls.length = 2
    · have hl : ¬ ∀ l ∈ ls, l.length = n := fun h => hno ⟨hm, h⟩
      obtain ⟨xs, ys, rfl⟩ := len2 hm
      refine ⟨⟨_, stopAt_ok (OI_ok ok0), (eb_9 r u0 u1 n _ xs ys).trans ?_⟩, ar34 _ _ _ _ _ _ _, _, stopAt_ok ok0, (ebR_9 r u0 u1 n _ xs ys).trans ?_⟩
      · rw [rangeT_ok hn, sizeT_bad _ _ _ hl] <;> rfl
      · rw [rangeRT_ok hn, sizeRT_bad _ _ _ hl]
    · refine ⟨⟨_, stopAt_ok (OI_ok ok0), (ea_9 r u0 u1 n _ ls).trans ?_⟩, ar34 _ _ _ _ _ _ _, _, stopAt_ok ok0, (eaR_9 r u0 u1 n _ ls).trans ?_⟩
      · rw [rangeT_ok hn, show ((ls.length : Int) == 2) = false from by rw [beq_eq_false_iff_ne]; omega]
        rfl
      · rw [rangeRT_ok hn, show ((ls.length : Int) == 2) = false from by rw [beq_eq_false_iff_ne]; omega]
        rfl
  rnI n ls o hn hm hl := by
    obtain ⟨xs, ys, rfl⟩ := len2 hm
    have hxs : xs.length = n := hl _ List.mem_cons_self
    have hys : ys.length = n := hl _ (List.mem_cons_of_mem _ List.mem_cons_self)
    exact run_fact (OS_ok ok0) (rd_9 hxs hys) (rn_9 r u0 u1 xs ys) hn hl trivial
  rnR n ls hn hm hl := by
    obtain ⟨xs, ys, rfl⟩ := len2 hm
    have hxs : xs.length = n := hl _ List.mem_cons_self
    have hys : ys.length = n := hl _ (List.mem_cons_of_mem _ List.mem_cons_self)
    exact runR_fact (OTg_ok ok0) (rdR_9 hxs hys) (rnR_9 r u0 u1 xs ys) (by omega) hl trivial
  same n ls hn hm hl := by
    obtain ⟨xs, ys, rfl⟩ := len2 hm
    exact same_of hr hn (al_9 n xs ys) (fun _ _ => rfl) trivial
  cut ls fr a kk q hm hl hk hq := by
    obtain ⟨xs, ys, rfl⟩ := len2 hm
    show F9 (cutL xs a kk) (cutL ys a kk) (0 + q) = F9 xs ys (a + q)
    funext o
    unfold F9
    simp only [cutL_get _ a kk q hq]
  loop := fun fr ls cuts want o1 en at' n o K hm => loop_2 _ _ _ _ _ _ fr ls cuts want o1 en at' n o K hm
  copy := copy_of _ _ _ _
theorem sh_10 (r : Int) (xs ys : List Int) : ∃ v, F 29 [unitV 10 r xs ys] (.bool v) ∧ F 13 [unitV 10 r xs ys] (.bool v) ∧ (v = true → ∃ u0 u1, xs = [u0, u1] ∧ ys = [] ∧ (1 ≤ r ∧ r ≤ 3)) := by
  by_cases hm : xs.length = 2 ∧ ys.length = 0
  · obtain ⟨hx, hy⟩ := hm
    rcases xs with _ | ⟨u0, _ | ⟨u1, _ | ⟨_, _⟩⟩⟩ <;> simp at hx
    rcases ys with _ | ⟨_, _⟩ <;> simp at hy
    refine ⟨_, .of ok0 rfl fun h => (v29_10 r u0 u1 h).trans (ch_eq _ _), .of ok0 rfl fun h => (v13_10 r u0 u1 h).trans ((ch_eq _ _).trans ?_), fun h => ?_⟩
    · congr 2 <;> first | done | rfl |
      (rw [Bool.eq_iff_iff]
       simp only [allc, Bool.and_true, Bool.and_eq_true, Bool.not_eq_true', decide_eq_false_iff_not, Bool.not_not, decide_eq_true_eq, Int.not_lt] <;> omega)
    · simp only [allc, Bool.and_true, Bool.and_eq_true, Bool.not_not, decide_eq_true_eq] at h
      exact ⟨u0, u1, rfl, rfl, by omega⟩
  · refine shape_noV (.of (stopAt_ok ok0) rfl fun h => (m29_10 r xs ys h).trans (ch_none _ ?_)) (.of (stopAt_ok ok0) rfl fun h => (m13_10 r xs ys h).trans (ch_none _ ?_)) _ <;>
      (rw [← Bool.not_eq_true]
       simp only [allc, Bool.and_true, Bool.and_eq_true, Bool.not_eq_true', decide_eq_false_iff_not, Bool.not_not, decide_eq_true_eq, beq_iff_eq]
       omega)
theorem kd_10 {r u0 u1 : Int} (hr : 1 ≤ r ∧ r ≤ 3) (h29 : F 29 [(unitV 10 r [u0, u1] [])] (.bool true)) (h13 : F 13 [(unitV 10 r [u0, u1] [])] (.bool true)) : KindU 10 r [u0, u1] [] 2 0 (fun ls => F10 (ls.getD 0 []) (ls.getD 1 [])) (fun ls => H10 (ls.getD 0 []) (ls.getD 1 [])) where
  new := ⟨_, N18_ok h29, (n18_10 r u0 u1).trans ((Us_eq _ _).trans (Zs_eq _ _))⟩
  newR := ⟨unit_nowV 32 (by kernel_rfl) _ _ _ _, _, N32_ok h13, (n32_10 r u0 u1).trans (Us_eq _ _)⟩
  bad n ls hn hno := by
    by_cases hm : ls.length = 2
    · have hl : ¬ ∀ l ∈ ls, l.length = n := fun h => hno ⟨hm, h⟩
      obtain ⟨xs, ys, rfl⟩ := len2 hm
      refine ⟨⟨_, stopAt_ok (OI_ok ok0), (eb_10 r u0 u1 n _ xs ys).trans ?_⟩, ar34 _ _ _ _ _ _ _, _, stopAt_ok ok0, (ebR_10 r u0 u1 n _ xs ys).trans ?_⟩
      · rw [rangeT_ok hn, sizeT_bad _ _ _ hl] <;> rfl
      · rw [rangeRT_ok hn, sizeRT_bad _ _ _ hl]
    · refine ⟨⟨_, stopAt_ok (OI_ok ok0), (ea_10 r u0 u1 n _ ls).trans ?_⟩, ar34 _ _ _ _ _ _ _, _, stopAt_ok ok0, (eaR_10 r u0 u1 n _ ls).trans ?_⟩
      · rw [rangeT_ok hn, show ((ls.length : Int) == 2) = false from by rw [beq_eq_false_iff_ne]; omega]
        rfl
      · rw [rangeRT_ok hn, show ((ls.length : Int) == 2) = false from by rw [beq_eq_false_iff_ne]; omega]
        rfl
  rnI n ls o hn hm hl := by
    obtain ⟨xs, ys, rfl⟩ := len2 hm
    have hxs : xs.length = n := hl _ List.mem_cons_self
    have hys : ys.length = n := hl _ (List.mem_cons_of_mem _ List.mem_cons_self)
    exact run_fact (OS_ok ok0) (rd_10 hxs hys) (rn_10 r u0 u1 xs ys) hn hl trivial
  rnR n ls hn hm hl := by
    obtain ⟨xs, ys, rfl⟩ := len2 hm
    have hxs : xs.length = n := hl _ List.mem_cons_self
    have hys : ys.length = n := hl _ (List.mem_cons_of_mem _ List.mem_cons_self)
    exact runR_fact (OT_ok ok0) (rdR_10 hxs hys) (rnR_10 r u0 u1 xs ys) (by omega) hl trivial
  same n ls hn hm hl := by
    obtain ⟨xs, ys, rfl⟩ := len2 hm
    exact same_of hr hn (al_10 n xs ys) (fun _ _ => rfl) trivial
  cut ls fr a kk q hm hl hk hq := by
    obtain ⟨xs, ys, rfl⟩ := len2 hm
    show F10 (cutL xs a kk) (cutL ys a kk) (0 + q) = F10 xs ys (a + q)
    funext o
    unfold F10
    simp only [cutL_get _ a kk q hq]
  loop := fun fr ls cuts want o1 en at' n o K hm => loop_2 _ _ _ _ _ _ fr ls cuts want o1 en at' n o K hm
  copy := copy_of _ _ _ _
theorem sh_12 (r : Int) (xs ys : List Int) : ∃ v, F 29 [unitV 12 r xs ys] (.bool v) ∧ F 13 [unitV 12 r xs ys] (.bool v) ∧ (v = true → ∃ y0, xs = [] ∧ ys = [y0] ∧ (1 ≤ r ∧ r ≤ 3)) := by
  by_cases hm : xs.length = 0 ∧ ys.length = 1
  · obtain ⟨hx, hy⟩ := hm
    rcases xs with _ | ⟨_, _⟩ <;> simp at hx
    rcases ys with _ | ⟨y0, _ | ⟨_, _⟩⟩ <;> simp at hy
    refine ⟨_, .of ok0 rfl fun h => (v29_12 r y0 h).trans (ch_eq _ _), .of ok0 rfl fun h => (v13_12 r y0 h).trans ((ch_eq _ _).trans ?_), fun h => ?_⟩
    · congr 2 <;> first | done | rfl |
      (rw [Bool.eq_iff_iff]
       simp only [allc, Bool.and_true, Bool.and_eq_true, Bool.not_eq_true', decide_eq_false_iff_not, Bool.not_not, decide_eq_true_eq, Int.not_lt] <;> omega)
    · simp only [allc, Bool.and_true, Bool.and_eq_true, Bool.not_not, decide_eq_true_eq] at h
      exact ⟨y0, rfl, rfl, by omega⟩
  · refine shape_noV (.of (stopAt_ok ok0) rfl fun h => (m29_12 r xs ys h).trans (ch_none _ ?_)) (.of (stopAt_ok ok0) rfl fun h => (m13_12 r xs ys h).trans (ch_none _ ?_)) _ <;>
      (rw [← Bool.not_eq_true]
       simp only [allc, Bool.and_true, Bool.and_eq_true, Bool.not_eq_true', decide_eq_false_iff_not, Bool.not_not, decide_eq_true_eq, beq_iff_eq]
       omega)
theorem kd_12 {r y0 : Int} (hr : 1 ≤ r ∧ r ≤ 3) (h29 : F 29 [(unitV 12 r [] [y0])] (.bool true)) (h13 : F 13 [(unitV 12 r [] [y0])] (.bool true)) : KindU 12 r [] [y0] 1 0 (fun ls => FIn (ls.getD 0 [])) (fun ls => HIn (ls.getD 0 [])) where
  new := ⟨_, N18_ok h29, (n18_12 r y0).trans ((Us_eq _ _).trans (Zs_eq _ _))⟩
  newR := ⟨unit_nowV 32 (by kernel_rfl) _ _ _ _, _, N32_ok h13, (n32_12 r y0).trans (Us_eq _ _)⟩
  bad n ls hn hno := by
    by_cases hm : ls.length = 1
    · have hl : ¬ ∀ l ∈ ls, l.length = n := fun h => hno ⟨hm, h⟩
      obtain ⟨xs, rfl⟩ := len1 hm
      refine ⟨⟨_, stopAt_ok (OI_ok ok0), (eb_12 r y0 n _ xs).trans ?_⟩, ar34 _ _ _ _ _ _ _, _, stopAt_ok ok0, (ebR_12 r y0 n _ xs).trans ?_⟩
      · rw [rangeT_ok hn, sizeT_bad _ _ _ hl] <;> rfl
      · rw [rangeRT_ok hn, sizeRT_bad _ _ _ hl]
    · refine ⟨⟨_, stopAt_ok (OI_ok ok0), (ea_12 r y0 n _ ls).trans ?_⟩, ar34 _ _ _ _ _ _ _, _, stopAt_ok ok0, (eaR_12 r y0 n _ ls).trans ?_⟩
      · rw [rangeT_ok hn, show ((ls.length : Int) == 1) = false from by rw [beq_eq_false_iff_ne]; omega]
        rfl
      · rw [rangeRT_ok hn, show ((ls.length : Int) == 1) = false from by rw [beq_eq_false_iff_ne]; omega]
        rfl
  rnI n ls o hn hm hl := by
    obtain ⟨xs, rfl⟩ := len1 hm
    have hxs : xs.length = n := hl _ List.mem_cons_self
    exact run_fact (OS_ok ok0) (rd_12 hxs) (rn_12 r y0 xs) hn hl trivial
  rnR n ls hn hm hl := by
    obtain ⟨xs, rfl⟩ := len1 hm
    have hxs : xs.length = n := hl _ List.mem_cons_self
    exact runR_fact (OT_ok ok0) (rdR_12 hxs) (rnR_12 r y0 xs) (by omega) hl trivial
  same n ls hn hm hl := by
    obtain ⟨xs, rfl⟩ := len1 hm
    exact same_of hr hn (al_In n xs) (fun _ _ => rfl) trivial
  cut ls fr a kk q hm hl hk hq := by
    obtain ⟨xs, rfl⟩ := len1 hm
    show FIn (cutL xs a kk) (0 + q) = FIn xs (a + q)
    funext o
    unfold FIn
    simp only [cutL_get _ a kk q hq]
  loop := fun fr ls cuts want o1 en at' n o K hm => loop_1 _ _ _ _ _ _ fr ls cuts want o1 en at' n o K hm
  copy := copy_of _ _ _ _
theorem sh_13 (r : Int) (xs ys : List Int) : ∃ v, F 29 [unitV 13 r xs ys] (.bool v) ∧ F 13 [unitV 13 r xs ys] (.bool v) ∧ (v = true → ∃ u0 y0, xs = [u0] ∧ ys = [y0] ∧ (1 ≤ r ∧ r ≤ 3)) := by
  by_cases hm : xs.length = 1 ∧ ys.length = 1
  · obtain ⟨hx, hy⟩ := hm
    rcases xs with _ | ⟨u0, _ | ⟨_, _⟩⟩ <;> simp at hx
    rcases ys with _ | ⟨y0, _ | ⟨_, _⟩⟩ <;> simp at hy
    refine ⟨_, .of ok0 rfl fun h => (v29_13 r u0 y0 h).trans (ch_eq _ _), .of ok0 rfl fun h => (v13_13 r u0 y0 h).trans ((ch_eq _ _).trans ?_), fun h => ?_⟩
    · congr 2 <;> first | done | rfl |
      (rw [Bool.eq_iff_iff]
       simp only [allc, Bool.and_true, Bool.and_eq_true, Bool.not_eq_true', decide_eq_false_iff_not, Bool.not_not, decide_eq_true_eq, Int.not_lt] <;> omega)
    · simp only [allc, Bool.and_true, Bool.and_eq_true, Bool.not_not, decide_eq_true_eq] at h
      exact ⟨u0, y0, rfl, rfl, by omega⟩
  · refine shape_noV (.of (stopAt_ok ok0) rfl fun h => (m29_13 r xs ys h).trans (ch_none _ ?_)) (.of (stopAt_ok ok0) rfl fun h => (m13_13 r xs ys h).trans (ch_none _ ?_)) _ <;>
      (rw [← Bool.not_eq_true]
       simp only [allc, Bool.and_true, Bool.and_eq_true, Bool.not_eq_true', decide_eq_false_iff_not, Bool.not_not, decide_eq_true_eq, beq_iff_eq]
       omega)
theorem kd_13 {r u0 y0 : Int} (hr : 1 ≤ r ∧ r ≤ 3) (h29 : F 29 [(unitV 13 r [u0] [y0])] (.bool true)) (h13 : F 13 [(unitV 13 r [u0] [y0])] (.bool true)) : KindU 13 r [u0] [y0] 1 0 (fun ls => FIn (ls.getD 0 [])) (fun ls => HIn (ls.getD 0 [])) where
  new := ⟨_, N18_ok h29, (n18_13 r u0 y0).trans ((Us_eq _ _).trans (Zs_eq _ _))⟩
  newR := ⟨unit_nowV 32 (by kernel_rfl) _ _ _ _, _, N32_ok h13, (n32_13 r u0 y0).trans (Us_eq _ _)⟩
  bad n ls hn hno := by
    by_cases hm : ls.length = 1
    · have hl : ¬ ∀ l ∈ ls, l.length = n := fun h => hno ⟨hm, h⟩
      obtain ⟨xs, rfl⟩ := len1 hm
      refine ⟨⟨_, stopAt_ok (OI_ok ok0), (eb_13 r u0 y0 n _ xs).trans ?_⟩, ar34 _ _ _ _ _ _ _, _, stopAt_ok ok0, (ebR_13 r u0 y0 n _ xs).trans ?_⟩
      · rw [rangeT_ok hn, sizeT_bad _ _ _ hl] <;> rfl
      · rw [rangeRT_ok hn, sizeRT_bad _ _ _ hl]
    · refine ⟨⟨_, stopAt_ok (OI_ok ok0), (ea_13 r u0 y0 n _ ls).trans ?_⟩, ar34 _ _ _ _ _ _ _, _, stopAt_ok ok0, (eaR_13 r u0 y0 n _ ls).trans ?_⟩
      · rw [rangeT_ok hn, show ((ls.length : Int) == 1) = false from by rw [beq_eq_false_iff_ne]; omega]
        rfl
      · rw [rangeRT_ok hn, show ((ls.length : Int) == 1) = false from by rw [beq_eq_false_iff_ne]; omega]
        rfl
  rnI n ls o hn hm hl := by
    obtain ⟨xs, rfl⟩ := len1 hm
    have hxs : xs.length = n := hl _ List.mem_cons_self
    exact run_fact (OS_ok ok0) (rd_13 hxs) (rn_13 r u0 y0 xs) hn hl trivial
  rnR n ls hn hm hl := by
    obtain ⟨xs, rfl⟩ := len1 hm
    have hxs : xs.length = n := hl _ List.mem_cons_self
    exact runR_fact (OT_ok ok0) (rdR_13 hxs) (rnR_13 r u0 y0 xs) (by omega) hl trivial
  same n ls hn hm hl := by
    obtain ⟨xs, rfl⟩ := len1 hm
    exact same_of hr hn (al_In n xs) (fun _ _ => rfl) trivial
  cut ls fr a kk q hm hl hk hq := by
    obtain ⟨xs, rfl⟩ := len1 hm
    show FIn (cutL xs a kk) (0 + q) = FIn xs (a + q)
    funext o
    unfold FIn
    simp only [cutL_get _ a kk q hq]
  loop := fun fr ls cuts want o1 en at' n o K hm => loop_1 _ _ _ _ _ _ fr ls cuts want o1 en at' n o K hm
  copy := copy_of _ _ _ _
theorem sh_14 (r : Int) (xs ys : List Int) : ∃ v, F 29 [unitV 14 r xs ys] (.bool v) ∧ F 13 [unitV 14 r xs ys] (.bool v) ∧ (v = true → ∃ y0, xs = [] ∧ ys = [y0] ∧ (1 ≤ r ∧ r ≤ 3)) := by
  by_cases hm : xs.length = 0 ∧ ys.length = 1
  · obtain ⟨hx, hy⟩ := hm
    rcases xs with _ | ⟨_, _⟩ <;> simp at hx
    rcases ys with _ | ⟨y0, _ | ⟨_, _⟩⟩ <;> simp at hy
    refine ⟨_, .of ok0 rfl fun h => (v29_14 r y0 h).trans (ch_eq _ _), .of ok0 rfl fun h => (v13_14 r y0 h).trans ((ch_eq _ _).trans ?_), fun h => ?_⟩
    · congr 2 <;> first | done | rfl |
      (rw [Bool.eq_iff_iff]
       simp only [allc, Bool.and_true, Bool.and_eq_true, Bool.not_eq_true', decide_eq_false_iff_not, Bool.not_not, decide_eq_true_eq, Int.not_lt] <;> omega)
    · simp only [allc, Bool.and_true, Bool.and_eq_true, Bool.not_not, decide_eq_true_eq] at h
      exact ⟨y0, rfl, rfl, by omega⟩
  · refine shape_noV (.of (stopAt_ok ok0) rfl fun h => (m29_14 r xs ys h).trans (ch_none _ ?_)) (.of (stopAt_ok ok0) rfl fun h => (m13_14 r xs ys h).trans (ch_none _ ?_)) _ <;>
      (rw [← Bool.not_eq_true]
       simp only [allc, Bool.and_true, Bool.and_eq_true, Bool.not_eq_true', decide_eq_false_iff_not, Bool.not_not, decide_eq_true_eq, beq_iff_eq]
       omega)
theorem kd_14 {r y0 : Int} (hr : 1 ≤ r ∧ r ≤ 3) (h29 : F 29 [(unitV 14 r [] [y0])] (.bool true)) (h13 : F 13 [(unitV 14 r [] [y0])] (.bool true)) : KindU 14 r [] [y0] 1 0 (fun ls => FIn (ls.getD 0 [])) (fun ls => HIn (ls.getD 0 [])) where
  new := ⟨_, N18_ok h29, (n18_14 r y0).trans ((Us_eq _ _).trans (Zs_eq _ _))⟩
  newR := ⟨unit_nowV 32 (by kernel_rfl) _ _ _ _, _, N32_ok h13, (n32_14 r y0).trans (Us_eq _ _)⟩
  bad n ls hn hno := by
    by_cases hm : ls.length = 1
    · have hl : ¬ ∀ l ∈ ls, l.length = n := fun h => hno ⟨hm, h⟩
      obtain ⟨xs, rfl⟩ := len1 hm
      refine ⟨⟨_, stopAt_ok (OI_ok ok0), (eb_14 r y0 n _ xs).trans ?_⟩, ar34 _ _ _ _ _ _ _, _, stopAt_ok ok0, (ebR_14 r y0 n _ xs).trans ?_⟩
      · rw [rangeT_ok hn, sizeT_bad _ _ _ hl] <;> rfl
      · rw [rangeRT_ok hn, sizeRT_bad _ _ _ hl]
    · refine ⟨⟨_, stopAt_ok (OI_ok ok0), (ea_14 r y0 n _ ls).trans ?_⟩, ar34 _ _ _ _ _ _ _, _, stopAt_ok ok0, (eaR_14 r y0 n _ ls).trans ?_⟩
      · rw [rangeT_ok hn, show ((ls.length : Int) == 1) = false from by rw [beq_eq_false_iff_ne]; omega]
        rfl
      · rw [rangeRT_ok hn, show ((ls.length : Int) == 1) = false from by rw [beq_eq_false_iff_ne]; omega]
        rfl
  rnI n ls o hn hm hl := by
    obtain ⟨xs, rfl⟩ := len1 hm
    have hxs : xs.length = n := hl _ List.mem_cons_self
    exact run_fact (OS_ok ok0) (rd_14 hxs) (rn_14 r y0 xs) hn hl trivial
  rnR n ls hn hm hl := by
    obtain ⟨xs, rfl⟩ := len1 hm
    have hxs : xs.length = n := hl _ List.mem_cons_self
    exact runR_fact (OT_ok ok0) (rdR_14 hxs) (rnR_14 r y0 xs) (by omega) hl trivial
  same n ls hn hm hl := by
    obtain ⟨xs, rfl⟩ := len1 hm
    exact same_of hr hn (al_In n xs) (fun _ _ => rfl) trivial
  cut ls fr a kk q hm hl hk hq := by
    obtain ⟨xs, rfl⟩ := len1 hm
    show FIn (cutL xs a kk) (0 + q) = FIn xs (a + q)
    funext o
    unfold FIn
    simp only [cutL_get _ a kk q hq]
  loop := fun fr ls cuts want o1 en at' n o K hm => loop_1 _ _ _ _ _ _ fr ls cuts want o1 en at' n o K hm
  copy := copy_of _ _ _ _
theorem sh_15 (r : Int) (xs ys : List Int) : ∃ v, F 29 [unitV 15 r xs ys] (.bool v) ∧ F 13 [unitV 15 r xs ys] (.bool v) ∧ (v = true → ∃ y0, xs = [] ∧ ys = [y0] ∧ (1 ≤ r ∧ r ≤ 3)) := by
  by_cases hm : xs.length = 0 ∧ ys.length = 1
  · obtain ⟨hx, hy⟩ := hm
    rcases xs with _ | ⟨_, _⟩ <;> simp at hx
    rcases ys with _ | ⟨y0, _ | ⟨_, _⟩⟩ <;> simp at hy
    refine ⟨_, .of ok0 rfl fun h => (v29_15 r y0 h).trans (ch_eq _ _), .of ok0 rfl fun h => (v13_15 r y0 h).trans ((ch_eq _ _).trans ?_), fun h => ?_⟩
    · congr 2 <;> first | done | rfl |
      (rw [Bool.eq_iff_iff]
       simp only [allc, Bool.and_true, Bool.and_eq_true, Bool.not_eq_true', decide_eq_false_iff_not, Bool.not_not, decide_eq_true_eq, Int.not_lt] <;> omega)
    · simp only [allc, Bool.and_true, Bool.and_eq_true, Bool.not_not, decide_eq_true_eq] at h
      exact ⟨y0, rfl, rfl, by omega⟩
  · refine shape_noV (.of (stopAt_ok ok0) rfl fun h => (m29_15 r xs ys h).trans (ch_none _ ?_)) (.of (stopAt_ok ok0) rfl fun h => (m13_15 r xs ys h).trans (ch_none _ ?_)) _ <;>
      (rw [← Bool.not_eq_true]
       simp only [allc, Bool.and_true, Bool.and_eq_true, Bool.not_eq_true', decide_eq_false_iff_not, Bool.not_not, decide_eq_true_eq, beq_iff_eq]
       omega)
theorem kd_15 {r y0 : Int} (hr : 1 ≤ r ∧ r ≤ 3) (h29 : F 29 [(unitV 15 r [] [y0])] (.bool true)) (h13 : F 13 [(unitV 15 r [] [y0])] (.bool true)) : KindU 15 r [] [y0] 0 0 (fun _ => F15 y0) (fun _ => H15 y0) where
  new := ⟨_, N18_ok h29, (n18_15 r y0).trans ((Us_eq _ _).trans (Zs_eq _ _))⟩
  newR := ⟨unit_nowV 32 (by kernel_rfl) _ _ _ _, _, N32_ok h13, (n32_15 r y0).trans (Us_eq _ _)⟩
  bad n ls hn hno := by
    by_cases hm : ls.length = 0
    · refine absurd ⟨hm, fun l hl => ?_⟩ hno
      rw [len0 hm] at hl
      exact absurd hl List.not_mem_nil
    · refine ⟨⟨_, stopAt_ok (OI_ok ok0), (ea_15 r y0 n _ ls).trans ?_⟩, ar34 _ _ _ _ _ _ _, _, stopAt_ok ok0, (eaR_15 r y0 n _ ls).trans ?_⟩
      · rw [rangeT_ok hn, show ((ls.length : Int) == 0) = false from by rw [beq_eq_false_iff_ne]; omega]
        rfl
      · rw [rangeRT_ok hn, show ((ls.length : Int) == 0) = false from by rw [beq_eq_false_iff_ne]; omega]
        rfl
  rnI n ls o hn hm hl := by
    have := len0 hm; subst this
    exact run_fact (OS_ok ok0) rd_15 (rn_15 r y0 ) hn hl trivial
  rnR n ls hn hm hl := by
    have := len0 hm; subst this
    exact runR_fact (OT_ok ok0) rdR_15 (rnR_15 r y0 ) (by omega) hl trivial
  same n ls hn hm hl := by
    have := len0 hm; subst this
    exact same_of hr hn (al_15 n y0) (fun _ _ => rfl) trivial
  cut ls fr a kk q hm hl hk hq := by
    have := len0 hm; subst this
    rfl
  loop := fun fr ls cuts want o1 en at' n o K hm => loop_0 _ _ _ _ _ _ fr ls cuts want o1 en at' n o K hm
  copy := copy_of _ _ _ _
end Go.Proofs.Ythlmbnhelkbchaa
