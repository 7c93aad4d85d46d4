/- Envelopes: what an envelope's unit tells, in closed form; when it is valid. -/
import Derived.Test.YthlmbnhelkbchaaUkB
import Derived.Test.YthlmbnhelkbchaaUpB
import Derived.Test.YthlmbnhelkbchaaEvZ2
namespace Go.Proofs.Ythlmbnhelkbchaa
open Go.Ev
set_option maxRecDepth 100000
/-- up -/
def upI (x n : Int) : Int := w64 ((w64 (w64 (x + n) - 1)).tdiv n)
def V103 (a : List AV) : AV := int64 (upI (ar a 0) (ar a 1))
def is103 (a : List AV) : Prop := ∃ x n, a = [int64 x, int64 n] ∧ n ≥ 1
theorem run103 (x n : Int) (h : Heap) : evCall Try.prog orc0 tb 100 AV (.fn 103) (vwArgs Try.prog [] h (parsOf Try.prog 103) [int64 x, int64 n]) (mkHeap [] 0) .off rv =
    bif n == 0 then none else some (int64 (upI x n)) := by kernel_rfl
theorem when103 (a : List AV) (h : isSo (is103 a) = true) : F 103 a (V103 a) := by
  obtain ⟨x, n, rfl, hn⟩ := isSo_iff.1 h
  refine .of ok0 rfl fun h => (run103 x n h).trans ?_
  have e : (n == 0) = false := by simp only [beq_eq_false_iff_ne]; omega
  rw [e]; rfl
noncomputable def hU {A : Type} (x n : Int) (y : Option A) : Option A := bif isSo (is103 [int64 x, int64 n]) then y else none
theorem hU_eq {A : Type} {x n : Int} (h : n ≥ 1) (y : Option A) : hU x n y = y := by unfold hU; rw [isSo_true ⟨x, n, rfl, h⟩]; rfl
noncomputable def h3 {A : Type} (x lo hi : Int) (y : Option A) : Option A := bif isSo (isN3 [int64 x, int64 lo, int64 hi]) then y else none
theorem h3_eq {A : Type} (x lo hi : Int) (y : Option A) : h3 x lo hi y = y := by unfold h3; rw [isSo_true ⟨_, _, _, rfl⟩]; rfl
def E {A : Type} (n : Int) (y : Option A) : Option A := bif n == n then y else none
theorem E_eq {A : Type} (n : Int) (y : Option A) : E n y = y := by unfold E; rw [beq_self_eq_true]; rfl
def kM (n : Int) : Int := kept n (-1099511627776) 1099511627776
/-- The stage goes on. -/
noncomputable def swT {A : Type} (a d kp r : Int) (st lv fr : Int) (k : Int → Int → Option A) : Option A :=
  bif st == 1 then hU 65536 a <| E lv <| bif minI 65536 (w64 (lv + upI 65536 a)) == 65536 then k 2 (minI 65536 (w64 (lv + upI 65536 a))) else k st (minI 65536 (w64 (lv + upI 65536 a)))
  else bif st == 2 then hU (w64 (65536 - kp)) d <| E lv <| bif maxI kp (w64 (lv - upI (w64 (65536 - kp)) d)) == kp then k 3 (maxI kp (w64 (lv - upI (w64 (65536 - kp)) d))) else k st (maxI kp (w64 (lv - upI (w64 (65536 - kp)) d)))
  else bif st == 3 then k st kp
  else bif st == 4 then hU fr r <| E lv <| k st (maxI 0 (w64 (lv - upI fr r)))
  else k st lv
noncomputable def envT {A : Type} (a d kp r : Int) (o g : Bool) (st lv fr : Int) (k : Int → Int → Int → Option A) : Option A :=
  bif o then bif !g then swT a d kp r 1 lv fr fun s l => k s l fr else
    bif !o then bif g then swT a d kp r 4 lv lv fun s l => k s l lv else swT a d kp r st lv fr fun s l => k s l fr else swT a d kp r st lv fr fun s l => k s l fr
  else bif !o then bif g then swT a d kp r 4 lv lv fun s l => k s l lv else swT a d kp r st lv fr fun s l => k s l fr else swT a d kp r st lv fr fun s l => k s l fr
/-- The same, plain. -/
structure EnvS where
  st : Int
  lv : Int
  fr : Int
  g : Bool
def swF (a d kp r : Int) (s : EnvS) : EnvS :=
  if s.st = 1 then (if minI 65536 (w64 (s.lv + upI 65536 a)) = 65536 then { s with st := 2, lv := minI 65536 (w64 (s.lv + upI 65536 a)) } else { s with lv := minI 65536 (w64 (s.lv + upI 65536 a)) })
  else if s.st = 2 then (if maxI kp (w64 (s.lv - upI (w64 (65536 - kp)) d)) = kp then { s with st := 3, lv := maxI kp (w64 (s.lv - upI (w64 (65536 - kp)) d)) } else { s with lv := maxI kp (w64 (s.lv - upI (w64 (65536 - kp)) d)) })
  else if s.st = 3 then { s with lv := kp }
  else if s.st = 4 then { s with lv := maxI 0 (w64 (s.lv - upI s.fr r)) }
  else s
def envF (a d kp r : Int) (o : Bool) (s : EnvS) : EnvS :=
  swF a d kp r (if o = true ∧ s.g = false then { s with st := 1, g := o } else if o = false ∧ s.g = true then { s with st := 4, fr := s.lv, g := o } else { s with g := o })
theorem swT_eq {A : Type} {a d kp r : Int} (ha : a ≥ 1) (hd : d ≥ 1) (hr : r ≥ 1) (s : EnvS) (k : Int → Int → Option A) : swT a d kp r s.st s.lv s.fr k = k (swF a d kp r s).st (swF a d kp r s).lv ∧ (swF a d kp r s).fr = s.fr ∧ (swF a d kp r s).g = s.g := by
  unfold swT swF
  simp only [hU_eq ha, hU_eq hd, hU_eq hr, E_eq]
  have e : ∀ (x y : Int), (x == y) = decide (x = y) := fun x y => by rw [Bool.eq_iff_iff]; simp
  simp only [e]
  by_cases h1 : s.st = 1
  · rw [decide_eq_true h1, if_pos h1, cond_true]
    by_cases h : minI 65536 (w64 (s.lv + upI 65536 a)) = 65536
    · rw [decide_eq_true h, if_pos h]; exact ⟨rfl, rfl, rfl⟩
    · rw [decide_eq_false h, if_neg h]; exact ⟨rfl, rfl, rfl⟩
  rw [decide_eq_false h1, if_neg h1, cond_false]
  by_cases h2 : s.st = 2
  · rw [decide_eq_true h2, if_pos h2, cond_true]
    by_cases h : maxI kp (w64 (s.lv - upI (w64 (65536 - kp)) d)) = kp
    · rw [decide_eq_true h, if_pos h]; exact ⟨rfl, rfl, rfl⟩
    · rw [decide_eq_false h, if_neg h]; exact ⟨rfl, rfl, rfl⟩
  rw [decide_eq_false h2, if_neg h2, cond_false]
  by_cases h3 : s.st = 3
  · rw [decide_eq_true h3, if_pos h3]; exact ⟨rfl, rfl, rfl⟩
  rw [decide_eq_false h3, if_neg h3, cond_false]
  by_cases h4 : s.st = 4
  · rw [decide_eq_true h4, if_pos h4]; exact ⟨rfl, rfl, rfl⟩
  rw [decide_eq_false h4, if_neg h4]
  exact ⟨rfl, rfl, rfl⟩
theorem envT_eq {A : Type} {a d kp r : Int} (ha : a ≥ 1) (hd : d ≥ 1) (hr : r ≥ 1) (o : Bool) (s : EnvS) (k : Int → Int → Int → Option A) : envT a d kp r o s.g s.st s.lv s.fr k = k (envF a d kp r o s).st (envF a d kp r o s).lv (envF a d kp r o s).fr ∧ (envF a d kp r o s).g = o := by
  have key : ∀ (s' : EnvS), swT a d kp r s'.st s'.lv s'.fr (fun x l => k x l s'.fr) = k (swF a d kp r s').st (swF a d kp r s').lv (swF a d kp r s').fr ∧ (swF a d kp r s').g = s'.g := fun s' => by
    obtain ⟨h1, h2, h3⟩ := swT_eq (kp := kp) ha hd hr s' (fun x l => k x l s'.fr)
    exact ⟨h1.trans (by rw [h2]), h3⟩
  unfold envT envF
  cases o with
  | true =>
    cases hg : s.g with
    | false => exact key { s with st := 1, g := true }
    | true => exact key { s with g := true }
  | false =>
    cases hg : s.g with
    | false => exact key { s with g := false }
    | true => exact key { s with st := 4, fr := s.lv, g := false }
/-- An envelope's unit is valid just when its numbers are in their bounds. -/
def envOk (a d kp r : Int) : Bool := decide (1 ≤ a ∧ a ≤ 1000000000 ∧ 1 ≤ d ∧ d ≤ 1000000000 ∧ 0 ≤ kp ∧ kp ≤ 65536 ∧ 1 ≤ r ∧ r ≤ 1000000000)
theorem env_valid (a d kp r : Int) : F 29 [unitV 6 3 [0] [a, d, kp, r]] (.bool (envOk a d kp r)) ∧ F 13 [unitV 6 3 [0] [a, d, kp, r]] (.bool (envOk a d kp r)) := by
  refine ⟨.of ok0 rfl fun h => (v29_6 3 0 a d kp r h).trans ((ch_eq _ _).trans ?_), .of ok0 rfl fun h => (v13_6 3 0 a d kp r h).trans ((ch_eq _ _).trans ?_)⟩ <;>
    (congr 2
     rw [Bool.eq_iff_iff]
     simp only [envOk, allc, Bool.and_true, Bool.and_eq_true, Bool.not_eq_true', decide_eq_false_iff_not, Bool.not_not, decide_eq_true_eq, Int.not_lt]
     omega)
noncomputable def OE (S : Orc) : Orc := knowW 103 (fun a => isSo (is103 a)) V103 (knowW 73 (fun a => isSo (isN3 a)) V73 S)
theorem OE_ok {S : Orc} (h : Ok S) : Ok (OE S) := knowW_ok tbOk when103 (knowW_ok tbOk when73 h)
end Go.Proofs.Ythlmbnhelkbchaa
