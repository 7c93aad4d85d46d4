/- Run of a unit: a round of its loop, for the other kinds but a delay. -/
import Derived.Test.YthlmbnhelkbchaaJ21
import Derived.Test.YthlmbnhelkbchaaJ20
import Derived.Test.YthlmbnhelkbchaaJ18
namespace Go.Proofs.Ythlmbnhelkbchaa
open Go.Ev
set_option maxRecDepth 100000
def isI2 : List AV → Bool
  | [.int .i64 _, .int .i64 _] => true
  | _ => false
def is68c : List AV → Bool
  | [.int .i64 _, .int .i64 n] => n == 65536
  | _ => false
theorem when92c (a : List AV) (h : isI2 a = true) : F 92 a (V92 a) := by
  refine when92 a (isSo_true ?_)
  unfold isI2 at h
  split at h
  · exact ⟨_, _, rfl⟩
  · cases h
theorem when68c (a : List AV) (h : is68c a = true) : F 68 a (V68 a) := by
  refine when68 a (isSo_true ?_)
  unfold is68c at h
  split at h
  · rename_i x n
    have : n = 65536 := by simpa using h
    subst this
    exact ⟨x, rfl⟩
  · cases h
def rndI (a n : Int) : Int := if a < 0 then w64 (0 - w64 ((w64 (w64 (0 - a) + w64 (n.tdiv 2))).tdiv n)) else w64 ((w64 (a + w64 (n.tdiv 2))).tdiv n)
def partI (a i n : Int) : Int := w64 (w64 (w64 (a.tdiv n) * i) + rndI (w64 (a.tmod n * i)) n)
def V86 (a : List AV) : AV := int64 (partI (ar a 0) (ar a 1) (ar a 2))
def is86 (a : List AV) : Prop := ∃ x i n, a = [int64 x, int64 i, int64 n] ∧ n ≥ 1
theorem run86 (x i n : Int) (h : Heap) : evCall Try.prog orc0 tb 100 AV (.fn 86) (vwArgs Try.prog [] h (parsOf Try.prog 86) [int64 x, int64 i, int64 n]) (mkHeap [] 0) .off rv =
    bif n == 0 then none else bif n == 0 then none else bif decide (w64 (x.tmod n * i) < 0) then (bif n == 0 then none else some (int64 (w64 (w64 (w64 (x.tdiv n) * i) + w64 (0 - w64 ((w64 (w64 (0 - w64 (x.tmod n * i)) + w64 (n.tdiv 2))).tdiv n)))))) else (bif n == 0 then none else some (int64 (w64 (w64 (w64 (x.tdiv n) * i) + w64 ((w64 (w64 (x.tmod n * i) + w64 (n.tdiv 2))).tdiv n))))) := by kernel_rfl
theorem when86 (a : List AV) (h : isSo (is86 a) = true) : F 86 a (V86 a) := by
  obtain ⟨x, i, n, rfl, hn⟩ := isSo_iff.1 h
  refine .of ok0 rfl fun h => (run86 x i n h).trans ?_
  have e : (n == 0) = false := by simp only [beq_eq_false_iff_ne]; omega
  rw [e]
  simp only [cond_false]
  show _ = some (int64 (partI x i n))
  unfold partI rndI
  by_cases hx : w64 (x.tmod n * i) < 0
  · rw [decide_eq_true hx, if_pos hx]; rfl
  · rw [decide_eq_false hx, if_neg hx]; rfl
noncomputable def OS (S : Orc) : Orc := knowW 92 isI2 V92 (knowW 68 is68c V68 (knowW 86 (fun a => isSo (is86 a)) V86 (knowW 103 (fun a => isSo (is103 a)) V103 (OI S))))
theorem OS_ok {S : Orc} (h : Ok S) : Ok (OS S) := knowW_ok tbOk when92c (knowW_ok tbOk when68c (knowW_ok tbOk when86 (knowW_ok tbOk when103 (OI_ok h))))
def sayO (o : Ob) (v : Int) : Ob := ⟨o.at', o.frame, v, o.n, o.rnd, o.last, o.stage, o.level, o.frm, o.gate⟩
def rnN (r : Int) : Int := (w64 (w64 (r * 1103515245) + 12345)).tmod 2147483648
def noiO (o : Ob) : Ob := ⟨o.at', o.frame, snd (w64 (w64 ((rnN o.rnd).tdiv 128) - 8388608)), o.n, rnN o.rnd, o.last, o.stage, o.level, o.frm, o.gate⟩
def step4 {A : Type} (o : Ob) (_ : Unit) (tl : Ob → Option A) : Option A := tl (noiO o)
def linO (o : Ob) (n v : Int) : Ob := ⟨o.at', o.frame, v, n, o.rnd, o.last, o.stage, o.level, o.frm, o.gate⟩
noncomputable def gPart {A : Type} (a i n : Int) (x : Option A) : Option A := bif isSo (is86 [int64 a, int64 i, int64 n]) then x else none
noncomputable def step5 {A : Type} (o : Ob) (y0 y1 y2 : Int) (_ : Unit) (tl : Ob → Option A) : Option A :=
  let rest (n : Int) : Option A := bif decide (o.n ≥ y2) then tl (linO o n y1) else gPart (w64 (y1 - y0)) o.n y2 <| tl (linO o n (w64 (y0 + partI (w64 (y1 - y0)) o.n y2)))
  bif decide (o.n < y2) then rest (w64 (o.n + 1)) else rest o.n
def envO (o : Ob) (st lv fr : Int) (g : Bool) : Ob := ⟨o.at', o.frame, lv, o.n, o.rnd, o.last, st, lv, fr, g⟩
def envO0 (o : Ob) (st lv fr : Int) (g : Bool) : Ob := ⟨o.at', o.frame, o.told, o.n, o.rnd, o.last, st, lv, fr, g⟩
def envN' (a d kp r : Int) (b : Bool) (o : Ob) : Ob := envO0 o (envF a d kp r b ⟨o.stage, o.level, o.frm, o.gate⟩).st (envF a d kp r b ⟨o.stage, o.level, o.frm, o.gate⟩).lv (envF a d kp r b ⟨o.stage, o.level, o.frm, o.gate⟩).fr b
noncomputable def O103 (S : Orc) : Orc := knowW 103 (fun a => isSo (is103 a)) V103 S
theorem run88 (r u0 y0 y1 y2 y3 : Int) (o : Ob) (b : Bool) : evCall Try.prog (O103 orc0) tb 100 ORes (.fn 88) [.ptr (some (0, 0)), .bool b] (mkHeap (objU 6 r [u0] [y0, y1, y2, y3] o) 1) .off (objK Try.prog scU 88 1 [] [.ptr (some (0, 0)), .bool b]) =
    envT y0 y1 y2 y3 b o.gate o.stage o.level o.frm fun st lv fr => some ((int64 lv, objU2 6 r [u0] [y0, y1, y2, y3] (envO0 o st lv fr b)), psU) := by kernel_rfl
def lwV (x w last : Int) : Int := kM' (w64 (last + round1 (w64 (w64 (kM' x - last) * kept (kM' w) 0 65536))))
def lowO (o : Ob) (v : Int) : Ob := ⟨o.at', o.frame, v, o.n, o.rnd, v, o.stage, o.level, o.frm, o.gate⟩
def step7 {A : Type} (o : Ob) (p : Int × Int) (tl : Ob → Option A) : Option A := E o.last <| E (kM' p.1) <| E o.last <| E o.last <| tl (lowO o (lwV p.1 p.2 o.last))
def step8 {A : Type} (o : Ob) (p : Int × Int) (tl : Ob → Option A) : Option A := tl (sayO o (kM' (w64 (kM' p.1 + kM' p.2))))
def step9 {A : Type} (o : Ob) (p : Int × Int) (tl : Ob → Option A) : Option A := tl (sayO o (prodI (kM' p.1) (kM' p.2)))
def step10 {A : Type} (o : Ob) (p : Int × Int) (tl : Ob → Option A) : Option A := tl (sayO o (kept (kM' p.1) (w64 (0 - maxI (kM' p.2) 0)) (maxI (kM' p.2) 0)))
def stepIn {A : Type} (o : Ob) (x : Int) (tl : Ob → Option A) : Option A := tl (sayO o (kM' x))
def step15 {A : Type} (o : Ob) (y : Int) (_ : Unit) (tl : Ob → Option A) : Option A := tl (sayO o y)
abbrev no0 {A : Type} (f : Unit → Option A) : Option A := f ()
abbrev in2 {A : Type} (xs ys : List Int) (i : Int) (f : Int × Int → Option A) : Option A := ldI xs i fun x => ldI ys i fun y => f (x, y)
theorem b71_4 {A : Type} (r y0 n i : Int) (o : Ob) (K : Ex → St → Option A) : B71 4 r [] [y0] n [] i o (OS orc0) K = body n i r o no0 (step4 o) (tail0 4 r [] [y0] n [] i K) (exit0 4 r [] [y0] n [] i o K) := by kernel_rfl
theorem g71_4 {A : Type} (r y0 n i : Int) (o : Ob) (cs : List AV) (m : Nat) (K : Ex → St → Option A) : G71 4 r [] [y0] n [] i o cs m (OS orc0) K = body n i r o no0 (step4 o) (tailG 4 r [] [y0] n [] i cs m K) (exitG 4 r [] [y0] n [] i o cs m K) := by kernel_rfl
theorem b71_7 {A : Type} (r u0 u1 n i : Int) (o : Ob) (xs ys : List Int) (K : Ex → St → Option A) : B71 7 r [u0, u1] [] n [xs, ys] i o (OS orc0) K = body n i r o (in2 xs ys i) (step7 o) (tail0 7 r [u0, u1] [] n [xs, ys] i K) (exit0 7 r [u0, u1] [] n [xs, ys] i o K) := by kernel_rfl
theorem g71_7 {A : Type} (r u0 u1 n i : Int) (o : Ob) (xs ys : List Int) (cs : List AV) (m : Nat) (K : Ex → St → Option A) : G71 7 r [u0, u1] [] n [xs, ys] i o cs m (OS orc0) K = body n i r o (in2 xs ys i) (step7 o) (tailG 7 r [u0, u1] [] n [xs, ys] i cs m K) (exitG 7 r [u0, u1] [] n [xs, ys] i o cs m K) := by kernel_rfl
theorem b71_8 {A : Type} (r u0 u1 n i : Int) (o : Ob) (xs ys : List Int) (K : Ex → St → Option A) : B71 8 r [u0, u1] [] n [xs, ys] i o (OS orc0) K = body n i r o (in2 xs ys i) (step8 o) (tail0 8 r [u0, u1] [] n [xs, ys] i K) (exit0 8 r [u0, u1] [] n [xs, ys] i o K) := by kernel_rfl
theorem g71_8 {A : Type} (r u0 u1 n i : Int) (o : Ob) (xs ys : List Int) (cs : List AV) (m : Nat) (K : Ex → St → Option A) : G71 8 r [u0, u1] [] n [xs, ys] i o cs m (OS orc0) K = body n i r o (in2 xs ys i) (step8 o) (tailG 8 r [u0, u1] [] n [xs, ys] i cs m K) (exitG 8 r [u0, u1] [] n [xs, ys] i o cs m K) := by kernel_rfl
theorem b71_9 {A : Type} (r u0 u1 n i : Int) (o : Ob) (xs ys : List Int) (K : Ex → St → Option A) : B71 9 r [u0, u1] [] n [xs, ys] i o (OS orc0) K = body n i r o (in2 xs ys i) (step9 o) (tail0 9 r [u0, u1] [] n [xs, ys] i K) (exit0 9 r [u0, u1] [] n [xs, ys] i o K) := by kernel_rfl
theorem g71_9 {A : Type} (r u0 u1 n i : Int) (o : Ob) (xs ys : List Int) (cs : List AV) (m : Nat) (K : Ex → St → Option A) : G71 9 r [u0, u1] [] n [xs, ys] i o cs m (OS orc0) K = body n i r o (in2 xs ys i) (step9 o) (tailG 9 r [u0, u1] [] n [xs, ys] i cs m K) (exitG 9 r [u0, u1] [] n [xs, ys] i o cs m K) := by kernel_rfl
theorem b71_10 {A : Type} (r u0 u1 n i : Int) (o : Ob) (xs ys : List Int) (K : Ex → St → Option A) : B71 10 r [u0, u1] [] n [xs, ys] i o (OS orc0) K = body n i r o (in2 xs ys i) (step10 o) (tail0 10 r [u0, u1] [] n [xs, ys] i K) (exit0 10 r [u0, u1] [] n [xs, ys] i o K) := by kernel_rfl
theorem g71_10 {A : Type} (r u0 u1 n i : Int) (o : Ob) (xs ys : List Int) (cs : List AV) (m : Nat) (K : Ex → St → Option A) : G71 10 r [u0, u1] [] n [xs, ys] i o cs m (OS orc0) K = body n i r o (in2 xs ys i) (step10 o) (tailG 10 r [u0, u1] [] n [xs, ys] i cs m K) (exitG 10 r [u0, u1] [] n [xs, ys] i o cs m K) := by kernel_rfl
theorem b71_12 {A : Type} (r y0 n i : Int) (o : Ob) (xs : List Int) (K : Ex → St → Option A) : B71 12 r [] [y0] n [xs] i o (OS orc0) K = body n i r o (ldI xs i) (stepIn o) (tail0 12 r [] [y0] n [xs] i K) (exit0 12 r [] [y0] n [xs] i o K) := by kernel_rfl
theorem g71_12 {A : Type} (r y0 n i : Int) (o : Ob) (xs : List Int) (cs : List AV) (m : Nat) (K : Ex → St → Option A) : G71 12 r [] [y0] n [xs] i o cs m (OS orc0) K = body n i r o (ldI xs i) (stepIn o) (tailG 12 r [] [y0] n [xs] i cs m K) (exitG 12 r [] [y0] n [xs] i o cs m K) := by kernel_rfl
theorem b71_13 {A : Type} (r u0 y0 n i : Int) (o : Ob) (xs : List Int) (K : Ex → St → Option A) : B71 13 r [u0] [y0] n [xs] i o (OS orc0) K = body n i r o (ldI xs i) (stepIn o) (tail0 13 r [u0] [y0] n [xs] i K) (exit0 13 r [u0] [y0] n [xs] i o K) := by kernel_rfl
theorem g71_13 {A : Type} (r u0 y0 n i : Int) (o : Ob) (xs : List Int) (cs : List AV) (m : Nat) (K : Ex → St → Option A) : G71 13 r [u0] [y0] n [xs] i o cs m (OS orc0) K = body n i r o (ldI xs i) (stepIn o) (tailG 13 r [u0] [y0] n [xs] i cs m K) (exitG 13 r [u0] [y0] n [xs] i o cs m K) := by kernel_rfl
theorem b71_14 {A : Type} (r y0 n i : Int) (o : Ob) (xs : List Int) (K : Ex → St → Option A) : B71 14 r [] [y0] n [xs] i o (OS orc0) K = body n i r o (ldI xs i) (stepIn o) (tail0 14 r [] [y0] n [xs] i K) (exit0 14 r [] [y0] n [xs] i o K) := by kernel_rfl
theorem g71_14 {A : Type} (r y0 n i : Int) (o : Ob) (xs : List Int) (cs : List AV) (m : Nat) (K : Ex → St → Option A) : G71 14 r [] [y0] n [xs] i o cs m (OS orc0) K = body n i r o (ldI xs i) (stepIn o) (tailG 14 r [] [y0] n [xs] i cs m K) (exitG 14 r [] [y0] n [xs] i o cs m K) := by kernel_rfl
theorem b71_15 {A : Type} (r y0 n i : Int) (o : Ob) (K : Ex → St → Option A) : B71 15 r [] [y0] n [] i o (OS orc0) K = body n i r o no0 (step15 o y0) (tail0 15 r [] [y0] n [] i K) (exit0 15 r [] [y0] n [] i o K) := by kernel_rfl
theorem g71_15 {A : Type} (r y0 n i : Int) (o : Ob) (cs : List AV) (m : Nat) (K : Ex → St → Option A) : G71 15 r [] [y0] n [] i o cs m (OS orc0) K = body n i r o no0 (step15 o y0) (tailG 15 r [] [y0] n [] i cs m K) (exitG 15 r [] [y0] n [] i o cs m K) := by kernel_rfl
theorem b71_5 {A : Type} (r y0 y1 y2 n i : Int) (o : Ob) (K : Ex → St → Option A) : B71 5 r [] [y0, y1, y2] n [] i o (OS orc0) K = body n i r o no0 (step5 o y0 y1 y2) (tail0 5 r [] [y0, y1, y2] n [] i K) (exit0 5 r [] [y0, y1, y2] n [] i o K) := by kernel_rfl
theorem g71_5 {A : Type} (r y0 y1 y2 n i : Int) (o : Ob) (cs : List AV) (m : Nat) (K : Ex → St → Option A) : G71 5 r [] [y0, y1, y2] n [] i o cs m (OS orc0) K = body n i r o no0 (step5 o y0 y1 y2) (tailG 5 r [] [y0, y1, y2] n [] i cs m K) (exitG 5 r [] [y0, y1, y2] n [] i o cs m K) := by kernel_rfl
end Go.Proofs.Ythlmbnhelkbchaa
/- Lists of numbers are alike or not (ints of the laws). -/
namespace Go.Proofs.Ythlmbnhelkbchaa
open Go.Ev
set_option maxRecDepth 100000
theorem lenA_map {α : Type} (f : α → AV) (l : List α) : lenA (l.map f) = l.length := by
  induction l with
  | nil => rfl
  | cons x l ih => show lenA (l.map f) + 1 = _; rw [ih]; rfl
theorem nth_map {α : Type} (f : α → AV) : ∀ (l : List α) (i : Nat) (h : i < l.length), nth (l.map f) i = f l[i]
  | x :: l, 0, _ => rfl
  | x :: l, i + 1, h => nth_map f l i (by simpa using h)
def st20 (xs ys : List Int) (i : Int) : St := ⟨[ints xs, ints ys, .dead, .dead, .dead, int64 i] ++ repA .dead 20, mkHeap [] 4, [], .off⟩
def rt20 (b : Bool) : St := ⟨[.dead, .dead, .dead, .dead, .bool b] ++ repA .dead 21, mkHeap [] 4, [], .off⟩
def body20 {A : Type} (xs ys : List Int) (i : Int) (K : Ex → St → Option A) : Option A :=
  bif decide (i < (xs.length : Int)) then
    guardK (decide (0 ≤ i) && decide (i < (xs.length : Int))) (guardK (Nat.blt (i.toNat * 1) (lenA (xs.map int64))) (guardK (isIntK .i64 (nth (xs.map int64) (i.toNat * 1)))
    (guardK (decide (0 ≤ i) && decide (i < (ys.length : Int))) (guardK (Nat.blt (i.toNat * 1) (lenA (ys.map int64))) (guardK (isIntK .i64 (nth (ys.map int64) (i.toNat * 1)))
      (bif !(intOf (nth (xs.map int64) (i.toNat * 1)) == intOf (nth (ys.map int64) (i.toNat * 1))) then K .ret (rt20 false)
       else K .normal (st20 xs ys (IntKind.i64.wrap (i + 1)))))))))
  else K (.exit 0) (st20 xs ys i)
theorem b20 {A : Type} (xs ys : List Int) (i : Int) (K : Ex → St → Option A) : loopB Try.prog orc0 tb 20 4 0 (st20 xs ys i) K = body20 xs ys i K := by kernel_rfl
theorem body20_eq {A : Type} {xs ys : List Int} {i : Nat} (hx : i < xs.length) (hy : i < ys.length) (hm : xs.length ≤ maxLen) (K : Ex → St → Option A) :
    body20 xs ys (i : Int) K = bif xs[i] == ys[i] then K .normal (st20 xs ys ((i + 1 : Nat) : Int)) else K .ret (rt20 false) := by
  have h1 : (i : Int) < (xs.length : Int) := by omega
  have h2 : (i : Int) < (ys.length : Int) := by omega
  have h3 : (i : Int).toNat * 1 = i := by omega
  have h4 : IntKind.i64.wrap ((i : Int) + 1) = ((i + 1 : Nat) : Int) := by
    rw [IntKind.wrap_i64]
    have : maxLen = 9223372036854775807 := rfl
    omega
  unfold body20
  simp only [h3, h4, lenA_map, nth_map int64 xs i hx, nth_map int64 ys i hy, decide_eq_true h1, decide_eq_true h2, decide_eq_true (Int.natCast_nonneg i), cond_true, guardK, Bool.and_self, int64, intOf, isIntK]
  have h5 : Nat.blt i xs.length = true := Nat.ble_eq_true_of_le hx
  have h6 : Nat.blt i ys.length = true := Nat.ble_eq_true_of_le hy
  simp only [h5, h6, cond_true, decide_true]
  cases xs[i] == ys[i] <;> rfl
theorem loop20 {xs ys : List Int} (hl : xs.length = ys.length) (hm : xs.length ≤ maxLen) : ∀ (d i n : Nat), i + d = xs.length → d < n →
    loopN (loopB Try.prog orc0 tb 20 4 0) n (st20 xs ys (i : Int)) pairE = some (if xs.drop i = ys.drop i then (.exit 0, st20 xs ys (xs.length : Int)) else (.ret, rt20 false)) := by
  intro d
  induction d with
  | zero =>
    intro i n hi hn
    obtain ⟨n, rfl⟩ : ∃ m, n = m + 1 := ⟨n - 1, by omega⟩
    have hi : i = xs.length := by omega
    subst hi
    rw [loopN_succ, b20]
    have h1 : ¬ ((xs.length : Int) < (xs.length : Int)) := by omega
    unfold body20
    rw [decide_eq_false h1]
    rw [List.drop_eq_nil_of_le (Nat.le_refl _), List.drop_eq_nil_of_le (by omega)]
    rfl
  | succ d ih =>
    intro i n hi hn
    obtain ⟨n, rfl⟩ : ∃ m, n = m + 1 := ⟨n - 1, by omega⟩
    have hx : i < xs.length := by omega
    have hy : i < ys.length := by omega
    rw [loopN_succ, b20, body20_eq hx hy hm]
    cases hb : xs[i] == ys[i] with
    | true =>
      have he : xs[i] = ys[i] := eq_of_beq hb
      have e : (xs.drop i = ys.drop i) = (xs.drop (i + 1) = ys.drop (i + 1)) := by
        rw [List.drop_eq_getElem_cons hx, List.drop_eq_getElem_cons hy, List.cons.injEq, he]
        simp
      simp only [cond_true, e]
      exact ih (i + 1) n (by omega) (by omega)
    | false =>
      have e : ¬ xs.drop i = ys.drop i := fun h => by
        rw [List.drop_eq_getElem_cons hx, List.drop_eq_getElem_cons hy, List.cons.injEq] at h
        rw [h.1] at hb
        simp at hb
      simp only [cond_false]
      rw [if_neg e]
      rfl
theorem rounds_big {n : Nat} (h : n ≤ maxLen) : n < rounds := by
  have h1 : maxLen = 9223372036854775807 := rfl
  have h2 : rounds = 100000000000000000000 := rfl
  omega
theorem ints_loop1 {xs : List Int} (hm : xs.length ≤ maxLen) : LFact Try.prog tb 20 4 0 (st20 xs xs 0) (.exit 0) (st20 xs xs (xs.length : Int)) :=
  ⟨orc0, ok0, (loop20 rfl hm xs.length 0 rounds (by omega) (rounds_big hm)).trans (by rw [if_pos rfl])⟩
theorem ints_loop2 {xs ys : List Int} (hl : xs.length = ys.length) (hn : xs ≠ ys) (hm : xs.length ≤ maxLen) : LFact Try.prog tb 20 4 0 (st20 xs ys 0) .ret (rt20 false) :=
  ⟨orc0, ok0, (loop20 hl hm xs.length 0 rounds (by omega) (rounds_big hm)).trans (by rw [if_neg (by simpa using hn)])⟩
noncomputable def S20 (xs ys : List Int) (e : Ex) (s : St) : Orc := knowL Try.prog 20 4 ⟨[0, 1, 4, 5], []⟩ 0 (st20 xs ys 0) e s orc0
theorem ints_run (xs ys : List Int) (h : Heap) : evCall Try.prog (stopAt 20 [3] orc0) tb 100 AV (.fn 20) (vwArgs Try.prog [] h (parsOf Try.prog 20) [ints xs, ints ys]) (mkHeap [] 0) .off rv =
    bif !((xs.length : Int) == (ys.length : Int)) then some (.bool false) else none := by kernel_rfl
theorem ints_run1 (xs ys : List Int) (h : Heap) : evCall Try.prog (S20 xs ys (.exit 0) (st20 xs ys (xs.length : Int))) tb 100 AV (.fn 20) (vwArgs Try.prog [] h (parsOf Try.prog 20) [ints xs, ints ys]) (mkHeap [] 0) .off rv =
    bif !((xs.length : Int) == (ys.length : Int)) then some (.bool false) else bif sameSt (st20 xs ys 0) (st20 xs ys 0) then some (.bool true) else none := by kernel_rfl
theorem ints_run2 (xs ys : List Int) (h : Heap) : evCall Try.prog (S20 xs ys .ret (rt20 false)) tb 100 AV (.fn 20) (vwArgs Try.prog [] h (parsOf Try.prog 20) [ints xs, ints ys]) (mkHeap [] 0) .off rv =
    bif !((xs.length : Int) == (ys.length : Int)) then some (.bool false) else bif sameSt (st20 xs ys 0) (st20 xs ys 0) then some (.bool false) else none := by kernel_rfl
theorem count20 : Nat.ble (countL 4 e20.code) 1 = true := by kernel_rfl
theorem norm20 : loopN0 tb 20 4 = some ⟨[0, 1, 4, 5], []⟩ := by kernel_rfl
theorem same_ints {xs ys : List Int} (hm : xs.length ≤ maxLen) : F 20 [ints xs, ints ys] (.bool (decide (xs = ys))) := by
  by_cases hl : xs.length = ys.length
  · have hl' : (!((xs.length : Int) == (ys.length : Int))) = false := by simp [hl]
    by_cases he : xs = ys
    · subst he
      refine .of (knowL_ok tbOk (ints_loop1 hm) ok0 (ep := e20) rfl norm20 count20) rfl fun h => (ints_run1 xs xs h).trans ?_
      rw [hl', sameSt_self]
      simp
    · refine .of (knowL_ok tbOk (ints_loop2 hl he hm) ok0 (ep := e20) rfl norm20 count20) rfl fun h => (ints_run2 xs ys h).trans ?_
      rw [hl', sameSt_self]
      simp [he]
  · refine .of (stopAt_ok ok0) rfl fun h => (ints_run xs ys h).trans ?_
    have hl' : (!((xs.length : Int) == (ys.length : Int))) = true := by
      simp only [Bool.not_eq_true', beq_eq_false_iff_ne]
      omega
    have he : xs ≠ ys := fun h => hl (by rw [h])
    rw [hl']
    simp [he]
end Go.Proofs.Ythlmbnhelkbchaa
/- Oracles of Run, for saws, pulses and triangles, and of ints. -/
namespace Go.Proofs.Ythlmbnhelkbchaa
open Go.Ev
set_option maxRecDepth 100000
def rowOf : AV → List Int
  | .fz cs _ _ _ => cs.map intOf
  | _ => []
def rowsOf : AV → List (List Int)
  | .fz cs _ _ _ => cs.map rowOf
  | _ => []
theorem rowOf_ints (xs : List Int) : rowOf (ints xs) = xs := by
  show (xs.map int64).map intOf = xs
  rw [List.map_map]
  exact List.map_id'' (fun _ => rfl) xs
theorem rowsOf_lists (ls : List (List Int)) : rowsOf (lists ls) = ls := by
  show (ls.map ints).map rowOf = ls
  rw [List.map_map]
  exact List.map_id'' (fun x => rowOf_ints x) ls
def obOf (vs : List AV) : Ob := ⟨intOf (nth vs 0), intOf (nth vs 5), intOf (nth vs 6), intOf (nth vs 7), intOf (nth vs 8), intOf (nth vs 9), intOf (nth vs 11), intOf (nth vs 12), intOf (nth vs 13), boolOf (nth vs 14)⟩
theorem obOf_cells (k r : Int) (ui ua : List Int) (o : Ob) : obOf (cellsU k r ui ua o) = o := rfl
def putOb (vs : List AV) (o : Ob) : List AV := [int64 o.at', nth vs 1, nth vs 2, nth vs 3, nth vs 4, int64 o.frame, int64 o.told, int64 o.n, int64 o.rnd, int64 o.last, nth vs 10, int64 o.stage, int64 o.level, int64 o.frm, .bool o.gate]
def objOf : List (Nat × Blk) → List AV
  | (_, .cells _ vs) :: _ => vs
  | _ => []
def FK (k : Int) (ls : List (List Int)) : Nat → Ob → Ob :=
  if k = 1 then F1 (ls.getD 0 []) else if k = 2 then F2 (ls.getD 0 []) (ls.getD 1 []) else F3 (ls.getD 0 [])
def res19 (a : List AV) (vs : List AV) : Ob × List Int := runO (intOf (nth vs 2)) (FK (intOf (nth vs 1)) (rowsOf (nth a 2))) 0 (intOf (nth a 1)).toNat (obOf vs)
noncomputable def V19 (a : List AV) (l : List (Nat × Blk)) : ORes := ((.tup [ints (res19 a (objOf l)).2, int64 0], [(0, .cells true (putOb (objOf l) (res19 a (objOf l)).1)), (0, .cells true (putOb (objOf l) (res19 a (objOf l)).1))]), psU)
def G19 (a : List AV) (l : List (Nat × Blk)) : Prop := ∃ k r o n, n ≤ 4096 ∧
  ((k = 1 ∧ ∃ u0 xs, a = argU (n : Nat) [xs] ∧ l = objU k r [u0] [] o ∧ xs.length = n) ∨ (k = 2 ∧ ∃ u0 u1 xs ys, a = argU (n : Nat) [xs, ys] ∧ l = objU k r [u0, u1] [] o ∧ xs.length = n ∧ ys.length = n) ∨
   (k = 3 ∧ ∃ u0 xs, a = argU (n : Nat) [xs] ∧ l = objU k r [u0] [] o ∧ xs.length = n))
noncomputable def O19 (S : Orc) : Orc := knowOW Try.prog scU 19 1 [] [] G19 V19 S
def is20 (a : List AV) : Prop := ∃ xs ys, a = [ints xs, ints ys] ∧ xs.length ≤ maxLen
def V20 (a : List AV) : AV := .bool (decide (rowOf (nth a 0) = rowOf (nth a 1)))
theorem when20 (a : List AV) (h : isSo (is20 a) = true) : F 20 a (V20 a) := by
  obtain ⟨xs, ys, rfl, hl⟩ := isSo_iff.1 h
  have := same_ints (ys := ys) hl
  unfold V20
  show F 20 _ (.bool (decide (rowOf (ints xs) = rowOf (ints ys))))
  simp only [rowOf_ints]
  exact this
noncomputable def O20 (S : Orc) : Orc := knowW 20 (fun a => isSo (is20 a)) V20 S
theorem O20_ok {S : Orc} (h : Ok S) : Ok (O20 S) := knowW_ok tbOk when20 h
end Go.Proofs.Ythlmbnhelkbchaa
/- Run of a unit, told of once for all: all kinds but a delay. -/
namespace Go.Proofs.Ythlmbnhelkbchaa
open Go.Ev
set_option maxRecDepth 100000
def G88 (a : List AV) (l : List (Nat × Blk)) : Prop := ∃ r u0 y0 y1 y2 y3 o b, a = [.ptr (some (0, 0)), .bool b] ∧ l = objU 6 r [u0] [y0, y1, y2, y3] o ∧ y0 ≥ 1 ∧ y1 ≥ 1 ∧ y3 ≥ 1
def env88 (vs : List AV) (b : Bool) : Ob := envN' ((rowOf (nth vs 4)).getD 0 0) ((rowOf (nth vs 4)).getD 1 0) ((rowOf (nth vs 4)).getD 2 0) ((rowOf (nth vs 4)).getD 3 0) b (obOf vs)
noncomputable def V88 (a : List AV) (l : List (Nat × Blk)) : ORes := ((int64 (env88 (objOf l) (boolOf (nth a 1))).level, [(0, .cells true (putOb (objOf l) (env88 (objOf l) (boolOf (nth a 1))))), (0, .cells true (putOb (objOf l) (env88 (objOf l) (boolOf (nth a 1)))))]), psU)
theorem when88 (a : List AV) (l : List (Nat × Blk)) (h : G88 a l) : OFact Try.prog tb scU 88 1 [] a l (V88 a l).1.1 (V88 a l).1.2 (V88 a l).2 := by
  obtain ⟨r, u0, y0, y1, y2, y3, o, b, rfl, rfl, h0, h1, h3⟩ := h
  refine ⟨_, knowW_ok tbOk when103 ok0, (run88 r u0 y0 y1 y2 y3 o b).trans ?_⟩
  obtain ⟨e1, e2⟩ := envT_eq (A := ORes) h0 h1 h3 b ⟨o.stage, o.level, o.frm, o.gate⟩ (kp := y2) (fun st lv fr => some ((int64 lv, objU2 6 r [u0] [y0, y1, y2, y3] (envO0 o st lv fr b)), psU))
  exact e1
noncomputable def O6 (S : Orc) : Orc := knowOW Try.prog scU 88 1 [] [] G88 V88 (OS S)
theorem O6_ok {S : Orc} (h : Ok S) : Ok (O6 S) := knowOW_ok tbOk when88 (OS_ok h)
noncomputable def step6 {A : Type} (r u0 : Int) (o : Ob) (y0 y1 y2 y3 x : Int) (tl : Ob → Option A) : Option A :=
  bif isSo (G88 [.ptr (some (0, 0)), .bool (decide (kM' x > 0))] (objU 6 r [u0] [y0, y1, y2, y3] o)) then tl (sayO (envN' y0 y1 y2 y3 (decide (kM' x > 0)) o) (envN' y0 y1 y2 y3 (decide (kM' x > 0)) o).level) else none
theorem b71_6 {A : Type} (r u0 y0 y1 y2 y3 n i : Int) (o : Ob) (xs : List Int) (K : Ex → St → Option A) : B71 6 r [u0] [y0, y1, y2, y3] n [xs] i o (O6 orc0) K = body n i r o (ldI xs i) (step6 r u0 o y0 y1 y2 y3) (tail0 6 r [u0] [y0, y1, y2, y3] n [xs] i K) (exit0 6 r [u0] [y0, y1, y2, y3] n [xs] i o K) := by kernel_rfl
theorem g71_6 {A : Type} (r u0 y0 y1 y2 y3 n i : Int) (o : Ob) (xs : List Int) (cs : List AV) (m : Nat) (K : Ex → St → Option A) : G71 6 r [u0] [y0, y1, y2, y3] n [xs] i o cs m (O6 orc0) K = body n i r o (ldI xs i) (step6 r u0 o y0 y1 y2 y3) (tailG 6 r [u0] [y0, y1, y2, y3] n [xs] i cs m K) (exitG 6 r [u0] [y0, y1, y2, y3] n [xs] i o cs m K) := by kernel_rfl
theorem step6_eq {A : Type} {r u0 : Int} {o : Ob} {y0 y1 y2 y3 x : Int} (h0 : y0 ≥ 1) (h1 : y1 ≥ 1) (h3 : y3 ≥ 1) (tl : Ob → Option A) : step6 r u0 o y0 y1 y2 y3 x tl = tl (sayO (envN' y0 y1 y2 y3 (decide (kM' x > 0)) o) (envN' y0 y1 y2 y3 (decide (kM' x > 0)) o).level) := by
  unfold step6
  rw [isSo_true ⟨r, u0, y0, y1, y2, y3, o, _, rfl, rfl, h0, h1, h3⟩]
  rfl
def F4 (_ : Nat) (o : Ob) : Ob := noiO o
def linN (y2 : Int) (o : Ob) : Int := if o.n < y2 then w64 (o.n + 1) else o.n
def linV (y0 y1 y2 : Int) (o : Ob) : Int := if o.n ≥ y2 then y1 else w64 (y0 + partI (w64 (y1 - y0)) o.n y2)
def F5 (y0 y1 y2 : Int) (_ : Nat) (o : Ob) : Ob := linO o (linN y2 o) (linV y0 y1 y2 o)
def F6 (y0 y1 y2 y3 : Int) (xs : List Int) (i : Nat) (o : Ob) : Ob := sayO (envN' y0 y1 y2 y3 (decide (kM' (xs.getD i 0) > 0)) o) (envN' y0 y1 y2 y3 (decide (kM' (xs.getD i 0) > 0)) o).level
def F7 (xs ys : List Int) (i : Nat) (o : Ob) : Ob := lowO o (lwV (xs.getD i 0) (ys.getD i 0) o.last)
def F8 (xs ys : List Int) (i : Nat) (o : Ob) : Ob := sayO o (kM' (w64 (kM' (xs.getD i 0) + kM' (ys.getD i 0))))
def F9 (xs ys : List Int) (i : Nat) (o : Ob) : Ob := sayO o (prodI (kM' (xs.getD i 0)) (kM' (ys.getD i 0)))
def F10 (xs ys : List Int) (i : Nat) (o : Ob) : Ob := sayO o (kept (kM' (xs.getD i 0)) (w64 (0 - maxI (kM' (ys.getD i 0)) 0)) (maxI (kM' (ys.getD i 0)) 0))
def FIn (xs : List Int) (i : Nat) (o : Ob) : Ob := sayO o (kM' (xs.getD i 0))
def F15 (y : Int) (_ : Nat) (o : Ob) : Ob := sayO o y
theorem step5_eq {A : Type} {o : Ob} {y0 y1 y2 : Int} (h : y2 ≥ 1) (tl : Ob → Option A) : step5 o y0 y1 y2 () tl = tl (linO o (linN y2 o) (linV y0 y1 y2 o)) := by
  have g : ∀ x : Option A, gPart (w64 (y1 - y0)) o.n y2 x = x := fun x => by unfold gPart; rw [isSo_true ⟨_, _, _, rfl, h⟩]; rfl
  unfold step5 linN linV
  simp only [g]
  by_cases h1 : o.n < y2
  · rw [decide_eq_true h1, decide_eq_false (by omega : ¬ o.n ≥ y2), if_pos h1, if_neg (by omega)]; rfl
  · rw [decide_eq_false h1, decide_eq_true (by omega : o.n ≥ y2), if_neg h1, if_pos (by omega)]; rfl
theorem step7_eq {A : Type} (o : Ob) (p : Int × Int) (tl : Ob → Option A) : step7 o p tl = tl (lowO o (lwV p.1 p.2 o.last)) := by
  unfold step7
  simp only [E_eq]
theorem rd_4 {r y0 : Int} {n : Nat} : Round 4 r [] [y0] [] (OS orc0) F4 (fun _ _ => True) n where
  b i o K _ hi := (b71_4 r y0 n i o K).trans (body_in (by omega) () (F4 i o) (fun _ => rfl) (rfl))
  g i o cs m K _ hi := (g71_4 r y0 n i o cs m K).trans (body_in (by omega) () (F4 i o) (fun _ => rfl) (rfl))
  b' o K _ := (b71_4 r y0 n n o K).trans (body_out (by omega))
  g' o cs m K _ := (g71_4 r y0 n n o cs m K).trans (body_out (by omega))
  inv _ _ _ _ := trivial
theorem rn_4 (r y0 : Int) : Runs 4 r [] [y0] [] (OS orc0) := ⟨fun n i o o' cs m => by kernel_rfl, fun n i o o' => by kernel_rfl⟩
theorem rd_5 {r y0 y1 y2 : Int} {n : Nat} (hy2 : y2 ≥ 1) : Round 5 r [] [y0, y1, y2] [] (OS orc0) (F5 y0 y1 y2) (fun _ _ => True) n where
  b i o K _ hi := (b71_5 r y0 y1 y2 n i o K).trans (body_in (by omega) () ((F5 y0 y1 y2) i o) (fun _ => rfl) (step5_eq hy2 _))
  g i o cs m K _ hi := (g71_5 r y0 y1 y2 n i o cs m K).trans (body_in (by omega) () ((F5 y0 y1 y2) i o) (fun _ => rfl) (step5_eq hy2 _))
  b' o K _ := (b71_5 r y0 y1 y2 n n o K).trans (body_out (by omega))
  g' o cs m K _ := (g71_5 r y0 y1 y2 n n o cs m K).trans (body_out (by omega))
  inv _ _ _ _ := trivial
theorem rn_5 (r y0 y1 y2 : Int) : Runs 5 r [] [y0, y1, y2] [] (OS orc0) := ⟨fun n i o o' cs m => by kernel_rfl, fun n i o o' => by kernel_rfl⟩
theorem rd_6 {r u0 y0 y1 y2 y3 : Int} {xs : List Int} {n : Nat} (hy0 : y0 ≥ 1) (hy1 : y1 ≥ 1) (hy3 : y3 ≥ 1) (hxs : xs.length = n) : Round 6 r [u0] [y0, y1, y2, y3] [xs] (O6 orc0) (F6 y0 y1 y2 y3 xs) (fun _ _ => True) n where
  b i o K _ hi := (b71_6 r u0 y0 y1 y2 y3 n i o xs K).trans (body_in (by omega) _ ((F6 y0 y1 y2 y3 xs) i o) (fun f => ldI_get (by omega) f) (step6_eq hy0 hy1 hy3 _))
  g i o cs m K _ hi := (g71_6 r u0 y0 y1 y2 y3 n i o xs cs m K).trans (body_in (by omega) _ ((F6 y0 y1 y2 y3 xs) i o) (fun f => ldI_get (by omega) f) (step6_eq hy0 hy1 hy3 _))
  b' o K _ := (b71_6 r u0 y0 y1 y2 y3 n n o xs K).trans (body_out (by omega))
  g' o cs m K _ := (g71_6 r u0 y0 y1 y2 y3 n n o xs cs m K).trans (body_out (by omega))
  inv _ _ _ _ := trivial
theorem rn_6 (r u0 y0 y1 y2 y3 : Int) (xs : List Int) : Runs 6 r [u0] [y0, y1, y2, y3] [xs] (O6 orc0) := ⟨fun n i o o' cs m => by kernel_rfl, fun n i o o' => by kernel_rfl⟩
theorem rd_7 {r u0 u1 : Int} {xs ys : List Int} {n : Nat} (hxs : xs.length = n) (hys : ys.length = n) : Round 7 r [u0, u1] [] [xs, ys] (OS orc0) (F7 xs ys) (fun _ _ => True) n where
  b i o K _ hi := (b71_7 r u0 u1 n i o xs ys K).trans (body_in (by omega) (xs.getD i 0, ys.getD i 0) ((F7 xs ys) i o) (fun f => (ldI_get (by omega) _).trans (ldI_get (by omega) _)) (step7_eq _ _ _))
  g i o cs m K _ hi := (g71_7 r u0 u1 n i o xs ys cs m K).trans (body_in (by omega) (xs.getD i 0, ys.getD i 0) ((F7 xs ys) i o) (fun f => (ldI_get (by omega) _).trans (ldI_get (by omega) _)) (step7_eq _ _ _))
  b' o K _ := (b71_7 r u0 u1 n n o xs ys K).trans (body_out (by omega))
  g' o cs m K _ := (g71_7 r u0 u1 n n o xs ys cs m K).trans (body_out (by omega))
  inv _ _ _ _ := trivial
theorem rn_7 (r u0 u1 : Int) (xs ys : List Int) : Runs 7 r [u0, u1] [] [xs, ys] (OS orc0) := ⟨fun n i o o' cs m => by kernel_rfl, fun n i o o' => by kernel_rfl⟩
theorem rd_8 {r u0 u1 : Int} {xs ys : List Int} {n : Nat} (hxs : xs.length = n) (hys : ys.length = n) : Round 8 r [u0, u1] [] [xs, ys] (OS orc0) (F8 xs ys) (fun _ _ => True) n where
  b i o K _ hi := (b71_8 r u0 u1 n i o xs ys K).trans (body_in (by omega) (xs.getD i 0, ys.getD i 0) ((F8 xs ys) i o) (fun f => (ldI_get (by omega) _).trans (ldI_get (by omega) _)) (rfl))
  g i o cs m K _ hi := (g71_8 r u0 u1 n i o xs ys cs m K).trans (body_in (by omega) (xs.getD i 0, ys.getD i 0) ((F8 xs ys) i o) (fun f => (ldI_get (by omega) _).trans (ldI_get (by omega) _)) (rfl))
  b' o K _ := (b71_8 r u0 u1 n n o xs ys K).trans (body_out (by omega))
  g' o cs m K _ := (g71_8 r u0 u1 n n o xs ys cs m K).trans (body_out (by omega))
  inv _ _ _ _ := trivial
theorem rn_8 (r u0 u1 : Int) (xs ys : List Int) : Runs 8 r [u0, u1] [] [xs, ys] (OS orc0) := ⟨fun n i o o' cs m => by kernel_rfl, fun n i o o' => by kernel_rfl⟩
theorem rd_9 {r u0 u1 : Int} {xs ys : List Int} {n : Nat} (hxs : xs.length = n) (hys : ys.length = n) : Round 9 r [u0, u1] [] [xs, ys] (OS orc0) (F9 xs ys) (fun _ _ => True) n where
  b i o K _ hi := (b71_9 r u0 u1 n i o xs ys K).trans (body_in (by omega) (xs.getD i 0, ys.getD i 0) ((F9 xs ys) i o) (fun f => (ldI_get (by omega) _).trans (ldI_get (by omega) _)) (rfl))
  g i o cs m K _ hi := (g71_9 r u0 u1 n i o xs ys cs m K).trans (body_in (by omega) (xs.getD i 0, ys.getD i 0) ((F9 xs ys) i o) (fun f => (ldI_get (by omega) _).trans (ldI_get (by omega) _)) (rfl))
  b' o K _ := (b71_9 r u0 u1 n n o xs ys K).trans (body_out (by omega))
  g' o cs m K _ := (g71_9 r u0 u1 n n o xs ys cs m K).trans (body_out (by omega))
  inv _ _ _ _ := trivial
theorem rn_9 (r u0 u1 : Int) (xs ys : List Int) : Runs 9 r [u0, u1] [] [xs, ys] (OS orc0) := ⟨fun n i o o' cs m => by kernel_rfl, fun n i o o' => by kernel_rfl⟩
theorem rd_10 {r u0 u1 : Int} {xs ys : List Int} {n : Nat} (hxs : xs.length = n) (hys : ys.length = n) : Round 10 r [u0, u1] [] [xs, ys] (OS orc0) (F10 xs ys) (fun _ _ => True) n where
  b i o K _ hi := (b71_10 r u0 u1 n i o xs ys K).trans (body_in (by omega) (xs.getD i 0, ys.getD i 0) ((F10 xs ys) i o) (fun f => (ldI_get (by omega) _).trans (ldI_get (by omega) _)) (rfl))
  g i o cs m K _ hi := (g71_10 r u0 u1 n i o xs ys cs m K).trans (body_in (by omega) (xs.getD i 0, ys.getD i 0) ((F10 xs ys) i o) (fun f => (ldI_get (by omega) _).trans (ldI_get (by omega) _)) (rfl))
  b' o K _ := (b71_10 r u0 u1 n n o xs ys K).trans (body_out (by omega))
  g' o cs m K _ := (g71_10 r u0 u1 n n o xs ys cs m K).trans (body_out (by omega))
  inv _ _ _ _ := trivial
theorem rn_10 (r u0 u1 : Int) (xs ys : List Int) : Runs 10 r [u0, u1] [] [xs, ys] (OS orc0) := ⟨fun n i o o' cs m => by kernel_rfl, fun n i o o' => by kernel_rfl⟩
theorem rd_12 {r y0 : Int} {xs : List Int} {n : Nat} (hxs : xs.length = n) : Round 12 r [] [y0] [xs] (OS orc0) (FIn xs) (fun _ _ => True) n where
  b i o K _ hi := (b71_12 r y0 n i o xs K).trans (body_in (by omega) _ ((FIn xs) i o) (fun f => ldI_get (by omega) f) (rfl))
  g i o cs m K _ hi := (g71_12 r y0 n i o xs cs m K).trans (body_in (by omega) _ ((FIn xs) i o) (fun f => ldI_get (by omega) f) (rfl))
  b' o K _ := (b71_12 r y0 n n o xs K).trans (body_out (by omega))
  g' o cs m K _ := (g71_12 r y0 n n o xs cs m K).trans (body_out (by omega))
  inv _ _ _ _ := trivial
theorem rn_12 (r y0 : Int) (xs : List Int) : Runs 12 r [] [y0] [xs] (OS orc0) := ⟨fun n i o o' cs m => by kernel_rfl, fun n i o o' => by kernel_rfl⟩
theorem rd_13 {r u0 y0 : Int} {xs : List Int} {n : Nat} (hxs : xs.length = n) : Round 13 r [u0] [y0] [xs] (OS orc0) (FIn xs) (fun _ _ => True) n where
  b i o K _ hi := (b71_13 r u0 y0 n i o xs K).trans (body_in (by omega) _ ((FIn xs) i o) (fun f => ldI_get (by omega) f) (rfl))
  g i o cs m K _ hi := (g71_13 r u0 y0 n i o xs cs m K).trans (body_in (by omega) _ ((FIn xs) i o) (fun f => ldI_get (by omega) f) (rfl))
  b' o K _ := (b71_13 r u0 y0 n n o xs K).trans (body_out (by omega))
  g' o cs m K _ := (g71_13 r u0 y0 n n o xs cs m K).trans (body_out (by omega))
  inv _ _ _ _ := trivial
theorem rn_13 (r u0 y0 : Int) (xs : List Int) : Runs 13 r [u0] [y0] [xs] (OS orc0) := ⟨fun n i o o' cs m => by kernel_rfl, fun n i o o' => by kernel_rfl⟩
theorem rd_14 {r y0 : Int} {xs : List Int} {n : Nat} (hxs : xs.length = n) : Round 14 r [] [y0] [xs] (OS orc0) (FIn xs) (fun _ _ => True) n where
  b i o K _ hi := (b71_14 r y0 n i o xs K).trans (body_in (by omega) _ ((FIn xs) i o) (fun f => ldI_get (by omega) f) (rfl))
  g i o cs m K _ hi := (g71_14 r y0 n i o xs cs m K).trans (body_in (by omega) _ ((FIn xs) i o) (fun f => ldI_get (by omega) f) (rfl))
  b' o K _ := (b71_14 r y0 n n o xs K).trans (body_out (by omega))
  g' o cs m K _ := (g71_14 r y0 n n o xs cs m K).trans (body_out (by omega))
  inv _ _ _ _ := trivial
theorem rn_14 (r y0 : Int) (xs : List Int) : Runs 14 r [] [y0] [xs] (OS orc0) := ⟨fun n i o o' cs m => by kernel_rfl, fun n i o o' => by kernel_rfl⟩
theorem rd_15 {r y0 : Int} {n : Nat} : Round 15 r [] [y0] [] (OS orc0) (F15 y0) (fun _ _ => True) n where
  b i o K _ hi := (b71_15 r y0 n i o K).trans (body_in (by omega) () ((F15 y0) i o) (fun _ => rfl) (rfl))
  g i o cs m K _ hi := (g71_15 r y0 n i o cs m K).trans (body_in (by omega) () ((F15 y0) i o) (fun _ => rfl) (rfl))
  b' o K _ := (b71_15 r y0 n n o K).trans (body_out (by omega))
  g' o cs m K _ := (g71_15 r y0 n n o cs m K).trans (body_out (by omega))
  inv _ _ _ _ := trivial
theorem rn_15 (r y0 : Int) : Runs 15 r [] [y0] [] (OS orc0) := ⟨fun n i o o' cs m => by kernel_rfl, fun n i o o' => by kernel_rfl⟩
end Go.Proofs.Ythlmbnhelkbchaa
