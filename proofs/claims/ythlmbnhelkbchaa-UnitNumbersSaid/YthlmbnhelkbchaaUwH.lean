/- UnitNumbers: the law. -/
import Derived.Test.YthlmbnhelkbchaaUwA
import Derived.Test.YthlmbnhelkbchaaUwC
import Derived.Test.YthlmbnhelkbchaaUwG
import Derived.Test.YthlmbnhelkbchaaUiA
namespace Go.Proofs.Ythlmbnhelkbchaa
open Go.Ev
set_option maxRecDepth 100000
theorem when20 (a : List AV) (h : isSo (∃ l, a = [ints l, ints l] ∧ l.length ≤ maxLen) = true) : F 20 a (.bool true) := by
  obtain ⟨l, rfl, hl⟩ := isSo_iff.1 h
  have := same_ints (xs := l) (ys := l) hl
  simpa using this
noncomputable def SN (f r s : Int) (xs gs : List Int) (w : Int) (n1 e1 n2 e2 : Int) (ys : List Int) (e3 : Int) (zs : List Int) (e4 : Int) : Orc :=
  know 12 [] (.bool true) (know 39 [int64 f, int64 r] (.tup [int64 n1, int64 e1]) (know 40 [int64 f, int64 r] (.tup [int64 n1, int64 e1]) (know 17 [int64 s] (.tup [int64 n2, int64 e2]) (know 41 [int64 s] (.tup [int64 n2, int64 e2])
   (knowF 14 [ints xs, ints gs] (.tup [ints ys, int64 e3]) (knowF 42 [ints xs, ints gs] (.tup [ints ys, int64 e3]) (knowF 15 [int64 w, ints gs] (.tup [ints zs, int64 e4]) (knowF 43 [int64 w, ints gs] (.tup [ints zs, int64 e4]) (knowW 20 (fun a => isSo (∃ l, a = [ints l, ints l] ∧ l.length ≤ maxLen)) (fun _ => .bool true) orc0)))))))))
noncomputable abbrev D (a : List AV) (x : Option Bool) : Option Bool := bif same a a then x else none
noncomputable abbrev L (l : List Int) (x : Option Bool) : Option Bool := bif isSo (∃ k, [ints l, ints l] = [ints k, ints k] ∧ k.length ≤ maxLen) then x else none
theorem num_run (f r s : Int) (xs gs : List Int) (w : Int) (n1 e1 n2 e2 : Int) (ys : List Int) (e3 : Int) (zs : List Int) (e4 : Int) :
    evCall Try.prog (SN f r s xs gs w n1 e1 n2 e2 ys e3 zs e4) tb 100 Bool (.fn 11) [int64 f, int64 r, int64 s, ints xs, ints gs, int64 w] ⟨fun _ => none, 0⟩ .off done =
    D [] (
      let rest : Option Bool := bif decide ((gs.length : Int) > 30000) then some true else
        D [int64 f, int64 r] <| D [int64 f, int64 r] <| bif !(n1 == n1) then some false else bif !(e1 == e1) then some false else
        D [int64 s] <| D [int64 s] <| bif !(n2 == n2) then some false else bif !(e2 == e2) then some false else
        D [ints xs, ints gs] <| D [ints xs, ints gs] <| L ys <| bif !(e3 == e3) then some false else
        D [int64 w, ints gs] <| D [int64 w, ints gs] <| L zs <| some (e4 == e4)
      bif decide ((xs.length : Int) > 10) then some true else bif decide ((gs.length : Int) > 2000) then bif decide ((gs.length : Int) ≤ 20000) then some true else rest else rest) := by kernel_rfl
theorem law11 {H : Type} {k0 k1 k2 k3 k4 k5 : Nat} {d0 d1 d2 d3 d4 d5 : DataW H} (w0 : WT Try.prog k0 3 d0) (w1 : WT Try.prog k1 3 d1) (w2 : WT Try.prog k2 3 d2) (w3 : WT Try.prog k3 22 d3) (w4 : WT Try.prog k4 22 d4) (w5 : WT Try.prog k5 3 d5) :
    ∃ S, Ok S ∧ evCall Try.prog S tb 100 Bool (.fn 11) [dVal Try.prog k0 3 d0, dVal Try.prog k1 3 d1, dVal Try.prog k2 3 d2, dVal Try.prog k3 22 d3, dVal Try.prog k4 22 d4, dVal Try.prog k5 3 d5] ⟨fun _ => none, 0⟩ .off done = some true := by
  obtain ⟨f, e0, _⟩ := WT.vint (by kernel_rfl) w0
  obtain ⟨r, e1, _⟩ := WT.vint (by kernel_rfl) w1
  obtain ⟨s, e2, _⟩ := WT.vint (by kernel_rfl) w2
  obtain ⟨xs, e3, _⟩ := WT.vints (e := 3) (by kernel_rfl) (by kernel_rfl) (by kernel_rfl) w3
  obtain ⟨gs, e4, _⟩ := WT.vints (e := 3) (by kernel_rfl) (by kernel_rfl) (by kernel_rfl) w4
  obtain ⟨w, e5, _⟩ := WT.vint (by kernel_rfl) w5
  rw [e0, e1, e2, e3, e4, e5]
  obtain ⟨n1, c1, a1, a2⟩ := step_facts f r
  obtain ⟨n2, c2, b1, b2⟩ := period_facts s
  obtain ⟨ys, c3, hy, y1, y2⟩ := env_facts xs gs
  obtain ⟨zs, c4, hz, z1, z2⟩ := low_facts w gs
  refine ⟨SN f r s xs gs w n1 c1 n2 c2 ys c3 zs c4, know_ok tbOk awake_fact (know_ok tbOk a1 (know_ok tbOk a2 (know_ok tbOk b1 (know_ok tbOk b2 (knowF_ok tbOk y1 (knowF_ok tbOk y2 (knowF_ok tbOk z1 (knowF_ok tbOk z2 (knowW_ok tbOk when20 ok0))))))))), ?_⟩
  refine (num_run f r s xs gs w n1 c1 n2 c2 ys c3 zs c4).trans ?_
  have iy : isSo (∃ k, [ints ys, ints ys] = [ints k, ints k] ∧ k.length ≤ maxLen) = true := isSo_true ⟨ys, rfl, hy⟩
  have iz : isSo (∃ k, [ints zs, ints zs] = [ints k, ints k] ∧ k.length ≤ maxLen) = true := isSo_true ⟨zs, rfl, hz⟩
  simp only [D, L, same_self, iy, iz, beq_self_eq_true, Bool.not_true, cond_true, cond_false]
  cases decide ((xs.length : Int) > 10) <;> cases decide ((gs.length : Int) > 2000) <;> cases decide ((gs.length : Int) ≤ 20000) <;> cases decide ((gs.length : Int) > 30000) <;> rfl
end Go.Proofs.Ythlmbnhelkbchaa
