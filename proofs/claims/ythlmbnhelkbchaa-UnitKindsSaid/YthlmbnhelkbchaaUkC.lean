/- UnitKinds: the run. -/
import Derived.Test.YthlmbnhelkbchaaUkB
namespace Go.Proofs.Ythlmbnhelkbchaa
open Go.Ev
set_option maxRecDepth 100000
theorem awake_run (h : Heap) : evCall Try.prog orc0 tb 100 AV (.fn 12) (vwArgs Try.prog [] h (parsOf Try.prog 12) []) (mkHeap [] 0) .off rv = some (.bool true) := by kernel_rfl
theorem awake_fact : F 12 [] (.bool true) := .of ok0 rfl awake_run
noncomputable def S1 (a25 : List AV) (t25 : AV) (w27 : AV) (u : List AV) (v : AV) (a30 : List AV) (n : AV) : Orc :=
  know 12 [] (.bool true) (know 25 a25 t25 (know 26 a25 t25 (know 27 a25 w27 (know 28 a25 w27 (know 29 u v (know 13 u v (know 30 a30 n (know 31 a30 n orc0))))))))
noncomputable abbrev D (a : List AV) (x : Option Bool) : Option Bool := bif same a a then x else none
theorem law_run (k r k2 a b e m f : Int) (xs ys : List Int) (s w : List UInt8) (v : Bool) :
    evCall Try.prog (S1 [int64 k2] (.tup [int64 a, int64 b, int64 e]) (.str s) [unitV k r xs ys] (.bool v) [.str w] (.tup [int64 m, int64 f])) tb 100 Bool (.fn 7) [unitV k r xs ys, int64 k2, .str w] ⟨fun _ => none, 0⟩ .off done =
    D [] (bif decide ((xs.length : Int) > 10) then some true else bif decide ((ys.length : Int) > 10) then some true else
      D [int64 k2] (D [int64 k2] (bif !(a == a) then some false else bif !(b == b) then some false else bif !(e == e) then some false else
        D [int64 k2] (D [int64 k2] (bif !(eqS s s) then some false else D [unitV k r xs ys] (bif sameV (unitV k r xs ys) (unitV k r xs ys) then D [unitV k r xs ys] (bif !(v == v) then some false else
          D [.str w] (D [.str w] (bif m == m then some (f == f) else some false))) else none))))))  := by kernel_rfl
theorem unit_arg {H : Type} {k : Nat} {d : DataW H} (w : WT Try.prog k 26 d) : ∃ n r xs ys, dVal Try.prog k 26 d = unitV n r xs ys := by
  obtain ⟨k', ds, h1, h2, h3⟩ := WT.struct (l := [(0, 3), (1, 3), (2, 22), (3, 22)]) (by kernel_rfl) w
  obtain ⟨d0, d1, d2, d3, rfl⟩ : ∃ d0 d1 d2 d3, ds = [d0, d1, d2, d3] := by
    rcases ds with _ | ⟨d0, _ | ⟨d1, _ | ⟨d2, _ | ⟨d3, _ | ⟨_, _⟩⟩⟩⟩⟩ <;> simp at h1
    exact ⟨d0, d1, d2, d3, rfl⟩
  obtain ⟨n, e0, _⟩ := WT.int (j := .i64) (by kernel_rfl) (h2 0 _ _ rfl rfl)
  obtain ⟨r, e1, _⟩ := WT.int (j := .i64) (by kernel_rfl) (h2 1 _ _ rfl rfl)
  obtain ⟨xs, e2, _⟩ := WT.ints (e := 3) (by kernel_rfl) (by kernel_rfl) (by kernel_rfl) (h2 2 _ _ rfl rfl)
  obtain ⟨ys, e3, _⟩ := WT.ints (e := 3) (by kernel_rfl) (by kernel_rfl) (by kernel_rfl) (h2 3 _ _ rfl rfl)
  refine ⟨n, r, xs, ys, h3.trans ?_⟩
  have hc : Try.prog.cellsOf 26 = 4 := by kernel_rfl
  simp only [List.zip_cons_cons, List.zip_nil_right, List.map_cons, List.map_nil]
  simp only at e0 e1 e2 e3
  rw [e0, e1, e2, e3, hc]
  rfl
theorem eqS_refl (s : List UInt8) : eqS s s = true := by
  induction s with
  | nil => rfl
  | cons x s ih => simp [eqS, ih]
theorem sameL_ints (xs : List Int) : sameL (xs.map int64) (xs.map int64) = true := by
  induction xs with
  | nil => rfl
  | cons x xs ih => simp [sameL, sameF, int64, ih]
theorem sameV_unit (k r : Int) (xs ys : List Int) : sameV (unitV k r xs ys) (unitV k r xs ys) = true := by
  simp [unitV, sameV, sameL, sameF, int64, ints]
  exact ⟨sameL_ints xs, sameL_ints ys⟩
theorem law {H : Type} {k0 k1 k2 : Nat} {d0 d1 d2 : DataW H} (w0 : WT Try.prog k0 26 d0) (w1 : WT Try.prog k1 3 d1) (w2 : WT Try.prog k2 9 d2) :
    ∃ S, Ok S ∧ evCall Try.prog S tb 100 Bool (.fn 7) [dVal Try.prog k0 26 d0, dVal Try.prog k1 3 d1, dVal Try.prog k2 9 d2] ⟨fun _ => none, 0⟩ .off done = some true := by
  obtain ⟨k, r, xs, ys, e0⟩ := unit_arg w0
  obtain ⟨n, e1, _⟩ := WT.vint (by kernel_rfl) w1
  obtain ⟨w, e2, _⟩ := WT.vstr (by kernel_rfl) w2
  rw [e0, e1, e2]
  obtain ⟨a, b, e, s, f25, f26, f27, f28⟩ := kind_facts n
  obtain ⟨v, f29, f13⟩ := valid_facts k r xs ys
  obtain ⟨m, f, f30, f31⟩ := name_facts w
  refine ⟨_, know_ok tbOk awake_fact (know_ok tbOk f25 (know_ok tbOk f26 (know_ok tbOk f27 (know_ok tbOk f28 (know_ok tbOk f29 (know_ok tbOk f13 (know_ok tbOk f30 (know_ok tbOk f31 ok0)))))))), ?_⟩
  refine (law_run k r n a b e m f xs ys s w v).trans ?_
  have hs : eqS s s = true := eqS_refl s
  simp only [D, same_self, cond_true, beq_self_eq_true, Bool.not_true, cond_false, hs, sameV_unit]
  cases decide ((xs.length : Int) > 10) <;> cases decide ((ys.length : Int) > 10) <;> rfl
end Go.Proofs.Ythlmbnhelkbchaa
