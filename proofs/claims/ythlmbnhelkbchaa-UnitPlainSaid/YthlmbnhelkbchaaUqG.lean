/- UnitPlain: the law. -/
import Derived.Test.YthlmbnhelkbchaaUqF
namespace Go.Proofs.Ythlmbnhelkbchaa
open Go.Ev
set_option maxRecDepth 100000
theorem unit_arg {H : Type} {k : Nat} {d : DataW H} (w : WT Try.prog k 26 d) : ∃ n r xs ys, dVal Try.prog k 26 d = unitV n r xs ys := by
  obtain ⟨k', ds, h1, h2, h3⟩ := WT.struct (l := [(0, 3), (1, 3), (2, 22), (3, 22)]) (by kernel_rfl) w
  obtain ⟨d0, d1, d2, d3, rfl⟩ : ∃ d0 d1 d2 d3, ds = [d0, d1, d2, d3] := by
    rcases ds with _ | ⟨d0, _ | ⟨d1, _ | ⟨d2, _ | ⟨d3, _ | ⟨_, _⟩⟩⟩⟩⟩ <;> simp at h1
    exact ⟨d0, d1, d2, d3, rfl⟩
  obtain ⟨n, e0, _⟩ := WT.int (j := .i64) (by kernel_rfl) (h2 0 _ _ rfl rfl)
  obtain ⟨r, e1, _⟩ := WT.int (j := .i64) (by kernel_rfl) (h2 1 _ _ rfl rfl)
  obtain ⟨xs, e2, _⟩ := WT.ints (e := 3) (by kernel_rfl) (by kernel_rfl) (by kernel_rfl) (h2 2 _ _ rfl rfl)
  obtain ⟨ys, e3, _⟩ := WT.ints (e := 3) (by kernel_rfl) (by kernel_rfl) (by kernel_rfl) (h2 3 _ _ rfl rfl)
  refine ⟨n, r, xs, ys, h3.trans ?_⟩
  have hc : Try.prog.cellsOf 26 = 4 := by kernel_rfl
  simp only [List.zip_cons_cons, List.zip_nil_right, List.map_cons, List.map_nil]
  simp only at e0 e1 e2 e3
  rw [e0, e1, e2, e3, hc]
  rfl
theorem law26 {H : Type} {k0 k1 k2 : Nat} {d0 d1 d2 : DataW H} (w0 : WT Try.prog k0 26 d0) (w1 : WT Try.prog k1 22 d1) (w2 : WT Try.prog k2 22 d2) :
    ∃ S, Ok S ∧ evCall Try.prog S tb 100 Bool (.fn 9) [dVal Try.prog k0 26 d0, dVal Try.prog k1 22 d1, dVal Try.prog k2 22 d2] ⟨fun _ => none, 0⟩ .off done = some true := by
  obtain ⟨k, r, xs, ys, e0⟩ := unit_arg w0
  obtain ⟨zs, e1, _⟩ := WT.vints (e := 3) (by kernel_rfl) (by kernel_rfl) (by kernel_rfl) w1
  obtain ⟨ws, e2, _⟩ := WT.vints (e := 3) (by kernel_rfl) (by kernel_rfl) (by kernel_rfl) w2
  rw [e0, e1, e2]
  by_cases ho : Out k
  · obtain ⟨f29, f13⟩ := shape_out r xs ys ho
    exact law_no ws (no_P _ _ _ _ _ f29 f13)
  have : k = 1 ∨ k = 2 ∨ k = 3 ∨ k = 4 ∨ k = 5 ∨ k = 6 ∨ k = 7 ∨ k = 8 ∨ k = 9 ∨ k = 10 ∨ k = 11 ∨ k = 12 ∨ k = 13 ∨ k = 14 ∨ k = 15 := by
    unfold Out at ho
    omega
  rcases this with rfl | rfl | rfl | rfl | rfl | rfl | rfl | rfl | rfl | rfl | rfl | rfl | rfl | rfl | rfl
  · obtain ⟨v, f29, f13, hs⟩ := shape_1 r xs ys
    cases v with
    | false => exact law_no ws (no_P _ _ _ _ _ f29 f13)
    | true =>
      obtain ⟨hx, hy⟩ := hs rfl
      rcases xs with _ | ⟨x0, _ | ⟨_, _⟩⟩ <;> simp at hx
      rcases ys with _ | ⟨_, _⟩ <;> simp at hy
      by_cases hz : zs.length = 1
      rotate_left
      · exact law_no ws (bad_1 r x0 zs f29 f13 hz)
      exact law_no ws (off_1 r x0 zs f29 f13 hz)
  · obtain ⟨v, f29, f13, hs⟩ := shape_2 r xs ys
    cases v with
    | false => exact law_no ws (no_P _ _ _ _ _ f29 f13)
    | true =>
      obtain ⟨hx, hy⟩ := hs rfl
      rcases xs with _ | ⟨x0, _ | ⟨x1, _ | ⟨_, _⟩⟩⟩ <;> simp at hx
      rcases ys with _ | ⟨_, _⟩ <;> simp at hy
      by_cases hz : zs.length = 2
      rotate_left
      · exact law_no ws (bad_2 r x0 x1 zs f29 f13 hz)
      exact law_no ws (off_2 r x0 x1 zs f29 f13 hz)
  · obtain ⟨v, f29, f13, hs⟩ := shape_3 r xs ys
    cases v with
    | false => exact law_no ws (no_P _ _ _ _ _ f29 f13)
    | true =>
      obtain ⟨hx, hy⟩ := hs rfl
      rcases xs with _ | ⟨x0, _ | ⟨_, _⟩⟩ <;> simp at hx
      rcases ys with _ | ⟨_, _⟩ <;> simp at hy
      by_cases hz : zs.length = 1
      rotate_left
      · exact law_no ws (bad_3 r x0 zs f29 f13 hz)
      exact law_no ws (off_3 r x0 zs f29 f13 hz)
  · obtain ⟨v, f29, f13, hs⟩ := shape_4 r xs ys
    cases v with
    | false => exact law_no ws (no_P _ _ _ _ _ f29 f13)
    | true =>
      obtain ⟨hx, hy⟩ := hs rfl
      rcases xs with _ | ⟨_, _⟩ <;> simp at hx
      rcases ys with _ | ⟨y0, _ | ⟨_, _⟩⟩ <;> simp at hy
      by_cases hz : zs.length = 0
      rotate_left
      · exact law_no ws (bad_4 r y0 zs f29 f13 hz)
      exact law_no ws (off_4 r y0 zs f29 f13 hz)
  · obtain ⟨v, f29, f13, hs⟩ := shape_5 r xs ys
    cases v with
    | false => exact law_no ws (no_P _ _ _ _ _ f29 f13)
    | true =>
      obtain ⟨hx, hy⟩ := hs rfl
      rcases xs with _ | ⟨_, _⟩ <;> simp at hx
      rcases ys with _ | ⟨y0, _ | ⟨y1, _ | ⟨y2, _ | ⟨_, _⟩⟩⟩⟩ <;> simp at hy
      by_cases hz : zs.length = 0
      rotate_left
      · exact law_no ws (bad_5 r y0 y1 y2 zs f29 f13 hz)
      exact law_no ws (off_5 r y0 y1 y2 zs f29 f13 hz)
  · obtain ⟨v, f29, f13, hs⟩ := shape_6 r xs ys
    cases v with
    | false => exact law_no ws (no_P _ _ _ _ _ f29 f13)
    | true =>
      obtain ⟨hx, hy⟩ := hs rfl
      rcases xs with _ | ⟨x0, _ | ⟨_, _⟩⟩ <;> simp at hx
      rcases ys with _ | ⟨y0, _ | ⟨y1, _ | ⟨y2, _ | ⟨y3, _ | ⟨_, _⟩⟩⟩⟩⟩ <;> simp at hy
      by_cases hz : zs.length = 1
      rotate_left
      · exact law_no ws (bad_6 r x0 y0 y1 y2 y3 zs f29 f13 hz)
      exact law_no ws (off_6 r x0 y0 y1 y2 y3 zs f29 f13 hz)
  · obtain ⟨v, f29, f13, hs⟩ := shape_7 r xs ys
    cases v with
    | false => exact law_no ws (no_P _ _ _ _ _ f29 f13)
    | true =>
      obtain ⟨hx, hy⟩ := hs rfl
      rcases xs with _ | ⟨x0, _ | ⟨x1, _ | ⟨_, _⟩⟩⟩ <;> simp at hx
      rcases ys with _ | ⟨_, _⟩ <;> simp at hy
      by_cases hz : zs.length = 2
      rotate_left
      · exact law_no ws (bad_7 r x0 x1 zs f29 f13 hz)
      exact law_no ws (off_7 r x0 x1 zs f29 f13 hz)
  · obtain ⟨v, f29, f13, hs⟩ := shape_8 r xs ys
    cases v with
    | false => exact law_no ws (no_P _ _ _ _ _ f29 f13)
    | true =>
      obtain ⟨hx, hy⟩ := hs rfl
      rcases xs with _ | ⟨x0, _ | ⟨x1, _ | ⟨_, _⟩⟩⟩ <;> simp at hx
      rcases ys with _ | ⟨_, _⟩ <;> simp at hy
      by_cases hz : zs.length = 2
      rotate_left
      · exact law_no ws (bad_8 r x0 x1 zs f29 f13 hz)
      rcases zs with _ | ⟨p, _ | ⟨q, _ | ⟨_, _⟩⟩⟩ <;> simp at hz
      exact law_8 r x0 x1 p q ws (yes_8 r x0 x1 p q f29 f13)
  · obtain ⟨v, f29, f13, hs⟩ := shape_9 r xs ys
    cases v with
    | false => exact law_no ws (no_P _ _ _ _ _ f29 f13)
    | true =>
      obtain ⟨hx, hy⟩ := hs rfl
      rcases xs with _ | ⟨x0, _ | ⟨x1, _ | ⟨_, _⟩⟩⟩ <;> simp at hx
      rcases ys with _ | ⟨_, _⟩ <;> simp at hy
      by_cases hz : zs.length = 2
      rotate_left
      · exact law_no ws (bad_9 r x0 x1 zs f29 f13 hz)
      rcases zs with _ | ⟨p, _ | ⟨q, _ | ⟨_, _⟩⟩⟩ <;> simp at hz
      exact law_9 r x0 x1 p q ws (yes_9 r x0 x1 p q f29 f13)
  · obtain ⟨v, f29, f13, hs⟩ := shape_10 r xs ys
    cases v with
    | false => exact law_no ws (no_P _ _ _ _ _ f29 f13)
    | true =>
      obtain ⟨hx, hy⟩ := hs rfl
      rcases xs with _ | ⟨x0, _ | ⟨x1, _ | ⟨_, _⟩⟩⟩ <;> simp at hx
      rcases ys with _ | ⟨_, _⟩ <;> simp at hy
      by_cases hz : zs.length = 2
      rotate_left
      · exact law_no ws (bad_10 r x0 x1 zs f29 f13 hz)
      rcases zs with _ | ⟨p, _ | ⟨q, _ | ⟨_, _⟩⟩⟩ <;> simp at hz
      exact law_10 r x0 x1 p q ws (yes_10 r x0 x1 p q f29 f13)
  · obtain ⟨v, f29, f13, hs⟩ := shape_11 r xs ys
    cases v with
    | false => exact law_no ws (no_P _ _ _ _ _ f29 f13)
    | true =>
      obtain ⟨x0, y0, rfl, rfl, l0, l1⟩ := hs rfl
      have hm : mkD y0 = true := by
        have : (limit : Int) = 140737488355328 := rfl
        simp only [mkD, Bool.and_eq_true, decide_eq_true_eq]
        omega
      by_cases hz : zs.length = 1
      rotate_left
      · exact law_no ws (bad_11 r x0 y0 zs hm f29 f13 hz)
      exact law_no ws (off_11 r x0 y0 zs hm f29 f13 hz)
  · obtain ⟨v, f29, f13, hs⟩ := shape_12 r xs ys
    cases v with
    | false => exact law_no ws (no_P _ _ _ _ _ f29 f13)
    | true =>
      obtain ⟨hx, hy⟩ := hs rfl
      rcases xs with _ | ⟨_, _⟩ <;> simp at hx
      rcases ys with _ | ⟨y0, _ | ⟨_, _⟩⟩ <;> simp at hy
      by_cases hz : zs.length = 1
      rotate_left
      · exact law_no ws (bad_12 r y0 zs f29 f13 hz)
      rcases zs with _ | ⟨p, _ | ⟨_, _⟩⟩ <;> simp at hz
      exact law_12 r y0 p ws (yes_12 r y0 p f29 f13)
  · obtain ⟨v, f29, f13, hs⟩ := shape_13 r xs ys
    cases v with
    | false => exact law_no ws (no_P _ _ _ _ _ f29 f13)
    | true =>
      obtain ⟨hx, hy⟩ := hs rfl
      rcases xs with _ | ⟨x0, _ | ⟨_, _⟩⟩ <;> simp at hx
      rcases ys with _ | ⟨y0, _ | ⟨_, _⟩⟩ <;> simp at hy
      by_cases hz : zs.length = 1
      rotate_left
      · exact law_no ws (bad_13 r x0 y0 zs f29 f13 hz)
      rcases zs with _ | ⟨p, _ | ⟨_, _⟩⟩ <;> simp at hz
      exact law_13 r x0 y0 p ws (yes_13 r x0 y0 p f29 f13)
  · obtain ⟨v, f29, f13, hs⟩ := shape_14 r xs ys
    cases v with
    | false => exact law_no ws (no_P _ _ _ _ _ f29 f13)
    | true =>
      obtain ⟨hx, hy⟩ := hs rfl
      rcases xs with _ | ⟨_, _⟩ <;> simp at hx
      rcases ys with _ | ⟨y0, _ | ⟨_, _⟩⟩ <;> simp at hy
      by_cases hz : zs.length = 1
      rotate_left
      · exact law_no ws (bad_14 r y0 zs f29 f13 hz)
      rcases zs with _ | ⟨p, _ | ⟨_, _⟩⟩ <;> simp at hz
      exact law_14 r y0 p ws (yes_14 r y0 p f29 f13)
  · obtain ⟨v, f29, f13, hs⟩ := shape_15 r xs ys
    cases v with
    | false => exact law_no ws (no_P _ _ _ _ _ f29 f13)
    | true =>
      obtain ⟨hx, hy⟩ := hs rfl
      rcases xs with _ | ⟨_, _⟩ <;> simp at hx
      rcases ys with _ | ⟨y0, _ | ⟨_, _⟩⟩ <;> simp at hy
      by_cases hz : zs.length = 0
      rotate_left
      · exact law_no ws (bad_15 r y0 zs f29 f13 hz)
      rcases zs with _ | ⟨_, _⟩ <;> simp at hz
      exact law_15 r y0 ws (yes_15 r y0 f29 f13)
end Go.Proofs.Ythlmbnhelkbchaa
