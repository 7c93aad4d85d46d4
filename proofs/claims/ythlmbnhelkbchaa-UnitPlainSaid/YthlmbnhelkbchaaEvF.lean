/- Slice expressions, composite literals, assertions: the evaluator's answers are the model's. -/
import Derived.Test.YthlmbnhelkbchaaEvE
namespace Go.Ev
open Go.RowKit
section
variable {A : Type} {P : Program} {r : A} {ρ : Loc} {K : AV → Option A}

/-- An optional operand. -/
def RO (ρ : Loc) (x : Option AV) (x' : Option Value) : Prop := (x = none ∧ x' = none) ∨ ∃ v v', x = some v ∧ x' = some v' ∧ R ρ v v'
theorem RO.map {e : Operand → AV} {e' : Operand → Value} (he : ∀ x, R ρ (e x) (e' x)) (o : Option Operand) : RO ρ (o.map e) (o.map e') := by
  cases o with
  | none => exact .inl ⟨rfl, rfl⟩
  | some x => exact .inr ⟨_, _, rfl, rfl, he x⟩
/-- What a bound of a slice expression is. -/
def Bound (x' : Option Value) (d n : Nat) : Prop := (x' = none ∧ n = d) ∨ ∃ i : Int, x' = some (.int .i64 i) ∧ 0 ≤ i ∧ n = i.toNat
theorem boundK_some {x : Option AV} {x' : Option Value} {d : Nat} {K : Nat → Option A} (hx : RO ρ x x') (h : boundK x d K = some r) : ∃ n, K n = some r ∧ Bound x' d n := by
  rcases hx with ⟨rfl, rfl⟩ | ⟨v, v', rfl, rfl, hv⟩
  · exact ⟨d, h, .inl ⟨rfl, rfl⟩⟩
  · simp only [boundK] at h
    obtain ⟨n, rfl, h1⟩ := asInt_some h
    obtain ⟨h2, h3⟩ := guardK_some h1
    have := hv.int_inv; subst this
    exact ⟨_, h3, .inr ⟨n, rfl, by simpa using h2, rfl⟩⟩
theorem run_bound {i : Int} {y : Nat} (h0 : 0 ≤ i) (h1 : i.toNat ≤ y) (c : BoundsCode) (w : World) : (Instr.sliceBound (.int .i64 i) y c).run P w = .ok i.toNat w := by
  have h2 : i ≤ (y : Int) := by omega
  simp [Instr.sliceBound, asIntOf, h0, h2]
theorem run_bounds2 {lo hi : Option Value} {b : Bool} {len cap l h : Nat} (hh : Bound hi len h) (hl : Bound lo 0 l) (h1 : h ≤ cap) (h2 : l ≤ h) (w : World) :
    (Instr.sliceBounds b len cap lo hi none).run P w = .ok (l, h, cap) w := by
  rcases hh with ⟨rfl, rfl⟩ | ⟨i, rfl, hi0, rfl⟩ <;> rcases hl with ⟨rfl, rfl⟩ | ⟨j, rfl, hj0, rfl⟩
  · simp [Instr.sliceBounds]
  · simp [Instr.sliceBounds, run_bound hj0 h2]
  · simp [Instr.sliceBounds, run_bound hi0 h1]
  · simp [Instr.sliceBounds, run_bound hi0 h1, run_bound hj0 h2]
theorem run_bounds3 {lo hi mx : Option Value} {b : Bool} {len cap l h m : Nat} (hm : Bound mx cap m) (hm' : mx ≠ none) (hh : Bound hi len h) (hh' : hi ≠ none) (hl : Bound lo 0 l) (h0 : m ≤ cap) (h1 : h ≤ m) (h2 : l ≤ h) (w : World) :
    (Instr.sliceBounds b len cap lo hi mx).run P w = .ok (l, h, m) w := by
  rcases hm with ⟨rfl, rfl⟩ | ⟨q, rfl, hq0, rfl⟩
  · exact absurd rfl hm'
  rcases hh with ⟨rfl, rfl⟩ | ⟨i, rfl, hi0, rfl⟩
  · exact absurd rfl hh'
  rcases hl with ⟨rfl, rfl⟩ | ⟨j, rfl, hj0, rfl⟩
  · simp [Instr.sliceBounds, run_bound hq0 h0, run_bound hi0 h1]
  · simp [Instr.sliceBounds, run_bound hq0 h0, run_bound hi0 h1, run_bound hj0 h2]

theorem R.resliced {b o len cap sz n : Nat} {ex : Bool} {x' : Value} (hx : R ρ (.sl (some (b, o)) len cap ex sz) x') {l h m : Nat} {m' : Nat} {cap' : Nat} {a : Addr} (hx' : x' = .slice (some a) len cap')
    (hsz : n = sz) (hlh : l ≤ h) (hhm : h ≤ m) (hmc : m ≤ cap) (ex' : Bool) (hm' : (m' = cap' ∧ m = cap ∧ ex' = ex) ∨ (m' = m ∧ ex' = true)) :
    R ρ (.sl (some (b, o + l * sz)) (h - l) (m - l) ex' sz) (.slice (if m' = l then some a else (some a).map (·.add (l * n))) (h - l) (m' - l)) := by
  subst hsz
  obtain ⟨p, a', cap'', g1, g0, g2, g3, g4, g5⟩ := hx.sl_inv
  rw [hx'] at g0
  cases g0
  have hm2 : m ≤ m' ∧ m' ≤ cap' ∧ (ex' = true → m' = m) := by
    rcases hm' with ⟨rfl, rfl, rfl⟩ | ⟨rfl, rfl⟩
    · exact ⟨g2, Nat.le_refl _, g3⟩
    · exact ⟨Nat.le_refl _, by omega, fun _ => rfl⟩
  by_cases e : m' = l
  · rw [if_pos e]
    refine .sl g1 (by omega) (fun he => by have := hm2.2.2 he; omega) (fun h0 => by omega) (by omega)
  · rw [if_neg e]
    obtain ⟨ha, hb⟩ := g4 (by omega)
    subst ha
    simp only [Option.map_some, add_at]
    refine .sl g1 (by omega) (fun he => by have := hm2.2.2 he; omega) (fun h0 => ⟨by rw [Nat.add_assoc], ?_⟩) (by omega)
    have h3 : l * n + (m' - l) * n ≤ cap' * n := by
      rw [← Nat.add_mul]
      exact Nat.mul_le_mul_right _ (by omega)
    omega
theorem take_drop_part (cs0 : List AV) (o l k n : Nat) (hk : l + k ≤ n) : (((cs0.drop o).take n).drop l).take k = (cs0.drop (o + l)).take k := by
  rw [List.drop_take, List.take_take, List.drop_drop, Nat.min_eq_left (by omega)]
theorem R.refrozen {cs : List AV} {len sz : Nat} {ex ex' : Bool} {x' : Value} (hx : R ρ (.fz cs len ex sz) x') {l h m' cap' : Nat} {a : Option Addr} (hx' : x' = .slice a len cap')
    (hlh : l ≤ h) (hhl : h ≤ len) (hhm : h ≤ m') (hm' : ex' = true → m' = h) (hnil : a = none → m' = 0 := by first | assumption | (intro e; omega)) (hmc : 0 < m' → 0 < cap' := by first | assumption | omega) :
    R ρ (.fz ((cs.drop (l * sz)).take ((h - l) * sz)) (h - l) ex' sz) (.slice (if m' = l then a else a.map (·.add (l * sz))) (h - l) (m' - l)) := by
  obtain ⟨a', cap'', g0, g1, g2, g3, g4, g5⟩ := hx.fz_inv
  rw [hx'] at g0
  cases g0
  have hmul : l * sz + (h - l) * sz ≤ len * sz := by rw [← Nat.add_mul]; exact Nat.mul_le_mul_right _ (by omega)
  refine .fz (fun h0 => ?_) (fun e => ?_) ?_ (by omega) (fun he => by have := hm' he; omega) (fun x e hp => ?_)
  · obtain ⟨b, q, o, cs0, f1, f2, f3, f4⟩ := g1 (by omega)
    refine ⟨b, q, o + l * sz, cs0, f1, ?_, ?_, by omega⟩
    · rw [if_neg (by omega), f2]
      simp only [Option.map_some, add_at, Nat.add_assoc]
    · rw [f3, take_drop_part _ _ _ _ _ hmul]
  · have : a = none := by
      by_cases e1 : m' = l
      · rw [if_pos e1] at e; exact e
      · rw [if_neg e1] at e; simpa using e
    have := hnil this
    omega
  · rw [List.length_take, List.length_drop, g3]; omega
  · rw [if_neg (by omega)] at e
    obtain ⟨y, hy, rfl⟩ := Option.map_eq_some_iff.1 e
    have hs : y.spot = none := by
      rw [hx'] at hx
      exact hx.fz_spot y hy (hmc (by omega))
    show (y.add (l * sz)).spot = none
    unfold Addr.add
    split <;> first | exact hs | rfl
theorem sim_slice {t : TypeId} {x : AV} {x' : Value} {lo hi mx : Option AV} {lo' hi' mx' : Option Value} (hx : R ρ x x') (hlo : RO ρ lo lo') (hhi : RO ρ hi hi') (hmx : RO ρ mx mx')
    (hmh : mx' ≠ none → hi' ≠ none) (h : sliceK P t x lo hi mx K = some r) : SimV P ρ (Instr.sliceAt t x' lo' hi' mx') K r := by
  obtain ⟨d, hd, hk⟩ := tyK_some h
  clear h
  split at hk
  · obtain ⟨s, rfl, hk1⟩ := asStr_some hk
    clear hk
    obtain ⟨s', rfl, rfl⟩ := hx.str_inv
    split at hk1
    · rcases hmx with ⟨_, rfl⟩ | ⟨v, v', hv, _⟩
      · obtain ⟨h', hk2, bh⟩ := boundK_some hhi hk1
        obtain ⟨l', hk3, bl⟩ := boundK_some hlo hk2
        obtain ⟨g1, hk4⟩ := guardK_some hk3
        obtain ⟨g2, hk5⟩ := guardK_some hk4
        have g1 := Nat.le_of_ble_eq_true g1
        have g2 := Nat.le_of_ble_eq_true g2
        rw [lenS_eq] at g1 bh
        have hl : s'.data.toList.length = s'.size := by simp
        rw [hl] at g1 bh
        refine ⟨_, .string (s'.extract l' h'), hk5, ?_, fun w => ?_⟩
        · have := R.str (ρ := ρ) (s'.extract l' h')
          rw [Lib.extract_data] at this
          rw [takeS_eq, dropS_eq, List.drop_take]; exact this
        · simp [Instr.sliceAt, Instr.slice, run_und hd, run_bounds2 bh bl g1 g2]
      · cases hv
    · cases hk1
  · rename_i e
    obtain ⟨i, hi1, hk0⟩ := sizeK_some hk
    rcases asSl2_some hx hk0 with ⟨p, len, cap, ex, sz, hx, hk1⟩ | ⟨cs, len, ex, sz, hx, hk1⟩
    rotate_left
    · obtain ⟨hsz, hk2⟩ := guardK_some hk1
      have hsz := Nat.eq_of_beq_eq_true hsz
      subst hsz
      split at hk2
      · rcases hmx with ⟨_, rfl⟩ | ⟨v, v', hv, _⟩
        · obtain ⟨h', hk3, bh⟩ := boundK_some hhi hk2
          obtain ⟨l', hk4, bl⟩ := boundK_some hlo hk3
          obtain ⟨g1, hk5⟩ := guardK_some hk4
          obtain ⟨g2, hk6⟩ := guardK_some hk5
          have g1 := Nat.le_of_ble_eq_true g1
          have g2 := Nat.le_of_ble_eq_true g2
          rw [takeA_eq, dropA_eq] at hk6
          obtain ⟨a, cap', rfl, q1, q2, q3, q4, q5⟩ := hx.fz_inv
          refine ⟨_, _, hk6, hx.refrozen (m' := cap') rfl g2 g1 (Nat.le_trans g1 q4) (fun he => by
            simp only [Bool.and_eq_true] at he
            have e1 := q5 he.1
            have e2 := Nat.eq_of_beq_eq_true he.2
            omega), fun w => ?_⟩
          cases a with
          | none =>
            have hc := q2 rfl
            subst hc
            have e1 : h' = 0 := by omega
            have e2 : l' = 0 := by omega
            subst e1; subst e2
            simp [Instr.sliceAt, Instr.slice, run_und hd, run_bounds2 bh bl (Nat.le_trans g1 q4) g2, run_size hi1]
          | some a => simp [Instr.sliceAt, Instr.slice, run_und hd, run_bounds2 bh bl (Nat.le_trans g1 q4) g2, run_size hi1]
        · cases hv
      · rename_i mv
        obtain ⟨m', hk3, bm⟩ := boundK_some hmx hk2
        obtain ⟨h', hk4, bh⟩ := boundK_some hhi hk3
        obtain ⟨l', hk5, bl⟩ := boundK_some hlo hk4
        obtain ⟨g0, hk6⟩ := guardK_some hk5
        obtain ⟨g1, hk7⟩ := guardK_some hk6
        obtain ⟨g2, hk8⟩ := guardK_some hk7
        have g0 := Nat.le_of_ble_eq_true g0
        have g1 := Nat.le_of_ble_eq_true g1
        have g2 := Nat.le_of_ble_eq_true g2
        rw [takeA_eq, dropA_eq] at hk8
        have hmn : mx' ≠ none := by
          rcases hmx with ⟨e, _⟩ | ⟨v, v', _, e, _⟩
          · cases e
          · rw [e]; simp
        have bm' : ∀ c, Bound mx' c m' := fun c => by
          rcases bm with ⟨e, _⟩ | x
          · exact absurd e hmn
          · exact .inr x
        obtain ⟨a, cap', rfl, q1, q2, q3, q4, q5⟩ := hx.fz_inv
        refine ⟨_, _, hk8, hx.refrozen (m' := m') rfl g2 (by omega) g1 (fun he => by
            have e2 := Nat.eq_of_beq_eq_true he
            omega) (fun e => by have := q2 e; omega), fun w => ?_⟩
        cases a with
        | none =>
          have hc := q2 rfl
          subst hc
          have e0 : m' = 0 := by omega
          have e1 : h' = 0 := by omega
          have e2 : l' = 0 := by omega
          subst e0; subst e1; subst e2
          simp [Instr.sliceAt, Instr.slice, run_und hd, run_bounds3 (bm' 0) hmn bh (hmh hmn) bl (Nat.le_trans g0 q4) g1 g2, run_size hi1]
        | some a => simp [Instr.sliceAt, Instr.slice, run_und hd, run_bounds3 (bm' cap') hmn bh (hmh hmn) bl (Nat.le_trans g0 q4) g1 g2, run_size hi1]
    clear hk hk0
    obtain ⟨hsz, hk2⟩ := guardK_some hk1
    clear hk1
    have hcase : (p = none ∧ x' = .slice none 0 0 ∧ len = 0 ∧ cap = 0 ∧ ex = true) ∨ ∃ b o, p = some (b, o) ∧ i.size = sz := by
      cases p with
      | none => exact .inl ⟨rfl, hx.nils_inv⟩
      | some q => exact .inr ⟨q.1, q.2, rfl, by simp [isNone'] at hsz; exact hsz.symm⟩
    split at hk2
    · rcases hmx with ⟨_, rfl⟩ | ⟨v, v', hv, _⟩
      · obtain ⟨h', hk3, bh⟩ := boundK_some hhi hk2
        obtain ⟨l', hk4, bl⟩ := boundK_some hlo hk3
        obtain ⟨g1, hk5⟩ := guardK_some hk4
        obtain ⟨g2, hk6⟩ := guardK_some hk5
        have g1 := Nat.le_of_ble_eq_true g1
        have g2 := Nat.le_of_ble_eq_true g2
        rcases hcase with ⟨rfl, rfl, rfl, rfl, rfl⟩ | ⟨b, o, rfl, hs⟩
        · have e1 : h' = 0 := by omega
          have e2 : l' = 0 := by omega
          subst e1; subst e2
          exact ⟨_, .slice none 0 0, hk6, .sln _, fun w => by simp [Instr.sliceAt, Instr.slice, run_und hd, run_bounds2 bh bl (Nat.le_refl 0) (Nat.le_refl 0), run_size hi1]⟩
        · obtain ⟨q, a, cap', q1, rfl, q2, q3, q4, q5⟩ := hx.sl_inv
          refine ⟨_, _, hk6, hx.resliced (m' := cap') rfl hs g2 g1 (Nat.le_refl _) ex (.inl ⟨rfl, rfl, rfl⟩), fun w => ?_⟩
          simp [Instr.sliceAt, Instr.slice, run_und hd, run_bounds2 bh bl (Nat.le_trans g1 q2) g2, run_size hi1]
      · cases hv
    · rename_i mv
      obtain ⟨m', hk3, bm⟩ := boundK_some hmx hk2
      obtain ⟨h', hk4, bh⟩ := boundK_some hhi hk3
      obtain ⟨l', hk5, bl⟩ := boundK_some hlo hk4
      obtain ⟨g0, hk6⟩ := guardK_some hk5
      obtain ⟨g1, hk7⟩ := guardK_some hk6
      obtain ⟨g2, hk8⟩ := guardK_some hk7
      have g0 := Nat.le_of_ble_eq_true g0
      have g1 := Nat.le_of_ble_eq_true g1
      have g2 := Nat.le_of_ble_eq_true g2
      have hmn : mx' ≠ none := by
        rcases hmx with ⟨e, _⟩ | ⟨v, v', _, e, _⟩
        · cases e
        · rw [e]; simp
      have bm' : ∀ c, Bound mx' c m' := fun c => by
        rcases bm with ⟨e, _⟩ | x
        · exact absurd e hmn
        · exact .inr x
      rcases hcase with ⟨rfl, rfl, rfl, rfl, rfl⟩ | ⟨b, o, rfl, hs⟩
      · have e0 : m' = 0 := by omega
        have e1 : h' = 0 := by omega
        have e2 : l' = 0 := by omega
        subst e0; subst e1; subst e2
        exact ⟨_, .slice none 0 0, hk8, .sln _, fun w => by simp [Instr.sliceAt, Instr.slice, run_und hd, run_bounds3 (bm' 0) hmn bh (hmh hmn) bl (Nat.le_refl 0) (Nat.le_refl 0) (Nat.le_refl 0), run_size hi1]⟩
      · obtain ⟨q, a, cap', q1, rfl, q2, q3, q4, q5⟩ := hx.sl_inv
        refine ⟨_, _, hk8, hx.resliced (m' := m') rfl hs g2 g1 g0 true (.inr ⟨rfl, rfl⟩), fun w => ?_⟩
        simp [Instr.sliceAt, Instr.slice, run_und hd, run_bounds3 (bm' cap') hmn bh (hmh hmn) bl (Nat.le_trans g0 q2) g1 g2, run_size hi1]
  · rename_i n e
    obtain ⟨⟨b, o⟩, rfl, hk1⟩ := asAdr_some hk
    clear hk
    obtain ⟨i, hi1, hk2⟩ := sizeK_some hk1
    cases hk2
  · cases hk
theorem sim_nil {x : AV} {x' : Value} (hx : R ρ x x') (h : nilK x K = some r) : K x = some r ∧ ((∃ p, x' = .pointer (some p)) ∨ (∃ f a c, x' = .func (.func f) a c) ∨ ∃ l, x' = .func (.yield l) #[] #[]) := by
  unfold nilK at h
  split at h
  · cases hx; exact ⟨h, .inl ⟨_, rfl⟩⟩
  · cases hx; exact ⟨h, .inl ⟨_, rfl⟩⟩
  · cases hx; exact ⟨h, .inr (.inl ⟨_, _, _, rfl⟩)⟩
  · cases hx; exact ⟨h, .inr (.inr ⟨_, rfl⟩)⟩
  · cases h
theorem zeroV_some {t : TypeId} (h : zeroV P t K = some r) : ∃ i z, P.info? t = some i ∧ i.zero = some z ∧ K (Ev.ofConst z) = some r := by
  unfold zeroV at h
  split at h
  · split at h
    · exact ⟨_, _, by assumption, by assumption, h⟩
    · cases h
  · cases h
theorem RL.two {v : AV} {v' : Value} {u : AV} {u' : Value} (h : R ρ v v') (k : R ρ u u') : R ρ (.tup [v, u]) (.tuple #[v', u']) := ((RL.cons h (RL.cons k (RL.nil ρ))).tup)
theorem sim_assert {t xt : TypeId} {x : AV} {x' : Value} {ok : Bool} (hx : R ρ x x') (h : assertK P x t ok K = some r) : SimV P ρ (Instr.typeAssert x' xt t ok) K r := by
  obtain ⟨d, hd, hk⟩ := tyK_some h
  clear h
  split at hk
  · cases hk
  · rename_i hni
    have hni' : ∀ ms, d ≠ .interface ms := fun ms e => hni ms e
    split at hk
    · rename_i u v
      cases hx with
      | iface t' hv =>
        rename_i v'
        by_cases hut : u = t
        · subst hut
          have : Nat.beq u u = true := by simp
          simp only [this, cond_true] at hk
          cases ok with
          | true =>
            simp only [cond_true] at hk
            refine ⟨_, _, hk, RL.two hv (.bool true), fun w => ?_⟩
            simp only [Instr.typeAssert, Sem.run_bind, run_und hd, Result.andThen_ok]
            cases d <;> first | exact absurd rfl (hni' _) | simp
          | false =>
            simp only [cond_false] at hk
            refine ⟨_, _, hk, hv, fun w => ?_⟩
            simp only [Instr.typeAssert, Sem.run_bind, run_und hd, Result.andThen_ok]
            cases d <;> first | exact absurd rfl (hni' _) | simp
        · have : Nat.beq u t = false := by
            cases hb : Nat.beq u t with
            | false => rfl
            | true => exact absurd (Nat.eq_of_beq_eq_true hb) hut
          simp only [this, cond_false] at hk
          cases ok with
          | true =>
            simp only [cond_true] at hk
            obtain ⟨i, z, h1, h2, hk1⟩ := zeroV_some hk
            refine ⟨_, _, hk1, RL.two (.ofConst ρ z) (.bool false), fun w => ?_⟩
            simp only [Instr.typeAssert, Sem.run_bind, run_und hd, Result.andThen_ok]
            cases d <;> first | exact absurd rfl (hni' _) | simp [hut, run_zero h1 h2]
          | false => simp only [cond_false] at hk; cases hk
    · cases hx
      cases ok with
      | true =>
        simp only [cond_true] at hk
        obtain ⟨i, z, h1, h2, hk1⟩ := zeroV_some hk
        refine ⟨_, _, hk1, RL.two (.ofConst ρ z) (.bool false), fun w => ?_⟩
        simp only [Instr.typeAssert, Sem.run_bind, run_und hd, Result.andThen_ok]
        cases d <;> first | exact absurd rfl (hni' _) | simp [run_zero h1 h2]
      | false => simp only [cond_false] at hk; cases hk
    · cases hk
end
end Go.Ev
