/- Functions with objects, where the lists of an object's own go by new numbers behind each call. -/
import Derived.Test.YtokighfpmonjdaaEvZ2
namespace Go.Ev
section
variable (P : Program) (S : Orc) (tb : FuncId → Option FnP)
/-- The numbers that stay: of objects alone. -/
def keptP (kn : Nat) : List (Nat × Nat) → List (Nat × Nat)
  | [] => []
  | x :: l => bif Nat.blt x.1 kn then x :: keptP kn l else keptP kn l
def accOf (kn : Nat) (φ : List (Nat × Nat)) : List (Nat × Nat) := keptP kn (swapL φ)
def locG (kn : Nat) (sc : Sc) (f : FuncId) : CallF := fun _ args h u K => match u with
  | .off =>
    let tys := parsOf P f
    let ps := posObj P args tys h sc.owns
    let φ := pairsOf 0 (fst1 ps) 0 []
    let args' := vwArgs P φ none0 tys args
    (match evCall P S tb 100 (AV × Heap) (.fn f) args' (mkHeap (vwBlks2 P φ h none0 (tyAt ps) φ) (lenO (fst1 ps))) .off pairK with
    | some r =>
      let ps' := posObj P args' tys r.2 sc.owns ++ posObj P (compsOf r.1) (resOf P f) r.2 sc.news
      let φ' := pairsNew h.next (fst1 ps') 0 (accOf kn φ)
      K (.ret (vwRes P φ' r.2 (resOf P f) r.1)) ⟨outM h.m φ (vwBlks2 P φ' r.2 r.2 (tyAt ps') φ'), h.next + lenO (fst1 ps')⟩ .off
    | none => none)
  | _ => none
end
variable {P : Program} {S : Orc} {tb : FuncId → Option FnP} {ρ ρ' : Loc} {N : Zone} {w : World} {h : Heap} {φ : List (Nat × Nat)}
theorem keptP_sub (kn : Nat) : ∀ l : List (Nat × Nat), (keptP kn l).Sublist l
  | [] => List.Sublist.refl _
  | x :: l => by
    simp only [keptP]
    cases Nat.blt x.1 kn with
    | true => exact (keptP_sub kn l).cons_cons _
    | false => exact (keptP_sub kn l).cons _
theorem accOf_sub (kn : Nat) (φ : List (Nat × Nat)) : (accOf kn φ).Sublist (swapL φ) := keptP_sub kn _
/-- What such a run tells, holds. -/
theorem fnSim_locG (hT : TbOk P tb) (hSm : OrcOk P tb S) (kn : Nat) (sc : Sc) (f : FuncId) : FnSim P (LP tb) f (locG P S tb kn sc f) := by
  intro A K r args h u args' ρ Z w kind cs₀ cs hL hg hr ha hcs
  cases u <;> first | (cases hg; done) | skip
  unfold locG at hg
  simp only at hg
  split at hg
  rotate_left
  · cases hg
  rename_i rr hrun
  obtain ⟨v, h₁⟩ := rr
  simp only at hg
  have hLf : LFree Z.L := by rw [hL]; exact LP_free tb
  generalize hps : posObj P args (parsOf P f) h sc.owns = ps at hg hrun
  generalize hφ0 : pairsOf 0 (fst1 ps) 0 [] = φ at hg hrun
  have hφ : RenOk φ 0 (lenO (fst1 ps)) := by
    have := pairsOf_ok (n0 := 0) (fst1 ps) 0 [] (by simp) (by simp) (fun b c hm => by cases hm)
    rw [hφ0] at this
    rwa [Nat.zero_add, Nat.zero_add] at this
  have hin : ∀ b c, (b, c) ∈ φ → ∃ p, ρ b = some p := fun b c hm => by
    rw [← hφ0] at hm
    rcases pairsOf_keys _ _ _ _ _ hm with h | h
    · rw [← hps] at h; exact posObj_R hr ha _ _ h
    · cases h
  have hlt : ∀ b c, (b, c) ∈ φ → b < h.next := fun b c hm => by
    obtain ⟨p, hp⟩ := hin b c hm
    rcases Nat.lt_or_ge b h.next with h' | h'
    · exact h'
    · rw [hr.fresh b h'] at hp; cases hp
  let n1 := lenO (fst1 ps)
  let hl : Heap := mkHeap (vwBlks2 P φ h none0 (tyAt ps) φ) n1
  have hr1 : Rep (locS φ ρ) hl Z w := viewS hr hφ hLf
  have hr2 := hr1.frame
  let Z1 := Z.frame (locS φ ρ) hl.m w
  have hargs := vwArgs_RL (P := P) (sees_locS hφ) (parsOf P f) ha
  have hkn : kind = .normal ∧ cs = cs₀ := by
    rcases hcs with ⟨a, _, b⟩ | ⟨_, _, _, _, _, _, hu⟩
    · exact ⟨a, b⟩
    · exact hu.elim
  obtain ⟨rfl, rfl⟩ := hkn
  obtain ⟨e1, out, h', u', ρ1, w', cs', fr, k1, k2, k3, k4, k5, k6, k7⟩ := (callSim_of hT hSm 100).fn _ pairK (v, h₁) f _ hl .off args' (locS φ ρ) Z1 w .normal cs cs hL hrun hr2 hargs (.inl ⟨rfl, rfl, rfl⟩)
  have hout : out = .ret v ∧ h' = h₁ ∧ u' = .off := by
    unfold pairK at k1
    split at k1
    · simp only [Option.some.injEq, Prod.mk.injEq] at k1
      exact ⟨by rw [k1.1], k1.2, rfl⟩
    · cases k1
  obtain ⟨rfl, rfl, rfl⟩ := hout
  have hcs' : cs' = cs := k4.normal.2
  subst hcs'
  obtain ⟨v', hv, hgo⟩ := k7
  generalize hps2 : posObj P (vwArgs P φ none0 (parsOf P f) args) (parsOf P f) h' sc.owns ++ posObj P (compsOf v) (resOf P f) h' sc.news = ps2 at hg
  generalize hφ2 : pairsNew h.next (fst1 ps2) 0 (accOf kn φ) = φ2 at hg
  have hnew := pairsNew_ok (n0 := h.next) (fst1 ps2) 0 (accOf kn φ) (((accOf_sub kn φ).map _).nodup (by
      rw [swapL_eq, List.map_map]; exact hφ.v)) (((accOf_sub kn φ).map _).nodup (by
      rw [swapL_eq, List.map_map]; exact hφ.k)) (fun b c hm => by
      have hm := (accOf_sub kn φ).subset hm
      rw [swapL_eq, List.mem_map] at hm
      obtain ⟨x, a, e⟩ := hm
      cases e
      have := hlt x.1 x.2 a
      omega)
  rw [hφ2, Nat.zero_add] at hnew
  obtain ⟨hφ2ok, hsplit⟩ := hnew
  have hold : ∀ b c, (b, c) ∈ φ2 → c < h.next → (c, b) ∈ φ := fun b c hm hc => by
    rcases hsplit b c hm with h | h
    · have h := (accOf_sub kn φ).subset h
      rw [swapL_eq, List.mem_map] at h
      obtain ⟨x, a, e⟩ := h
      cases e; exact a
    · omega
  have hrep1 : Rep ρ1 h' Z1 w' := k3.rep
  have hr3 := view (P := P) (ty := tyAt ps2) hrep1 hφ2ok (by rw [Zone.frame_L]; exact hLf)
  have hs2 : Sees P φ2 h' ρ1 (locOf P φ2 0 h' ρ1) := sees_locOf hφ2ok
  rw [← vwBlks2_self] at hr3
  let ρ2 := locOf P φ2 0 h' ρ1
  let l2 := vwBlks2 P φ2 h' h' (tyAt ps2) φ2
  -- the numbers that went in
  have hcons : ∀ c p, ρ2 c = some p → c < h.next → ρ c = some p := fun c p hp hc => by
    have hp' : (if c < 0 then ρ1 c else (inv1 c φ2).bind ρ1) = some p := hp
    rw [if_neg (by omega)] at hp'
    cases hi : inv1 c φ2 with
    | none => rw [hi] at hp'; cases hp'
    | some x =>
      rw [hi] at hp'
      have hm := hold x c (inv1_mem hi) hc
      have hx : x < n1 := hφ.lt _ _ hm
      have h1 : ρ1 x = (locS φ ρ) x := k3.off x hx
      have h2 : (locS φ ρ) x = ρ c := (sees_locS (P := P) hφ).at' c x (find1_of_mem hφ.k hm)
      have hp2 : ρ1 x = some p := hp'
      rw [h1, h2] at hp2
      exact hp2
  let ρ3 : Loc := ⟨fun c => if c < h.next then ρ c else ρ2 c, ρ2.F⟩
  have hg23 : Grows ρ2 ρ3 := ⟨fun c p hp => by
    show (if c < h.next then ρ c else ρ2 c) = some p
    by_cases e : c < h.next
    · rw [if_pos e]; exact hcons c p hp e
    · rw [if_neg e]; exact hp, fun _ _ _ h => h⟩
  have hFup : ∀ b o cs, ρ.F b o cs → ρ2.F b o cs := fun b o cs hf => hs2.F _ _ _ (k3.grows.fz _ _ _ hf)
  have hg3 : Grows ρ ρ3 := ⟨fun c p hp => by
    show (if c < h.next then ρ c else ρ2 c) = some p
    have : c < h.next := by
      rcases Nat.lt_or_ge c h.next with h' | h'
      · exact h'
      · rw [hr.fresh c h'] at hp; cases hp
    rw [if_pos this]; exact hp, hFup⟩
  -- what is in the heap by other numbers is not touched
  have hin1 : ∀ x c p, hl.m c = some x → (locS φ ρ) c = some p → ∃ b y, (b, c) ∈ φ ∧ h.m b = some y ∧ ρ b = some p ∧ y.writes = x.writes := fun x c p hx hp => by
    obtain ⟨b, y, a1, a2, a3⟩ := vwBlks2_mem (look_mem hx)
    refine ⟨b, y, a1, a2, ?_, (vwB_writes a3).symm⟩
    have := (sees_locS (P := P) (ρ := ρ) hφ).at' b c (find1_of_mem hφ.k a1)
    rw [this] at hp; exact hp
  have hkeep : ∀ c x p, h.m c = some x → hasK c φ = false → ρ c = some p → Z1.keep p.blk := fun c x p hx hk hp => by
    obtain ⟨p', q1, q2⟩ := hr.blk c x hx
    rw [hp] at q1; cases q1
    refine .inr (.inl ⟨q2.size, fun b y q hb hy hq => ?_⟩)
    obtain ⟨d, z, d1, d2, d3, d4⟩ := hin1 y b q hb hq
    refine hr.inj d c z x q p d2 hx (fun e => ?_) (by rw [d4]; exact hy) d3 hp
    subst e
    rw [hasK_iff.2 ⟨b, d1⟩] at hk; cases hk
  have hF0 : ∀ b o cs, (locS φ ρ).F b o cs → Z.keep b → Z.ro b ∨ Z.fz b := fun b o cs hf => (hr.frz b o cs hf).2.2.1
  have hcase : ∀ c x, outM h.m φ l2 c = some x → (mkHeap l2 (h.next + lenO (fst1 ps2))).m c = some x ∨ (look c l2 = none ∧ hasK c φ = false ∧ h.m c = some x) := fun c x hx => by
    unfold outM at hx
    cases hlk : look c l2 with
    | some y => rw [hlk] at hx; exact .inl (by show look c l2 = some x; rw [hlk]; exact hx)
    | none =>
      rw [hlk] at hx
      cases hk : hasK c φ with
      | true => rw [hk] at hx; cases hx
      | false => rw [hk] at hx; exact .inr ⟨rfl, rfl, hx⟩
  have hlow : Low Z w w' := k3.low.unframe
  have hrepF : Rep ρ3 ⟨outM h.m φ l2, h.next + lenO (fst1 ps2)⟩ Z w' := by
    have apart : ∀ c x p d y q, (mkHeap l2 (h.next + lenO (fst1 ps2))).m c = some x → ρ2 c = some p → h.m d = some y → hasK d φ = false → ρ d = some q → (x.writes = true ∨ y.writes = true) → p.blk ≠ q.blk := fun c x p d y q hx hp hy hk hq hw heq => by
      obtain ⟨p', a1, a2⟩ := hr3.blk c x hx
      have hp' : ρ2 c = some p' := a1
      rw [hp] at hp'; cases hp'
      have hkq := hkeep d y q hy hk hq
      obtain ⟨q', b1, b2⟩ := hr.blk d y hy
      rw [hq] at b1; cases b1
      cases hxw : x.writes with
      | true => exact a2.low hxw (heq ▸ hkq)
      | false =>
        rcases hw with hw | hw
        · rw [hxw] at hw; cases hw
        · have hro : Z1.ro p.blk := by
            cases x with
            | cells wr vs => obtain ⟨c, e, fz, g1, g2, g3, g4, g5, g6⟩ := a2; exact g6 hxw
            | _ => cases hxw
          have hro : Z.ro p.blk := hro
          exact b2.low hw (heq ▸ Z.sub _ hro)
    refine ⟨fun c x hx => ?_, fun c d x y p q hx hy hne hw hp hq => ?_, fun q hq => Nat.lt_of_lt_of_le (hr.old q hq) hlow.size, fun c hc => ?_, fun b o cs hf => ?_⟩
    · rcases hcase c x hx with h2 | ⟨_, hk, h2⟩
      · obtain ⟨p, a1, a2⟩ := hr3.blk c x h2
        exact ⟨p, hg23 _ _ a1, RB.keep hg23 a2.unframe rfl⟩
      · obtain ⟨p, a1, a2⟩ := hr.blk c x h2
        exact ⟨p, hg3 _ _ a1, a2.keep hg3 (k3.low.block _ (hkeep c x p h2 hk a1))⟩
    · rcases hcase c x hx with h2 | ⟨_, hk, h2⟩ <;> rcases hcase d y hy with h3 | ⟨_, hk', h3⟩
      · obtain ⟨p', a1, _⟩ := hr3.blk c x h2
        obtain ⟨q', b1, _⟩ := hr3.blk d y h3
        rw [hg23 _ _ a1] at hp; cases hp
        rw [hg23 _ _ b1] at hq; cases hq
        exact hr3.inj c d x y _ _ h2 h3 hne hw a1 b1
      · obtain ⟨p', a1, _⟩ := hr3.blk c x h2
        obtain ⟨q', b1, _⟩ := hr.blk d y h3
        rw [hg23 _ _ a1] at hp; cases hp
        rw [hg3 _ _ b1] at hq; cases hq
        exact apart c x _ d y _ h2 a1 h3 hk' b1 (.inl hw)
      · obtain ⟨p', a1, _⟩ := hr.blk c x h2
        obtain ⟨q', b1, _⟩ := hr3.blk d y h3
        rw [hg3 _ _ a1] at hp; cases hp
        rw [hg23 _ _ b1] at hq; cases hq
        exact fun e => apart d y _ c x _ h3 b1 h2 hk a1 (.inr hw) e.symm
      · obtain ⟨p', a1, _⟩ := hr.blk c x h2
        obtain ⟨q', b1, _⟩ := hr.blk d y h3
        rw [hg3 _ _ a1] at hp; cases hp
        rw [hg3 _ _ b1] at hq; cases hq
        exact hr.inj c d x y _ _ h2 h3 hne hw a1 b1
    · have hc' : h.next + lenO (fst1 ps2) ≤ c := hc
      show (if c < h.next then ρ c else ρ2 c) = none
      rw [if_neg (by omega)]
      exact hr3.fresh c hc'
    · have hf2 : ρ2.F b o cs := hf
      obtain ⟨f1, f2, f3, f4⟩ := hr3.frz b o cs hf2
      refine ⟨f1.keep hg23 rfl, fun c x p hx hw hp => ?_, fun hk => ?_, f4⟩
      · rcases hcase c x hx with h2 | ⟨_, hk, h2⟩
        · obtain ⟨p', a1, _⟩ := hr3.blk c x h2
          rw [hg23 _ _ a1] at hp; cases hp
          exact f2 c x _ h2 hw a1
        · obtain ⟨p', a1, a2⟩ := hr.blk c x h2
          rw [hg3 _ _ a1] at hp; cases hp
          intro heq
          have hkp := hkeep c x _ h2 hk a1
          rw [heq] at hkp
          rcases f3 hkp with h5 | h5 | ⟨o', cs', h5⟩
          · exact a2.low hw (heq ▸ Z.sub _ h5)
          · exact a2.low hw (heq ▸ Z.fsub _ h5)
          · exact (hr.frz b o' cs' h5).2.1 c x _ h2 hw a1 heq
      · rcases f3 (.inl hk) with h5 | h5 | ⟨o', cs', h5⟩
        · exact .inl h5
        · exact .inr h5
        · exact hF0 b o' cs' h5 hk
  refine ⟨e1, _, _, _, ρ3, w', cs', fr, hg, k2, ⟨hg3, fun b hb => ?_, by show h.next ≤ h.next + lenO (fst1 ps2); omega, hrepF, hlow⟩, .inl ⟨rfl, rfl, rfl⟩, k5, k6, v', (vwRes_R hs2 hv).grows hg23, hgo⟩
  show (if b < h.next then ρ b else ρ2 b) = ρ b
  rw [if_pos hb]
/-- The oracle: where it may be asked (G), and what it tells (V), by the arguments and the objects. -/
noncomputable def whenOg (P : Program) (sc : Sc) (f : FuncId) (kn n0 : Nat) (fl0 fl1 : List Nat) (G : List AV → List (Nat × Blk) → Prop) (V : List AV → List (Nat × Blk) → ORes) : CallF := fun _ args h u K => match u with
  | .off =>
    let ps := posObj P args (parsOf P f) h sc.owns
    let φ := pairsOf 0 (fst1 ps) 0 []
    let a := vwArgs P φ none0 (parsOf P f) args
    let l := vwBlksO P φ h none0 (tyAt ps) (fun x => fl0.any (Nat.beq x.2)) φ
    let r := V a l
    let φ' := pairsNew h.next (fst1 r.2) 0 (accOf kn φ)
    guardK (flatO h (fun x => fl0.any (Nat.beq x.2)) φ && Nat.beq (lenO (fst1 ps)) n0) <|
    bif isSo (G a l) then
      K (.ret (vwRes P φ' (mkHeap r.1.2 0) (resOf P f) r.1.1)) ⟨outM h.m φ (vwBlksO P φ' (mkHeap r.1.2 0) (mkHeap r.1.2 0) (tyAt r.2) (fun x => fl1.any (Nat.beq x.1)) φ'), h.next + lenO (fst1 r.2)⟩ .off
    else none
  | _ => none
theorem natF_whenOg {sc : Sc} {f : FuncId} {kn n0 : Nat} {fl0 fl1 : List Nat} {G : List AV → List (Nat × Blk) → Prop} {V : List AV → List (Nat × Blk) → ORes} : NatF (whenOg P sc f kn n0 fl0 fl1 G V) := by
  intro A B args h m K K' u hk
  unfold whenOg guardK
  cases m <;> first | rfl | skip
  simp only
  generalize (flatO h _ _ && _) = q
  cases q <;> first | rfl | skip
  simp only [cond_true]
  generalize isSo _ = q
  cases q <;> first | rfl | exact hk _ _ _
theorem fnSim_whenOg (hT : TbOk P tb) {sc : Sc} {f : FuncId} {kn n0 : Nat} {fl0 fl1 : List Nat} {G : List AV → List (Nat × Blk) → Prop} {V : List AV → List (Nat × Blk) → ORes} (hf : ∀ a l, G a l → OFact P tb sc f n0 fl1 a l (V a l).1.1 (V a l).1.2 (V a l).2) :
    FnSim P (LP tb) f (whenOg P sc f kn n0 fl0 fl1 G V) := by
  intro A K r args h u args' ρ Z w kind cs₀ cs hL hg hrep ha hcs
  unfold whenOg at hg
  cases u <;> first | (cases hg; done) | skip
  simp only at hg
  obtain ⟨g1, hg⟩ := guardK_some hg
  simp only [Bool.and_eq_true] at g1
  have g2 := Nat.eq_of_beq_eq_true g1.2
  generalize hps : posObj P args (parsOf P f) h sc.owns = ps at hg g1 g2
  generalize hφ0 : pairsOf 0 (fst1 ps) 0 [] = φ at hg g1
  have hφ : RenOk φ 0 (lenO (fst1 ps)) := by
    have := pairsOf_ok (n0 := 0) (fst1 ps) 0 [] (by simp) (by simp) (fun b c hm => by cases hm)
    rw [hφ0] at this
    rwa [Nat.zero_add, Nat.zero_add] at this
  rw [vwBlksO_eq _ g1.1] at hg
  generalize ha0 : vwArgs P φ none0 (parsOf P f) args = a0 at hg
  generalize hl0 : vwBlks2 P φ h none0 (tyAt ps) φ = l0 at hg
  cases hs : isSo (G a0 l0) with
  | false => rw [hs] at hg; cases hg
  | true =>
  rw [hs] at hg
  simp only [cond_true] at hg
  obtain ⟨S, hS, hr⟩ := hf a0 l0 (isSo_iff.1 hs)
  generalize hV : V a0 l0 = VV at hg hr
  obtain ⟨⟨v1, l1⟩, ps1⟩ := VV
  simp only at hg hr
  have e : evCall P S tb 100 _ (.fn f) a0 (mkHeap l0 n0) .off (objK P sc f n0 fl1 a0) = (evCall P S tb 100 (AV × Heap) (.fn f) a0 (mkHeap l0 n0) .off pairK).bind fun x => objK P sc f n0 fl1 a0 (.ret x.1) x.2 .off :=
    evCall_b hS.nf hS.nl 100 _ (AV × Heap) (.fn f) a0 (mkHeap l0 n0) .off _ pairK _ fun o h m => by
      cases m <;> cases o <;> rfl
  rw [e] at hr
  obtain ⟨⟨v, hr1⟩, h1, h2⟩ := Option.bind_eq_some_iff.1 hr
  unfold objK at h2
  simp only at h2
  obtain ⟨g3, h2⟩ := guardK_some h2
  simp only [Option.some.injEq, Prod.mk.injEq] at h2
  obtain ⟨⟨e1, e2⟩, e3⟩ := h2
  rw [e3] at g3 e2
  simp only [Bool.and_eq_true] at g3
  refine fnSim_locG hT hS kn sc f A K r args h .off args' ρ Z w kind cs₀ cs hL ?_ hrep ha hcs
  unfold locG
  simp only [hps, hφ0, ha0, hl0, g2, h1, e3]
  generalize hφ2 : pairsNew h.next (fst1 ps1) 0 (accOf kn φ) = φ2 at hg
  have hk : ∀ b, memO b (fst1 ps1) = true → ∃ c, find1 b φ2 = some c := fun b hb => by
    rw [← hφ2]
    exact pairsNew_find _ _ _ _ (.inl hb)
  have hkeys : ∀ b c, (b, c) ∈ φ2 → memO b (fst1 ps1) = true ∨ b < n0 := fun b c hm => by
    rw [← hφ2] at hm
    rcases pairsNew_keys _ _ _ _ _ hm with h | h
    · exact .inl h
    · have h := (accOf_sub kn φ).subset h
      rw [swapL_eq, List.mem_map] at h
      obtain ⟨x, a, e⟩ := h
      cases e
      have := hφ.lt _ _ a
      rw [g2] at this
      exact .inr this
  have hn : ∀ b, n0 ≤ b → memO b (fst1 ps1) = false → find1 b φ2 = none := fun b h1 h2 => by
    cases hf : find1 b φ2 with
    | none => rfl
    | some c =>
      rcases hkeys b c (find1_mem hf) with h3 | h3
      · rw [h2] at h3; cases h3
      · omega
  have k1 : vwRes P φ2 hr1 (resOf P f) v = vwRes P φ2 (mkHeap l1 0) (resOf P f) v1 := by
    rw [← e1]
    exact vwRes_ok hk hn g3.2
  have k2 : vwBlks2 P φ2 hr1 hr1 (tyAt ps1) φ2 = vwBlksO P φ2 (mkHeap l1 0) (mkHeap l1 0) (tyAt ps1) (fun x => fl1.any (Nat.beq x.1)) φ2 := by
    rw [← e2]
    refine (vwBlksO_grab hk g3.1 φ2 fun x hx => ?_).symm
    obtain ⟨b, c⟩ := x
    rw [memO_app]
    rcases hkeys b c hx with h | h
    · exact .inl h
    · exact .inr (upTo_mem h)
  rw [k1, k2]
  exact hg
end Go.Ev
