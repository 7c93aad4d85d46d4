/- What the evaluator's abstract values and heaps say of the model's values and worlds. -/
import Derived.Test.YtokighfpmonjdaaEvB
import Derived.Below
import Derived.Laws.Cells
import Derived.Laws.IdiomCopy
namespace Go.Ev
open Go.RowKit

/-! ### The evaluator's lists are the library's -/
theorem nth_eq (l : List AV) (i : Nat) : nth l i = l.getD i .dead := by
  induction l generalizing i with
  | nil => simp [nth]
  | cons x xs ih => cases i <;> simp_all [nth]
theorem setL_eq (l : List AV) (i : Nat) (v : AV) : setL l i v = l.set i v := by
  induction l generalizing i with
  | nil => simp [setL]
  | cons x xs ih => cases i <;> simp_all [setL]
theorem lenA_eq (l : List AV) : lenA l = l.length := by
  induction l <;> simp_all [lenA]
theorem appA_eq (l r : List AV) : appA l r = l ++ r := by
  induction l <;> simp_all [appA]
theorem takeA_eq (l : List AV) (n : Nat) : takeA l n = l.take n := by
  induction l generalizing n with
  | nil => cases n <;> simp [takeA]
  | cons x xs ih => cases n <;> simp_all [takeA]
theorem dropA_eq (l : List AV) (n : Nat) : dropA l n = l.drop n := by
  induction l generalizing n with
  | nil => cases n <;> simp [dropA]
  | cons x xs ih => cases n <;> simp_all [dropA]
theorem repA_eq (v : AV) (n : Nat) : repA v n = List.replicate n v := by
  induction n <;> simp_all [repA, List.replicate_succ]
theorem lenS_eq (l : List UInt8) : lenS l = l.length := by
  induction l <;> simp_all [lenS]
theorem appS_eq (l r : List UInt8) : appS l r = l ++ r := by
  induction l <;> simp_all [appS]
theorem takeS_eq (l : List UInt8) (n : Nat) : takeS l n = l.take n := by
  induction l generalizing n with
  | nil => cases n <;> simp [takeS]
  | cons x xs ih => cases n <;> simp_all [takeS]
theorem dropS_eq (l : List UInt8) (n : Nat) : dropS l n = l.drop n := by
  induction l generalizing n with
  | nil => cases n <;> simp [dropS]
  | cons x xs ih => cases n <;> simp_all [dropS]
theorem nthS_eq (l : List UInt8) (i : Nat) : nthS l i = l.getD i 0 := by
  induction l generalizing i with
  | nil => simp [nthS]
  | cons x xs ih => cases i <;> simp_all [nthS]
theorem eqS_eq (a b : List UInt8) : eqS a b = (a == b) := by
  induction a generalizing b with
  | nil => cases b <;> simp [eqS]
  | cons x xs ih => cases b with
    | nil => simp [eqS]
    | cons y ys => simp only [eqS, ih]; rfl
theorem lessS_eq (a b : List UInt8) : lessS a b = Op.bytesLess a b := by
  induction a generalizing b with
  | nil => cases b <;> simp [lessS, Op.bytesLess]
  | cons x xs ih => cases b <;> simp_all [lessS, Op.bytesLess]
theorem flatL_eq (l : List AV) : flatL l = l.all flat := by
  induction l <;> simp_all [flatL]
theorem splice_length (l : List AV) (o : Nat) (cs : List AV) : (splice l o cs).length = l.length := by
  induction cs generalizing l o with
  | nil => rfl
  | cons c cs ih => simp [splice, ih, setL_eq]
theorem splice_get (cs : List AV) : ∀ (l : List AV) (o i : Nat), o + cs.length ≤ l.length →
    (splice l o cs)[i]? = if o ≤ i ∧ i < o + cs.length then cs[i - o]? else l[i]? := by
  induction cs with
  | nil => intro l o i _; simp [splice]; intro h1 h2; omega
  | cons c cs ih =>
    intro l o i h
    simp only [List.length_cons] at h
    simp only [splice, setL_eq]
    rw [ih _ _ _ (by simp; omega)]
    by_cases h1 : o = i
    · subst h1
      rw [if_neg (by omega), if_pos (by simp)]
      have : o < l.length := by omega
      simp [this]
    · by_cases h2 : o + 1 ≤ i ∧ i < o + 1 + cs.length
      · rw [if_pos h2, if_pos (by simp; omega)]
        have : i - o = (i - (o + 1)) + 1 := by omega
        rw [this]; simp
      · rw [if_neg h2, if_neg (by simp; omega)]
        simp [h1]

/-! ### Places and values -/
structure Pl where
  blk : Nat
  off : Nat
  ext : Nat
/-- Where the heap's blocks lie; which cells of the world are never written any more ('F': block, offset, what they are). -/
structure Loc where
  m : Nat → Option Pl
  F : Nat → Nat → List AV → Prop
instance : CoeFun Loc (fun _ => Nat → Option Pl) := ⟨Loc.m⟩
def Loc.none : Loc := ⟨fun _ => Option.none, fun _ _ _ => False⟩
structure Grows (ρ ρ' : Loc) : Prop where
  at' : ∀ b p, ρ b = some p → ρ' b = some p
  fz : ∀ b o cs, ρ.F b o cs → ρ'.F b o cs
instance {ρ ρ' : Loc} : CoeFun (Grows ρ ρ') (fun _ => ∀ b p, ρ b = some p → ρ' b = some p) := ⟨Grows.at'⟩
theorem Grows.refl (ρ : Loc) : Grows ρ ρ := ⟨fun _ _ h => h, fun _ _ _ h => h⟩
theorem Grows.trans {a b c : Loc} (h : Grows a b) (k : Grows b c) : Grows a c := ⟨fun _ _ x => k _ _ (h _ _ x), fun _ _ _ x => k.fz _ _ _ (h.fz _ _ _ x)⟩

inductive R (ρ : Loc) : AV → Value → Prop
  | dead (v : Value) : R ρ .dead v
  | int (k : IntKind) (n : Int) : R ρ (.int k n) (.int k n)
  | bool (b : Bool) : R ρ (.bool b) (.bool b)
  | str (s : ByteArray) : R ρ (.str s.data.toList) (.string s)
  | ptrn : R ρ (.ptr none) (.pointer none)
  | ptr {b o : Nat} {p : Pl} (h : ρ b = some p) : R ρ (.ptr (some (b, o))) (.pointer (some ⟨p.blk, p.off + o, none⟩))
  | sln (sz : Nat) : R ρ (.sl none 0 0 true sz) (.slice none 0 0)
  | sl {b o len cap sz cap' : Nat} {ex : Bool} {p : Pl} {a : Addr} (h : ρ b = some p) (h1 : cap ≤ cap') (h2 : ex = true → cap' = cap)
      (h3 : 0 < cap' → a = ⟨p.blk, p.off + o, none⟩ ∧ o + cap' * sz ≤ p.ext) (h4 : len ≤ cap) : R ρ (.sl (some (b, o)) len cap ex sz) (.slice (some a) len cap')
  | gr {b o len sz cap' : Nat} {p : Pl} {a : Addr} (h : ρ b = some p) (h1 : len ≤ cap')
      (h3 : 0 < cap' → a = ⟨p.blk, p.off + o, none⟩ ∧ o + cap' * sz ≤ p.ext) : R ρ (.gr (b, o) len sz) (.slice (some a) len cap')
  | fz {cs : List AV} {len sz cap' : Nat} {ex : Bool} {a : Option Addr} (h : 0 < len → ∃ b q o cs0, ρ.F b q cs0 ∧ a = some ⟨b, q + o, none⟩ ∧ cs = (cs0.drop o).take (len * sz) ∧ o + len * sz ≤ cs0.length)
      (h0 : a = none → cap' = 0) (hl : cs.length = len * sz) (h1 : len ≤ cap') (h2 : ex = true → cap' = len) (h5 : ∀ x, a = some x → 0 < cap' → x.spot = none) : R ρ (.fz cs len ex sz) (.slice a len cap')
  | fp {cs : List AV} {o : Nat} {b q : Nat} {cs0 : List AV} {o0 : Nat} (h : ρ.F b q cs0) (hc : cs = (cs0.drop o0).take cs.length) (hl : o0 + cs.length ≤ cs0.length) : R ρ (.fp cs o) (.pointer (some ⟨b, q + o0 + o, none⟩))
  | mapn : R ρ (.map none) (.map none)
  | map {b : Nat} {p : Pl} (h : ρ b = some p) : R ρ (.map (some b)) (.map (some p.blk))
  | fn (f : FuncId) {first cap : List AV} {first' cap' : Array Value} (h1 : first.length = first'.size) (h2 : ∀ (i : Nat) v v', first[i]? = some v → first'[i]? = some v' → R ρ v v')
      (h3 : cap.length = cap'.size) (h4 : ∀ (i : Nat) v v', cap[i]? = some v → cap'[i]? = some v' → R ρ v v') : R ρ (.fn f first cap) (.func (.func f) first' cap')
  | yield {l : Nat} {p : Pl} (h : ρ l = some p) : R ρ (.yield l) (.func (.yield p.blk) #[] #[])
  | nilf : R ρ .nilf .nilFunc
  | iface (t : TypeId) {v : AV} {v' : Value} (h : R ρ v v') : R ρ (.iface t v) (.iface t v')
  | nili : R ρ .nili .nilIface
  | agg {cs : List AV} {cs' : Array Value} (h1 : cs.length = cs'.size) (h2 : ∀ (i : Nat) v v', cs[i]? = some v → cs'[i]? = some v' → R ρ v v') : R ρ (.agg cs) (.agg cs')
  | tup {cs : List AV} {cs' : Array Value} (h1 : cs.length = cs'.size) (h2 : ∀ (i : Nat) v v', cs[i]? = some v → cs'[i]? = some v' → R ρ v v') : R ρ (.tup cs) (.tuple cs')

theorem R.grows {ρ ρ' : Loc} (hg : Grows ρ ρ') {v : AV} {v' : Value} (h : R ρ v v') : R ρ' v v' := by
  induction h with
  | dead v => exact .dead v
  | int k n => exact .int k n
  | bool b => exact .bool b
  | str s => exact .str s
  | ptrn => exact .ptrn
  | ptr h => exact .ptr (hg _ _ h)
  | sln sz => exact .sln sz
  | sl h h1 h2 h3 h4 => exact .sl (hg _ _ h) h1 h2 h3 h4
  | gr h h1 h3 => exact .gr (hg _ _ h) h1 h3
  | fz h h0 hl h1 h2 h5 => exact .fz (fun h' => let ⟨b, q, o, cs0, x, y⟩ := h h'; ⟨b, q, o, cs0, hg.fz _ _ _ x, y⟩) h0 hl h1 h2 h5
  | fp h hc hl => exact .fp (hg.fz _ _ _ h) hc hl
  | mapn => exact .mapn
  | map h => exact .map (hg _ _ h)
  | fn f h1 _ h3 _ i2 i4 => exact .fn f h1 i2 h3 i4
  | yield h => exact .yield (hg _ _ h)
  | nilf => exact .nilf
  | iface t _ ih => exact .iface t ih
  | nili => exact .nili
  | agg h1 _ ih => exact .agg h1 ih
  | tup h1 _ ih => exact .tup h1 ih

/-- It grows, and no more cells are told of that are never written any more. -/
structure GrowsS (ρ ρ' : Loc) : Prop extends Grows ρ ρ' where
  same : ∀ b o cs, ρ'.F b o cs → ρ.F b o cs
theorem GrowsS.refl (ρ : Loc) : GrowsS ρ ρ := ⟨Grows.refl _, fun _ _ _ h => h⟩
theorem GrowsS.trans {a b c : Loc} (h : GrowsS a b) (k : GrowsS b c) : GrowsS a c := ⟨h.toGrows.trans k.toGrows, fun _ _ _ x => h.same _ _ _ (k.same _ _ _ x)⟩
theorem GrowsS.eq {ρ ρ' : Loc} (h : GrowsS ρ ρ') (hm : ∀ b, ρ' b = ρ b) : ρ' = ρ := by
  have h1 : ρ'.m = ρ.m := funext hm
  have h2 : ρ'.F = ρ.F := funext fun b => funext fun o => funext fun cs => propext ⟨h.same b o cs, h.fz b o cs⟩
  cases ρ; cases ρ'
  simp only at h1 h2
  rw [h1, h2]
/-- Lists of values. -/
structure RL (ρ : Loc) (l : List AV) (a : List Value) : Prop where
  len : l.length = a.length
  get : ∀ (i : Nat) v v', l[i]? = some v → a[i]? = some v' → R ρ v v'
theorem RL.grows {ρ ρ' : Loc} (hg : Grows ρ ρ') {l : List AV} {a : List Value} (h : RL ρ l a) : RL ρ' l a := ⟨h.len, fun i v v' h1 h2 => (h.get i v v' h1 h2).grows hg⟩
theorem RL.nil (ρ : Loc) : RL ρ [] [] := ⟨rfl, fun i v v' h _ => by simp at h⟩
theorem RL.cons {ρ : Loc} {v : AV} {v' : Value} {l : List AV} {a : List Value} (h : R ρ v v') (hl : RL ρ l a) : RL ρ (v :: l) (v' :: a) :=
  ⟨by simp [hl.len], fun i x x' h1 h2 => by
    cases i with
    | zero => simp at h1 h2; subst h1; subst h2; exact h
    | succ i => exact hl.get i x x' (by simpa using h1) (by simpa using h2)⟩
theorem RL.head {ρ : Loc} {v : AV} {v' : Value} {l : List AV} {a : List Value} (h : RL ρ (v :: l) (v' :: a)) : R ρ v v' := h.get 0 v v' (by simp) (by simp)
theorem RL.tail {ρ : Loc} {v : AV} {v' : Value} {l : List AV} {a : List Value} (h : RL ρ (v :: l) (v' :: a)) : RL ρ l a :=
  ⟨by have := h.len; simpa using this, fun i x x' h1 h2 => h.get (i + 1) x x' (by simpa using h1) (by simpa using h2)⟩
theorem RL.append {ρ : Loc} {l m : List AV} {a b : List Value} (h : RL ρ l a) (k : RL ρ m b) : RL ρ (l ++ m) (a ++ b) :=
  ⟨by simp [h.len, k.len], fun i v v' h1 h2 => by
    have hl := h.len
    by_cases hi : i < l.length
    · rw [List.getElem?_append_left hi] at h1
      rw [List.getElem?_append_left (by omega)] at h2
      exact h.get i v v' h1 h2
    · rw [List.getElem?_append_right (by omega)] at h1
      rw [List.getElem?_append_right (by omega), ← hl] at h2
      exact k.get _ v v' h1 h2⟩
theorem RL.take {ρ : Loc} {l : List AV} {a : List Value} (h : RL ρ l a) (n : Nat) : RL ρ (l.take n) (a.take n) :=
  ⟨by simp [h.len], fun i v v' h1 h2 => by
    simp only [List.getElem?_take] at h1 h2
    split at h1
    · rename_i hi; simp only [hi, if_true] at h2; exact h.get i v v' h1 h2
    · cases h1⟩
theorem RL.drop {ρ : Loc} {l : List AV} {a : List Value} (h : RL ρ l a) (n : Nat) : RL ρ (l.drop n) (a.drop n) :=
  ⟨by simp [h.len], fun i v v' h1 h2 => by
    simp only [List.getElem?_drop] at h1 h2
    exact h.get _ v v' h1 h2⟩
theorem RL.set {ρ : Loc} {l : List AV} {a : List Value} (h : RL ρ l a) {v : AV} {v' : Value} (hv : R ρ v v') (n : Nat) : RL ρ (l.set n v) (a.set n v') :=
  ⟨by simp [h.len], fun i x x' h1 h2 => by
    simp only [List.getElem?_set] at h1 h2
    have hl := h.len
    by_cases hi : n = i
    · subst hi
      by_cases hn : n < l.length
      · rw [if_pos rfl, if_pos hn] at h1
        rw [if_pos rfl, if_pos (by omega)] at h2
        cases h1; cases h2; exact hv
      · rw [if_pos rfl, if_neg hn] at h1; cases h1
    · rw [if_neg hi] at h1 h2; exact h.get i x x' h1 h2⟩
theorem RL.replicate {ρ : Loc} {v : AV} {v' : Value} (h : R ρ v v') (n : Nat) : RL ρ (List.replicate n v) (List.replicate n v') :=
  ⟨by simp, fun i x x' h1 h2 => by
    simp only [List.getElem?_replicate] at h1 h2
    split at h1
    · rename_i hi; simp only [hi, if_true] at h2; cases h1; cases h2; exact h
    · cases h1⟩
theorem RL.map {ρ : Loc} {α : Type} (f : α → AV) (g : α → Value) (l : List α) (h : ∀ x ∈ l, R ρ (f x) (g x)) : RL ρ (l.map f) (l.map g) :=
  ⟨by simp, fun i v v' h1 h2 => by
    simp only [List.getElem?_map, Option.map_eq_some_iff] at h1 h2
    obtain ⟨x, hx, rfl⟩ := h1
    obtain ⟨y, hy, rfl⟩ := h2
    rw [hx] at hy; cases hy
    exact h x (List.mem_of_getElem? hx)⟩
theorem RL.get_some {ρ : Loc} {l : List AV} {a : List Value} (h : RL ρ l a) {i : Nat} {v : AV} (hi : l[i]? = some v) : ∃ v', a[i]? = some v' ∧ R ρ v v' := by
  have hlt : i < l.length := by
    rcases Nat.lt_or_ge i l.length with h' | h'
    · exact h'
    · rw [List.getElem?_eq_none h'] at hi; cases hi
  have h2 : i < a.length := by rw [← h.len]; exact hlt
  exact ⟨a[i], List.getElem?_eq_getElem h2, h.get i v _ hi (List.getElem?_eq_getElem h2)⟩
theorem RL.getD {ρ : Loc} {l : List AV} {a : List Value} (h : RL ρ l a) (i : Nat) (d : Value) : R ρ (l.getD i .dead) (a.getD i d) := by
  rcases Nat.lt_or_ge i l.length with h' | h'
  · obtain ⟨v', h1, h2⟩ := h.get_some (List.getElem?_eq_getElem h')
    simp only [List.getD, List.getElem?_eq_getElem h', h1, Option.getD_some]
    exact h2
  · simp only [List.getD, List.getElem?_eq_none h', Option.getD_none]
    exact .dead _
theorem R.of_agg {ρ : Loc} {cs : List AV} {v' : Value} (h : R ρ (.agg cs) v') : ∃ cs' : List Value, v' = .agg cs'.toArray ∧ RL ρ cs cs' := by
  cases h with
  | agg h1 h2 => rename_i cs'; exact ⟨cs'.toList, by simp, ⟨by simpa using h1, fun i v v' a b => h2 i v v' a (by simpa using b)⟩⟩
theorem R.of_tup {ρ : Loc} {cs : List AV} {v' : Value} (h : R ρ (.tup cs) v') : ∃ cs' : List Value, v' = .tuple cs'.toArray ∧ RL ρ cs cs' := by
  cases h with
  | tup h1 h2 => rename_i cs'; exact ⟨cs'.toList, by simp, ⟨by simpa using h1, fun i v v' a b => h2 i v v' a (by simpa using b)⟩⟩
theorem RL.agg {ρ : Loc} {cs : List AV} {cs' : List Value} (h : RL ρ cs cs') : R ρ (.agg cs) (.agg cs'.toArray) :=
  .agg (by simpa using h.len) fun i v v' a b => h.get i v v' a (by simpa using b)
theorem RL.tup {ρ : Loc} {cs : List AV} {cs' : List Value} (h : RL ρ cs cs') : R ρ (.tup cs) (.tuple cs'.toArray) :=
  .tup (by simpa using h.len) fun i v v' a b => h.get i v v' a (by simpa using b)
theorem R.undef (ρ : Loc) : R ρ (.tup []) undef := (RL.nil ρ).tup
theorem R.flat_one {ρ : Loc} {v : AV} {v' : Value} (h : R ρ v v') (hf : flat v = true) : v'.oneCell' = true := by
  cases h <;> first | rfl | (simp [flat] at hf)

/-! ### Constants -/
theorem R.ofLit1 (ρ : Loc) (v : Value) : R ρ (Ev.ofLit1 v) v := by
  unfold Ev.ofLit1
  split
  · exact .int _ _
  · exact .bool _
  · exact .str _
  · exact .ptrn
  · exact .sln 0
  · exact .mapn
  · exact .nilf
  · exact .nili
  · exact .dead _
theorem RL.ofLits (ρ : Loc) (l : List Value) : RL ρ (l.map Ev.ofLit1) l := by
  have := RL.map (ρ := ρ) Ev.ofLit1 id l (fun x _ => R.ofLit1 ρ x)
  simpa using this
theorem R.ofConst (ρ : Loc) (v : Value) : R ρ (Ev.ofConst v) v := by
  unfold Ev.ofConst
  split
  · rename_i cs
    have := (RL.ofLits ρ cs.toList).agg
    simpa using this
  · exact .ofLit1 ρ v
/-- An operand, in temporaries that are told. -/
theorem R.ev {ρ : Loc} {t : List AV} {a : Act} (h : RL ρ t a.tmps.toList) (x : Operand) : R ρ (Ev.ev t x) (a.eval x) := by
  cases x with
  | tmp i =>
    simp only [Ev.ev, Act.eval, nth_eq]
    have := h.getD i Go.undef
    simpa [List.getD, Array.getD_eq_getD_getElem?] using this
  | const v => exact .ofConst ρ v
  | global g => exact .dead _
  | func f => exact .fn f (by simp) (by simp) (by simp) (by simp)

/-! ### Heaps and worlds -/
/-- What stays: the blocks that may be read alone ('ro'), and all that is not touched ('keep'); what is asked of a loop's record. -/
structure Zone where
  ro : Nat → Prop
  keep : Nat → Prop
  sub : ∀ q, ro q → keep q
  /-- blocks of which cells are told that are never written any more -/
  fz : Nat → Prop
  fsub : ∀ q, fz q → keep q
  L : ALoop → Prop
/-- What stays, stays; and so do the streams. -/
structure Low (N : Zone) (w w' : World) : Prop where
  os : w'.os = w.os
  tape : w'.tape = w.tape
  output : w'.output = w.output
  size : w.heap.size ≤ w'.heap.size
  block : ∀ k, N.keep k → w'.heap[k]? = w.heap[k]?
theorem Low.refl (N : Zone) (w : World) : Low N w w := ⟨rfl, rfl, rfl, Nat.le_refl _, fun _ _ => rfl⟩
theorem Low.trans {N : Zone} {a b c : World} (h : Low N a b) (k : Low N b c) : Low N a c :=
  ⟨k.os.trans h.os, k.tape.trans h.tape, k.output.trans h.output, Nat.le_trans h.size k.size, fun i hi => (k.block i hi).trans (h.block i hi)⟩
theorem Low.drew {N : Zone} {a w : World} (h : Low N a w) : Low N a w.drew := ⟨h.os, h.tape, h.output, h.size, h.block⟩
def RB (ρ : Loc) (N : Zone) (w : World) (p : Pl) : Blk → Prop
  | .cells wr vs => ∃ c e fz, w.heap[p.blk]? = some (.cells c e fz) ∧ p.off + p.ext ≤ c.size ∧ vs.length ≤ p.ext ∧
      (∀ i v, vs[i]? = some v → ∃ v', c[p.off + i]? = some v' ∧ R ρ v v') ∧
      (wr = true → ¬ N.keep p.blk ∧ ∀ i, p.off ≤ i → i < p.off + p.ext → ¬ (fz.1 ≤ i ∧ i < fz.2)) ∧ (wr = false → N.ro p.blk)
  | .map es ck => ¬ N.keep p.blk ∧ ∃ entries, w.heap[p.blk]? = some (.map entries ck) ∧ es.length = entries.size ∧
      (∀ (i : Nat) (e : AV × AV × Nat) (e' : MapEntry), es[i]? = some e → entries[i]? = some e' → R ρ e.1 e'.key ∧ R ρ e.2.1 e'.val ∧ e'.born = e.2.2)
  | .loop l => ¬ N.keep p.blk ∧ N.L l ∧ ∃ l' : Loop, w.heap[p.blk]? = some (.loop l') ∧ l'.state = l.state ∧ l'.pending = l.pending ∧ l'.fn = l.fn ∧ RL ρ l.tmps l'.tmps.toList ∧
      l'.params.toList = l.params ∧ l'.assign = l.assign ∧ l'.body = l.body ∧ ∃ p₂, ρ l.defers = some p₂ ∧ l'.defers = p₂.blk
  | .dfr live => ¬ N.keep p.blk ∧ w.heap[p.blk]? = some (.deferred (if live then some [] else none))
/-- A value that names no block of the heap. -/
inductive Pure : AV → Prop
  | dead : Pure .dead
  | int (k : IntKind) (n : Int) : Pure (.int k n)
  | bool (b : Bool) : Pure (.bool b)
  | str (s : List UInt8) : Pure (.str s)
  | ptrn : Pure (.ptr none)
  | sln (len cap : Nat) (ex : Bool) (sz : Nat) : Pure (.sl none len cap ex sz)
  | mapn : Pure (.map none)
  | nilf : Pure .nilf
  | nili : Pure .nili
  | fz (cs : List AV) (len : Nat) (ex : Bool) (sz : Nat) : Pure (.fz cs len ex sz)
  | fp (cs : List AV) (o : Nat) : Pure (.fp cs o)
  | fn (f : FuncId) {a c : List AV} (h1 : ∀ (i : Nat) v, a[i]? = some v → Pure v) (h2 : ∀ (i : Nat) v, c[i]? = some v → Pure v) : Pure (.fn f a c)
  | iface (t : TypeId) {v : AV} (h : Pure v) : Pure (.iface t v)
  | agg {cs : List AV} (h : ∀ (i : Nat) v, cs[i]? = some v → Pure v) : Pure (.agg cs)
  | tup {cs : List AV} (h : ∀ (i : Nat) v, cs[i]? = some v → Pure v) : Pure (.tup cs)
theorem R.pure {ρ ρ' : Loc} (hF : ∀ b o cs, ρ.F b o cs → ρ'.F b o cs) {v : AV} {v' : Value} (h : R ρ v v') : Pure v → R ρ' v v' := by
  induction h with
  | dead v => exact fun _ => .dead v
  | int k n => exact fun _ => .int k n
  | bool b => exact fun _ => .bool b
  | str s => exact fun _ => .str s
  | ptrn => exact fun _ => .ptrn
  | ptr h => intro hp; cases hp
  | sln sz => exact fun _ => .sln sz
  | sl h h1 h2 h3 h4 => intro hp; cases hp
  | gr h h1 h3 => intro hp; cases hp
  | fz h h0 hl h1 h2 h5 => exact fun _ => .fz (fun h' => let ⟨b, q, o, cs0, x, y⟩ := h h'; ⟨b, q, o, cs0, hF _ _ _ x, y⟩) h0 hl h1 h2 h5
  | fp h hc hl => exact fun _ => .fp (hF _ _ _ h) hc hl
  | mapn => exact fun _ => .mapn
  | map h => intro hp; cases hp
  | fn f h1 _ h3 _ i2 i4 =>
    intro hp
    cases hp with
    | fn _ p1 p2 => exact .fn f h1 (fun i v v' a b => i2 i v v' a b (p1 i v a)) h3 (fun i v v' a b => i4 i v v' a b (p2 i v a))
  | yield h => intro hp; cases hp
  | nilf => exact fun _ => .nilf
  | iface t _ ih =>
    intro hp
    cases hp with
    | iface _ p => exact .iface t (ih p)
  | nili => exact fun _ => .nili
  | agg h1 _ ih =>
    intro hp
    cases hp with
    | agg p => exact .agg h1 (fun i v v' a b => ih i v v' a b (p i v a))
  | tup h1 _ ih =>
    intro hp
    cases hp with
    | tup p => exact .tup h1 (fun i v v' a b => ih i v v' a b (p i v a))
/-- Cells that are never written any more are as they are told. -/
def Fzn (ρ : Loc) (w : World) (b o : Nat) (cs : List AV) : Prop := ∃ c e fz, w.heap[b]? = some (.cells c e fz) ∧ o + cs.length ≤ c.size ∧ ∀ (i : Nat) v, cs[i]? = some v → ∃ v', c[o + i]? = some v' ∧ R ρ v v'
theorem Fzn.keep {ρ ρ' : Loc} {w w' : World} {b o : Nat} {cs : List AV} (hg : Grows ρ ρ') (h : Fzn ρ w b o cs) (hb : w'.heap[b]? = w.heap[b]?) : Fzn ρ' w' b o cs := by
  obtain ⟨c, e, fz, h1, h2, h3⟩ := h
  exact ⟨c, e, fz, hb.trans h1, h2, fun i v hi => let ⟨v', a, b⟩ := h3 i v hi; ⟨v', a, b.grows hg⟩⟩
theorem Fzn.size {ρ : Loc} {w : World} {b o : Nat} {cs : List AV} (h : Fzn ρ w b o cs) : b < w.heap.size := by
  obtain ⟨c, e, fz, h1, _⟩ := h
  rcases Nat.lt_or_ge b w.heap.size with h' | h'
  · exact h'
  · simp [Array.getElem?_eq_none h'] at h1
/-- The world is as the heap tells; what the heap may write lies from block N on. -/
structure Rep (ρ : Loc) (h : Heap) (N : Zone) (w : World) : Prop where
  blk : ∀ b x, h.m b = some x → ∃ p, ρ b = some p ∧ RB ρ N w p x
  inj : ∀ b b' x x' p p', h.m b = some x → h.m b' = some x' → b ≠ b' → x.writes = true → ρ b = some p → ρ b' = some p' → p.blk ≠ p'.blk
  old : ∀ q, N.keep q → q < w.heap.size
  fresh : ∀ b, h.next ≤ b → ρ b = none
  frz : ∀ b o cs, ρ.F b o cs → Fzn ρ w b o cs ∧ (∀ c x p, h.m c = some x → x.writes = true → ρ c = some p → p.blk ≠ b) ∧ (N.keep b → N.ro b ∨ N.fz b) ∧ ∀ v ∈ cs, Pure v

theorem upd_apply (m : Nat → Option Blk) (i : Nat) (b : Option Blk) (j : Nat) : upd m i b j = if j = i then b else m j := by
  unfold upd
  by_cases h : j = i
  · subst h; simp
  · have : Nat.beq j i = false := by
      cases hb : Nat.beq j i with
      | false => rfl
      | true => exact absurd (Nat.eq_of_beq_eq_true hb) h
    simp [this, h]
theorem Heap.put_m (h : Heap) (i : Nat) (b : Blk) (j : Nat) : (h.put i b).m j = if j = i then some b else h.m j := upd_apply _ _ _ _
theorem Heap.kill_m (h : Heap) (i : Nat) (j : Nat) : (h.kill i).m j = if j = i then none else h.m j := upd_apply _ _ _ _

theorem RB.size {ρ : Loc} {N : Zone} {w : World} {p : Pl} {x : Blk} (h : RB ρ N w p x) : p.blk < w.heap.size := by
  have key : ∀ o, w.heap[p.blk]? = some o → p.blk < w.heap.size := fun o ho => by
    rcases Nat.lt_or_ge p.blk w.heap.size with h' | h'
    · exact h'
    · simp [Array.getElem?_eq_none h'] at ho
  cases x with
  | cells wr vs => obtain ⟨c, e, fz, h1, _⟩ := h; exact key _ h1
  | map es ck => obtain ⟨_, en, h1, _⟩ := h; exact key _ h1
  | loop l => obtain ⟨_, _, l', h1, _⟩ := h; exact key _ h1
  | dfr live => exact key _ h.2
/-- A block that has not been touched reads as it did. -/
theorem RB.keep {ρ ρ' : Loc} {N : Zone} {w w' : World} {p : Pl} {x : Blk} (hg : Grows ρ ρ') (h : RB ρ N w p x) (hb : w'.heap[p.blk]? = w.heap[p.blk]?) : RB ρ' N w' p x := by
  cases x with
  | cells wr vs =>
    obtain ⟨c, e, fz, h1, h2, h3, h4, h5⟩ := h
    exact ⟨c, e, fz, hb.trans h1, h2, h3, fun i v hi => let ⟨v', a, b⟩ := h4 i v hi; ⟨v', a, b.grows hg⟩, h5⟩
  | map es ck =>
    obtain ⟨h0, en, h1, h2, h3⟩ := h
    exact ⟨h0, en, hb.trans h1, h2, fun i e e' a b => let ⟨x, y, z⟩ := h3 i e e' a b; ⟨x.grows hg, y.grows hg, z⟩⟩
  | loop l =>
    obtain ⟨h0, hL, l', h1, h2, h3, h4, h5, h6, h7, h8, p2, h9, h10⟩ := h
    exact ⟨h0, hL, l', hb.trans h1, h2, h3, h4, h5.grows hg, h6, h7, h8, p2, hg _ _ h9, h10⟩
  | dfr live => exact ⟨h.1, hb.trans h.2⟩
theorem RB.low {ρ : Loc} {N : Zone} {w : World} {p : Pl} {x : Blk} (h : RB ρ N w p x) (hw : x.writes = true) : ¬ N.keep p.blk := by
  cases x with
  | cells wr vs => obtain ⟨c, e, fz, h1, h2, h3, h4, h5⟩ := h; exact (h5.1 hw).1
  | map es ck => exact h.1
  | loop l => exact h.1
  | dfr live => exact h.1

/-- A draw. -/
theorem Rep.drew {ρ : Loc} {h : Heap} {N : Zone} {w : World} (hr : Rep ρ h N w) : Rep ρ h N { w with drawn := w.drawn + 1 } :=
  ⟨fun b x hb => let ⟨p, h1, h2⟩ := hr.blk b x hb; ⟨p, h1, h2.keep (Grows.refl _) rfl⟩, hr.inj, hr.old, hr.fresh, fun b o cs hf => ⟨(hr.frz b o cs hf).1.keep (Grows.refl _) rfl, (hr.frz b o cs hf).2⟩⟩

def setLoc (ρ : Loc) (i : Nat) (p : Pl) : Loc := ⟨fun j => if j = i then some p else ρ j, ρ.F⟩
theorem setLoc_grows {ρ : Loc} {i : Nat} {p : Pl} (h : ρ i = none) : Grows ρ (setLoc ρ i p) := ⟨fun b q hb => by
  unfold setLoc; by_cases e : b = i
  · subst e; rw [h] at hb; cases hb
  · simp [e, hb], fun _ _ _ h => h⟩
theorem setLoc_growsS {ρ : Loc} {i : Nat} {p : Pl} (h : ρ i = none) : GrowsS ρ (setLoc ρ i p) := ⟨setLoc_grows h, fun _ _ _ h => h⟩
/-- How worlds go on: what lies below N stays, and so do the streams. -/
theorem Rep.new {ρ : Loc} {h : Heap} {N : Zone} {w w' : World} (hr : Rep ρ h N w) {id : Nat} (hid : ρ id = none) (hlt : id < h.next) (o : Obj) (x : Blk) (p : Pl)
    (hw : w' = { w with heap := w.heap.push o }) (hp : p.blk = w.heap.size) (hx : RB (setLoc ρ id p) N w' p x) : Rep (setLoc ρ id p) (h.put id x) N w' := by
  have hg : Grows ρ (setLoc ρ id p) := setLoc_grows hid
  have hold : ∀ q : Nat, q < w.heap.size → w'.heap[q]? = w.heap[q]? := fun q hq => by
    subst hw; show (w.heap.push o)[q]? = _; rw [Array.getElem?_push, if_neg (by omega)]
  refine ⟨fun b y hb => ?_, fun b b' y y' q q' hb hb' hne hy hq hq' => ?_, by subst hw; intro q hq; show q < (w.heap.push o).size; have := hr.old q hq; simp; omega, fun b hb => ?_, fun b o cs hf => ?_⟩
  · rw [Heap.put_m] at hb
    by_cases e : b = id
    · subst e; simp at hb; subst hb; exact ⟨p, by simp [setLoc], hx⟩
    · rw [if_neg e] at hb
      obtain ⟨q, h1, h2⟩ := hr.blk b y hb
      exact ⟨q, hg _ _ h1, h2.keep hg (hold _ h2.size)⟩
  · rw [Heap.put_m] at hb hb'
    have key : ∀ c z r, c ≠ id → h.m c = some z → setLoc ρ id p c = some r → r.blk < w.heap.size := fun c z r hc hz hl => by
      obtain ⟨r', a, b⟩ := hr.blk c z hz
      simp only [setLoc, if_neg hc] at hl
      rw [a] at hl; cases hl; exact b.size
    by_cases e : b = id
    · have e' : b' ≠ id := fun x => hne (e.trans x.symm)
      rw [if_neg e'] at hb'
      have hk := key b' y' q' e' hb' hq'
      rw [e] at hq; simp [setLoc] at hq; subst hq
      omega
    · rw [if_neg e] at hb
      have hk := key b y q e hb hq
      by_cases e' : b' = id
      · rw [e'] at hq'; simp [setLoc] at hq'; subst hq'; omega
      · rw [if_neg e'] at hb'
        simp only [setLoc, if_neg e, if_neg e'] at hq hq'
        exact hr.inj b b' y y' q q' hb hb' hne hy hq hq'
  · have hb' : h.next ≤ b := hb
    simp only [setLoc]
    rw [if_neg (by omega)]
    exact hr.fresh b hb'
  · obtain ⟨f1, f2, f3⟩ := hr.frz b o cs hf
    refine ⟨f1.keep hg (hold _ f1.size), fun c y q hc hy hq => ?_, f3⟩
    rw [Heap.put_m] at hc
    have := f1.size
    by_cases e : c = id
    · rw [e] at hq; simp [setLoc] at hq; subst hq; omega
    · rw [if_neg e] at hc
      simp only [setLoc, if_neg e] at hq
      exact f2 c y q hc hy hq
/-- A block that may be written is written. -/
theorem Rep.write {ρ : Loc} {h : Heap} {N : Zone} {w w' : World} (hr : Rep ρ h N w) {b : Nat} {x x' : Blk} {p : Pl} (hb : h.m b = some x) (hwr : x.writes = true) 
    (hp : ρ b = some p) (hs : w'.heap.size = w.heap.size) (hold : ∀ q, q ≠ p.blk → w'.heap[q]? = w.heap[q]?) (hx : RB ρ N w' p x') : Rep ρ (h.put b x') N w' := by
  refine ⟨fun c y hc => ?_, fun c c' y y' q q' hc hc' hne hy hq hq' => ?_, hs ▸ hr.old, hr.fresh, fun c o cs hf => ?_⟩
  · rw [Heap.put_m] at hc
    by_cases e : c = b
    · subst e; simp at hc; subst hc; exact ⟨p, hp, hx⟩
    · rw [if_neg e] at hc
      obtain ⟨q, h1, h2⟩ := hr.blk c y hc
      exact ⟨q, h1, h2.keep (Grows.refl _) (hold _ (fun eq => hr.inj b c x y p q hb hc (Ne.symm e) hwr hp h1 eq.symm))⟩
  · rw [Heap.put_m] at hc hc'
    by_cases e : c = b
    · rw [e] at hq
      by_cases e' : c' = b
      · exact absurd (e.trans e'.symm) hne
      · rw [if_neg e'] at hc'
        exact hr.inj b c' x y' q q' hb hc' (Ne.symm e') hwr hq hq'
    · rw [if_neg e] at hc
      by_cases e' : c' = b
      · rw [e'] at hq'
        exact hr.inj c b y x q q' hc hb e hy hq hq'
      · rw [if_neg e'] at hc'
        exact hr.inj c c' y y' q q' hc hc' hne hy hq hq'
  · obtain ⟨f1, f2, f3⟩ := hr.frz c o cs hf
    refine ⟨f1.keep (Grows.refl _) (hold _ fun eq => f2 b x p hb hwr hp eq.symm), fun d y q hd hy hq => ?_, f3⟩
    rw [Heap.put_m] at hd
    by_cases e : d = b
    · rw [e, hp] at hq; cases hq; exact f2 b x p hb hwr hp
    · rw [if_neg e] at hd; exact f2 d y q hd hy hq
theorem Rep.kill {ρ : Loc} {h : Heap} {N : Zone} {w : World} (hr : Rep ρ h N w) (b : Nat) : Rep ρ (h.kill b) N w := by
  have key : ∀ c y, (h.kill b).m c = some y → h.m c = some y := fun c y hc => by
    rw [Heap.kill_m] at hc
    by_cases e : c = b
    · rw [if_pos e] at hc; cases hc
    · rwa [if_neg e] at hc
  exact ⟨fun c y hc => hr.blk c y (key c y hc), fun c c' y y' q q' hc hc' => hr.inj c c' y y' q q' (key c y hc) (key c' y' hc'), hr.old, hr.fresh, fun c o cs hf => ⟨(hr.frz c o cs hf).1, fun d y q hd => (hr.frz c o cs hf).2.1 d y q (key d y hd), (hr.frz c o cs hf).2.2⟩⟩
theorem Rep.next {ρ : Loc} {h : Heap} {N : Zone} {w : World} (hr : Rep ρ h N w) {n : Nat} (hn : h.next ≤ n) : Rep ρ ⟨h.m, n⟩ N w :=
  ⟨hr.blk, hr.inj, hr.old, fun b hb => hr.fresh b (Nat.le_trans hn hb), hr.frz⟩
/-! ### Cells that are never written any more -/
theorem R.gr_sl {ρ : Loc} {p : Nat × Nat} {len sz : Nat} {v' : Value} (h : R ρ (.gr p len sz) v') : R ρ (.sl (some p) len len false sz) v' := by
  cases h with
  | gr h h1 h3 => exact .sl h h1 (by simp) h3 (Nat.le_refl _)
theorem R.fz_inv {ρ : Loc} {cs : List AV} {len sz : Nat} {ex : Bool} {v' : Value} (h : R ρ (.fz cs len ex sz) v') :
    ∃ a cap', v' = .slice a len cap' ∧ (0 < len → ∃ b q o cs0, ρ.F b q cs0 ∧ a = some ⟨b, q + o, none⟩ ∧ cs = (cs0.drop o).take (len * sz) ∧ o + len * sz ≤ cs0.length) ∧
      (a = none → cap' = 0) ∧ cs.length = len * sz ∧ len ≤ cap' ∧ (ex = true → cap' = len) := by
  cases h with
  | fz h h0 hl h1 h2 _ => exact ⟨_, _, rfl, h, h0, hl, h1, h2⟩
theorem R.fz_spot {ρ : Loc} {cs : List AV} {len l sz cap' : Nat} {ex : Bool} {a : Option Addr} (h : R ρ (.fz cs len ex sz) (.slice a l cap')) : ∀ x, a = some x → 0 < cap' → x.spot = none := by
  cases h with
  | fz _ _ _ _ _ h5 => exact h5
/-- A part of such cells, in the world. -/
theorem frz_cells {ρ : Loc} {h : Heap} {N : Zone} {w : World} (hr : Rep ρ h N w) {b q o k : Nat} {cs0 : List AV} (hf : ρ.F b q cs0) (hl : o + k ≤ cs0.length) :
    ∃ cs', RL ρ ((cs0.drop o).take k) cs' ∧ cs'.length = k ∧ ∀ j v, cs'[j]? = some v → w.cell? ⟨b, q + o + j, none⟩ = some v := by
  obtain ⟨⟨c, e, fz, h1, h2, h3⟩, _⟩ := hr.frz b q cs0 hf
  have hcl : c.toList.length = c.size := by simp
  refine ⟨(c.toList.drop (q + o)).take k, ⟨?_, fun i v v' a b' => ?_⟩, ?_, fun j v hj => ?_⟩
  · simp only [List.length_take, List.length_drop, hcl]
    omega
  · simp only [List.getElem?_take, List.getElem?_drop] at a b'
    split at a
    · rename_i hi
      simp only [hi, if_true] at b'
      obtain ⟨u, hu, hR⟩ := h3 _ _ a
      rw [show q + (o + i) = q + o + i by omega] at hu
      have b2 : c[q + o + i]? = some v' := by simpa using b'
      rw [hu] at b2; cases b2; exact hR
    · cases a
  · simp only [List.length_take, List.length_drop, hcl]
    omega
  · simp only [List.getElem?_take, List.getElem?_drop] at hj
    split at hj
    · simp only [World.cell?, h1]
      simpa using hj
    · cases hj
end Go.Ev
