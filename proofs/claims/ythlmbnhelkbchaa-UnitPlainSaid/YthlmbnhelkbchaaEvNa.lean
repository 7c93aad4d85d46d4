/- What an operation answers does not hang on what is done with it. -/
import Derived.Test.YthlmbnhelkbchaaEvM
namespace Go.Ev
variable {A : Type} {P : Program} {h : Heap} {id : Nat}
abbrev pr : AV → Heap → Option (AV × Heap) := fun v h => some (v, h)
abbrev un (K : AV → Heap → Option A) : AV × Heap → Option A := fun x => K x.1 x.2
theorem asInt_b {k : IntKind} {v : AV} {B : Type} {K : Int → Option A} {K' : Int → Option B} {u : B → Option A} (hk : ∀ n, K n = (K' n).bind u) : asInt k v K = (asInt k v K').bind u := by
  unfold asInt; split <;> first | rfl | (split <;> first | rfl | exact hk _)
theorem anyInt_b {v : AV} {B : Type} {K : IntKind → Int → Option A} {K' : IntKind → Int → Option B} {u : B → Option A} (hk : ∀ k n, K k n = (K' k n).bind u) : anyInt v K = (anyInt v K').bind u := by
  unfold anyInt; split <;> first | rfl | exact hk _ _
theorem asBool_b {v : AV} {B : Type} {K : Bool → Option A} {K' : Bool → Option B} {u : B → Option A} (hk : ∀ n, K n = (K' n).bind u) : asBool v K = (asBool v K').bind u := by
  unfold asBool; split <;> first | rfl | exact hk _
theorem asStr_b {v : AV} {B : Type} {K : List UInt8 → Option A} {K' : List UInt8 → Option B} {u : B → Option A} (hk : ∀ n, K n = (K' n).bind u) : asStr v K = (asStr v K').bind u := by
  unfold asStr; split <;> first | rfl | exact hk _
theorem asPtr_b {v : AV} {B : Type} {K : Option (Nat × Nat) → Option A} {K' : Option (Nat × Nat) → Option B} {u : B → Option A} (hk : ∀ n, K n = (K' n).bind u) : asPtr v K = (asPtr v K').bind u := by
  unfold asPtr; split <;> first | rfl | exact hk _
theorem asMap_b {v : AV} {B : Type} {K : Option Nat → Option A} {K' : Option Nat → Option B} {u : B → Option A} (hk : ∀ n, K n = (K' n).bind u) : asMap v K = (asMap v K').bind u := by
  unfold asMap; split <;> first | rfl | exact hk _
theorem asAgg_b {v : AV} {B : Type} {K : List AV → Option A} {K' : List AV → Option B} {u : B → Option A} (hk : ∀ n, K n = (K' n).bind u) : asAgg v K = (asAgg v K').bind u := by
  unfold asAgg; split <;> first | rfl | exact hk _
theorem asTup_b {v : AV} {B : Type} {K : List AV → Option A} {K' : List AV → Option B} {u : B → Option A} (hk : ∀ n, K n = (K' n).bind u) : asTup v K = (asTup v K').bind u := by
  unfold asTup; split <;> first | rfl | exact hk _
theorem asAdr_b {v : AV} {B : Type} {K : Nat × Nat → Option A} {K' : Nat × Nat → Option B} {u : B → Option A} (hk : ∀ n, K n = (K' n).bind u) : asAdr v K = (asAdr v K').bind u := by
  unfold asAdr; split <;> first | rfl | exact hk _
theorem asAdr2_b {v : AV} {B : Type} {K : Nat × Nat → Option A} {K' : Nat × Nat → Option B} {F : List AV → Nat → Option A} {F' : List AV → Nat → Option B} {u : B → Option A} (hk : ∀ n, K n = (K' n).bind u) (hf : ∀ x n, F x n = (F' x n).bind u) : asAdr2 v K F = (asAdr2 v K' F').bind u := by
  unfold asAdr2; split <;> first | rfl | exact hk _ | exact hf _ _
theorem asSl_b {v : AV} {B : Type} {K : Option (Nat × Nat) → Nat → Nat → Bool → Nat → Option A} {K' : Option (Nat × Nat) → Nat → Nat → Bool → Nat → Option B} {u : B → Option A} (hk : ∀ a b c d e, K a b c d e = (K' a b c d e).bind u) : asSl v K = (asSl v K').bind u := by
  unfold asSl; split <;> first | rfl | exact hk _ _ _ _ _
theorem asSl2_b {v : AV} {B : Type} {K : Option (Nat × Nat) → Nat → Nat → Bool → Nat → Option A} {K' : Option (Nat × Nat) → Nat → Nat → Bool → Nat → Option B} {F : List AV → Nat → Bool → Nat → Option A} {F' : List AV → Nat → Bool → Nat → Option B} {u : B → Option A}
    (hk : ∀ a b c d e, K a b c d e = (K' a b c d e).bind u) (hf : ∀ a b c d, F a b c d = (F' a b c d).bind u) : asSl2 v K F = (asSl2 v K' F').bind u := by
  unfold asSl2; split <;> first | rfl | exact hk _ _ _ _ _ | exact hf _ _ _ _
theorem guardK_b {b : Bool} {B : Type} {x : Option A} {x' : Option B} {u : B → Option A} (hk : x = x'.bind u) : guardK b x = (guardK b x').bind u := by
  cases b <;> first | rfl | exact hk
theorem tyK_b {t : TypeId} {B : Type} {K : TypeDesc → Option A} {K' : TypeDesc → Option B} {u : B → Option A} (hk : ∀ n, K n = (K' n).bind u) : tyK P t K = (tyK P t K').bind u := by
  unfold tyK; split <;> first | rfl | exact hk _
theorem sizeK_b {t : TypeId} {B : Type} {K : Nat → Option A} {K' : Nat → Option B} {u : B → Option A} (hk : ∀ n, K n = (K' n).bind u) : sizeK P t K = (sizeK P t K').bind u := by
  unfold sizeK; split <;> first | rfl | exact hk _
theorem bytesK_b {t : TypeId} {B : Type} {K : Nat → Option A} {K' : Nat → Option B} {u : B → Option A} (hk : ∀ n, K n = (K' n).bind u) : bytesK P t K = (bytesK P t K').bind u := by
  unfold bytesK; split <;> first | rfl | exact hk _
theorem zeroK_b {t : TypeId} {B : Type} {K : List AV → Option A} {K' : List AV → Option B} {u : B → Option A} (hk : ∀ n, K n = (K' n).bind u) : zeroK P t K = (zeroK P t K').bind u := by
  unfold zeroK; split <;> first | rfl | (split <;> first | rfl | exact hk _)
theorem zeroV_b {t : TypeId} {B : Type} {K : AV → Option A} {K' : AV → Option B} {u : B → Option A} (hk : ∀ n, K n = (K' n).bind u) : zeroV P t K = (zeroV P t K').bind u := by
  unfold zeroV; split <;> first | rfl | (split <;> first | rfl | exact hk _)
theorem cellsK_b {v : AV} {B : Type} {K : List AV → Option A} {K' : List AV → Option B} {u : B → Option A} (hk : ∀ n, K n = (K' n).bind u) : cellsK v K = (cellsK v K').bind u := by
  unfold cellsK; split <;> exact guardK_b (hk _)
theorem ldN_b {p : Nat × Nat} {n : Nat} {B : Type} {K : List AV → Option A} {K' : List AV → Option B} {u : B → Option A} (hk : ∀ n, K n = (K' n).bind u) : ldN h p n K = (ldN h p n K').bind u := by
  unfold ldN; split <;> first | rfl | exact guardK_b (hk _)
theorem ld1_b {p : Nat × Nat} {B : Type} {K : AV → Option A} {K' : AV → Option B} {u : B → Option A} (hk : ∀ n, K n = (K' n).bind u) : ld1 h p K = (ld1 h p K').bind u := by
  unfold ld1; split <;> first | rfl | exact guardK_b (hk _)
theorem stN_b {p : Nat × Nat} {cs : List AV} {B : Type} {K : Heap → Option A} {K' : Heap → Option B} {u : B → Option A} (hk : ∀ n, K n = (K' n).bind u) : stN h p cs K = (stN h p cs K').bind u := by
  unfold stN; split <;> first | rfl | exact guardK_b (hk _)
theorem boundK_b {x : Option AV} {d : Nat} {B : Type} {K : Nat → Option A} {K' : Nat → Option B} {u : B → Option A} (hk : ∀ n, K n = (K' n).bind u) : boundK x d K = (boundK x d K').bind u := by
  unfold boundK; split
  · exact hk _
  · exact asInt_b fun n => guardK_b (hk _)
theorem asTy_b {d : TypeDesc} {v : AV} {B : Type} {K : AV → Option A} {K' : AV → Option B} {u : B → Option A} (hk : ∀ n, K n = (K' n).bind u) : asTy d v K = (asTy d v K').bind u := by
  unfold asTy; split
  · exact guardK_b (hk _)
  · exact guardK_b (hk _)
  · exact guardK_b (hk _)
  · exact asPtr_b fun _ => hk _
  · exact guardK_b (hk _)
  · exact asMap_b fun _ => hk _
  · exact hk _
theorem loadK_b {t : TypeId} {p : Nat × Nat} {B : Type} {K : AV → Option A} {K' : AV → Option B} {u : B → Option A} (hk : ∀ n, K n = (K' n).bind u) : loadK P t h p K = (loadK P t h p K').bind u :=
  tyK_b fun d => by
    cases isAggD d with
    | true => simp only [cond_true]; exact sizeK_b fun n => ldN_b fun cs => hk _
    | false => simp only [cond_false]; exact ld1_b fun v => asTy_b hk
theorem loadF_b {t : TypeId} {cs : List AV} {o : Nat} {B : Type} {K : AV → Option A} {K' : AV → Option B} {u : B → Option A} (hk : ∀ n, K n = (K' n).bind u) : loadF P t cs o K = (loadF P t cs o K').bind u :=
  tyK_b fun d => by
    cases isAggD d with
    | true => simp only [cond_true]; exact sizeK_b fun n => guardK_b (guardK_b (guardK_b (hk _)))
    | false => simp only [cond_false]; exact guardK_b (guardK_b (hk _))
theorem fillA_b {B : Type} {place : Nat → Option (Nat × Nat)} {K : List AV → Option A} {K' : List AV → Option B} {u : B → Option A} (hk : ∀ n, K n = (K' n).bind u) : ∀ (l : List (Nat × AV)) (cs : List AV), fillA place l cs K = (fillA place l cs K').bind u
  | [], cs => hk _
  | (i, v) :: rest, cs => by
    simp only [fillA]
    split
    · rfl
    · exact cellsK_b fun vs => guardK_b (guardK_b (fillA_b hk rest _))
theorem binK_b {op : BinOp} {t : TypeId} {x y : AV} {B : Type} {K : AV → Option A} {K' : AV → Option B} {u : B → Option A} (hk : ∀ n, K n = (K' n).bind u) : binK P op t x y K = (binK P op t x y K').bind u := by
  unfold binK
  have hsh : ∀ op k a b, shI op k a b K = (shI op k a b K').bind u := fun op k a b => by
    unfold shI
    cases decide (b < 0) with
    | true => rfl
    | false => simp only [cond_false]; cases op <;> first | rfl | exact hk _
  have hbi : ∀ op k a b, binI op k a b K = (binI op k a b K').bind u := fun op k a b => by
    unfold binI
    cases op <;> first | rfl | exact hk _ | (simp only; cases b == 0 <;> first | rfl | exact hk _)
  split
  · refine anyInt_b fun k' b => ?_
    cases op <;> first | exact hsh _ _ _ _ | (simp only; split <;> first | rfl | exact hbi _ _ _ _)
  · refine asStr_b fun b => ?_
    unfold binS
    cases op <;> first | rfl | exact hk _ | exact guardK_b (hk _)
  · have he : ∀ {f : Bool → AV}, eqlK P t x y (fun b => K (f b)) = (eqlK P t x y fun b => K' (f b)).bind u := fun {f} => by
      unfold eqlK
      refine tyK_b fun d => ?_
      split <;> first | rfl | exact hk _ | (unfold slEq; split <;> first | rfl | exact guardK_b (hk _))
    cases op <;> first | rfl | exact he (f := AV.bool) | exact he (f := fun b => AV.bool (!b))

section
variable {B : Type} {K : AV → Option A} {K' : AV → Option B} {u : B → Option A}
theorem unK_b {op : UnOp} {x : AV} (hk : ∀ n, K n = (K' n).bind u) : unK op x K = (unK op x K').bind u := by
  unfold unK
  cases op <;> first | rfl | exact anyInt_b fun _ _ => hk _ | exact asBool_b fun _ => hk _
theorem buildK_b {t : TypeId} {ps : List (Nat × AV)} (hk : ∀ n, K n = (K' n).bind u) : buildK P t ps K = (buildK P t ps K').bind u := by
  unfold buildK
  refine zeroK_b fun zs => tyK_b fun d => ?_
  split <;> first | rfl | exact guardK_b (fillA_b (fun _ => hk _) _ _) | exact sizeK_b fun n => fillA_b (fun _ => hk _) _ _
theorem sliceK_b {t : TypeId} {x : AV} {lo hi mx : Option AV} (hk : ∀ n, K n = (K' n).bind u) : sliceK P t x lo hi mx K = (sliceK P t x lo hi mx K').bind u := by
  unfold sliceK
  refine tyK_b fun d => ?_
  split
  · refine asStr_b fun s => ?_
    split
    · exact boundK_b fun h => boundK_b fun l => guardK_b (guardK_b (hk _))
    · rfl
  · refine sizeK_b fun n => asSl2_b (fun p len cap ex sz => guardK_b ?_) (fun cs len ex sz => guardK_b ?_)
    · split
      · exact boundK_b fun h => boundK_b fun l => guardK_b (guardK_b (hk _))
      · exact boundK_b fun m => boundK_b fun h => boundK_b fun l => guardK_b (guardK_b (guardK_b (hk _)))
    · split
      · exact boundK_b fun h => boundK_b fun l => guardK_b (guardK_b (hk _))
      · exact boundK_b fun m => boundK_b fun h => boundK_b fun l => guardK_b (guardK_b (guardK_b (hk _)))
  · exact asAdr_b fun _ => sizeK_b fun _ => rfl
  · rfl
theorem fieldOff_b {t : TypeId} {f : Nat} {K : Nat → TypeId → Option A} {K' : Nat → TypeId → Option B} (hk : ∀ n m, K n m = (K' n m).bind u) : fieldOff P t f K = (fieldOff P t f K').bind u := by
  unfold fieldOff
  refine tyK_b fun d => ?_
  split
  · split <;> first | rfl | exact hk _ _
  · rfl
theorem fieldAddrK_b {t : TypeId} {x : AV} {f : Nat} (hk : ∀ n, K n = (K' n).bind u) : fieldAddrK P t x f K = (fieldAddrK P t x f K').bind u :=
  fieldOff_b fun _ _ => sizeK_b fun _ => guardK_b (asAdr2_b (fun _ => hk _) (fun _ _ => hk _))
theorem partK_b {t : TypeId} {cs : List AV} {off : Nat} (hk : ∀ n, K n = (K' n).bind u) : partK P t cs off K = (partK P t cs off K').bind u :=
  tyK_b fun d => by
    cases isAggD d with
    | true => simp only [cond_true]; exact sizeK_b fun n => hk _
    | false => simp only [cond_false]; exact guardK_b (asTy_b hk)
theorem fieldK_b {t : TypeId} {x : AV} {f : Nat} (hk : ∀ n, K n = (K' n).bind u) : fieldK P t x f K = (fieldK P t x f K').bind u :=
  fieldOff_b fun _ _ => asAgg_b fun _ => partK_b hk
theorem selK_b {i : Int} {K : Nat → Option A} {K' : Nat → Option B} (hk : ∀ m, K m = (K' m).bind u) : ∀ (n j : Nat), selK i K n j = (selK i K' n j).bind u
  | 0, _ => rfl
  | n + 1, j => by
    simp only [selK]
    cases i == (j : Int) with
    | true => exact hk j
    | false => exact selK_b hk n (j + 1)
theorem arrK_b {i : Int} {len : Nat} {K : Nat → Option A} {K' : Nat → Option B} (hk : ∀ m, K m = (K' m).bind u) : arrK i len K = (arrK i len K').bind u := by
  unfold arrK
  cases Nat.ble len 8 with
  | true => exact selK_b hk len 0
  | false => exact hk _
theorem indexAddrK_b {t : TypeId} {x ix : AV} (hk : ∀ n, K n = (K' n).bind u) : indexAddrK P t x ix K = (indexAddrK P t x ix K').bind u := by
  unfold indexAddrK
  refine anyInt_b fun _ i => tyK_b fun d => ?_
  split
  · exact sizeK_b fun n => asAdr2_b (fun _ => guardK_b (arrK_b fun _ => hk _)) (fun _ _ => guardK_b (arrK_b fun _ => hk _))
  · refine sizeK_b fun n => asSl2_b (fun p len cap ex sz => ?_) (fun cs len ex sz => guardK_b (hk _))
    split <;> first | rfl | exact guardK_b (hk _)
  · rfl
theorem indexK_b {t : TypeId} {x ix : AV} (hk : ∀ n, K n = (K' n).bind u) : indexK P t x ix K = (indexK P t x ix K').bind u := by
  unfold indexK
  refine anyInt_b fun _ i => tyK_b fun d => ?_
  split
  · exact sizeK_b fun n => asAgg_b fun cs => guardK_b (partK_b hk)
  · exact asStr_b fun s => guardK_b (hk _)
  · rfl
theorem assertK_b {x : AV} {t : TypeId} {ok : Bool} (hk : ∀ n, K n = (K' n).bind u) : assertK P x t ok K = (assertK P x t ok K').bind u := by
  unfold assertK
  refine tyK_b fun d => ?_
  have hz : (bif ok then zeroV P t fun z => K (.tup [z, .bool false]) else none) = (bif ok then zeroV P t fun z => K' (.tup [z, .bool false]) else none).bind u := by
    cases ok with
    | false => rfl
    | true => exact zeroV_b (K := fun z => K (.tup [z, .bool false])) (K' := fun z => K' (.tup [z, .bool false])) fun _ => hk _
  split
  · rfl
  · split
    · rename_i t' v
      cases Nat.beq t' t with
      | true => exact hk _
      | false => exact hz
    · exact hz
    · rfl
theorem extractK_b {x : AV} {i : Nat} (hk : ∀ n, K n = (K' n).bind u) : extractK x i K = (extractK x i K').bind u :=
  asTup_b fun _ => guardK_b (hk _)
theorem nilK_b {x : AV} (hk : ∀ n, K n = (K' n).bind u) : nilK x K = (nilK x K').bind u := by
  unfold nilK; split <;> first | rfl | exact hk _
theorem entriesK_b {r : Option Nat} {K : List (AV × AV × Nat) → Nat → Option A} {K' : List (AV × AV × Nat) → Nat → Option B} (hk : ∀ n m, K n m = (K' n m).bind u) : entriesK r h K = (entriesK r h K').bind u := by
  unfold entriesK; split
  · exact hk _ _
  · split <;> first | rfl | exact hk _ _
theorem findK_b {k : AV} {F : Nat → AV → Option A} {F' : Nat → AV → Option B} {G : Option A} {G' : Option B} (hf : ∀ i v, F i v = (F' i v).bind u) (hg : G = G'.bind u) : ∀ (es : List (AV × AV × Nat)) (i : Nat), findK k F G es i = (findK k F' G' es i).bind u
  | [], _ => hg
  | e :: es, i => by
    simp only [findK]
    cases sameKey k e.1 with
    | none => rfl
    | some b => cases b <;> first | exact hf _ _ | exact findK_b hf hg es (i + 1)
theorem lookupK_b {t : TypeId} {x k : AV} {ok : Bool} (hk : ∀ n, K n = (K' n).bind u) : lookupK P t x k ok h K = (lookupK P t x k ok h K').bind u := by
  unfold lookupK
  refine tyK_b fun d => ?_
  split
  · exact tyK_b fun kd => guardK_b (asMap_b fun r => entriesK_b fun es _ => findK_b (fun _ _ => hk _) (zeroV_b (K := fun z => K (bif ok then .tup [z, .bool false] else z)) (K' := fun z => K' (bif ok then .tup [z, .bool false] else z)) fun _ => hk _) _ _)
  · rfl
end
section
variable {B : Type} {K : Heap → Option A} {K' : Heap → Option B} {u : B → Option A}
theorem mapUpdateK_b {t : TypeId} {x k v : AV} (hk : ∀ n, K n = (K' n).bind u) : mapUpdateK P t x k v h K = (mapUpdateK P t x k v h K').bind u := by
  unfold mapUpdateK
  refine tyK_b fun d => ?_
  split
  · refine tyK_b fun kd => guardK_b (asMap_b fun r => ?_)
    split
    · rfl
    · split
      · split <;> first | rfl | exact hk _
      · rfl
  · rfl
theorem clearK_b {et : TypeId} {x : AV} (hk : ∀ n, K n = (K' n).bind u) : clearK P et x h K = (clearK P et x h K').bind u := by
  unfold clearK
  refine sizeK_b fun n => zeroK_b fun zs => guardK_b (asSl_b fun p len cap ex sz => ?_)
  cases Nat.beq len 0 with
  | true => exact hk _
  | false =>
    simp only [cond_false]
    split <;> first | rfl | exact guardK_b (stN_b hk)
end
section
variable {B : Type} {K : AV → Heap → Option A} {K' : AV → Heap → Option B} {u : B → Option A}
theorem convK_b {s d : TypeId} {x : AV} (hk : ∀ n m, K n m = (K' n m).bind u) : convK P s d x h id K = (convK P s d x h id K').bind u := by
  unfold convK
  refine tyK_b fun s' => tyK_b fun d' => ?_
  split
  · exact anyInt_b fun _ _ => hk _ _
  · exact asStr_b fun _ => hk _ _
  · refine tyK_b fun e' => ?_
    split <;> first | rfl | exact asStr_b fun b => guardK_b (hk _ _)
  · refine tyK_b fun e' => ?_
    split
    · refine asSl2_b (fun p len cap ex sz => ?_) (fun cs len ex sz => guardK_b ?_)
      · split
        · exact hk _ _
        · refine ldN_b fun cs => ?_
          split <;> first | rfl | exact hk _ _
      · split <;> first | rfl | exact hk _ _
    · rfl
  · rfl
theorem buildSliceK_b {t : TypeId} {len : Nat} {ps : List (Nat × AV)} (hk : ∀ n m, K n m = (K' n m).bind u) : buildSliceK P t len ps h id K = (buildSliceK P t len ps h id K').bind u := by
  unfold buildSliceK
  refine tyK_b fun d => ?_
  split
  · exact sizeK_b fun n => zeroK_b fun zs => guardK_b (guardK_b (fillA_b (fun _ => guardK_b (hk _ _)) _ _))
  · rfl
theorem makeSliceK_b {t : TypeId} {l c : AV} (hk : ∀ n m, K n m = (K' n m).bind u) : makeSliceK P t l c h id K = (makeSliceK P t l c h id K').bind u := by
  unfold makeSliceK
  refine tyK_b fun d => ?_
  split
  · exact asInt_b fun l => asInt_b fun c => sizeK_b fun n => bytesK_b fun b => zeroK_b fun zs => guardK_b (guardK_b (hk _ _))
  · rfl
theorem srcK_b {size : Nat} {x : AV} {K : Nat → List AV → Option A} {K' : Nat → List AV → Option B} (hk : ∀ n m, K n m = (K' n m).bind u) : srcK size x h K = (srcK size x h K').bind u := by
  unfold srcK
  split
  · exact guardK_b (hk _ _)
  · cases Nat.beq _ 0 <;> simp only [cond_true, cond_false] <;> first | exact hk _ _ | exact guardK_b (ldN_b fun _ => hk _ _)
  · cases Nat.beq _ 0 <;> simp only [cond_true, cond_false] <;> first | exact hk _ _ | exact guardK_b (ldN_b fun _ => hk _ _)
  · exact guardK_b (hk _ _)
  · cases Nat.beq _ 0 <;> simp only [cond_true, cond_false] <;> first | exact hk _ _ | exact guardK_b (hk _ _)
  · rfl
theorem oldK_b {size : Nat} {q : Nat × Nat} {len sz : Nat} {K : List AV → Option A} {K' : List AV → Option B} (hk : ∀ n, K n = (K' n).bind u) : oldK size q len sz h K = (oldK size q len sz h K').bind u := by
  unfold oldK
  cases Nat.beq len 0 <;> simp only [cond_true, cond_false] <;> first | exact hk _ | exact guardK_b (ldN_b hk)
theorem growK_b {size : Nat} {q : Nat × Nat} {len sz : Nat} {new : List AV} {n : Nat} (hk : ∀ n m, K n m = (K' n m).bind u) : growK size q len sz new n h id K = (growK size q len sz new n h id K').bind u := by
  unfold growK
  refine oldK_b fun old => ?_
  split <;> first | rfl | exact guardK_b (hk _ _)
theorem appendK_b {zr : Bool} {et : TypeId} {s x : AV} (hk : ∀ n m, K n m = (K' n m).bind u) : appendK P zr et s x h id K = (appendK P zr et s x h id K').bind u := by
  unfold appendK
  refine sizeK_b fun size => bytesK_b fun b => zeroK_b fun zs => guardK_b ?_
  have hs : ∀ {G : Nat → List AV → Option A} {G' : Nat → List AV → Option B}, (∀ n m, G n m = (G' n m).bind u) → (bif zr then zsrcK zs x else srcK size x h) G = ((bif zr then zsrcK zs x else srcK size x h) G').bind u := fun {G G'} hG => by
    cases zr with
    | true => simp only [cond_true]; unfold zsrcK; exact anyInt_b fun _ l => guardK_b (hG _ _)
    | false => simp only [cond_false]; exact srcK_b hG
  refine hs fun n new => ?_
  split
  · refine guardK_b ?_
    cases Nat.beq n 0 <;> simp only [cond_true, cond_false] <;> first | exact hk _ _ | exact growK_b hk
  · cases Nat.beq n 0 <;> simp only [cond_true, cond_false] <;> first | exact hk _ _ | exact guardK_b (hk _ _)
  · rename_i p len cap ex sz
    refine guardK_b ?_
    split
    · cases Nat.beq n 0 <;> simp only [cond_true, cond_false] <;> exact hk _ _
    · cases Nat.ble (len + n) cap with
      | true =>
        simp only [cond_true]
        cases Nat.beq n 0 <;> simp only [cond_true, cond_false] <;> first | exact hk _ _ | exact guardK_b (stN_b fun _ => hk _ _)
      | false =>
        simp only [cond_false]
        cases ex <;> simp only [cond_true, cond_false] <;> first | exact oldK_b fun _ => hk _ _ | exact growK_b hk
  · rfl
theorem copyK_b {et : TypeId} {d x : AV} (hk : ∀ n m, K n m = (K' n m).bind u) : copyK P et d x h K = (copyK P et d x h K').bind u := by
  unfold copyK
  refine sizeK_b fun size => guardK_b (asSl_b fun p len cap ex sz => srcK_b fun n new => ?_)
  split
  · exact hk _ _
  · cases Nat.beq (min n len) 0 <;> simp only [cond_true, cond_false] <;> first | exact hk _ _ | exact guardK_b (stN_b fun _ => hk _ _)
theorem foldI_b {f : Int → Int → Int} {k : IntKind} {K : AV → Option A} {K' : AV → Option B} (hk : ∀ n, K n = (K' n).bind u) : ∀ (vs : List AV) (a : Int), foldI f k a vs K = (foldI f k a vs K').bind u
  | [], a => hk _
  | v :: vs, a => by simp only [foldI]; exact asInt_b fun b => foldI_b hk vs _
theorem builtinK_b {b : Builtin} {tys : List TypeId} {args : List AV} (hk : ∀ n m, K n m = (K' n m).bind u) : builtinK P b tys args h id K = (builtinK P b tys args h id K').bind u := by
  unfold builtinK
  split
  · refine tyK_b fun d => ?_
    split <;> first | rfl | exact asStr_b fun _ => hk _ _ | exact asSl2_b (fun _ _ _ _ _ => hk _ _) (fun _ _ _ _ => hk _ _) | exact hk _ _ | exact asMap_b fun _ => entriesK_b fun _ _ => hk _ _
  · refine tyK_b fun d => ?_
    split <;> first | rfl | exact asSl2_b (fun _ _ _ _ _ => guardK_b (hk _ _)) (fun _ _ _ _ => guardK_b (hk _ _))
  · refine tyK_b fun d => tyK_b fun du => ?_
    split <;> first | rfl | exact appendK_b hk
  · refine tyK_b fun d => ?_
    split <;> first | rfl | exact copyK_b hk
  · refine tyK_b fun d => ?_
    split <;> first | rfl | exact clearK_b fun _ => hk _ _
  · refine tyK_b fun d => ?_
    split
    · refine tyK_b fun kd => guardK_b (asMap_b fun r => ?_)
      split
      · exact hk _ _
      · split
        · split <;> first | rfl | exact hk _ _
        · rfl
    · rfl
  · exact anyInt_b fun _ _ => foldI_b (fun _ => hk _ _) _ _
  · exact anyInt_b fun _ _ => foldI_b (fun _ => hk _ _) _ _
  · rfl
theorem prim_b {o : Oper} {e : Operand → AV} (hk : ∀ n m, K n m = (K' n m).bind u) : prim P o e h id K = (prim P o e h id K').bind u := by
  unfold prim
  split
  · exact hk _ _
  · exact hk _ _
  · exact asBool_b fun _ => hk _ _
  · exact zeroK_b fun _ => hk _ _
  · exact cellsK_b fun _ => hk _ _
  · exact buildK_b fun _ => hk _ _
  · exact buildSliceK_b hk
  · exact asAdr2_b (fun _ => loadK_b fun _ => hk _ _) (fun _ _ => loadF_b fun _ => hk _ _)
  · exact asAdr_b fun _ => cellsK_b fun _ => sizeK_b fun _ => guardK_b (stN_b fun _ => hk _ _)
  · exact nilK_b fun _ => hk _ _
  · exact binK_b fun _ => hk _ _
  · exact unK_b fun _ => hk _ _
  · exact convK_b hk
  · refine tyK_b fun d => ?_
    split <;> first | rfl | exact hk _ _
  · exact hk _ _
  · exact hk _ _
  · exact makeSliceK_b hk
  · exact guardK_b (sliceK_b fun _ => hk _ _)
  · exact fieldAddrK_b fun _ => hk _ _
  · exact fieldK_b fun _ => hk _ _
  · exact indexAddrK_b fun _ => hk _ _
  · exact indexK_b fun _ => hk _ _
  · exact lookupK_b fun _ => hk _ _
  · exact mapUpdateK_b fun _ => hk _ _
  · exact assertK_b fun _ => hk _ _
  · exact extractK_b fun _ => hk _ _
  · exact builtinK_b hk
  · rfl
end
end Go.Ev
