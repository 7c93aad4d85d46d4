/- What an operation answers does not hang on what is done with it. -/
import Derived.Test.YtokighfpmonjdaaEvM
import Derived.Orders
namespace Go.Ev
variable {A : Type} {P : Program} {h : Heap} {id : Nat}
abbrev pr : AV → Heap → Option (AV × Heap) := fun v h => some (v, h)
abbrev un (K : AV → Heap → Option A) : AV × Heap → Option A := fun x => K x.1 x.2
theorem asInt_b {k : IntKind} {v : AV} {B : Type} {K : Int → Option A} {K' : Int → Option B} {u : B → Option A} (hk : ∀ n, K n = (K' n).bind u) : asInt k v K = (asInt k v K').bind u := by
  unfold asInt; split <;> first | rfl | (split <;> first | rfl | exact hk _)
theorem anyInt_b {v : AV} {B : Type} {K : IntKind → Int → Option A} {K' : IntKind → Int → Option B} {u : B → Option A} (hk : ∀ k n, K k n = (K' k n).bind u) : anyInt v K = (anyInt v K').bind u := by
  unfold anyInt; split <;> first | rfl | exact hk _ _
theorem asBool_b {v : AV} {B : Type} {K : Bool → Option A} {K' : Bool → Option B} {u : B → Option A} (hk : ∀ n, K n = (K' n).bind u) : asBool v K = (asBool v K').bind u := by
  unfold asBool; split <;> first | rfl | exact hk _
theorem asStr_b {v : AV} {B : Type} {K : List UInt8 → Option A} {K' : List UInt8 → Option B} {u : B → Option A} (hk : ∀ n, K n = (K' n).bind u) : asStr v K = (asStr v K').bind u := by
  unfold asStr; split <;> first | rfl | exact hk _
theorem asPtr_b {v : AV} {B : Type} {K : Option (Nat × Nat) → Option A} {K' : Option (Nat × Nat) → Option B} {u : B → Option A} (hk : ∀ n, K n = (K' n).bind u) : asPtr v K = (asPtr v K').bind u := by
  unfold asPtr; split <;> first | rfl | exact hk _
theorem asMap_b {v : AV} {B : Type} {K : Option Nat → Option A} {K' : Option Nat → Option B} {u : B → Option A} (hk : ∀ n, K n = (K' n).bind u) : asMap v K = (asMap v K').bind u := by
  unfold asMap; split <;> first | rfl | exact hk _
theorem asAgg_b {v : AV} {B : Type} {K : List AV → Option A} {K' : List AV → Option B} {u : B → Option A} (hk : ∀ n, K n = (K' n).bind u) : asAgg v K = (asAgg v K').bind u := by
  unfold asAgg; split <;> first | rfl | exact hk _
theorem asTup_b {v : AV} {B : Type} {K : List AV → Option A} {K' : List AV → Option B} {u : B → Option A} (hk : ∀ n, K n = (K' n).bind u) : asTup v K = (asTup v K').bind u := by
  unfold asTup; split <;> first | rfl | exact hk _
theorem asAdr_b {v : AV} {B : Type} {K : Nat × Nat → Option A} {K' : Nat × Nat → Option B} {u : B → Option A} (hk : ∀ n, K n = (K' n).bind u) : asAdr v K = (asAdr v K').bind u := by
  unfold asAdr; split <;> first | rfl | exact hk _
theorem asAdr2_b {v : AV} {B : Type} {K : Nat × Nat → Option A} {K' : Nat × Nat → Option B} {F : List AV → Nat → Option A} {F' : List AV → Nat → Option B} {u : B → Option A} (hk : ∀ n, K n = (K' n).bind u) (hf : ∀ x n, F x n = (F' x n).bind u) : asAdr2 v K F = (asAdr2 v K' F').bind u := by
  unfold asAdr2; split <;> first | rfl | exact hk _ | exact hf _ _
theorem asSl_b {v : AV} {B : Type} {K : Option (Nat × Nat) → Nat → Nat → Bool → Nat → Option A} {K' : Option (Nat × Nat) → Nat → Nat → Bool → Nat → Option B} {u : B → Option A} (hk : ∀ a b c d e, K a b c d e = (K' a b c d e).bind u) : asSl v K = (asSl v K').bind u := by
  unfold asSl; split <;> first | rfl | exact hk _ _ _ _ _
theorem asSl2_b {v : AV} {B : Type} {K : Option (Nat × Nat) → Nat → Nat → Bool → Nat → Option A} {K' : Option (Nat × Nat) → Nat → Nat → Bool → Nat → Option B} {F : List AV → Nat → Bool → Nat → Option A} {F' : List AV → Nat → Bool → Nat → Option B} {u : B → Option A}
    (hk : ∀ a b c d e, K a b c d e = (K' a b c d e).bind u) (hf : ∀ a b c d, F a b c d = (F' a b c d).bind u) : asSl2 v K F = (asSl2 v K' F').bind u := by
  unfold asSl2; split <;> first | rfl | exact hk _ _ _ _ _ | exact hf _ _ _ _
theorem guardK_b {b : Bool} {B : Type} {x : Option A} {x' : Option B} {u : B → Option A} (hk : x = x'.bind u) : guardK b x = (guardK b x').bind u := by
  cases b <;> first | rfl | exact hk
theorem tyK_b {t : TypeId} {B : Type} {K : TypeDesc → Option A} {K' : TypeDesc → Option B} {u : B → Option A} (hk : ∀ n, K n = (K' n).bind u) : tyK P t K = (tyK P t K').bind u := by
  unfold tyK; split <;> first | rfl | exact hk _
theorem sizeK_b {t : TypeId} {B : Type} {K : Nat → Option A} {K' : Nat → Option B} {u : B → Option A} (hk : ∀ n, K n = (K' n).bind u) : sizeK P t K = (sizeK P t K').bind u := by
  unfold sizeK; split <;> first | rfl | exact hk _
theorem bytesK_b {t : TypeId} {B : Type} {K : Nat → Option A} {K' : Nat → Option B} {u : B → Option A} (hk : ∀ n, K n = (K' n).bind u) : bytesK P t K = (bytesK P t K').bind u := by
  unfold bytesK; split <;> first | rfl | exact hk _
theorem zeroK_b {t : TypeId} {B : Type} {K : List AV → Option A} {K' : List AV → Option B} {u : B → Option A} (hk : ∀ n, K n = (K' n).bind u) : zeroK P t K = (zeroK P t K').bind u := by
  unfold zeroK; split <;> first | rfl | (split <;> first | rfl | exact hk _)
theorem zeroV_b {t : TypeId} {B : Type} {K : AV → Option A} {K' : AV → Option B} {u : B → Option A} (hk : ∀ n, K n = (K' n).bind u) : zeroV P t K = (zeroV P t K').bind u := by
  unfold zeroV; split <;> first | rfl | (split <;> first | rfl | exact hk _)
theorem cellsK_b {v : AV} {B : Type} {K : List AV → Option A} {K' : List AV → Option B} {u : B → Option A} (hk : ∀ n, K n = (K' n).bind u) : cellsK v K = (cellsK v K').bind u := by
  unfold cellsK; split <;> exact guardK_b (hk _)
theorem ldN_b {p : Nat × Nat} {n : Nat} {B : Type} {K : List AV → Option A} {K' : List AV → Option B} {u : B → Option A} (hk : ∀ n, K n = (K' n).bind u) : ldN h p n K = (ldN h p n K').bind u := by
  unfold ldN; split <;> first | rfl | exact guardK_b (hk _)
theorem ld1_b {p : Nat × Nat} {B : Type} {K : AV → Option A} {K' : AV → Option B} {u : B → Option A} (hk : ∀ n, K n = (K' n).bind u) : ld1 h p K = (ld1 h p K').bind u := by
  unfold ld1; split <;> first | rfl | exact guardK_b (hk _)
theorem stN_b {p : Nat × Nat} {cs : List AV} {B : Type} {K : Heap → Option A} {K' : Heap → Option B} {u : B → Option A} (hk : ∀ n, K n = (K' n).bind u) : stN h p cs K = (stN h p cs K').bind u := by
  unfold stN; split <;> first | rfl | exact guardK_b (hk _)
theorem boundK_b {x : Option AV} {d : Nat} {B : Type} {K : Nat → Option A} {K' : Nat → Option B} {u : B → Option A} (hk : ∀ n, K n = (K' n).bind u) : boundK x d K = (boundK x d K').bind u := by
  unfold boundK; split
  · exact hk _
  · exact asInt_b fun n => guardK_b (hk _)
theorem asTy_b {d : TypeDesc} {v : AV} {B : Type} {K : AV → Option A} {K' : AV → Option B} {u : B → Option A} (hk : ∀ n, K n = (K' n).bind u) : asTy d v K = (asTy d v K').bind u := by
  unfold asTy; split
  · exact guardK_b (hk _)
  · exact guardK_b (hk _)
  · exact guardK_b (hk _)
  · exact asPtr_b fun _ => hk _
  · exact guardK_b (hk _)
  · exact asMap_b fun _ => hk _
  · exact hk _
theorem loadK_b {t : TypeId} {p : Nat × Nat} {B : Type} {K : AV → Option A} {K' : AV → Option B} {u : B → Option A} (hk : ∀ n, K n = (K' n).bind u) : loadK P t h p K = (loadK P t h p K').bind u :=
  tyK_b fun d => by
    cases isAggD d with
    | true => simp only [cond_true]; exact sizeK_b fun n => ldN_b fun cs => hk _
    | false => simp only [cond_false]; exact ld1_b fun v => asTy_b hk
theorem loadF_b {t : TypeId} {cs : List AV} {o : Nat} {B : Type} {K : AV → Option A} {K' : AV → Option B} {u : B → Option A} (hk : ∀ n, K n = (K' n).bind u) : loadF P t cs o K = (loadF P t cs o K').bind u :=
  tyK_b fun d => by
    cases isAggD d with
    | true => simp only [cond_true]; exact sizeK_b fun n => guardK_b (guardK_b (guardK_b (hk _)))
    | false => simp only [cond_false]; exact guardK_b (guardK_b (hk _))
theorem fillA_b {B : Type} {place : Nat → Option (Nat × Nat)} {K : List AV → Option A} {K' : List AV → Option B} {u : B → Option A} (hk : ∀ n, K n = (K' n).bind u) : ∀ (l : List (Nat × AV)) (cs : List AV), fillA place l cs K = (fillA place l cs K').bind u
  | [], cs => hk _
  | (i, v) :: rest, cs => by
    simp only [fillA]
    split
    · rfl
    · exact cellsK_b fun vs => guardK_b (guardK_b (fillA_b hk rest _))
theorem binK_b {op : BinOp} {t : TypeId} {x y : AV} {B : Type} {K : AV → Option A} {K' : AV → Option B} {u : B → Option A} (hk : ∀ n, K n = (K' n).bind u) : binK P op t x y K = (binK P op t x y K').bind u := by
  unfold binK
  have hsh : ∀ op k a b, shI op k a b K = (shI op k a b K').bind u := fun op k a b => by
    unfold shI
    cases decide (b < 0) with
    | true => rfl
    | false => simp only [cond_false]; cases op <;> first | rfl | exact hk _
  have hbi : ∀ op k a b, binI op k a b K = (binI op k a b K').bind u := fun op k a b => by
    unfold binI
    cases op <;> first | rfl | exact hk _ | (simp only; cases b == 0 <;> first | rfl | exact hk _)
  split
  · refine anyInt_b fun k' b => ?_
    cases op <;> first | exact hsh _ _ _ _ | (simp only; split <;> first | rfl | exact hbi _ _ _ _)
  · refine asStr_b fun b => ?_
    unfold binS
    cases op <;> first | rfl | exact hk _ | exact guardK_b (hk _)
  · have he : ∀ {f : Bool → AV}, eqlK P t x y (fun b => K (f b)) = (eqlK P t x y fun b => K' (f b)).bind u := fun {f} => by
      unfold eqlK
      refine tyK_b fun d => ?_
      split <;> first | rfl | exact hk _ | (unfold slEq; split <;> first | rfl | exact guardK_b (hk _))
    cases op <;> first | rfl | exact he (f := AV.bool) | exact he (f := fun b => AV.bool (!b))

section
variable {B : Type} {K : AV → Option A} {K' : AV → Option B} {u : B → Option A}
theorem unK_b {op : UnOp} {x : AV} (hk : ∀ n, K n = (K' n).bind u) : unK op x K = (unK op x K').bind u := by
  unfold unK
  cases op <;> first | rfl | exact anyInt_b fun _ _ => hk _ | exact asBool_b fun _ => hk _
theorem buildK_b {t : TypeId} {ps : List (Nat × AV)} (hk : ∀ n, K n = (K' n).bind u) : buildK P t ps K = (buildK P t ps K').bind u := by
  unfold buildK
  refine zeroK_b fun zs => tyK_b fun d => ?_
  split <;> first | rfl | exact guardK_b (fillA_b (fun _ => hk _) _ _) | exact sizeK_b fun n => fillA_b (fun _ => hk _) _ _
theorem sliceK_b {t : TypeId} {x : AV} {lo hi mx : Option AV} (hk : ∀ n, K n = (K' n).bind u) : sliceK P t x lo hi mx K = (sliceK P t x lo hi mx K').bind u := by
  unfold sliceK
  refine tyK_b fun d => ?_
  split
  · refine asStr_b fun s => ?_
    split
    · exact boundK_b fun h => boundK_b fun l => guardK_b (guardK_b (hk _))
    · rfl
  · refine sizeK_b fun n => asSl2_b (fun p len cap ex sz => guardK_b ?_) (fun cs len ex sz => guardK_b ?_)
    · split
      · exact boundK_b fun h => boundK_b fun l => guardK_b (guardK_b (hk _))
      · exact boundK_b fun m => boundK_b fun h => boundK_b fun l => guardK_b (guardK_b (guardK_b (hk _)))
    · split
      · exact boundK_b fun h => boundK_b fun l => guardK_b (guardK_b (hk _))
      · exact boundK_b fun m => boundK_b fun h => boundK_b fun l => guardK_b (guardK_b (guardK_b (hk _)))
  · exact asAdr_b fun _ => sizeK_b fun _ => rfl
  · rfl
theorem fieldOff_b {t : TypeId} {f : Nat} {K : Nat → TypeId → Option A} {K' : Nat → TypeId → Option B} (hk : ∀ n m, K n m = (K' n m).bind u) : fieldOff P t f K = (fieldOff P t f K').bind u := by
  unfold fieldOff
  refine tyK_b fun d => ?_
  split
  · split <;> first | rfl | exact hk _ _
  · rfl
theorem fieldAddrK_b {t : TypeId} {x : AV} {f : Nat} (hk : ∀ n, K n = (K' n).bind u) : fieldAddrK P t x f K = (fieldAddrK P t x f K').bind u :=
  fieldOff_b fun _ _ => sizeK_b fun _ => guardK_b (asAdr2_b (fun _ => hk _) (fun _ _ => hk _))
theorem partK_b {t : TypeId} {cs : List AV} {off : Nat} (hk : ∀ n, K n = (K' n).bind u) : partK P t cs off K = (partK P t cs off K').bind u :=
  tyK_b fun d => by
    cases isAggD d with
    | true => simp only [cond_true]; exact sizeK_b fun n => hk _
    | false => simp only [cond_false]; exact guardK_b (asTy_b hk)
theorem fieldK_b {t : TypeId} {x : AV} {f : Nat} (hk : ∀ n, K n = (K' n).bind u) : fieldK P t x f K = (fieldK P t x f K').bind u :=
  fieldOff_b fun _ _ => asAgg_b fun _ => partK_b hk
theorem selK_b {i : Int} {K : Nat → Option A} {K' : Nat → Option B} (hk : ∀ m, K m = (K' m).bind u) : ∀ (n j : Nat), selK i K n j = (selK i K' n j).bind u
  | 0, _ => rfl
  | n + 1, j => by
    simp only [selK]
    cases i == (j : Int) with
    | true => exact hk j
    | false => exact selK_b hk n (j + 1)
theorem arrK_b {i : Int} {len : Nat} {K : Nat → Option A} {K' : Nat → Option B} (hk : ∀ m, K m = (K' m).bind u) : arrK i len K = (arrK i len K').bind u := by
  unfold arrK
  cases Nat.ble len 8 with
  | true => exact selK_b hk len 0
  | false => exact hk _
theorem indexAddrK_b {t : TypeId} {x ix : AV} (hk : ∀ n, K n = (K' n).bind u) : indexAddrK P t x ix K = (indexAddrK P t x ix K').bind u := by
  unfold indexAddrK
  refine anyInt_b fun _ i => tyK_b fun d => ?_
  split
  · exact sizeK_b fun n => asAdr2_b (fun _ => guardK_b (arrK_b fun _ => hk _)) (fun _ _ => guardK_b (arrK_b fun _ => hk _))
  · refine sizeK_b fun n => asSl2_b (fun p len cap ex sz => ?_) (fun cs len ex sz => guardK_b (hk _))
    split <;> first | rfl | exact guardK_b (hk _)
  · rfl
theorem indexK_b {t : TypeId} {x ix : AV} (hk : ∀ n, K n = (K' n).bind u) : indexK P t x ix K = (indexK P t x ix K').bind u := by
  unfold indexK
  refine anyInt_b fun _ i => tyK_b fun d => ?_
  split
  · exact sizeK_b fun n => asAgg_b fun cs => guardK_b (partK_b hk)
  · exact asStr_b fun s => guardK_b (hk _)
  · rfl
theorem assertK_b {x : AV} {t : TypeId} {ok : Bool} (hk : ∀ n, K n = (K' n).bind u) : assertK P x t ok K = (assertK P x t ok K').bind u := by
  unfold assertK
  refine tyK_b fun d => ?_
  have hz : (bif ok then zeroV P t fun z => K (.tup [z, .bool false]) else none) = (bif ok then zeroV P t fun z => K' (.tup [z, .bool false]) else none).bind u := by
    cases ok with
    | false => rfl
    | true => exact zeroV_b (K := fun z => K (.tup [z, .bool false])) (K' := fun z => K' (.tup [z, .bool false])) fun _ => hk _
  split
  · rfl
  · split
    · rename_i t' v
      cases Nat.beq t' t with
      | true => exact hk _
      | false => exact hz
    · exact hz
    · rfl
theorem extractK_b {x : AV} {i : Nat} (hk : ∀ n, K n = (K' n).bind u) : extractK x i K = (extractK x i K').bind u :=
  asTup_b fun _ => guardK_b (hk _)
theorem nilK_b {x : AV} (hk : ∀ n, K n = (K' n).bind u) : nilK x K = (nilK x K').bind u := by
  unfold nilK; split <;> first | rfl | exact hk _
theorem entriesK_b {r : Option Nat} {K : List (AV × AV × Nat) → Nat → Option A} {K' : List (AV × AV × Nat) → Nat → Option B} (hk : ∀ n m, K n m = (K' n m).bind u) : entriesK r h K = (entriesK r h K').bind u := by
  unfold entriesK; split
  · exact hk _ _
  · split <;> first | rfl | exact hk _ _
theorem findK_b {k : AV} {F : Nat → AV → Option A} {F' : Nat → AV → Option B} {G : Option A} {G' : Option B} (hf : ∀ i v, F i v = (F' i v).bind u) (hg : G = G'.bind u) : ∀ (es : List (AV × AV × Nat)) (i : Nat), findK k F G es i = (findK k F' G' es i).bind u
  | [], _ => hg
  | e :: es, i => by
    simp only [findK]
    cases sameKey k e.1 with
    | none => rfl
    | some b => cases b <;> first | exact hf _ _ | exact findK_b hf hg es (i + 1)
theorem lookupK_b {t : TypeId} {x k : AV} {ok : Bool} (hk : ∀ n, K n = (K' n).bind u) : lookupK P t x k ok h K = (lookupK P t x k ok h K').bind u := by
  unfold lookupK
  refine tyK_b fun d => ?_
  split
  · exact tyK_b fun kd => guardK_b (asMap_b fun r => entriesK_b fun es _ => findK_b (fun _ _ => hk _) (zeroV_b (K := fun z => K (bif ok then .tup [z, .bool false] else z)) (K' := fun z => K' (bif ok then .tup [z, .bool false] else z)) fun _ => hk _) _ _)
  · rfl
end
section
variable {B : Type} {K : Heap → Option A} {K' : Heap → Option B} {u : B → Option A}
theorem mapUpdateK_b {t : TypeId} {x k v : AV} (hk : ∀ n, K n = (K' n).bind u) : mapUpdateK P t x k v h K = (mapUpdateK P t x k v h K').bind u := by
  unfold mapUpdateK
  refine tyK_b fun d => ?_
  split
  · refine tyK_b fun kd => guardK_b (asMap_b fun r => ?_)
    split
    · rfl
    · split
      · split <;> first | rfl | exact hk _
      · rfl
  · rfl
theorem clearK_b {et : TypeId} {x : AV} (hk : ∀ n, K n = (K' n).bind u) : clearK P et x h K = (clearK P et x h K').bind u := by
  unfold clearK
  refine sizeK_b fun n => zeroK_b fun zs => guardK_b (asSl_b fun p len cap ex sz => ?_)
  cases Nat.beq len 0 with
  | true => exact hk _
  | false =>
    simp only [cond_false]
    split <;> first | rfl | exact guardK_b (stN_b hk)
end
section
variable {B : Type} {K : AV → Heap → Option A} {K' : AV → Heap → Option B} {u : B → Option A}
theorem convK_b {s d : TypeId} {x : AV} (hk : ∀ n m, K n m = (K' n m).bind u) : convK P s d x h id K = (convK P s d x h id K').bind u := by
  unfold convK
  refine tyK_b fun s' => tyK_b fun d' => ?_
  split
  · exact anyInt_b fun _ _ => hk _ _
  · exact asStr_b fun _ => hk _ _
  · refine tyK_b fun e' => ?_
    split <;> first | rfl | exact asStr_b fun b => guardK_b (hk _ _)
  · refine tyK_b fun e' => ?_
    split
    · refine asSl2_b (fun p len cap ex sz => ?_) (fun cs len ex sz => guardK_b ?_)
      · split
        · exact hk _ _
        · refine ldN_b fun cs => ?_
          split <;> first | rfl | exact hk _ _
      · split <;> first | rfl | exact hk _ _
    · rfl
  · rfl
theorem buildSliceK_b {t : TypeId} {len : Nat} {ps : List (Nat × AV)} (hk : ∀ n m, K n m = (K' n m).bind u) : buildSliceK P t len ps h id K = (buildSliceK P t len ps h id K').bind u := by
  unfold buildSliceK
  refine tyK_b fun d => ?_
  split
  · exact sizeK_b fun n => zeroK_b fun zs => guardK_b (guardK_b (fillA_b (fun _ => guardK_b (hk _ _)) _ _))
  · rfl
theorem makeSliceK_b {t : TypeId} {l c : AV} (hk : ∀ n m, K n m = (K' n m).bind u) : makeSliceK P t l c h id K = (makeSliceK P t l c h id K').bind u := by
  unfold makeSliceK
  refine tyK_b fun d => ?_
  split
  · exact asInt_b fun l => asInt_b fun c => sizeK_b fun n => bytesK_b fun b => zeroK_b fun zs => guardK_b (guardK_b (hk _ _))
  · rfl
theorem srcK_b {size : Nat} {x : AV} {K : Nat → List AV → Option A} {K' : Nat → List AV → Option B} (hk : ∀ n m, K n m = (K' n m).bind u) : srcK size x h K = (srcK size x h K').bind u := by
  unfold srcK
  split
  · exact guardK_b (hk _ _)
  · cases Nat.beq _ 0 <;> simp only [cond_true, cond_false] <;> first | exact hk _ _ | exact guardK_b (ldN_b fun _ => hk _ _)
  · cases Nat.beq _ 0 <;> simp only [cond_true, cond_false] <;> first | exact hk _ _ | exact guardK_b (ldN_b fun _ => hk _ _)
  · exact guardK_b (hk _ _)
  · cases Nat.beq _ 0 <;> simp only [cond_true, cond_false] <;> first | exact hk _ _ | exact guardK_b (hk _ _)
  · rfl
theorem oldK_b {size : Nat} {q : Nat × Nat} {len sz : Nat} {K : List AV → Option A} {K' : List AV → Option B} (hk : ∀ n, K n = (K' n).bind u) : oldK size q len sz h K = (oldK size q len sz h K').bind u := by
  unfold oldK
  cases Nat.beq len 0 <;> simp only [cond_true, cond_false] <;> first | exact hk _ | exact guardK_b (ldN_b hk)
theorem growK_b {size : Nat} {q : Nat × Nat} {len sz : Nat} {new : List AV} {n : Nat} (hk : ∀ n m, K n m = (K' n m).bind u) : growK size q len sz new n h id K = (growK size q len sz new n h id K').bind u := by
  unfold growK
  refine oldK_b fun old => ?_
  split <;> first | rfl | exact guardK_b (hk _ _)
theorem appendK_b {zr : Bool} {et : TypeId} {s x : AV} (hk : ∀ n m, K n m = (K' n m).bind u) : appendK P zr et s x h id K = (appendK P zr et s x h id K').bind u := by
  unfold appendK
  refine sizeK_b fun size => bytesK_b fun b => zeroK_b fun zs => guardK_b ?_
  have hs : ∀ {G : Nat → List AV → Option A} {G' : Nat → List AV → Option B}, (∀ n m, G n m = (G' n m).bind u) → (bif zr then zsrcK zs x else srcK size x h) G = ((bif zr then zsrcK zs x else srcK size x h) G').bind u := fun {G G'} hG => by
    cases zr with
    | true => simp only [cond_true]; unfold zsrcK; exact anyInt_b fun _ l => guardK_b (hG _ _)
    | false => simp only [cond_false]; exact srcK_b hG
  refine hs fun n new => ?_
  split
  · refine guardK_b ?_
    cases Nat.beq n 0 <;> simp only [cond_true, cond_false] <;> first | exact hk _ _ | exact growK_b hk
  · cases Nat.beq n 0 <;> simp only [cond_true, cond_false] <;> first | exact hk _ _ | exact guardK_b (hk _ _)
  · rename_i p len cap ex sz
    refine guardK_b ?_
    split
    · cases Nat.beq n 0 <;> simp only [cond_true, cond_false] <;> exact hk _ _
    · cases Nat.ble (len + n) cap with
      | true =>
        simp only [cond_true]
        cases Nat.beq n 0 <;> simp only [cond_true, cond_false] <;> first | exact hk _ _ | exact guardK_b (stN_b fun _ => hk _ _)
      | false =>
        simp only [cond_false]
        cases ex <;> simp only [cond_true, cond_false] <;> first | exact oldK_b fun _ => hk _ _ | exact growK_b hk
  · rfl
theorem copyK_b {et : TypeId} {d x : AV} (hk : ∀ n m, K n m = (K' n m).bind u) : copyK P et d x h K = (copyK P et d x h K').bind u := by
  unfold copyK
  refine sizeK_b fun size => guardK_b (asSl_b fun p len cap ex sz => srcK_b fun n new => ?_)
  split
  · exact hk _ _
  · cases Nat.beq (min n len) 0 <;> simp only [cond_true, cond_false] <;> first | exact hk _ _ | exact guardK_b (stN_b fun _ => hk _ _)
theorem foldI_b {f : Int → Int → Int} {k : IntKind} {K : AV → Option A} {K' : AV → Option B} (hk : ∀ n, K n = (K' n).bind u) : ∀ (vs : List AV) (a : Int), foldI f k a vs K = (foldI f k a vs K').bind u
  | [], a => hk _
  | v :: vs, a => by simp only [foldI]; exact asInt_b fun b => foldI_b hk vs _
theorem builtinK_b {b : Builtin} {tys : List TypeId} {args : List AV} (hk : ∀ n m, K n m = (K' n m).bind u) : builtinK P b tys args h id K = (builtinK P b tys args h id K').bind u := by
  unfold builtinK
  split
  · refine tyK_b fun d => ?_
    split <;> first | rfl | exact asStr_b fun _ => hk _ _ | exact asSl2_b (fun _ _ _ _ _ => hk _ _) (fun _ _ _ _ => hk _ _) | exact hk _ _ | exact asMap_b fun _ => entriesK_b fun _ _ => hk _ _
  · refine tyK_b fun d => ?_
    split <;> first | rfl | exact asSl2_b (fun _ _ _ _ _ => guardK_b (hk _ _)) (fun _ _ _ _ => guardK_b (hk _ _))
  · refine tyK_b fun d => tyK_b fun du => ?_
    split <;> first | rfl | exact appendK_b hk
  · refine tyK_b fun d => ?_
    split <;> first | rfl | exact copyK_b hk
  · refine tyK_b fun d => ?_
    split <;> first | rfl | exact clearK_b fun _ => hk _ _
  · refine tyK_b fun d => ?_
    split
    · refine tyK_b fun kd => guardK_b (asMap_b fun r => ?_)
      split
      · exact hk _ _
      · split
        · split <;> first | rfl | exact hk _ _
        · rfl
    · rfl
  · exact anyInt_b fun _ _ => foldI_b (fun _ => hk _ _) _ _
  · exact anyInt_b fun _ _ => foldI_b (fun _ => hk _ _) _ _
  · rfl
theorem prim_b {o : Oper} {e : Operand → AV} (hk : ∀ n m, K n m = (K' n m).bind u) : prim P o e h id K = (prim P o e h id K').bind u := by
  unfold prim
  split
  · exact hk _ _
  · exact hk _ _
  · exact asBool_b fun _ => hk _ _
  · exact zeroK_b fun _ => hk _ _
  · exact cellsK_b fun _ => hk _ _
  · exact buildK_b fun _ => hk _ _
  · exact buildSliceK_b hk
  · exact asAdr2_b (fun _ => loadK_b fun _ => hk _ _) (fun _ _ => loadF_b fun _ => hk _ _)
  · exact asAdr_b fun _ => cellsK_b fun _ => sizeK_b fun _ => guardK_b (stN_b fun _ => hk _ _)
  · exact nilK_b fun _ => hk _ _
  · exact binK_b fun _ => hk _ _
  · exact unK_b fun _ => hk _ _
  · exact convK_b hk
  · refine tyK_b fun d => ?_
    split <;> first | rfl | exact hk _ _
  · exact hk _ _
  · exact hk _ _
  · exact makeSliceK_b hk
  · exact guardK_b (sliceK_b fun _ => hk _ _)
  · exact fieldAddrK_b fun _ => hk _ _
  · exact fieldK_b fun _ => hk _ _
  · exact indexAddrK_b fun _ => hk _ _
  · exact indexK_b fun _ => hk _ _
  · exact lookupK_b fun _ => hk _ _
  · exact mapUpdateK_b fun _ => hk _ _
  · exact assertK_b fun _ => hk _ _
  · exact extractK_b fun _ => hk _ _
  · exact builtinK_b hk
  · rfl
end
end Go.Ev
/- What code and calls answer does not hang on what is done with it; regions whose order is drawn, with what follows told ahead. -/
namespace Go.Ev
abbrev NatC (call : CallP) : Prop := ∀ (A B : Type) (c : Cal) (args : List AV) (h : Heap) (m : Md) (K : Out → Heap → Md → Option A) (K' : Out → Heap → Md → Option B) (u : B → Option A),
  (∀ o h m, K o h m = (K' o h m).bind u) → call A c args h m K = (call B c args h m K').bind u
abbrev NatF (g : CallF) : Prop := ∀ (A B : Type) (args : List AV) (h : Heap) (m : Md) (K : Out → Heap → Md → Option A) (K' : Out → Heap → Md → Option B) (u : B → Option A),
  (∀ o h m, K o h m = (K' o h m).bind u) → g A args h m K = (g B args h m K').bind u
abbrev NatL (g : LoopF) : Prop := ∀ (A B : Type) (st : St) (K : Ex → St → Option A) (K' : Ex → St → Option B) (u : B → Option A),
  (∀ e s, K e s = (K' e s).bind u) → g A st K = (g B st K').bind u
variable {A B : Type} {P : Program} {call : CallP} {u : B → Option A}
theorem calleeK_b (H : NatC call) {f : AV} {args : List AV} {h : Heap} {K : Out → Heap → Md → Option A} {K' : Out → Heap → Md → Option B} (hk : ∀ o h m, K o h m = (K' o h m).bind u) :
    calleeK (call A) f args h K = (calleeK (call B) f args h K').bind u := by
  unfold calleeK; split <;> first | rfl | exact H _ _ _ _ _ _ _ _ _ hk
theorem addK_b {args : List AV} {K : AV → Option A} {K' : AV → Option B} (hk : ∀ v, K v = (K' v).bind u) : addK args K = (addK args K').bind u := by
  unfold addK; split <;> first | rfl | exact guardK_b (hk _)
theorem stepOp_b (H : NatC call) {rd : Option Nat} {o : Oper} {st : St} {K Kp : AV → St → Option A} {K' Kp' : AV → St → Option B} (hk : ∀ v s, K v s = (K' v s).bind u) (hp : ∀ v s, Kp v s = (Kp' v s).bind u) :
    stepOp P (call A) rd o st K Kp = (stepOp P (call B) rd o st K' Kp').bind u := by
  unfold stepOp
  split
  · cases isAdd P _ with
    | true => simp only [cond_true]; exact addK_b fun _ => hk _ _
    | false =>
      simp only [cond_false]
      refine calleeK_b H fun o h m => ?_
      cases o <;> first | exact hk _ _ | exact hp _ _
  · split <;> first | rfl | exact hk _ _
  · split <;> first | rfl | exact hp _ _
  · split <;> first | rfl | exact hk _ _
  · exact prim_b fun _ _ => hk _ _
theorem guarded_b {ops : Array Oper} {o : Oper} {t : List AV} {Y N : List AV → Option A} {Y' N' : List AV → Option B} (hy : ∀ t, Y t = (Y' t).bind u) (hn : ∀ t, N t = (N' t).bind u) : guarded ops o t Y N = (guarded ops o t Y' N').bind u := by
  unfold guarded
  split
  · exact hy _
  · rename_i j want _
    split
    · rfl
    · split
      · rfl
      · split
        · rename_i b _
          cases b <;> cases want <;> simp only [cond_true, cond_false] <;> first | exact hy _ | exact hn _
        · exact hn _
        · rfl
theorem seqOps_b (H : NatC call) {rd : Option Nat} {ops : Array Oper} {K : St → Option A} {K' : St → Option B} {Kp : AV → St → Option A} {Kp' : AV → St → Option B} (hk : ∀ s, K s = (K' s).bind u) (hp : ∀ v s, Kp v s = (Kp' v s).bind u) :
    ∀ (l : List Oper) (st : St), seqOps P (call A) rd ops l st K Kp = (seqOps P (call B) rd ops l st K' Kp').bind u
  | [], st => hk _
  | o :: rest, st => by
    simp only [seqOps]
    exact guarded_b (fun t => stepOp_b H (fun v s => seqOps_b H hk hp rest _) hp) (fun t => seqOps_b H hk hp rest _)
theorem loopN_b {body : St → (Ex → St → Option A) → Option A} {body' : St → (Ex → St → Option B) → Option B} (hb : ∀ st K K', (∀ e s, K e s = (K' e s).bind u) → body st K = (body' st K').bind u) {K : Ex → St → Option A} {K' : Ex → St → Option B} (hk : ∀ e s, K e s = (K' e s).bind u) :
    ∀ (n : Nat) (st : St), loopN body n st K = (loopN body' n st K').bind u
  | 0, st => rfl
  | n + 1, st => by
    simp only [loopN]
    refine hb _ _ _ fun e s => ?_
    cases e with
    | normal => exact loopN_b hb hk n s
    | _ => exact hk _ _
theorem normK_b {N : Norm} {n0 : Nat} {st : St} {K : St → Option A} {K' : St → Option B} (hk : ∀ s, K s = (K' s).bind u) : normK P N n0 st K = (normK P N n0 st K').bind u := by
  unfold normK; split <;> first | rfl | exact guardK_b (hk _)
theorem loopK_b {N : Norm} {n0 : Nat} {body : St → (Ex → St → Option A) → Option A} {body' : St → (Ex → St → Option B) → Option B} (hb : ∀ st K K', (∀ e s, K e s = (K' e s).bind u) → body st K = (body' st K').bind u) (st : St) {K : Ex → St → Option A} {K' : Ex → St → Option B} (hk : ∀ e s, K e s = (K' e s).bind u) :
    loopK P N n0 body st K = (loopK P N n0 body' st K').bind u := by
  unfold loopK
  refine hb _ _ _ fun e s => ?_
  cases e <;> first | exact hk _ _ | exact normK_b fun _ => hk _ _
theorem drawOneK_b (H : NatC call) {c : Cls} {o : Oper} {t : List AV} {h : Heap} {id : Nat} {K : AV → Heap → Option A} {K' : AV → Heap → Option B} (hk : ∀ v s, K v s = (K' v s).bind u) : drawOneK P call c o t h id K = (drawOneK P call c o t h id K').bind u := by
  unfold drawOneK
  have hc : ∀ {b : Bool} {x : Option A} {y : Option B}, x = y.bind u → (bif b then x else none) = (bif b then y else none).bind u := fun {b x y} e => by cases b <;> first | rfl | exact e
  split
  · exact prim_b fun v _ => hc (hk _ _)
  · refine prim_b fun v h' => ?_
    split <;> exact hc (hk _ _)
  · exact prim_b fun v _ => hc (hk _ _)
  · split
    · refine calleeK_b H fun o h m => ?_
      cases o <;> first | rfl | exact hk _ _
    · exact prim_b fun _ _ => hk _ _
theorem againK_b {ops : Array Oper} {t : List AV} {h : Heap} {base i : Nat} {K : Option A} {K' : Option B} (hk : K = K'.bind u) : againK P ops t h base i K = (againK P ops t h base i K').bind u := by
  unfold againK
  split
  · rfl
  · split
    · rfl
    · rename_i d _
      cases d with
      | false => exact hk
      | true =>
        simp only [cond_true]
        refine prim_b fun v _ => ?_
        cases (!news _ || simple v) && sameAt t _ v <;> first | rfl | exact hk
theorem againAllK_b {ops : Array Oper} {t : List AV} {h : Heap} {base : Nat} {K : Option A} {K' : Option B} (hk : K = K'.bind u) : ∀ l, againAllK P ops t h base K l = (againAllK P ops t h base K' l).bind u
  | [] => hk
  | _ :: l => againK_b (againAllK_b hk l)
theorem againEachK_b {ops : Array Oper} {t : List AV} {base i : Nat} {sn : List (Nat × Heap)} {K : Option A} {K' : Option B} (hk : K = K'.bind u) : ∀ l, againEachK P ops t base i sn K l = (againEachK P ops t base i sn K' l).bind u
  | [] => hk
  | w :: l => by
    simp only [againEachK]
    split <;> first | exact againEachK_b hk l | exact againK_b (againEachK_b hk l)
theorem drawOpsK_b (H : NatC call) {ops : Array Oper} {base : Nat} {K : List AV → Heap → Option A} {K' : List AV → Heap → Option B} (hk : ∀ v s, K v s = (K' v s).bind u) :
    ∀ (s : Sched) (t : List AV) (h : Heap) (sn : List (Nat × Heap)), drawOpsK P call ops base K s t h sn = (drawOpsK P call ops base K' s t h sn).bind u
  | [], _, _, _ => hk _ _
  | (i, c, af, bf) :: rest, t, h, sn => by
    simp only [drawOpsK]
    split
    · rfl
    · exact guarded_b (fun t => drawOneK_b H fun v h' => againAllK_b (againEachK_b (drawOpsK_b H hk rest _ _ _) _) _) (fun t => drawOpsK_b H hk rest _ _ _)
theorem evCode_b (H : NatC call) {pl : Plan} {lo : Nat → Option LoopF} (HL : ∀ id g, lo id = some g → NatL g) {fid : FuncId} {rd : Option Nat} :
    ∀ (c : Code) (st : St) (K : Ex → St → Option A) (K' : Ex → St → Option B), (∀ e s, K e s = (K' e s).bind u) → evCode P pl call lo fid rd c st K = (evCode P pl call lo fid rd c st K').bind u := by
  intro c
  induction c with
  | skip => exact fun st K K' hk => hk _ _
  | label l => exact fun st K K' hk => hk _ _
  | exit id => exact fun st K K' hk => hk _ _
  | ret => exact fun st K K' hk => hk _ _
  | region id ops draw =>
    intro st K K' hk
    simp only [evCode]
    cases pl.stop id <;> simp only [cond_true, cond_false] <;> first | rfl | skip
    cases draw with
    | true =>
      simp only [cond_true]
      split
      · rfl
      · exact drawOpsK_b H (fun t h => seqOps_b H (fun _ => hk _ _) (fun _ _ => hk _ _) _ _) _ _ _ _
    | false =>
      simp only [cond_false]
      exact seqOps_b H (fun _ => hk _ _) (fun _ _ => hk _ _) _ _
  | seq a b iha ihb =>
    intro st K K' hk
    simp only [evCode]
    refine iha _ _ _ fun e s => ?_
    cases e <;> first | exact hk _ _ | exact ihb _ _ _ hk
  | cond c a b iha ihb =>
    intro st K K' hk
    simp only [evCode]
    refine asBool_b fun t => ?_
    cases t <;> first | exact iha _ _ _ hk | exact ihb _ _ _ hk
  | block id a ih =>
    intro st K K' hk
    simp only [evCode]
    refine ih _ _ _ fun e s => ?_
    cases e with
    | exit j => simp only; cases Nat.beq j id <;> exact hk _ _
    | _ => exact hk _ _
  | loop a ih =>
    intro st K K' hk
    simp only [evCode]
    have main : (match (headId a).bind pl.norm with
      | none => loopN (fun st K => evCode P pl call lo fid rd a st K) rounds st K
      | some N => normK P N st.h.next st fun s => loopN (loopK P N st.h.next (fun st K => evCode P pl call lo fid rd a st K)) rounds s K) =
      (match (headId a).bind pl.norm with
      | none => loopN (fun st K => evCode P pl call lo fid rd a st K) rounds st K'
      | some N => normK P N st.h.next st fun s => loopN (loopK P N st.h.next (fun st K => evCode P pl call lo fid rd a st K)) rounds s K').bind u := by
      split
      · exact loopN_b (body := fun st K => evCode P pl call lo fid rd a st K) (body' := fun st K => evCode P pl call lo fid rd a st K) (fun st K K' hk => ih st K K' hk) hk _ _
      · exact normK_b fun s => loopN_b (body := fun st K => loopK P _ _ (fun st K => evCode P pl call lo fid rd a st K) st K) (body' := fun st K => loopK P _ _ (fun st K => evCode P pl call lo fid rd a st K) st K) (fun st K K' hk => loopK_b (body := fun st K => evCode P pl call lo fid rd a st K) (body' := fun st K => evCode P pl call lo fid rd a st K) (fun st K K' hk => ih st K K' hk) st hk) hk _ _
    cases rd with
    | some l => exact main
    | none =>
      cases hg : (headId a).bind lo with
      | none => exact main
      | some g =>
        obtain ⟨id, _, h2⟩ := Option.bind_eq_some_iff.1 hg
        exact HL id g h2 _ _ _ _ _ _ hk
  | rangeFunc f ps assign body _ _ =>
    intro st K K' hk
    simp only [evCode]
    have go : ∀ (r l : Nat) (h : Heap) (d : List ADef) , (match ev st.t f with
      | .fn g first cap => call A (.fn g) (appA first (.yield l :: cap)) (h.put l (.loop ⟨.ready, none, fid, st.t, ps.toList, assign, body, r⟩)) .off fun out h' _ => (match out with
        | .ret _ => (match h'.m l with
          | some (.loop x) => (match x.state with
            | .busy => none
            | _ => (match x.pending with
              | none => K .normal { st with h := h'.put l (.loop { x with state := .exhausted }), d := d }
              | some .ret => K .ret { st with h := h'.put l (.loop { x with state := .exhausted }), d := d }
              | some (.exit j) => K (.exit j) { st with h := h'.put l (.loop { x with state := .exhausted }), d := d }
              | _ => none))
          | _ => none)
        | .pan v => K (.pan v) { st with h := h', d := d })
      | _ => none) = (match ev st.t f with
      | .fn g first cap => call B (.fn g) (appA first (.yield l :: cap)) (h.put l (.loop ⟨.ready, none, fid, st.t, ps.toList, assign, body, r⟩)) .off fun out h' _ => (match out with
        | .ret _ => (match h'.m l with
          | some (.loop x) => (match x.state with
            | .busy => none
            | _ => (match x.pending with
              | none => K' .normal { st with h := h'.put l (.loop { x with state := .exhausted }), d := d }
              | some .ret => K' .ret { st with h := h'.put l (.loop { x with state := .exhausted }), d := d }
              | some (.exit j) => K' (.exit j) { st with h := h'.put l (.loop { x with state := .exhausted }), d := d }
              | _ => none))
          | _ => none)
        | .pan v => K' (.pan v) { st with h := h', d := d })
      | _ => none).bind u := fun r l h d => by
        split
        · refine H _ _ _ _ _ _ _ _ _ fun o h' m => ?_
          cases o with
          | pan v => exact hk _ _
          | ret v =>
            simp only
            split
            · split
              · rfl
              · split <;> first | rfl | exact hk _ _
            · rfl
        · rfl
    cases rd with
    | none => exact go _ _ _ _
    | some l₀ =>
      simp only
      split <;> first | rfl | exact go _ _ _ _
  | _ => exact fun st K K' hk => rfl
theorem resList_b {t : List AV} {h : Heap} {K : List AV → Option A} {K' : List AV → Option B} (hk : ∀ v, K v = (K' v).bind u) : ∀ rs, resList P t h rs K = (resList P t h rs K').bind u := by
  intro rs
  induction rs generalizing K K' with
  | nil => exact hk _
  | cons r rs ih =>
    cases r with
    | tmp i => exact ih fun _ => hk _
    | cell a ty => exact asAdr_b fun _ => loadK_b fun _ => ih fun _ => hk _
theorem resK_b {fn : Func} {t : List AV} {h : Heap} {K : AV → Option A} {K' : AV → Option B} (hk : ∀ v, K v = (K' v).bind u) : resK P fn t h K = (resK P fn t h K').bind u := by
  unfold resK
  refine resList_b (fun vs => ?_) _
  split <;> exact hk _
theorem leave_b (H : NatC call) {fn : Func} {t : List AV} {r : Md} : ∀ (ds : List ADef) (m : Md) (h : Heap) (K : Out → Heap → Md → Option A) (K' : Out → Heap → Md → Option B), (∀ o h m, K o h m = (K' o h m).bind u) →
    leave P (call A) fn t r ds m h K = (leave P (call B) fn t r ds m h K').bind u := by
  intro ds
  induction ds with
  | nil =>
    intro m h K K' hk
    cases m <;> simp only [leave] <;> first | rfl | exact hk _ _ _ | exact resK_b fun _ => hk _ _ _
  | cons d ds ih =>
    intro m h K K' hk
    cases d with
    | mark b =>
      simp only [leave]
      split <;> first | rfl | exact ih _ _ _ _ hk
    | call f args =>
      simp only [leave]
      refine H _ _ _ _ _ _ _ _ _ fun o h m => ?_
      cases o <;> first | rfl | exact ih _ _ _ _ hk
theorem evCall_b {S : Orc} {tb : FuncId → Option FnP} (Hf : ∀ f g, S.f f = some g → NatF g) (Hl : ∀ f id g, S.l f id = some g → NatL g) : ∀ n, NatC (evCall P S tb n) := by
  intro n
  induction n with
  | zero => exact fun _ _ _ _ _ _ _ _ _ _ => rfl
  | succ n ih =>
    intro A B c args h m K K' u hk
    cases c with
    | fn f =>
      simp only [evCall]
      split
      · rename_i g hg; exact Hf f g hg _ _ _ _ _ _ _ _ hk
      · split
        · rfl
        · refine evCode_b ih (fun id g hg => Hl f id g hg) _ _ _ _ fun e s => ?_
          cases e <;> first | rfl | exact leave_b ih _ _ _ _ _ hk
    | yield l =>
      simp only [evCall]
      split
      · split
        · rfl
        · refine guardK_b (evCode_b ih (fun id g hg => by cases hg) _ _ _ _ fun e s => ?_)
          cases e with
          | normal =>
            simp only
            split
            · split
              · refine evCode_b ih (fun id g hg => by cases hg) _ _ _ _ fun e s => ?_
                split <;> first | rfl | exact hk _ _ _
              · rfl
            · rfl
          | _ => rfl
      · rfl
/-! ### A drawn region, with what follows told ahead -/
theorem prim_some {r : A} {X : Type} {o : Oper} {e : Operand → AV} {h : Heap} {id : Nat} {K' : AV → Heap → Option X} {u : X → Option A} (hk : prim P o e h id (fun v h => (K' v h).bind u) = some r) : ∃ x, prim P o e h id K' = some x ∧ u x = some r := by
  rw [prim_b (K' := K') (u := u) fun _ _ => rfl] at hk
  exact Option.bind_eq_some_iff.1 hk
theorem drawOneK_some (H : NatC call) {r : A} {c : Cls} {o : Oper} {t : List AV} {h : Heap} {id : Nat} {K : AV → Heap → Option A} (hk : drawOneK P call c o t h id K = some r) : ∃ v h', drawOne P call c o t h id = some (v, h') ∧ K v h' = some r := by
  unfold drawOneK at hk
  unfold drawOne
  cases c with
  | p =>
    simp only at hk ⊢
    obtain ⟨v, h1, h2⟩ := prim_some (K' := fun v _ => some v) (u := fun v => bif !news o.op || simple v then K v h else none) hk
    rw [h1]
    simp only
    cases hg : !news o.op || simple v with
    | false => rw [hg] at h2; cases h2
    | true => rw [hg] at h2; exact ⟨v, h, rfl, h2⟩
  | a =>
    simp only at hk ⊢
    obtain ⟨⟨v, x⟩, h1, h2⟩ := prim_some (K' := fun v h' => some (v, h'.m id)) (u := fun x => match x.2 with | some b => bif b.writes then K x.1 (h.put id b) else none | none => bif simple x.1 then K x.1 h else none) hk
    rw [h1]
    cases x with
    | some b =>
      simp only at h2 ⊢
      cases hg : b.writes with
      | false => rw [hg] at h2; cases h2
      | true => rw [hg] at h2; exact ⟨_, _, rfl, h2⟩
    | none =>
      simp only at h2 ⊢
      cases hg : simple v with
      | false => rw [hg] at h2; cases h2
      | true => rw [hg] at h2; exact ⟨_, _, rfl, h2⟩
  | r =>
    simp only at hk ⊢
    obtain ⟨v, h1, h2⟩ := prim_some (K' := fun v _ => some v) (u := fun v => bif !news o.op || simple v then K v h else none) hk
    rw [h1]
    simp only
    cases hg : !news o.op || simple v with
    | false => rw [hg] at h2; cases h2
    | true => rw [hg] at h2; exact ⟨v, h, rfl, h2⟩
  | w =>
    have key : ∀ {X : Option A} {Y : Option (AV × Heap)}, X = Y.bind (fun x => K x.1 x.2) → X = some r → ∃ v h', Y = some (v, h') ∧ K v h' = some r := fun {X Y} e hx => by
      rw [e] at hx
      obtain ⟨⟨v, x⟩, h1, h2⟩ := Option.bind_eq_some_iff.1 hx
      exact ⟨v, x, h1, h2⟩
    simp only at hk ⊢
    revert hk
    split
    · refine key (calleeK_b H fun o h m => ?_)
      cases o <;> rfl
    · exact key (prim_b fun _ _ => rfl)
theorem againK_some {r : A} {ops : Array Oper} {t : List AV} {h : Heap} {base i : Nat} {K : Option A} (hk : againK P ops t h base i K = some r) : again P ops t h base i = true ∧ K = some r := by
  unfold againK at hk
  unfold again
  split at hk
  · cases hk
  · rename_i o _
    split at hk
    · cases hk
    · rename_i d hd
      rw [hd]
      cases d with
      | false => exact ⟨rfl, hk⟩
      | true =>
        simp only [cond_true] at hk ⊢
        obtain ⟨v, h1, h2⟩ := prim_some (K' := fun v _ => some v) (u := fun v => bif (!news o.op || simple v) && sameAt t o.dst v then K else none) hk
        rw [h1]
        simp only
        cases hg : (!news o.op || simple v) && sameAt t o.dst v with
        | false => rw [hg] at h2; cases h2
        | true => rw [hg] at h2; exact ⟨rfl, h2⟩
theorem againAllK_some {r : A} {ops : Array Oper} {t : List AV} {h : Heap} {base : Nat} {K : Option A} : ∀ l, againAllK P ops t h base K l = some r → againAll P ops t h base l = true ∧ K = some r
  | [], hk => ⟨rfl, hk⟩
  | i :: l, hk => by
    obtain ⟨h1, h2⟩ := againK_some hk
    obtain ⟨h3, h4⟩ := againAllK_some l h2
    exact ⟨by simp only [againAll, h1, h3, Bool.and_self], h4⟩
theorem againEachK_some {r : A} {ops : Array Oper} {t : List AV} {base i : Nat} {sn : List (Nat × Heap)} {K : Option A} : ∀ l, againEachK P ops t base i sn K l = some r → againEach P ops t base i sn l = true ∧ K = some r
  | [], hk => ⟨rfl, hk⟩
  | w :: l, hk => by
    simp only [againEachK] at hk
    simp only [againEach]
    split at hk
    · obtain ⟨h3, h4⟩ := againEachK_some l hk
      exact ⟨by simpa using h3, h4⟩
    · obtain ⟨h1, h2⟩ := againK_some hk
      obtain ⟨h3, h4⟩ := againEachK_some l h2
      exact ⟨by simp only [h1, h3, Bool.and_self], h4⟩
theorem setL_nth_self {b : Bool} : ∀ {t : List AV} {d : Nat}, nth t d = .bool b → setL t d (.bool b) = t
  | [], d, h => by cases d <;> rfl
  | x :: t, 0, h => by have h : x = .bool b := h; subst h; rfl
  | x :: t, d + 1, h => by
    have h : nth t d = .bool b := h
    show x :: setL t d (.bool b) = x :: t
    rw [setL_nth_self (d := d) h]
theorem guardedD_some {r : A} {ops : Array Oper} {o : Oper} {t : List AV} {Y N : List AV → Option A} (h : guarded ops o t Y N = some r) : (doneB ops o t = some true ∧ Y t = some r) ∨ (doneB ops o t = some false ∧ N t = some r) := by
  unfold guarded at h
  unfold doneB
  cases hg : o.guard with
  | none => rw [hg] at h; exact .inl ⟨rfl, h⟩
  | some jw =>
    obtain ⟨j, want⟩ := jw
    rw [hg] at h
    simp only at h ⊢
    cases hj : ops[j]? with
    | none => rw [hj] at h; cases h
    | some g =>
      rw [hj] at h
      simp only at h ⊢
      cases hd : g.dst with
      | none => rw [hd] at h; cases h
      | some d =>
        rw [hd] at h
        simp only at h ⊢
        cases hv : nth t d with
        | bool b =>
          rw [hv] at h
          simp only at h ⊢
          cases b <;> cases want <;> simp only [cond_true, cond_false, setL_nth_self hv, Bool.not_true, Bool.not_false] at h ⊢ <;> first | exact .inl ⟨trivial, h⟩ | exact .inr ⟨trivial, h⟩
        | tup x => rw [hv] at h; exact .inr ⟨rfl, h⟩
        | _ => rw [hv] at h; cases h
theorem drawOpsK_some (H : NatC call) {r : A} {ops : Array Oper} {base : Nat} {K : List AV → Heap → Option A} :
    ∀ (s : Sched) (t : List AV) (h : Heap) (sn : List (Nat × Heap)), drawOpsK P call ops base K s t h sn = some r → ∃ T hE, drawOps P call ops base s t h sn = some (T, hE) ∧ K T hE = some r
  | [], t, h, _, hk => ⟨t, h, rfl, hk⟩
  | (i, c, af, bf) :: rest, t, h, sn, hk => by
    simp only [drawOpsK] at hk
    simp only [drawOps]
    split at hk
    · cases hk
    · rename_i o _
      rcases guardedD_some hk with ⟨hd, hk⟩ | ⟨hd, hk⟩
      · rw [hd]
        obtain ⟨v, h', h1, h2⟩ := drawOneK_some H hk
        obtain ⟨h3, h4⟩ := againAllK_some _ h2
        obtain ⟨h5, h6⟩ := againEachK_some _ h4
        obtain ⟨T, hE, h7, h8⟩ := drawOpsK_some H rest _ _ _ h6
        refine ⟨T, hE, ?_, h8⟩
        simp only [h1, h3, h5, Bool.and_self, cond_true]
        exact h7
      · rw [hd]
        exact drawOpsK_some H rest _ _ _ hk
end Go.Ev
/- Regions whose order is drawn: what is asked of the way in which they are gone through, and what a run then tells. -/
namespace Go.Ev

def memN (x : Nat) : List Nat → Bool
  | [] => false
  | y :: l => bif Nat.beq x y then true else memN x l
def addN : List Nat → List Nat → List Nat
  | [], acc => acc
  | x :: xs, acc => bif memN x acc then addN xs acc else addN xs (x :: acc)
def deps (o : Oper) : List Nat := o.after.toList.filterMap fun e => if Region.binds .any e then some e.on else none
abbrev Seen := List (Nat × Cls × List Nat)
def ancAt (d : Nat) : Seen → List Nat
  | [] => []
  | (i, _, an) :: l => bif Nat.beq d i then an else ancAt d l
def ancOf (seen : Seen) : List Nat → List Nat → List Nat
  | [], acc => acc
  | d :: ds, acc => ancOf seen ds (addN (d :: ancAt d seen) acc)
def okPair (c₁ c₂ : Cls) (i : Nat) (af bf : List Nat) : Bool := match c₁, c₂ with
  | .w, .w => false
  | .a, .w => false
  | .a, .r => false
  | .r, .w => memN i af
  | .w, .r => memN i bf
  | _, _ => true
def dstOf (ops : Array Oper) (i : Nat) : Option Tmp := (ops[i]?).bind (·.dst)
def isDst (ops : Array Oper) (j : Nat) (x : Tmp) : Bool := match dstOf ops j with
  | some d => Nat.beq d x
  | none => false
def drawOk (ops : Array Oper) : Sched → Seen → Bool
  | [], seen => Nat.beq seen.length ops.size
  | (i, c, af, bf) :: rest, seen => match ops[i]? with
    | none => false
    | some o =>
      let an := ancOf seen (deps o) []
      !(seen.any fun s => Nat.beq s.1 i) && (deps o).all (fun d => seen.any fun s => Nat.beq s.1 d) &&
      (o.looksAt ops).all (fun x => (List.range ops.size).all fun j => !isDst ops j x || memN j an) &&
      seen.all (fun s => (memN s.1 an || okPair s.2.1 c s.1 af bf) && (match o.dst with | some d => !isDst ops s.1 d | none => true)) &&
      drawOk ops rest ((i, c, an) :: seen)

/-- The plan's operations, with those that are ahead of them. -/
def seenOf (ops : Array Oper) : Sched → Seen → Seen
  | [], seen => seen
  | (i, c, _, _) :: rest, seen => match ops[i]? with
    | none => seen
    | some o => seenOf ops rest ((i, c, ancOf seen (deps o) []) :: seen)
/-- The operations behind the plan's: each one waits for all that stand ahead of it. -/
def tailOk : Nat → List Oper → Seen → Bool
  | _, [], _ => true
  | j, o :: l, seen => (List.range j).all (fun i => memN i (ancOf seen (deps o) [])) && (deps o).all (fun d => decide (d < j)) && tailOk (j + 1) l ((j, .w, ancOf seen (deps o) []) :: seen)
def regionOk (ops : Array Oper) (s : Sched) : Bool := drawOk (mainOps ops s) s [] && tailOk s.length (ops.toList.drop s.length) (seenOf (mainOps ops s) s [])
theorem mainOps_get {ops : Array Oper} {s : Sched} {i : Nat} {o : Oper} (h : (mainOps ops s)[i]? = some o) : ops[i]? = some o := by
  have h1 : (ops.toList.take s.length)[i]? = some o := by simpa [mainOps] using h
  rw [List.getElem?_take] at h1
  split at h1
  · simpa using h1
  · cases h1
theorem memN_iff {x : Nat} {l : List Nat} : memN x l = true ↔ x ∈ l := by
  induction l with
  | nil => simp [memN]
  | cons y l ih =>
    simp only [memN, List.mem_cons]
    cases h : Nat.beq x y with
    | true => simp [Nat.eq_of_beq_eq_true h]
    | false =>
      have : x ≠ y := fun e => by subst e; simp at h
      simp [ih, this]
theorem addN_mem {x : Nat} : ∀ {xs acc : List Nat}, x ∈ addN xs acc → x ∈ xs ∨ x ∈ acc
  | [], acc, h => .inr h
  | y :: xs, acc, h => by
    simp only [addN] at h
    cases hm : memN y acc with
    | true => rw [hm] at h; rcases addN_mem h with h | h
              · exact .inl (List.mem_cons_of_mem _ h)
              · exact .inr h
    | false => rw [hm] at h; rcases addN_mem h with h | h
               · exact .inl (List.mem_cons_of_mem _ h)
               · rcases List.mem_cons.1 h with h | h
                 · exact .inl (h ▸ List.mem_cons_self)
                 · exact .inr h

/-- Operation a is carried out ahead of j, in every order. -/
inductive Before (ops : Array Oper) : Nat → Nat → Prop
  | one {a j : Nat} {o : Oper} (h : ops[j]? = some o) (hd : a ∈ deps o) : Before ops a j
  | trans {a b c : Nat} (h : Before ops a b) (k : Before ops b c) : Before ops a c

theorem ancAt_mem {ops : Array Oper} {a d : Nat} : ∀ {seen : Seen}, (∀ s ∈ seen, ∀ a ∈ s.2.2, Before ops a s.1) → a ∈ ancAt d seen → Before ops a d
  | [], _, h => by simp [ancAt] at h
  | (i, c, an) :: l, hs, h => by
    simp only [ancAt] at h
    cases hb : Nat.beq d i with
    | true =>
      rw [hb] at h
      have := Nat.eq_of_beq_eq_true hb
      subst this
      exact hs (d, c, an) List.mem_cons_self a h
    | false => rw [hb] at h; exact ancAt_mem (fun s hm => hs s (List.mem_cons_of_mem _ hm)) h
theorem ancOf_mem {ops : Array Oper} {seen : Seen} {i : Nat} {o : Oper} (ho : ops[i]? = some o) (hs : ∀ s ∈ seen, ∀ a ∈ s.2.2, Before ops a s.1) :
    ∀ (ds acc : List Nat), (∀ d ∈ ds, d ∈ deps o) → (∀ a ∈ acc, Before ops a i) → ∀ a ∈ ancOf seen ds acc, Before ops a i
  | [], acc, _, h, a, ha => h a ha
  | d :: ds, acc, hd, h, a, ha => by
    have hdi : Before ops d i := .one ho (hd d List.mem_cons_self)
    refine ancOf_mem ho hs ds _ (fun x hx => hd x (List.mem_cons_of_mem _ hx)) (fun x hx => ?_) a ha
    rcases addN_mem hx with hx | hx
    · rcases List.mem_cons.1 hx with e | e
      · exact e ▸ hdi
      · exact (ancAt_mem hs e).trans hdi
    · exact h x hx

theorem Before.mono {ops opsF : Array Oper} (hF : ∀ (i : Nat) (o : Oper), ops[i]? = some o → opsF[i]? = some o) {a j : Nat} (h : Before ops a j) : Before opsF a j := by
  induction h with
  | one h hd => exact .one (hF _ _ h) hd
  | trans _ _ ih1 ih2 => exact ih1.trans ih2
theorem seenOf_ok {ops : Array Oper} : ∀ (s : Sched) (seen : Seen), (∀ s ∈ seen, ∀ a ∈ s.2.2, Before ops a s.1) → ∀ s' ∈ seenOf ops s seen, ∀ a ∈ s'.2.2, Before ops a s'.1
  | [], seen, h => h
  | (i, c, af, bf) :: rest, seen, h => by
    simp only [seenOf]
    cases ho : ops[i]? with
    | none => exact h
    | some o =>
      refine seenOf_ok rest _ fun s' hs' => ?_
      rcases List.mem_cons.1 hs' with e | e
      · subst e; exact ancOf_mem ho h (deps o) [] (fun _ x => x) (fun _ x => by simp at x)
      · exact h s' e
theorem tailOk_get {opsF : Array Oper} : ∀ (l : List Oper) (j : Nat) (seen : Seen), tailOk j l seen = true → (∀ i o, l[i]? = some o → opsF[j + i]? = some o) → (∀ s ∈ seen, ∀ a ∈ s.2.2, Before opsF a s.1) →
    ∀ i o, l[i]? = some o → (∀ q, q < j + i → Before opsF q (j + i)) ∧ ∀ d ∈ deps o, d < j + i
  | [], _, _, _, _, _, i, o, h => by simp at h
  | a :: l, j, seen, hk, hl, hs, i, o, h => by
    simp only [tailOk, Bool.and_eq_true, List.all_eq_true] at hk
    obtain ⟨⟨h1, h2⟩, h3⟩ := hk
    have h0 := hl 0 a (by simp)
    have han := ancOf_mem (i := j) (by simpa using h0) hs (deps a) [] (fun _ x => x) (fun _ x => by simp at x)
    cases i with
    | zero =>
      simp only [List.getElem?_cons_zero, Option.some.injEq] at h
      subst h
      exact ⟨fun q hq => han q (memN_iff.1 (h1 q (List.mem_range.2 hq))), fun d hd => of_decide_eq_true (h2 d hd)⟩
    | succ i =>
      have := tailOk_get (opsF := opsF) l (j + 1) _ h3 (fun i o hi => by rw [show j + 1 + i = j + (i + 1) by omega]; exact hl (i + 1) o (by simpa using hi)) (fun s' hs' => by
        rcases List.mem_cons.1 hs' with e | e
        · subst e; exact han
        · exact hs s' e) i o (by simpa using h)
      rw [show j + (i + 1) = j + 1 + i by omega]; exact this

/-- The same, in words. -/
inductive SOk (ops : Array Oper) : List (Nat × Cls) → Sched → Prop
  | nil {seen : List (Nat × Cls)} (h : seen.length = ops.size) : SOk ops seen []
  | cons {seen : List (Nat × Cls)} {i : Nat} {c : Cls} {af bf : List Nat} {rest : Sched} {o : Oper} (ho : ops[i]? = some o) (hn : ∀ s ∈ seen, s.1 ≠ i)
      (hd : ∀ d ∈ deps o, ∃ s ∈ seen, s.1 = d) (hl : ∀ x ∈ o.looksAt ops, ∀ j, dstOf ops j = some x → Before ops j i)
      (hp : ∀ s ∈ seen, Before ops s.1 i ∨ okPair s.2 c s.1 af bf = true) (ht : ∀ s ∈ seen, ∀ d, dstOf ops s.1 = some d → o.dst ≠ some d)
      (hr : SOk ops ((i, c) :: seen) rest) : SOk ops seen ((i, c, af, bf) :: rest)

theorem isDst_iff {ops : Array Oper} {j : Nat} {x : Tmp} : isDst ops j x = true ↔ dstOf ops j = some x := by
  unfold isDst
  cases h : dstOf ops j with
  | none => simp
  | some d => simp only [Option.some.injEq]; exact ⟨Nat.eq_of_beq_eq_true, fun e => by subst e; simp⟩
theorem dstOf_lt {ops : Array Oper} {j : Nat} {x : Tmp} (h : dstOf ops j = some x) : j < ops.size := by
  unfold dstOf at h
  cases ho : ops[j]? with
  | none => simp [ho] at h
  | some o => exact (Array.getElem?_eq_some_iff.1 ho).1
theorem drawOk_spec {ops : Array Oper} : ∀ (s : Sched) (seen : Seen), drawOk ops s seen = true → (∀ s ∈ seen, ∀ a ∈ s.2.2, Before ops a s.1) →
    SOk ops (seen.map fun s => (s.1, s.2.1)) s
  | [], seen, h, _ => .nil (by simpa using Nat.eq_of_beq_eq_true h)
  | (i, c, af, bf) :: rest, seen, h, hs => by
    simp only [drawOk] at h
    cases ho : ops[i]? with
    | none => rw [ho] at h; cases h
    | some o =>
      rw [ho] at h
      simp only [Bool.and_eq_true] at h
      obtain ⟨⟨⟨⟨h1, h2⟩, h3⟩, h4⟩, h5⟩ := h
      have han := ancOf_mem (seen := seen) ho hs (deps o) [] (fun _ x => x) (fun _ x => by simp at x)
      have h6 := drawOk_spec rest _ h5 (fun s hm => by
        rcases List.mem_cons.1 hm with e | e
        · subst e; exact han
        · exact hs s e)
      refine .cons ho (fun s hm e => ?_) (fun d hd => ?_) (fun x hx j hj => ?_) (fun s hm => ?_) (fun s hm d hd e => ?_) h6
      · obtain ⟨s', hs', rfl⟩ := List.mem_map.1 hm
        simp only [Bool.not_eq_true', List.any_eq_false] at h1
        have h1 := h1 s' hs'
        simp only at e
        rw [e] at h1; simp at h1
      · rw [List.all_eq_true] at h2
        obtain ⟨s, a, b⟩ := List.any_eq_true.1 (h2 d hd)
        exact ⟨_, List.mem_map.2 ⟨s, a, rfl⟩, Nat.eq_of_beq_eq_true b⟩
      · rw [List.all_eq_true] at h3
        have h3 := h3 x hx
        rw [List.all_eq_true] at h3
        have h3 := h3 j (List.mem_range.2 (dstOf_lt hj))
        rw [isDst_iff.2 hj] at h3
        exact han j (memN_iff.1 (by simpa using h3))
      · obtain ⟨s', hs', rfl⟩ := List.mem_map.1 hm
        rw [List.all_eq_true] at h4
        have h4 := h4 s' hs'
        simp only [Bool.and_eq_true, Bool.or_eq_true] at h4
        exact h4.1.imp (fun h => han _ (memN_iff.1 h)) id
      · obtain ⟨s', hs', rfl⟩ := List.mem_map.1 hm
        rw [List.all_eq_true] at h4
        have h4 := h4 s' hs'
        simp only [Bool.and_eq_true] at h4
        have h4 := h4.2
        rw [e] at h4
        simp only at h4 hd
        rw [isDst_iff.2 hd] at h4
        simp at h4

/-! ### Operands -/
section
variable {A : Type} {P : Program}
theorem prim_congr {e e' : Operand → AV} (o : Oper) {h : Heap} {id : Nat} {K : AV → Heap → Option A} (hh : ∀ x ∈ o.op.operands, e x = e' x) : prim P o e h id K = prim P o e' h id K := by
  obtain ⟨dst, op, type, pos, after, guard⟩ := o
  have pairs : ∀ ps : Array (Nat × Operand), (∀ x ∈ ps.map (·.2), e x = e' x) → (ps.toList.map fun p => (p.1, e p.2)) = (ps.toList.map fun p => (p.1, e' p.2)) := fun ps hp =>
    List.map_congr_left fun p hm => by simp only [hp p.2 (Array.mem_map.2 ⟨p, by simpa using hm, rfl⟩)]
  cases op <;> simp only [Op.operands] at hh <;> simp only [prim]
  case build t ps => rw [pairs ps fun x hx => hh x (by simpa using hx)]
  case buildSlice t n ps => rw [pairs ps fun x hx => hh x (by simpa using hx)]
  case makeFunc fn first cap =>
    cases fn <;> first | rfl | skip
    simp only
    rw [List.map_congr_left (l := first.toList) fun x hx => hh x (by simp at hx; simp [hx]), List.map_congr_left (l := cap.toList) fun x hx => hh x (by simp at hx; simp [hx])]
  case call c =>
    obtain ⟨cl, args, tys⟩ := c
    cases cl <;> first | rfl | skip
    simp only
    rw [List.map_congr_left (l := args.toList) fun x hx => hh x (by simp at hx; simp [Call.operands, hx])]
  case makeMap t r => cases r <;> rfl
  case slice t x lo hi mx => cases lo <;> cases hi <;> cases mx <;> simp_all
  all_goals (first | rfl | (simp_all; done))
theorem prim_id {e : Operand → AV} (o : Oper) {h : Heap} {id id' : Nat} {K : AV → Heap → Option A} (hn : news o.op = false) : prim P o e h id K = prim P o e h id' K := by
  obtain ⟨dst, op, type, pos, after, guard⟩ := o
  cases op
  case makeFunc f first cap => cases f <;> rfl
  case call c =>
    obtain ⟨cl, args, tys⟩ := c
    cases cl
    case builtin bi =>
      cases bi
      case append => simp [news] at hn
      all_goals (simp only [prim]; unfold builtinK; generalize tys.toList = ts; generalize args.toList.map e = xs; rcases ts with _ | ⟨t, _ | ⟨u, _ | ⟨u', ts⟩⟩⟩ <;> rcases xs with _ | ⟨x, _ | ⟨y, _ | ⟨z, xs⟩⟩⟩ <;> rfl)
    all_goals rfl
  case makeMap t r => cases r <;> first | rfl | (simp [news] at hn; done)
  all_goals first | rfl | (simp [news] at hn; done)
theorem drawOne_congr {call : CallP} {c : Cls} {o : Oper} {t t' : List AV} {h : Heap} {id : Nat} (hh : ∀ x ∈ o.op.operands, ev t x = ev t' x) :
    drawOne P call c o t h id = drawOne P call c o t' h id := by
  have hcall : ∀ (f : Operand) (args : Array Operand) tys, o.op = .call ⟨.value f, args, tys⟩ → ev t f = ev t' f ∧ args.toList.map (ev t) = args.toList.map (ev t') := fun f args tys ho => by
    rw [ho] at hh
    exact ⟨hh f (by simp [Op.operands, Call.operands]), List.map_congr_left fun x hx => hh x (by simp at hx; simp [Op.operands, Call.operands, hx])⟩
  cases c <;> simp only [drawOne]
  · rw [prim_congr o hh]
  · rw [prim_congr o hh]
  · rw [prim_congr o hh]
  · split
    · rename_i f args tys ho
      obtain ⟨h1, h2⟩ := hcall f args tys ho
      rw [h1, h2]
    · exact prim_congr o hh
end
theorem ev_congr {t t' : List AV} {ops : Array Oper} {o : Oper} (h : ∀ x ∈ o.looksAt ops, nth t x = nth t' x) : ∀ x ∈ o.op.operands, ev t x = ev t' x := by
  intro x hx
  cases x with
  | tmp i => exact h i (List.mem_append_left _ (List.mem_filterMap.2 ⟨.tmp i, by simpa using hx, rfl⟩))
  | _ => rfl
theorem doneB_congr {t t' : List AV} {ops : Array Oper} {o : Oper} (h : ∀ x ∈ o.looksAt ops, nth t x = nth t' x) : doneB ops o t = doneB ops o t' := by
  unfold doneB
  split
  · rfl
  · rename_i j want hg
    split
    · rfl
    · rename_i g hj
      split
      · rfl
      · rename_i d hd
        have : nth t d = nth t' d := h d (by simp [Oper.looksAt, hg, hj, hd])
        rw [this]
end Go.Ev
/- What a run of a region whose order is drawn tells of each of its operations, in the temporaries as they are at its end. -/
namespace Go.Ev
theorem nth_setL_ne {t : List AV} {d x : Nat} {v : AV} (h : d ≠ x) : nth (setL t d v) x = nth t x := by
  simp [nth_eq, setL_eq, List.getD, h]
theorem nth_setL_same (t : List AV) (d : Nat) (v : AV) : nth (setL t d v) d = v ∨ nth (setL t d v) d = .dead := by
  rcases Nat.lt_or_ge d t.length with h | h
  · left; simp [nth_eq, setL_eq, List.getD, h]
  · right; simp [nth_eq, setL_eq, List.getD, h]
theorem nth_putT_ne {t : List AV} {dst : Option Tmp} {x : Nat} {v : AV} (h : dst ≠ some x) : nth (putT t dst v) x = nth t x := by
  cases dst with
  | none => rfl
  | some d => exact nth_setL_ne fun e => h (by rw [e])
theorem nth_putT_same {t : List AV} {dst : Option Tmp} {d : Nat} {v : AV} (h : dst = some d) : nth (putT t dst v) d = v ∨ nth (putT t dst v) d = .dead := by
  subst h; exact nth_setL_same t d v

structure Ent where
  i : Nat
  c : Cls
  af : List Nat
  bf : List Nat
  o : Oper
  done : Bool
  v : AV
  h0 : Heap
  h1 : Heap
section
variable (P : Program) (ops : Array Oper) (base : Nat) (call : CallP) (T : List AV)
structure EntOk (e : Ent) : Prop where
  op : ops[e.i]? = some e.o
  look : ∀ x ∈ e.o.looksAt ops, ∀ j, dstOf ops j = some x → Before ops j e.i
  dn : doneB ops e.o T = some e.done
  val : ∀ d, e.o.dst = some d → nth T d = e.v ∨ nth T d = .dead
  ev : e.done = true → drawOne P call e.c e.o T e.h0 (base + e.i) = some (e.v, e.h1)
  sk : e.done = false → e.h1 = e.h0 ∧ e.v = .tup []
structure Cross (a b : Ent) : Prop where
  ne : a.i ≠ b.i
  ord : Before ops a.i b.i ∨ okPair a.c b.c a.i b.af b.bf = true
  dst : ∀ d, a.o.dst = some d → b.o.dst ≠ some d
  af : a.done = true → b.done = true → a.i ∈ b.af → again P ops T b.h1 base a.i = true
  bf : a.done = true → b.done = true → a.i ∈ b.bf → again P ops T a.h0 base b.i = true
inductive Chain : Heap → List Ent → Heap → Prop
  | nil (h : Heap) : Chain h [] h
  | cons {e : Ent} {es : List Ent} {hE : Heap} (h : Chain e.h1 es hE) : Chain e.h0 (e :: es) hE
end
variable {P : Program} {ops : Array Oper} {base : Nat} {call : CallP} {T : List AV}

theorem before_closed {X : Nat → Prop} {a j : Nat} (hb : Before ops a j) (hX : ∀ j o, X j → ops[j]? = some o → ∀ d ∈ deps o, X d) (hj : X j) : X a := by
  induction hb with
  | one ho hd => exact hX _ _ hj ho _ hd
  | trans _ _ ih1 ih2 => exact ih1 (ih2 hj)
theorem again_congr {t t' : List AV} {h : Heap} {i : Nat} {o : Oper} (ho : ops[i]? = some o) (hl : ∀ x ∈ o.looksAt ops, nth t x = nth t' x) (hd : ∀ d, o.dst = some d → nth t d = nth t' d) :
    again P ops t h base i = again P ops t' h base i := by
  have hs : ∀ v, sameAt t o.dst v = sameAt t' o.dst v := fun v => by
    unfold sameAt
    cases hdd : o.dst with
    | none => rfl
    | some d => simp only [hd d hdd]
  unfold again
  rw [ho]
  simp only
  rw [doneB_congr hl, prim_congr o (ev_congr hl)]
  cases doneB ops o t' with
  | none => rfl
  | some b =>
    cases b with
    | false => rfl
    | true =>
      simp only
      split
      · rfl
      · rw [hs]
theorem againAll_mem {t : List AV} {h : Heap} : ∀ {l : List Nat}, againAll P ops t h base l = true → ∀ i ∈ l, again P ops t h base i = true
  | [], _, i, hi => by simp at hi
  | j :: l, hh, i, hi => by
    simp only [againAll, Bool.and_eq_true] at hh
    rcases List.mem_cons.1 hi with e | e
    · exact e ▸ hh.1
    · exact againAll_mem hh.2 i e
theorem againEach_mem {t : List AV} {i : Nat} {sn : List (Nat × Heap)} {h : Heap} {w : Nat} : ∀ {l : List Nat}, againEach P ops t base i sn l = true → w ∈ l → heapAt w sn = some h → again P ops t h base i = true
  | [], _, hi, _ => by simp at hi
  | j :: l, hh, hi, hs => by
    simp only [againEach, Bool.and_eq_true] at hh
    rcases List.mem_cons.1 hi with e | e
    · subst e; rw [hs] at hh; exact hh.1
    · exact againEach_mem hh.2 e hs

structure PreOk (P : Program) (ops : Array Oper) (base : Nat) (call : CallP) (pre : List Ent) (sn : List (Nat × Heap)) : Prop where
  op : ∀ p ∈ pre, ops[p.i]? = some p.o
  look : ∀ p ∈ pre, ∀ x ∈ p.o.looksAt ops, ∀ j, dstOf ops j = some x → Before ops j p.i
  clo : ∀ p ∈ pre, ∀ d ∈ deps p.o, ∃ q ∈ pre, q.i = d
  sn : ∀ p ∈ pre, p.done = true → heapAt p.i sn = some p.h0
/-- The run, told. -/
theorem canon {hE : Heap} : ∀ (s : Sched) (t : List AV) (h : Heap) (sn : List (Nat × Heap)) (pre : List Ent), SOk ops (pre.map fun p => (p.i, p.c)) s → PreOk P ops base call pre sn →
    drawOps P call ops base s t h sn = some (T, hE) →
    ∃ es : List Ent, Chain h es hE ∧ (∀ e ∈ es, EntOk P ops base call T e) ∧ es.Pairwise (Cross P ops base T) ∧ (∀ p ∈ pre, ∀ e ∈ es, Cross P ops base T p e) ∧
      (∀ a e b, es = a ++ e :: b → ∀ d ∈ deps e.o, ∃ p ∈ pre ++ a, p.i = d) ∧ pre.length + es.length = ops.size ∧ T.length = t.length ∧ (∀ x, (∀ e ∈ es, e.o.dst ≠ some x) → nth T x = nth t x)
  | [], t, h, sn, pre, hs, hp, hh => by
    simp only [drawOps, Option.some.injEq, Prod.mk.injEq] at hh
    obtain ⟨rfl, rfl⟩ := hh
    cases hs with
    | nil hlen => exact ⟨[], .nil _, by simp, .nil, by simp, by simp, by simpa using hlen, rfl, fun _ _ => rfl⟩
  | (i, c, af, bf) :: rest, t, h, sn, pre, hs, hp, hh => by
    cases hs with
    | cons ho hn hd hl hpair ht hr =>
    rename_i o
    simp only [drawOps, ho] at hh
    have hne : ∀ p ∈ pre, p.i ≠ i := fun p hm => hn _ (List.mem_map.2 ⟨p, hm, rfl⟩)
    have hdeps : ∀ d ∈ deps o, ∃ q ∈ pre, q.i = d := fun d hm => by
      obtain ⟨s, a, b⟩ := hd d hm
      obtain ⟨q, c, rfl⟩ := List.mem_map.1 a
      exact ⟨q, c, b⟩
    have hclo : ∀ j o', (∃ q ∈ pre, q.i = j) → ops[j]? = some o' → ∀ d ∈ deps o', ∃ q ∈ pre, q.i = d := fun j o' ⟨q, a, b⟩ ho' d hd' => by
      have := hp.op q a
      rw [b, ho'] at this
      cases this
      exact hp.clo q a d hd'
    have bclo : ∀ j, Before ops j i → ∃ q ∈ pre, q.i = j := fun j hb => by
      have key : ∀ (a j' : Nat), Before ops a j' → j' = i → ∃ q ∈ pre, q.i = a := by
        intro a j' hb
        induction hb with
        | one ho' hd' => intro e; subst e; rw [ho] at ho'; cases ho'; exact hdeps _ hd'
        | trans h1 h2 ih1 ih2 => intro e; exact before_closed h1 hclo (ih2 e)
      exact key _ _ hb rfl
    have bpre : ∀ (p : Ent), p ∈ pre → ∀ j, Before ops j p.i → ∃ q ∈ pre, q.i = j := fun p hm j hb => before_closed hb hclo ⟨p, hm, rfl⟩
    cases hdone : doneB ops o t with
    | none => rw [hdone] at hh; cases hh
    | some dn =>
      rw [hdone] at hh
      -- what both ways share
      have main : ∀ (v : AV) (h' : Heap) (sn' : List (Nat × Heap)), drawOps P call ops base rest (putT t o.dst v) h' sn' = some (T, hE) → (dn = true → heapAt i sn' = some h) → (∀ p ∈ pre, p.done = true → heapAt p.i sn' = some p.h0) →
          (∀ p ∈ pre, p.done = true → dn = true → (p.i ∈ af → again P ops (putT t o.dst v) h' base p.i = true) ∧ (p.i ∈ bf → again P ops (putT t o.dst v) p.h0 base i = true)) →
          (dn = true → drawOne P call c o t h (base + i) = some (v, h')) → (dn = false → h' = h ∧ v = .tup []) →
          ∃ es : List Ent, Chain h es hE ∧ (∀ e ∈ es, EntOk P ops base call T e) ∧ es.Pairwise (Cross P ops base T) ∧ (∀ p ∈ pre, ∀ e ∈ es, Cross P ops base T p e) ∧
            (∀ a e b, es = a ++ e :: b → ∀ d ∈ deps e.o, ∃ p ∈ pre ++ a, p.i = d) ∧ pre.length + es.length = ops.size ∧ T.length = t.length ∧ (∀ x, (∀ e ∈ es, e.o.dst ≠ some x) → nth T x = nth t x) := by
        intro v h' sn' hrun hsn hsnp hchk hev hsk
        let e : Ent := ⟨i, c, af, bf, o, dn, v, h, h'⟩
        have hpre' : PreOk P ops base call (e :: pre) sn' := by
          refine ⟨fun p hm => ?_, fun p hm => ?_, fun p hm d hd' => ?_, fun p hm hdn => ?_⟩ <;> rcases List.mem_cons.1 hm with eq | hm'
          · subst eq; exact ho
          · exact hp.op p hm'
          · subst eq; exact hl
          · exact hp.look p hm'
          · subst eq; obtain ⟨q, a, b⟩ := hdeps d hd'; exact ⟨q, List.mem_cons_of_mem _ a, b⟩
          · obtain ⟨q, a, b⟩ := hp.clo p hm' d hd'; exact ⟨q, List.mem_cons_of_mem _ a, b⟩
          · subst eq; exact hsn hdn
          · exact hsnp p hm' hdn
        obtain ⟨es, f1, f2, f3, f4, f5, f6, f7, f8⟩ := canon rest (putT t o.dst v) h' sn' (e :: pre) (by simpa [e] using hr) hpre' hrun
        have hlater : ∀ x, (∃ q : Nat, (q = i ∨ ∃ p ∈ pre, p.i = q) ∧ ∀ j, dstOf ops j = some x → Before ops j q) → ∀ e' ∈ es, e'.o.dst ≠ some x := fun x ⟨q, hq, hb⟩ e' he' hx => by
          have h1 : dstOf ops e'.i = some x := by unfold dstOf; rw [(f2 e' he').op]; exact hx
          have h2 : ∃ p ∈ pre, p.i = e'.i := by
            rcases hq with rfl | ⟨p, a, rfl⟩
            · exact bclo _ (hb _ h1)
            · exact bpre p a _ (hb _ h1)
          obtain ⟨p, a, b⟩ := h2
          exact (f4 p (List.mem_cons_of_mem _ a) e' he').ne b
        have hself : ∀ x ∈ o.looksAt ops, o.dst ≠ some x := fun x hx hdx => by
          obtain ⟨p, a, b⟩ := bclo i (hl x hx i (by unfold dstOf; rw [ho]; exact hdx))
          exact hne p a b
        have hlookE : ∀ x ∈ o.looksAt ops, nth t x = nth T x := fun x hx => by
          rw [f8 x (hlater x ⟨i, .inl rfl, hl x hx⟩), nth_putT_ne (hself x hx)]
        have hlookE' : ∀ x ∈ o.looksAt ops, nth (putT t o.dst v) x = nth T x := fun x hx => by
          rw [f8 x (hlater x ⟨i, .inl rfl, hl x hx⟩)]
        have hdstE : ∀ d, o.dst = some d → nth (putT t o.dst v) d = nth T d := fun d hd' => by
          rw [f8 d (fun e' he' hx => (f4 e List.mem_cons_self e' he').dst d hd' hx)]
        have hlookP : ∀ p ∈ pre, ∀ x ∈ p.o.looksAt ops, nth (putT t o.dst v) x = nth T x := fun p hm x hx => by
          rw [f8 x (hlater x ⟨p.i, .inr ⟨p, hm, rfl⟩, hp.look p hm x hx⟩)]
        have hdstP : ∀ p ∈ pre, ∀ d, p.o.dst = some d → nth (putT t o.dst v) d = nth T d := fun p hm d hd' => by
          rw [f8 d (fun e' he' hx => (f4 p (List.mem_cons_of_mem _ hm) e' he').dst d hd' hx)]
        have hEok : EntOk P ops base call T e := by
          refine ⟨ho, hl, ?_, fun d hd' => ?_, fun hdn => ?_, fun hdn => hsk hdn⟩
          · show doneB ops o T = some dn
            rw [← doneB_congr hlookE]; exact hdone
          · rw [← hdstE d hd']; exact nth_putT_same hd'
          · show drawOne P call c o T h (base + i) = some (v, h')
            rw [← drawOne_congr (ev_congr hlookE)]; exact hev hdn
        have hCr : ∀ p ∈ pre, Cross P ops base T p e := fun p hm => by
          refine ⟨hne p hm, hpair _ (List.mem_map.2 ⟨p, hm, rfl⟩), fun d hd' => ht _ (List.mem_map.2 ⟨p, hm, rfl⟩) d ?_, fun a b hm' => ?_, fun a b hm' => ?_⟩
          · show dstOf ops p.i = some d
            unfold dstOf; rw [hp.op p hm]; exact hd'
          · rw [← again_congr (hp.op p hm) (hlookP p hm) (hdstP p hm)]; exact (hchk p hm a b).1 hm'
          · rw [← again_congr ho hlookE' hdstE]; exact (hchk p hm a b).2 hm'
        refine ⟨e :: es, (Chain.cons (e := e) f1 : Chain e.h0 (e :: es) hE), fun e' he' => ?_, List.pairwise_cons.2 ⟨fun e' he' => f4 e List.mem_cons_self e' he', f3⟩, fun p hm e' he' => ?_, fun a e' b heq d hd' => ?_, ?_, ?_, fun x hx => ?_⟩
        · rcases List.mem_cons.1 he' with eq | hm
          · subst eq; exact hEok
          · exact f2 e' hm
        · rcases List.mem_cons.1 he' with eq | hm'
          · subst eq; exact hCr p hm
          · exact f4 p (List.mem_cons_of_mem _ hm) e' hm'
        · cases a with
          | nil =>
            simp only [List.nil_append, List.cons.injEq] at heq
            obtain ⟨rfl, _⟩ := heq
            obtain ⟨q, x, y⟩ := hdeps d hd'
            exact ⟨q, by simpa using x, y⟩
          | cons a0 a =>
            simp only [List.cons_append, List.cons.injEq] at heq
            obtain ⟨rfl, heq⟩ := heq
            obtain ⟨q, x, y⟩ := f5 a e' b heq d hd'
            refine ⟨q, ?_, y⟩
            simp only [List.cons_append, List.mem_cons, List.mem_append] at x ⊢
            rcases x with x | x | x
            · exact .inr (.inl x)
            · exact .inl x
            · exact .inr (.inr x)
        · simp only [List.length_cons] at f6 ⊢; omega
        · rw [f7]; cases o.dst <;> simp [putT, setL_eq]
        · rw [f8 x fun e' he' => hx e' (List.mem_cons_of_mem _ he'), nth_putT_ne (hx e List.mem_cons_self)]
      cases dn with
      | false =>
        simp only at hh
        exact main _ _ _ hh (fun x => by cases x) hp.sn (fun _ _ _ x => by cases x) (fun x => by cases x) (fun _ => ⟨rfl, rfl⟩)
      | true =>
        simp only at hh
        split at hh
        · cases hh
        · rename_i v h' hone
          cases hg : againAll P ops (putT t o.dst v) h' base af && againEach P ops (putT t o.dst v) base i sn bf with
          | false => rw [hg] at hh; cases hh
          | true =>
            rw [hg] at hh
            simp only [Bool.and_eq_true] at hg
            refine main v h' _ hh (fun _ => by simp [heapAt]) (fun p hm hdn => ?_) (fun p hm hdn _ => ⟨fun hm' => againAll_mem hg.1 _ hm', fun hm' => againEach_mem hg.2 hm' (hp.sn p hm hdn)⟩) (fun _ => hone) (fun x => by cases x)
            have : Nat.beq p.i i = false := by
              cases hb : Nat.beq p.i i with
              | false => rfl
              | true => exact absurd (Nat.eq_of_beq_eq_true hb) (hne p hm)
            simp only [heapAt, this, cond_false]
            exact hp.sn p hm hdn
end Go.Ev
