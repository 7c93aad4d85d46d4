/- The evaluator, second part: regions whose order is drawn, code, calls. Definitions only. -/
import Derived.Test.YtglbonibdjdiaaaEvA
namespace Go.Ev
section
variable {A : Type} (P : Program)

def sameF : AV → AV → Bool
  | .int k a, .int k' b => decide (k = k') && a == b
  | .bool a, .bool b => a == b
  | .str a, .str b => eqS a b
  | .ptr p, .ptr q => decide (p = q)
  | .sl p l c e s, .sl p' l' c' e' s' => decide (p = p') && Nat.beq l l' && Nat.beq c c' && (e == e') && Nat.beq s s'
  | .map r, .map r' => decide (r = r')
  | .nilf, .nilf => true
  | .nili, .nili => true
  | .yield l, .yield l' => Nat.beq l l'
  | _, _ => false
def sameL : List AV → List AV → Bool
  | [], [] => true
  | a :: x, b :: y => sameF a b && sameL x y
  | _, _ => false
def sameV : AV → AV → Bool
  | .agg x, .agg y => sameL x y
  | .tup x, .tup y => sameL x y
  | .fn f a c, .fn f' a' c' => Nat.beq f f' && sameL a a' && sameL c c'
  | a, b => sameF a b

/-- What an operation of a region whose order is drawn needs of the heap: nothing · nothing, it makes a block · it reads · all. -/
inductive Cls where | p | a | r | w
  deriving DecidableEq
/-- How a region is gone through: the operation; what it needs; the reads (done) that are looked at again behind it; the writers (done) ahead of which it is looked at again. -/
abbrev Sched := List (Nat × Cls × List Nat × List Nat)
/-- Region by region: what is forgotten ahead of it; how it is gone through where its order is drawn. -/
structure Plan where
  kill : Nat → List Tmp
  sched : Nat → Option Sched
structure FnP where
  fn : Func
  code : Code
  plan : Plan
abbrev CallP := (A : Type) → CallS A

def heapAt (i : Nat) : List (Nat × Heap) → Option Heap
  | [] => none
  | (j, h) :: l => bif Nat.beq i j then some h else heapAt i l
def Heap.empty (h : Heap) : Heap := ⟨fun _ => none, h.next⟩
def Blk.demote : Blk → Option Blk
  | .cells _ vs => some (.cells false vs)
  | _ => none
def Heap.demote (h : Heap) : Heap := ⟨fun i => (h.m i).bind Blk.demote, h.next⟩
def Blk.writes : Blk → Bool
  | .cells w _ => w
  | _ => true
def simple : AV → Bool
  | .int _ _ | .bool _ | .str _ => true
  | _ => false
/-- One operation of such a region. -/
def drawOne (call : CallP) (c : Cls) (o : Oper) (t : List AV) (h : Heap) (id : Nat) : Option (AV × Heap) := match c with
  | .p => (match prim P o (ev t) h.empty id fun v _ => some v with
    | some v => bif !news o.op || simple v then some (v, h) else none
    | none => none)
  | .a => (match prim P o (ev t) h.empty id fun v h' => some (v, h'.m id) with
    | some (v, some b) => bif b.writes then some (v, h.put id b) else none
    | some (v, none) => bif simple v then some (v, h) else none
    | none => none)
  | .r => (match prim P o (ev t) h.demote id fun v _ => some v with
    | some v => bif !news o.op || simple v then some (v, h) else none
    | none => none)
  | .w => (match o.op with
    | .call { callee := .value f, args, .. } => calleeK (call _) (ev t f) (args.toList.map (ev t)) h fun out h _ => (match out with
      | .ret v => some (v, h)
      | .pan _ => none)
    | _ => prim P o (ev t) h id fun v h' => some (v, h'))
/-- Was it carried out, by its guard's value? -/
def doneB (ops : Array Oper) (o : Oper) (t : List AV) : Option Bool := match o.guard with
  | none => some true
  | some (j, want) => match ops[j]? with
    | none => none
    | some g => match g.dst with
      | none => none
      | some d => match nth t d with
        | .bool b => some (bif b then want else !want)
        | .tup _ => some false
        | _ => none
def sameAt (t : List AV) (dst : Option Tmp) (v : AV) : Bool := match dst with
  | none => true
  | some d => sameV v (nth t d)
/-- An operation that reads, once more, in another heap: it must tell what it told. -/
def again (ops : Array Oper) (t : List AV) (h : Heap) (base i : Nat) : Bool := match ops[i]? with
  | none => false
  | some o => match doneB ops o t with
    | none => false
    | some false => true
    | some true => match prim P o (ev t) h.demote (base + i) fun v _ => some v with
      | none => false
      | some v => (!news o.op || simple v) && sameAt t o.dst v
def againAll (ops : Array Oper) (t : List AV) (h : Heap) (base : Nat) : List Nat → Bool
  | [] => true
  | i :: is => again P ops t h base i && againAll ops t h base is
def againEach (ops : Array Oper) (t : List AV) (base i : Nat) (sn : List (Nat × Heap)) : List Nat → Bool
  | [] => true
  | w :: ws => (match heapAt w sn with
    | none => true
    | some h => again P ops t h base i) && againEach ops t base i sn ws
def drawOps (call : CallP) (ops : Array Oper) (base : Nat) : Sched → List AV → Heap → List (Nat × Heap) → Option (List AV × Heap)
  | [], t, h, _ => some (t, h)
  | (i, c, af, bf) :: rest, t, h, sn => match ops[i]? with
    | none => none
    | some o => match doneB ops o t with
      | none => none
      | some true => (match drawOne P call c o t h (base + i) with
        | none => none
        | some (v, h') => bif againAll P ops (putT t o.dst v) h' base af && againEach P ops (putT t o.dst v) base i sn bf then
            drawOps call ops base rest (putT t o.dst v) h' ((i, h) :: sn) else none)
      | some false => drawOps call ops base rest (putT t o.dst (.tup [])) h sn

/-- The operations that are gone through by the plan; the others come behind them, in order. -/
def mainOps (ops : Array Oper) (s : Sched) : Array Oper := ⟨ops.toList.take s.length⟩
def setLoop (h : Heap) (l : Nat) (x : ALoop) : Heap := h.put l (.loop x)

def evCode (pl : Plan) (call : CallP) (fid : FuncId) (rd : Option Nat) : Code → St → (Ex → St → Option A) → Option A
  | .skip, st, K => K .normal st
  | .region id ops draw, st, K => bif draw then
      (match pl.sched id with
        | none => none
        | some s => match drawOps P call (mainOps ops s) st.h.next s (killT st.t (pl.kill id)) ⟨st.h.m, st.h.next + ops.size⟩ [] with
          | none => none
          | some (t, h) => seqOps P (call A) rd ops (ops.toList.drop s.length) { st with t := t, h := h } (fun st' => K .normal st') (fun v st' => K (.pan v) st'))
      else seqOps P (call A) rd ops ops.toList { st with t := killT st.t (pl.kill id) } (fun st' => K .normal st') (fun v st' => K (.pan v) st')
  | .seq a b, st, K => evCode pl call fid rd a st fun e st' => match e with
    | .normal => evCode pl call fid rd b st' K
    | e => K e st'
  | .cond c a b, st, K => asBool (ev st.t c) fun t => bif t then evCode pl call fid rd a st K else evCode pl call fid rd b st K
  | .block id b, st, K => evCode pl call fid rd b st fun e st' => match e with
    | .exit j => bif Nat.beq j id then K .normal st' else K (.exit j) st'
    | e => K e st'
  | .loop b, st, K => loopN (fun st K => evCode pl call fid rd b st K) rounds st K
  | .exit id, st, K => K (.exit id) st
  | .ret, st, K => K .ret st
  | .label _, st, K => K .normal st
  | .rangeFunc f ps assign body, st, K =>
    let go (r : Nat) (l : Nat) (h : Heap) (d : List ADef) : Option A := match ev st.t f with
      | .fn g first cap => call A (.fn g) (appA first (.yield l :: cap)) (h.put l (.loop ⟨.ready, none, fid, st.t, ps.toList, assign, body, r⟩)) .off fun out h' _ => (match out with
        | .ret _ => (match h'.m l with
          | some (.loop x) => (match x.state with
            | .busy => none
            | _ => (match x.pending with
              | none => K .normal { st with h := h'.put l (.loop { x with state := .exhausted }), d := d }
              | some .ret => K .ret { st with h := h'.put l (.loop { x with state := .exhausted }), d := d }
              | some (.exit j) => K (.exit j) { st with h := h'.put l (.loop { x with state := .exhausted }), d := d }
              | _ => none))
          | _ => none)
        | .pan v => K (.pan v) { st with h := h', d := d })
      | _ => none
    (match rd with
      | none => go st.h.next (st.h.next + 1) ((st.h.put st.h.next (.dfr true)).bump.bump) (.mark st.h.next :: st.d)
      | some l₀ => (match st.h.m l₀ with
        | some (.loop x) => go x.defers st.h.next st.h.bump st.d
        | _ => none))
  | _, _, _ => none

def lenT : List Tmp → Nat
  | [] => 0
  | _ :: l => lenT l + 1
def bindT : List AV → List Tmp → List AV → List AV
  | t, p :: ps, a :: as => bindT (setL t p a) ps as
  | t, _, _ => t
def settleM : Md → Md
  | .rcd _ => .ret
  | u => u
def resList (t : List AV) (h : Heap) : List ResultVar → (List AV → Option A) → Option A
  | [], K => K []
  | .tmp i :: rs, K => resList t h rs fun vs => K (nth t i :: vs)
  | .cell a ty :: rs, K => asAdr (nth t a) fun p => loadK P ty h p fun v => resList t h rs fun vs => K (v :: vs)
def resK (fn : Func) (t : List AV) (h : Heap) (K : AV → Option A) : Option A := resList P t h fn.results.toList fun vs => match vs with
  | [v] => K v
  | vs => K (.tup vs)
def leave (call : CallS A) (fn : Func) (t : List AV) (r : Md) : List ADef → Md → Heap → (Out → Heap → Md → Option A) → Option A
  | [], .ret, h, K => resK P fn t h fun v => K (.ret v) h r
  | [], .pan v, h, K => K (.pan v) h r
  | [], _, _, _ => none
  | .mark b :: ds, u, h, K => (match h.m b with
    | some (.dfr true) => leave call fn t r ds u (h.put b (.dfr false)) K
    | _ => none)
  | .call f args :: ds, u, h, K => call (.fn f) args h u fun out h' u' => (match out with
    | .ret _ => leave call fn t r ds (settleM u') h' K
    | .pan _ => none)

/-- What is told of a function once for all (an 'oracle'). -/
abbrev CallF := (A : Type) → List AV → Heap → Md → (Out → Heap → Md → Option A) → Option A
def evCall (S : FuncId → Option CallF) (tb : FuncId → Option FnP) : Nat → CallP
  | 0, _, _, _, _, _, _ => none
  | k + 1, A, .fn f, args, h, u, K => (match S f with
    | some g => g A args h u K
    | none => match tb f with
    | none => none
    | some e => evCode P e.plan (evCall S tb k) f none e.code ⟨appA args (repA .dead (e.fn.ntmps - lenA args)), h, [], u⟩ fun x st => (match x with
        | .normal => leave P (evCall S tb k A) e.fn st.t st.r st.d .ret st.h K
        | .ret => leave P (evCall S tb k A) e.fn st.t st.r st.d .ret st.h K
        | .pan v => leave P (evCall S tb k A) e.fn st.t st.r st.d (.pan v) st.h K
        | .exit _ => none))
  | k + 1, _, .yield l, args, h, u, K => (match h.m l, u with
    | some (.loop x), .off => (match tb x.fn with
      | none => none
      | some e => guardK (Nat.beq (lenA args) (lenT x.params))
        (evCode P e.plan (evCall S tb k) x.fn (some l) x.assign ⟨bindT x.tmps x.params args, h, [], .off⟩ fun ex st => (match ex with
          | .normal => (match st.h.m l with
            | some (.loop y) => (match y.state with
              | .ready => evCode P e.plan (evCall S tb k) x.fn (some l) x.body { st with h := st.h.put l (.loop { y with state := .busy }) } fun ex st => (match st.h.m l, ex with
                | some (.loop z), .normal => K (.ret (.bool true)) (st.h.put l (.loop { z with state := .ready, pending := none })) .off
                | some (.loop z), .ret => K (.ret (.bool false)) (st.h.put l (.loop { z with state := .done, pending := some .ret })) .off
                | some (.loop z), .exit j => K (.ret (.bool false)) (st.h.put l (.loop { z with state := .done, pending := some (.exit j) })) .off
                | _, _ => none)
              | _ => none)
            | _ => none)
          | _ => none)))
    | _, _ => none)
end
end Go.Ev
