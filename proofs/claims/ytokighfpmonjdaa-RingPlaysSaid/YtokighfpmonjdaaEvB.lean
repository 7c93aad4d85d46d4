/- The evaluator, second part: regions whose order is drawn, code, calls. Definitions only. -/
import Derived.Test.YtokighfpmonjdaaEvA
namespace Go.Ev
section
variable {A : Type} (P : Program)

mutual
def sameF : AV → AV → Bool
  | .int k a, .int k' b => decide (k = k') && a == b
  | .bool a, .bool b => a == b
  | .str a, .str b => eqS a b
  | .ptr p, .ptr q => decide (p = q)
  | .sl p l c e s, .sl p' l' c' e' s' => decide (p = p') && Nat.beq l l' && Nat.beq c c' && (e == e') && Nat.beq s s'
  | .map r, .map r' => decide (r = r')
  | .nilf, .nilf => true
  | .nili, .nili => true
  | .yield l, .yield l' => Nat.beq l l'
  | .fz x l e s, .fz y l' e' s' => sameL x y && Nat.beq l l' && (e == e') && Nat.beq s s'
  | .gr p l s, .gr p' l' s' => decide (p = p') && Nat.beq l l' && Nat.beq s s'
  | .fp x o, .fp y o' => sameL x y && Nat.beq o o'
  | _, _ => false
def sameL : List AV → List AV → Bool
  | [], [] => true
  | a :: x, b :: y => sameF a b && sameL x y
  | _, _ => false
end
def sameV : AV → AV → Bool
  | .agg x, .agg y => sameL x y
  | .tup x, .tup y => sameL x y
  | .fn f a c, .fn f' a' c' => Nat.beq f f' && sameL a a' && sameL c c'
  | a, b => sameF a b

/-- What an operation of a region whose order is drawn needs of the heap: nothing · nothing, it makes a block · it reads · all. -/
inductive Cls where | p | a | r | w
  deriving DecidableEq
/-- How a region is gone through: the operation; what it needs; the reads (done) that are looked at again behind it; the writers (done) ahead of which it is looked at again. -/
abbrev Sched := List (Nat × Cls × List Nat × List Nat)
/-- What stays at a loop's head: temporaries; cells of what temporaries point to. All else is forgotten, or not written any more. -/
structure Norm where
  keep : List Tmp
  der : List (Tmp × List Nat)
/-- Region by region: what is forgotten ahead of it; how it is gone through where its order is drawn; what stays at the head of a loop that begins with it. -/
structure Plan where
  kill : Nat → List Tmp
  sched : Nat → Option Sched
  norm : Nat → Option Norm := fun _ => none
  /-- Where nothing is told. -/
  stop : Nat → Bool := fun _ => false
/-- A plan by which at some regions nothing is told: so what is not looked at costs nothing. -/
def Plan.stops (pl : Plan) (so : Nat → Bool) : Plan := ⟨pl.kill, pl.sched, pl.norm, so⟩
structure FnP where
  fn : Func
  code : Code
  plan : Plan
abbrev CallP := (A : Type) → CallS A

def heapAt (i : Nat) : List (Nat × Heap) → Option Heap
  | [] => none
  | (j, h) :: l => bif Nat.beq i j then some h else heapAt i l
def Heap.empty (h : Heap) : Heap := ⟨fun _ => none, h.next⟩
def Blk.demote : Blk → Option Blk
  | .cells _ vs => some (.cells false vs)
  | _ => none
def Heap.demote (h : Heap) : Heap := ⟨fun i => (h.m i).bind Blk.demote, h.next⟩
def Blk.writes : Blk → Bool
  | .cells w _ => w
  | _ => true
def simple : AV → Bool
  | .int _ _ | .bool _ | .str _ => true
  | _ => false
/-- One operation of such a region. -/
def drawOne (call : CallP) (c : Cls) (o : Oper) (t : List AV) (h : Heap) (id : Nat) : Option (AV × Heap) := match c with
  | .p => (match prim P o (ev t) h.empty id fun v _ => some v with
    | some v => bif !news o.op || simple v then some (v, h) else none
    | none => none)
  | .a => (match prim P o (ev t) h.empty id fun v h' => some (v, h'.m id) with
    | some (v, some b) => bif b.writes then some (v, h.put id b) else none
    | some (v, none) => bif simple v then some (v, h) else none
    | none => none)
  | .r => (match prim P o (ev t) h.demote id fun v _ => some v with
    | some v => bif !news o.op || simple v then some (v, h) else none
    | none => none)
  | .w => (match o.op with
    | .call { callee := .value f, args, .. } => calleeK (call _) (ev t f) (args.toList.map (ev t)) h fun out h _ => (match out with
      | .ret v => some (v, h)
      | .pan _ => none)
    | _ => prim P o (ev t) h id fun v h' => some (v, h'))
/-- Was it carried out, by its guard's value? -/
def doneB (ops : Array Oper) (o : Oper) (t : List AV) : Option Bool := match o.guard with
  | none => some true
  | some (j, want) => match ops[j]? with
    | none => none
    | some g => match g.dst with
      | none => none
      | some d => match nth t d with
        | .bool b => some (bif b then want else !want)
        | .tup _ => some false
        | _ => none
def sameAt (t : List AV) (dst : Option Tmp) (v : AV) : Bool := match dst with
  | none => true
  | some d => sameV v (nth t d)
/-- An operation that reads, once more, in another heap: it must tell what it told. -/
def again (ops : Array Oper) (t : List AV) (h : Heap) (base i : Nat) : Bool := match ops[i]? with
  | none => false
  | some o => match doneB ops o t with
    | none => false
    | some false => true
    | some true => match prim P o (ev t) h.demote (base + i) fun v _ => some v with
      | none => false
      | some v => (!news o.op || simple v) && sameAt t o.dst v
def againAll (ops : Array Oper) (t : List AV) (h : Heap) (base : Nat) : List Nat → Bool
  | [] => true
  | i :: is => again P ops t h base i && againAll ops t h base is
def againEach (ops : Array Oper) (t : List AV) (base i : Nat) (sn : List (Nat × Heap)) : List Nat → Bool
  | [] => true
  | w :: ws => (match heapAt w sn with
    | none => true
    | some h => again P ops t h base i) && againEach ops t base i sn ws
def drawOps (call : CallP) (ops : Array Oper) (base : Nat) : Sched → List AV → Heap → List (Nat × Heap) → Option (List AV × Heap)
  | [], t, h, _ => some (t, h)
  | (i, c, af, bf) :: rest, t, h, sn => match ops[i]? with
    | none => none
    | some o => match doneB ops o t with
      | none => none
      | some true => (match drawOne P call c o t h (base + i) with
        | none => none
        | some (v, h') => bif againAll P ops (putT t o.dst v) h' base af && againEach P ops (putT t o.dst v) base i sn bf then
            drawOps call ops base rest (putT t o.dst v) h' ((i, h) :: sn) else none)
      | some false => drawOps call ops base rest (putT t o.dst (.tup [])) h sn

/-! The same, with what follows told ahead: so a run may part where what is not known decides. -/
def drawOneK (call : CallP) (c : Cls) (o : Oper) (t : List AV) (h : Heap) (id : Nat) (K : AV → Heap → Option A) : Option A := match c with
  | .p => prim P o (ev t) h.empty id fun v _ => bif !news o.op || simple v then K v h else none
  | .a => prim P o (ev t) h.empty id fun v h' => (match h'.m id with
    | some b => bif b.writes then K v (h.put id b) else none
    | none => bif simple v then K v h else none)
  | .r => prim P o (ev t) h.demote id fun v _ => bif !news o.op || simple v then K v h else none
  | .w => (match o.op with
    | .call { callee := .value f, args, .. } => calleeK (call A) (ev t f) (args.toList.map (ev t)) h fun out h _ => (match out with
      | .ret v => K v h
      | .pan _ => none)
    | _ => prim P o (ev t) h id K)
def againK (ops : Array Oper) (t : List AV) (h : Heap) (base i : Nat) (K : Option A) : Option A := match ops[i]? with
  | none => none
  | some o => match doneB ops o t with
    | none => none
    | some d => bif d then prim P o (ev t) h.demote (base + i) (fun v _ => bif (!news o.op || simple v) && sameAt t o.dst v then K else none) else K
def againAllK (ops : Array Oper) (t : List AV) (h : Heap) (base : Nat) (K : Option A) : List Nat → Option A
  | [] => K
  | i :: is => againK P ops t h base i (againAllK ops t h base K is)
def againEachK (ops : Array Oper) (t : List AV) (base i : Nat) (sn : List (Nat × Heap)) (K : Option A) : List Nat → Option A
  | [] => K
  | w :: ws => match heapAt w sn with
    | none => againEachK ops t base i sn K ws
    | some h => againK P ops t h base i (againEachK ops t base i sn K ws)
def drawOpsK (call : CallP) (ops : Array Oper) (base : Nat) (K : List AV → Heap → Option A) : Sched → List AV → Heap → List (Nat × Heap) → Option A
  | [], t, h, _ => K t h
  | (i, c, af, bf) :: rest, t, h, sn => match ops[i]? with
    | none => none
    | some o => guarded ops o t
        (fun t => drawOneK P call c o t h (base + i) fun v h' => againAllK P ops (putT t o.dst v) h' base (againEachK P ops (putT t o.dst v) base i sn
          (drawOpsK call ops base K rest (putT t o.dst v) h' ((i, h) :: sn)) bf) af)
        (fun t => drawOpsK call ops base K rest (putT t o.dst (.tup [])) h sn)

/-- The operations that are gone through by the plan; the others come behind them, in order. -/
def mainOps (ops : Array Oper) (s : Sched) : Array Oper := ⟨ops.toList.take s.length⟩
def setLoop (h : Heap) (l : Nat) (x : ALoop) : Heap := h.put l (.loop x)

/-! ### A heap seen by other numbers, with less in it -/
def find1 (b : Nat) : List (Nat × Nat) → Option Nat
  | [] => none
  | x :: l => bif Nat.beq b x.1 then some x.2 else find1 b l
def look (c : Nat) : List (Nat × Blk) → Option Blk
  | [] => none
  | x :: l => bif Nat.beq c x.1 then some x.2 else look c l
def mkHeap (l : List (Nat × Blk)) (n : Nat) : Heap := ⟨fun c => look c l, n⟩
/-- So many, come what may. -/
def fixLen : Nat → List AV → List AV
  | 0, _ => []
  | n + 1, [] => .dead :: fixLen n []
  | n + 1, c :: cs => c :: fixLen n cs
def mapCyc (f : Option TypeId → AV → AV) (all : List (Option TypeId)) : List (Option TypeId) → List AV → List AV
  | _, [] => []
  | l :: ls, c :: cs => f l c :: mapCyc f all ls cs
  | [], c :: cs => match all with
    | [] => f none c :: mapCyc f all [] cs
    | l :: ls => f l c :: mapCyc f all ls cs
def szOf (e : TypeId) : Nat := match P.info? e with
  | some i => i.size
  | none => 0
def catL : List (List (Option TypeId)) → List (Option TypeId)
  | [] => []
  | x :: l => x ++ catL l
def repT (x : List (Option TypeId)) : Nat → List (Option TypeId)
  | 0 => []
  | n + 1 => x ++ repT x n
/-- For each cell of a type: of what it is a slice. -/
def leaves : Nat → TypeId → List (Option TypeId)
  | 0, _ => []
  | k + 1, t => match P.underlying t with
    | some (.slice e) => [some e]
    | some (.struct fs) => catL (fs.toList.map fun f => leaves k f.type)
    | some (.array n e) => repT (leaves k e) n
    | _ => [none]
def deepT : Nat := 8
def eLeaves (l : Option TypeId) : List (Option TypeId) := match l with
  | some e => leaves P deepT e
  | none => []
/-- A value by other numbers. What the numbers do not tell of is not written any more (a slice), or forgotten. 'pur': no numbers at all. -/
def vw (φ : List (Nat × Nat)) (h : Heap) : (pur : Bool) → Nat → Option TypeId → AV → AV
  | _, 0, _, _ => .dead
  | pur, k + 1, l, v =>
    let slice (b o len sz : Nat) : AV := match h.m b with
      | some (.cells _ vs) => .fz (fixLen (len * sz) (mapCyc (vw φ h true k) (eLeaves P l) (eLeaves P l) (dropA vs o))) len false sz
      | _ => .dead
    match v with
    | .ptr (some (b, o)) => (match find1 b φ with
      | some c => bif pur then .dead else .ptr (some (c, o))
      | none => .dead)
    | .sl none len cap ex sz => (match l with
      | some e => .fz [] 0 false (szOf P e)
      | none => .sl none len cap ex sz)
    | .sl (some (b, o)) len cap ex sz => (match find1 b φ with
      | some c => bif pur then .dead else .sl (some (c, o)) len cap ex sz
      | none => slice b o len sz)
    | .gr (b, o) len sz => (match find1 b φ with
      | some c => bif pur then .dead else .gr (c, o) len sz
      | none => slice b o len sz)
    | .fz cs len ex sz => (match l with
      | some _ => .fz cs len false sz
      | none => .fz cs len ex sz)
    | .map (some b) => (match find1 b φ with
      | some c => bif pur then .dead else .map (some c)
      | none => .dead)
    | .yield b => (match find1 b φ with
      | some c => bif pur then .dead else .yield c
      | none => .dead)
    | .fn f a c => .fn f (a.map (vw φ h pur k none)) (c.map (vw φ h pur k none))
    | .iface t x => .iface t (vw φ h pur k none x)
    | .agg cs => .agg (mapCyc (vw φ h pur k) (eLeaves P l) (eLeaves P l) cs)
    | .tup cs => .tup (cs.map (vw φ h pur k none))
    | v => v
def deepV : Nat := 8
def vwB (φ : List (Nat × Nat)) (h : Heap) (l : Option TypeId) : Blk → Option Blk
  | .cells w vs => some (.cells w (mapCyc (vw P φ h false deepV) (eLeaves P l) (eLeaves P l) vs))
  | .map es c => some (.map (es.map fun e => (vw P φ h false deepV none e.1, vw P φ h false deepV none e.2.1, e.2.2)) c)
  | .loop x => (match find1 x.defers φ with
    | some d => some (.loop { x with tmps := x.tmps.map (vw P φ h false deepV none), defers := d })
    | none => none)
  | .dfr b => some (.dfr b)
def vwBlks (φ : List (Nat × Nat)) (h : Heap) (ty : Nat → Option TypeId) : List (Nat × Nat) → List (Nat × Blk)
  | [] => []
  | (b, c) :: l => match (h.m b).bind (vwB P φ h (ty b)) with
    | some x => (c, x) :: vwBlks φ h ty l
    | none => vwBlks φ h ty l
def vwD (φ : List (Nat × Nat)) (h : Heap) : ADef → ADef
  | .call f args => .call f (args.map (vw P φ h false deepV none))
  | .mark b => .mark b

/-! ### What stays at a loop's head -/
def appO : List (Option Nat) → List (Option Nat) → List (Option Nat)
  | [], l => l
  | x :: k, l => x :: appO k l
def idV : AV → Option Nat
  | .sl (some p) _ _ _ _ => some p.1
  | .gr p _ _ => some p.1
  | .ptr (some p) => some p.1
  | .map r => r
  | _ => none
def posV : AV → List (Option Nat)
  | .agg cs => cs.map idV
  | .fn _ a c => none :: appO (a.map idV) (c.map idV)
  | v => [idV v]
def posT (t : List AV) : List Tmp → List (Option Nat)
  | [] => []
  | i :: is => posV (nth t i) ++ posT t is
/-- Where what is pointed to (or a list) lies. -/
def placeV : AV → Option (Nat × Nat)
  | .ptr p => p
  | .sl p _ _ _ _ => p
  | .gr p _ _ => some p
  | _ => none
/-- What a way through cells (and a loop's temporaries) leads to. -/
def follow (h : Heap) : List Nat → AV → AV
  | [], v => v
  | k :: ks, v => match v with
    | .yield b => (match h.m b with
      | some (.loop x) => follow h ks (nth x.tmps k)
      | _ => .dead)
    | .fn _ _ c => follow h ks (nth c k)
    | v => (match placeV v with
      | some p => (match h.m p.1 with
        | some (.cells _ vs) => follow h ks (nth vs (p.2 + k))
        | _ => .dead)
      | none => .dead)
/-- Beside temporaries: cells of what they point to; or, behind 1000, a way. -/
def posD (t : List AV) (h : Heap) : List (Tmp × List Nat) → List (Option Nat)
  | [] => []
  | (i, 1000 :: ks) :: l => idV (follow h ks (nth t i)) :: posD t h l
  | (i, ks) :: l => (match nth t i with
    | .yield b => (match h.m b with
      | some (.loop x) => ks.map fun k => idV (nth x.tmps k)
      | _ => ks.map fun _ => none)
    | v => (match placeV v with
      | some p => (match h.m p.1 with
        | some (.cells _ vs) => ks.map fun k => idV (nth vs (p.2 + k))
        | _ => ks.map fun _ => none)
      | none => ks.map fun _ => none)) ++ posD t h l
def pairsOf (n0 : Nat) : List (Option Nat) → Nat → List (Nat × Nat) → List (Nat × Nat)
  | [], _, acc => acc
  | none :: l, i, acc => pairsOf n0 l (i + 1) acc
  | some b :: l, i, acc => bif Nat.ble n0 b && isNone' (find1 b acc) then pairsOf n0 l (i + 1) ((b, n0 + i) :: acc) else pairsOf n0 l (i + 1) acc
def idents (h : Heap) : Nat → List (Nat × Nat)
  | 0 => []
  | n + 1 => match h.m n with
    | some _ => (n, n) :: idents h n
    | none => idents h n
def lenO : List (Option Nat) → Nat
  | [] => 0
  | _ :: l => lenO l + 1
def keepT (f : AV → AV) (keep : List Tmp) : Nat → List AV → List AV
  | _, [] => []
  | i, v :: t => (bif keep.any (Nat.beq i) then f v else .dead) :: keepT f keep (i + 1) t
/-- (i, [2000]): what temporary i tells of is not written any more; (i, [3000]): so it is where the loop is left. -/
def isMark (k : Nat) : List Nat → Bool
  | [j] => Nat.beq j k
  | _ => false
def marked (k : Nat) (i : Tmp) : List (Tmp × List Nat) → Bool
  | [] => false
  | x :: l => (Nat.beq x.1 i && isMark k x.2) || marked k i l
def posOf (der : List (Tmp × List Nat)) : List Tmp → List Tmp
  | [] => []
  | i :: l => bif marked 2000 i der then posOf der l else i :: posOf der l
def Norm.pos (N : Norm) : List Tmp := posOf N.der N.keep
def outD (der : List (Tmp × List Nat)) : List (Tmp × List Nat) → List (Tmp × List Nat)
  | [] => []
  | x :: l => bif isMark 3000 x.2 then (x.1, [2000]) :: outD der l else bif marked 3000 x.1 der then outD der l else x :: outD der l
def Norm.on (N : Norm) : Ex → Norm
  | .normal => N
  | _ => ⟨N.keep, outD N.der N.der⟩
/-- The lists (and lists in them; behind a pointer, the lists in what it points to) that are not written any more. -/
def fzIds (t : List AV) (h : Heap) : List (Tmp × List Nat) → List (Option Nat)
  | [] => []
  | x :: l => bif isMark 2000 x.2 then (match nth t x.1 with
    | .ptr _ => none
    | v => idV v) :: appO (match placeV (nth t x.1) with
    | some p => (match h.m p.1 with
      | some (.cells _ vs) => vs.map idV
      | _ => [])
    | none => []) (fzIds t h l) else fzIds t h l
def isO (b : Nat) : Option Nat → Bool
  | some c => Nat.beq b c
  | none => false
def dropI (x : List (Option Nat)) : List (Nat × Nat) → List (Nat × Nat)
  | [] => []
  | y :: l => bif x.any (isO y.1) then dropI x l else y :: dropI x l
def idsN (N : Norm) (st : St) (n0 : Nat) : List (Nat × Nat) := dropI (fzIds st.t st.h N.der) (idents st.h n0)
def normSt (N : Norm) (n0 : Nat) (st : St) : St :=
  let ps := posT st.t N.pos ++ posD st.t st.h N.der
  let φ := pairsOf n0 ps 0 (idsN N st n0)
  { t := keepT (vw P φ st.h false deepV none) N.keep 0 st.t, h := mkHeap (vwBlks P φ st.h (fun _ => none) φ) (n0 + lenO ps), d := st.d.map (vwD P φ st.h), r := st.r }
def markLow (n0 : Nat) : List ADef → Bool
  | [] => true
  | .mark b :: l => Nat.blt b n0 && markLow n0 l
  | .call _ _ :: l => markLow n0 l
def normK (N : Norm) (n0 : Nat) (st : St) (K : St → Option A) : Option A := match st.r with
  | .off => guardK (markLow n0 st.d) (K (normSt P N n0 st))
  | _ => none
def headId : Code → Option Nat
  | .region id _ _ => some id
  | .seq a _ => headId a
  | .block _ a => headId a
  | _ => none
def loopK (N : Norm) (n0 : Nat) (body : St → (Ex → St → Option A) → Option A) (st : St) (K : Ex → St → Option A) : Option A :=
  body st fun e s => match e with
    | .pan v => K (.pan v) s
    | e => normK P (N.on e) n0 s fun s => K e s

/-- What is told of a loop once for all. -/
abbrev LoopF := (A : Type) → St → (Ex → St → Option A) → Option A
def evCode (pl : Plan) (call : CallP) (lo : Nat → Option LoopF) (fid : FuncId) (rd : Option Nat) : Code → St → (Ex → St → Option A) → Option A
  | .skip, st, K => K .normal st
  | .region id ops draw, st, K => bif pl.stop id then none else bif draw then
      (match pl.sched id with
        | none => none
        | some s => drawOpsK P call (mainOps ops s) st.h.next (fun t h =>
            seqOps P (call A) rd ops (ops.toList.drop s.length) { st with t := t, h := h } (fun st' => K .normal st') (fun v st' => K (.pan v) st'))
          s (killT st.t (pl.kill id)) ⟨st.h.m, st.h.next + ops.size⟩ [])
      else seqOps P (call A) rd ops ops.toList { st with t := killT st.t (pl.kill id) } (fun st' => K .normal st') (fun v st' => K (.pan v) st')
  | .seq a b, st, K => evCode pl call lo fid rd a st fun e st' => match e with
    | .normal => evCode pl call lo fid rd b st' K
    | e => K e st'
  | .cond c a b, st, K => asBool (ev st.t c) fun t => bif t then evCode pl call lo fid rd a st K else evCode pl call lo fid rd b st K
  | .block id b, st, K => evCode pl call lo fid rd b st fun e st' => match e with
    | .exit j => bif Nat.beq j id then K .normal st' else K (.exit j) st'
    | e => K e st'
  | .loop b, st, K => (match rd, (headId b).bind lo with
    | none, some g => g A st K
    | _, _ => (match (headId b).bind pl.norm with
      | none => loopN (fun st K => evCode pl call lo fid rd b st K) rounds st K
      | some N => normK P N st.h.next st fun s => loopN (loopK P N st.h.next (fun st K => evCode pl call lo fid rd b st K)) rounds s K))
  | .exit id, st, K => K (.exit id) st
  | .ret, st, K => K .ret st
  | .label _, st, K => K .normal st
  | .rangeFunc f ps assign body, st, K =>
    let go (r : Nat) (l : Nat) (h : Heap) (d : List ADef) : Option A := match ev st.t f with
      | .fn g first cap => call A (.fn g) (appA first (.yield l :: cap)) (h.put l (.loop ⟨.ready, none, fid, st.t, ps.toList, assign, body, r⟩)) .off fun out h' _ => (match out with
        | .ret _ => (match h'.m l with
          | some (.loop x) => (match x.state with
            | .busy => none
            | _ => (match x.pending with
              | none => K .normal { st with h := h'.put l (.loop { x with state := .exhausted }), d := d }
              | some .ret => K .ret { st with h := h'.put l (.loop { x with state := .exhausted }), d := d }
              | some (.exit j) => K (.exit j) { st with h := h'.put l (.loop { x with state := .exhausted }), d := d }
              | _ => none))
          | _ => none)
        | .pan v => K (.pan v) { st with h := h', d := d })
      | _ => none
    (match rd with
      | none => go st.h.next (st.h.next + 1) ((st.h.put st.h.next (.dfr true)).bump.bump) (.mark st.h.next :: st.d)
      | some l₀ => (match st.h.m l₀ with
        | some (.loop x) => go x.defers st.h.next st.h.bump st.d
        | _ => none))
  | _, _, _ => none

def lenT : List Tmp → Nat
  | [] => 0
  | _ :: l => lenT l + 1
def bindT : List AV → List Tmp → List AV → List AV
  | t, p :: ps, a :: as => bindT (setL t p a) ps as
  | t, _, _ => t
def settleM : Md → Md
  | .rcd _ => .ret
  | u => u
def resList (t : List AV) (h : Heap) : List ResultVar → (List AV → Option A) → Option A
  | [], K => K []
  | .tmp i :: rs, K => resList t h rs fun vs => K (nth t i :: vs)
  | .cell a ty :: rs, K => asAdr (nth t a) fun p => loadK P ty h p fun v => resList t h rs fun vs => K (v :: vs)
def resK (fn : Func) (t : List AV) (h : Heap) (K : AV → Option A) : Option A := resList P t h fn.results.toList fun vs => match vs with
  | [v] => K v
  | vs => K (.tup vs)
def leave (call : CallS A) (fn : Func) (t : List AV) (r : Md) : List ADef → Md → Heap → (Out → Heap → Md → Option A) → Option A
  | [], .ret, h, K => resK P fn t h fun v => K (.ret v) h r
  | [], .pan v, h, K => K (.pan v) h r
  | [], _, _, _ => none
  | .mark b :: ds, u, h, K => (match h.m b with
    | some (.dfr true) => leave call fn t r ds u (h.put b (.dfr false)) K
    | _ => none)
  | .call f args :: ds, u, h, K => call (.fn f) args h u fun out h' u' => (match out with
    | .ret _ => leave call fn t r ds (settleM u') h' K
    | .pan _ => none)

/-- What is told of a function once for all (an 'oracle'). -/
abbrev CallF := (A : Type) → List AV → Heap → Md → (Out → Heap → Md → Option A) → Option A
/-- Oracles: of functions; of loops, by the function and the loop's first region. -/
structure Orc where
  f : FuncId → Option CallF
  l : FuncId → Nat → Option LoopF
  s : FuncId → Nat → Bool := fun _ _ => false
def evCall (S : Orc) (tb : FuncId → Option FnP) : Nat → CallP
  | 0, _, _, _, _, _, _ => none
  | k + 1, A, .fn f, args, h, u, K => (match S.f f with
    | some g => g A args h u K
    | none => match tb f with
    | none => none
    | some e => evCode P (e.plan.stops (S.s f)) (evCall S tb k) (S.l f) f none e.code ⟨appA args (repA .dead (e.fn.ntmps - lenA args)), h, [], u⟩ fun x st => (match x with
        | .normal => leave P (evCall S tb k A) e.fn st.t st.r st.d .ret st.h K
        | .ret => leave P (evCall S tb k A) e.fn st.t st.r st.d .ret st.h K
        | .pan v => leave P (evCall S tb k A) e.fn st.t st.r st.d (.pan v) st.h K
        | .exit _ => none))
  | k + 1, _, .yield l, args, h, u, K => (match h.m l, u with
    | some (.loop x), .off => (match tb x.fn with
      | none => none
      | some e => guardK (Nat.beq (lenA args) (lenT x.params))
        (evCode P (e.plan.stops (S.s x.fn)) (evCall S tb k) (fun _ => none) x.fn (some l) x.assign ⟨bindT x.tmps x.params args, h, [], .off⟩ fun ex st => (match ex with
          | .normal => (match st.h.m l with
            | some (.loop y) => (match y.state with
              | .ready => evCode P (e.plan.stops (S.s x.fn)) (evCall S tb k) (fun _ => none) x.fn (some l) x.body { st with h := st.h.put l (.loop { y with state := .busy }) } fun ex st => (match st.h.m l, ex with
                | some (.loop z), .normal => K (.ret (.bool true)) (st.h.put l (.loop { z with state := .ready, pending := none })) .off
                | some (.loop z), .ret => K (.ret (.bool false)) (st.h.put l (.loop { z with state := .done, pending := some .ret })) .off
                | some (.loop z), .exit j => K (.ret (.bool false)) (st.h.put l (.loop { z with state := .done, pending := some (.exit j) })) .off
                | _, _ => none)
              | _ => none)
            | _ => none)
          | _ => none)))
    | _, _ => none)
end
end Go.Ev
