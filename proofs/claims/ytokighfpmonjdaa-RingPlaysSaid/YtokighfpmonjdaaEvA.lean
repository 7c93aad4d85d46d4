/- An evaluator of the model's code: what a function answers, told on abstract values and an abstract heap. Definitions only. -/
import Derived.Control
namespace Go.Ev

/-- Abstract values. 'dead': nothing is known. -/
inductive AV where
  | dead
  | int (k : IntKind) (n : Int)
  | bool (b : Bool)
  | str (s : List UInt8)
  | ptr (p : Option (Nat × Nat))
  | sl (p : Option (Nat × Nat)) (len cap : Nat) (ex : Bool) (sz : Nat)
  | map (r : Option Nat)
  | fn (f : FuncId) (first cap : List AV)
  | yield (l : Nat)
  | nilf
  | iface (t : TypeId) (v : AV)
  | nili
  | agg (cs : List AV)
  | tup (vs : List AV)
  /-- A slice whose elements are never written any more, with its cells; 'ex': it has no room. One without elements may be nil. -/
  | fz (cs : List AV) (len : Nat) (ex : Bool) (sz : Nat)
  /-- A slice that has grown: nothing is known of its room. -/
  | gr (p : Nat × Nat) (len sz : Nat)
  /-- A pointer into such cells. -/
  | fp (cs : List AV) (o : Nat)
  deriving Inhabited

structure ALoop where
  state : LoopState
  pending : Option Code
  fn : FuncId
  tmps : List AV
  params : List Tmp
  assign : Code
  body : Code
  defers : Nat

/-- Abstract blocks. -/
inductive Blk where
  | cells (w : Bool) (vs : List AV)
  | map (es : List (AV × AV × Nat)) (clock : Nat)
  | loop (l : ALoop)
  | dfr (live : Bool)

structure Heap where
  m : Nat → Option Blk
  next : Nat

def upd (m : Nat → Option Blk) (i : Nat) (b : Option Blk) : Nat → Option Blk := fun j => bif Nat.beq j i then b else m j
def Heap.put (h : Heap) (i : Nat) (b : Blk) : Heap := ⟨upd h.m i (some b), h.next⟩
def Heap.kill (h : Heap) (i : Nat) : Heap := ⟨upd h.m i none, h.next⟩
def Heap.bump (h : Heap) : Heap := ⟨h.m, h.next + 1⟩

inductive ADef where
  | call (f : FuncId) (args : List AV)
  | mark (b : Nat)

/-- The mode of the frame below, as a deferred call sees it ('off': no deferred call). -/
inductive Md where
  | off
  | ret
  | pan (v : AV)
  | rcd (v : AV)

structure St where
  t : List AV
  h : Heap
  d : List ADef
  r : Md

inductive Ex where
  | normal
  | exit (id : Nat)
  | ret
  | pan (v : AV)

inductive Out where
  | ret (v : AV)
  | pan (v : AV)

inductive Cal where
  | fn (f : FuncId)
  | yield (l : Nat)

/-! ### Lists -/
def nth : List AV → Nat → AV
  | [], _ => .dead
  | x :: _, 0 => x
  | _ :: xs, n + 1 => nth xs n
def setL : List AV → Nat → AV → List AV
  | [], _, _ => []
  | _ :: xs, 0, v => v :: xs
  | x :: xs, n + 1, v => x :: setL xs n v
/-- From place o on, one by one. -/
def splice : List AV → Nat → List AV → List AV
  | vs, _, [] => vs
  | vs, o, c :: cs => splice (setL vs o c) (o + 1) cs
def dropA : List AV → Nat → List AV
  | xs, 0 => xs
  | [], _ + 1 => []
  | _ :: xs, n + 1 => dropA xs n
def takeA : List AV → Nat → List AV
  | _, 0 => []
  | [], _ + 1 => []
  | x :: xs, n + 1 => x :: takeA xs n
def repA (v : AV) : Nat → List AV
  | 0 => []
  | n + 1 => v :: repA v n
def lenA : List AV → Nat
  | [] => 0
  | _ :: xs => lenA xs + 1
def appA : List AV → List AV → List AV
  | [], ys => ys
  | x :: xs, ys => x :: appA xs ys
def killT : List AV → List Tmp → List AV
  | t, [] => t
  | t, i :: is => killT (setL t i .dead) is
def putT (t : List AV) (dst : Option Tmp) (v : AV) : List AV := match dst with | some d => setL t d v | none => t

/-! ### Constants and types -/
def ofLit1 : Value → AV
  | .int k n => .int k n
  | .bool b => .bool b
  | .string s => .str s.data.toList
  | .pointer none => .ptr none
  | .slice none 0 0 => .sl none 0 0 true 0
  | .map none => .map none
  | .nilFunc => .nilf
  | .nilIface => .nili
  | _ => .dead
def ofConst : Value → AV
  | .agg cs => .agg (cs.toList.map ofLit1)
  | v => ofLit1 v
def ev (t : List AV) : Operand → AV
  | .tmp i => nth t i
  | .const v => ofConst v
  | .global _ => .dead
  | .func f => .fn f [] []

section
variable {A : Type} (P : Program)

def asInt (k : IntKind) (v : AV) (K : Int → Option A) : Option A := match v with
  | .int k' n => if k' = k then K n else none
  | _ => none
/-- An integer of whatever kind. -/
def anyInt (v : AV) (K : IntKind → Int → Option A) : Option A := match v with
  | .int k n => K k n
  | _ => none
def asBool (v : AV) (K : Bool → Option A) : Option A := match v with
  | .bool b => K b
  | _ => none
def asStr (v : AV) (K : List UInt8 → Option A) : Option A := match v with
  | .str s => K s
  | _ => none
def asPtr (v : AV) (K : Option (Nat × Nat) → Option A) : Option A := match v with
  | .ptr p => K p
  | _ => none
/-- A slice, of one kind or the other. -/
def asSl2 (v : AV) (K : Option (Nat × Nat) → Nat → Nat → Bool → Nat → Option A) (F : List AV → Nat → Bool → Nat → Option A) : Option A := match v with
  | .sl p len cap ex sz => K p len cap ex sz
  | .gr p len sz => K (some p) len len false sz
  | .fz cs len ex sz => F cs len ex sz
  | _ => none
/-- A pointer that is not nil, of one kind or the other. -/
def asAdr2 (v : AV) (K : Nat × Nat → Option A) (F : List AV → Nat → Option A) : Option A := match v with
  | .ptr (some p) => K p
  | .fp cs o => F cs o
  | _ => none
/-- A pointer that is not nil. -/
def asAdr (v : AV) (K : Nat × Nat → Option A) : Option A := match v with
  | .ptr (some p) => K p
  | _ => none
def asSl (v : AV) (K : Option (Nat × Nat) → Nat → Nat → Bool → Nat → Option A) : Option A := match v with
  | .sl p len cap ex sz => K p len cap ex sz
  | .gr p len sz => K (some p) len len false sz
  | _ => none
def asMap (v : AV) (K : Option Nat → Option A) : Option A := match v with
  | .map r => K r
  | _ => none
def asAgg (v : AV) (K : List AV → Option A) : Option A := match v with
  | .agg cs => K cs
  | _ => none
def asTup (v : AV) (K : List AV → Option A) : Option A := match v with
  | .tup vs => K vs
  | _ => none
def isSl : AV → Bool
  | .sl _ _ _ _ _ | .gr _ _ _ | .fz _ _ _ _ => true
  | _ => false
def isNone' {α : Type} : Option α → Bool
  | none => true
  | some _ => false
def guardK (b : Bool) (x : Option A) : Option A := bif b then x else none

def flat : AV → Bool
  | .dead | .agg _ | .tup _ => false
  | _ => true
def flatL : List AV → Bool
  | [] => true
  | v :: vs => flat v && flatL vs
/-- The cells of a value that is stored. -/
def cellsK (v : AV) (K : List AV → Option A) : Option A := match v with
  | .agg cs => guardK (flatL cs) (K cs)
  | v => guardK (flat v) (K [v])

def isIntK (k : IntKind) : AV → Bool
  | .int k' _ => decide (k' = k)
  | _ => false
def intOf : AV → Int
  | .int _ n => n
  | _ => 0
def isBoolA : AV → Bool
  | .bool _ => true
  | _ => false
def boolOf : AV → Bool
  | .bool b => b
  | _ => false
def isStrA : AV → Bool
  | .str _ => true
  | _ => false
def strOf : AV → List UInt8
  | .str s => s
  | _ => []
/-- A slice that is not written any more, or nil. -/
def isFzN : AV → Bool
  | .fz _ _ _ _ => true
  | .sl none _ _ _ _ => true
  | _ => false
def fzC : AV → List AV
  | .fz cs _ _ _ => cs
  | _ => []
def fzL : AV → Nat
  | .fz _ len _ _ => len
  | _ => 0
def fzE : AV → Bool
  | .fz _ _ ex _ => ex
  | _ => true
def fzS : AV → Nat
  | .fz _ _ _ sz => sz
  | _ => 0
/-- Is a cell that is not written any more of its type? And the same by its parts. -/
def isT (d : TypeDesc) (v : AV) : Bool := match d with
  | .int k => isIntK k v
  | .bool => isBoolA v
  | .string => isStrA v
  | .slice _ => isFzN v
  | _ => true
def projT (d : TypeDesc) (v : AV) : AV := match d with
  | .int k => .int k (intOf v)
  | .bool => .bool (boolOf v)
  | .string => .str (strOf v)
  | .slice _ => .fz (fzC v) (fzL v) (fzE v) (fzS v)
  | _ => v
/-- A cell's value, as its type says what it is. -/
def asTy (d : TypeDesc) (v : AV) (K : AV → Option A) : Option A := match d with
  | .int k => guardK (isIntK k v) (K (.int k (intOf v)))
  | .bool => guardK (isBoolA v) (K (.bool (boolOf v)))
  | .string => guardK (isStrA v) (K (.str (strOf v)))
  | .pointer _ => asPtr v fun p => K (.ptr p)
  | .slice _ => guardK (isSl v) (K v)
  | .map _ _ => asMap v fun r => K (.map r)
  | _ => K v

def tyK (t : TypeId) (K : TypeDesc → Option A) : Option A := match P.underlying t with
  | some d => K d
  | none => none
def isAggD : TypeDesc → Bool
  | .struct _ | .array _ _ => true
  | _ => false
def sizeK (t : TypeId) (K : Nat → Option A) : Option A := match P.info? t with
  | some i => K i.size
  | none => none
/-- The zero value's cells. -/
def zeroK (t : TypeId) (K : List AV → Option A) : Option A := match P.info? t with
  | some i => (match i.zero with
    | some v => K (v.cells.toList.map ofLit1)
    | none => none)
  | none => none
/-- The zero value. -/
def zeroV (t : TypeId) (K : AV → Option A) : Option A := match P.info? t with
  | some i => (match i.zero with
    | some v => K (ofConst v)
    | none => none)
  | none => none

/-! ### Memory -/
def ldN (h : Heap) (p : Nat × Nat) (n : Nat) (K : List AV → Option A) : Option A := match h.m p.1 with
  | some (.cells _ vs) => guardK (Nat.ble (p.2 + n) (lenA vs)) (K (takeA (dropA vs p.2) n))
  | _ => none
def ld1 (h : Heap) (p : Nat × Nat) (K : AV → Option A) : Option A := match h.m p.1 with
  | some (.cells _ vs) => guardK (Nat.blt p.2 (lenA vs)) (K (nth vs p.2))
  | _ => none
def stN (h : Heap) (p : Nat × Nat) (cs : List AV) (K : Heap → Option A) : Option A := match h.m p.1 with
  | some (.cells true vs) => guardK (Nat.ble (p.2 + lenA cs) (lenA vs)) (K (h.put p.1 (.cells true (splice vs p.2 cs))))
  | _ => none
/-- For each cell of a type: what it is. -/
def repD (x : List TypeDesc) : Nat → List TypeDesc
  | 0 => []
  | n + 1 => x ++ repD x n
def catD : List (List TypeDesc) → List TypeDesc
  | [] => []
  | x :: l => x ++ catD l
def leafD : Nat → TypeId → List TypeDesc
  | 0, _ => []
  | k + 1, t => match P.underlying t with
    | some (.struct fs) => catD (fs.toList.map fun f => leafD k f.type)
    | some (.array n e) => repD (leafD k e) n
    | some d => [d]
    | none => []
def isTs (cs : List AV) : Nat → List TypeDesc → Bool
  | _, [] => true
  | o, d :: ds => isT d (nth cs o) && isTs cs (o + 1) ds
def projTs (cs : List AV) : Nat → List TypeDesc → List AV
  | _, [] => []
  | o, d :: ds => projT d (nth cs o) :: projTs cs (o + 1) ds
def lenD : List TypeDesc → Nat
  | [] => 0
  | _ :: l => lenD l + 1
/-- Out of cells that are not written any more. -/
def loadF (t : TypeId) (cs : List AV) (o : Nat) (K : AV → Option A) : Option A := tyK P t fun d =>
  bif isAggD d then sizeK P t fun n => guardK (Nat.beq (lenD (leafD P 8 t)) n) (guardK (Nat.ble (o + n) (lenA cs)) (guardK (isTs cs o (leafD P 8 t)) (K (.agg (projTs cs o (leafD P 8 t))))))
  else guardK (Nat.blt o (lenA cs)) (guardK (isT d (nth cs o)) (K (projT d (nth cs o))))
def loadK (t : TypeId) (h : Heap) (p : Nat × Nat) (K : AV → Option A) : Option A := tyK P t fun d =>
  bif isAggD d then sizeK P t fun n => ldN h p n fun cs => K (.agg cs)
  else ld1 h p fun v => asTy d v K

/-! ### Operations -/
def limit : Nat := 140737488355328
def binI (op : BinOp) (k : IntKind) (a b : Int) (K : AV → Option A) : Option A := match op with
  | .add => K (.int k (k.wrap (a + b)))
  | .sub => K (.int k (k.wrap (a - b)))
  | .mul => K (.int k (k.wrap (a * b)))
  | .quo => bif b == 0 then none else K (.int k (k.wrap (a.tdiv b)))
  | .rem => bif b == 0 then none else K (.int k (a.tmod b))
  | .and => K (.int k (k.wrap (BitVec.ofInt k.bits a &&& BitVec.ofInt k.bits b).toNat))
  | .or => K (.int k (k.wrap (BitVec.ofInt k.bits a ||| BitVec.ofInt k.bits b).toNat))
  | .xor => K (.int k (k.wrap (BitVec.ofInt k.bits a ^^^ BitVec.ofInt k.bits b).toNat))
  | .andNot => K (.int k (k.wrap (BitVec.ofInt k.bits a &&& ~~~BitVec.ofInt k.bits b).toNat))
  | .eql => K (.bool (a == b))
  | .neq => K (.bool (a != b))
  | .lss => K (.bool (decide (a < b)))
  | .leq => K (.bool (decide (a ≤ b)))
  | .gtr => K (.bool (decide (a > b)))
  | .geq => K (.bool (decide (a ≥ b)))
  | _ => none
def shI (op : BinOp) (k : IntKind) (a b : Int) (K : AV → Option A) : Option A := bif decide (b < 0) then none else match op with
  | .shl => K (.int k (k.wrap (a * 2 ^ (min b.toNat k.bits))))
  | .shr => K (.int k (a.fdiv (2 ^ (min b.toNat k.bits))))
  | _ => none
def lessS : List UInt8 → List UInt8 → Bool
  | _, [] => false
  | [], _ :: _ => true
  | a :: x, b :: y => a < b || (a == b && lessS x y)
def eqS : List UInt8 → List UInt8 → Bool
  | [], [] => true
  | a :: x, b :: y => a == b && eqS x y
  | _, _ => false
def lenS : List UInt8 → Nat
  | [] => 0
  | _ :: s => lenS s + 1
def appS : List UInt8 → List UInt8 → List UInt8
  | [], t => t
  | a :: s, t => a :: appS s t
def binS (op : BinOp) (a b : List UInt8) (K : AV → Option A) : Option A := match op with
  | .add => guardK (Nat.ble (lenS a + lenS b) limit) (K (.str (appS a b)))
  | .eql => K (.bool (eqS a b))
  | .neq => K (.bool (!eqS a b))
  | .lss => K (.bool (lessS a b))
  | .leq => K (.bool (lessS a b || eqS a b))
  | .gtr => K (.bool (!(lessS a b || eqS a b)))
  | .geq => K (.bool (!lessS a b))
  | _ => none
/-- Is a slice nil? -/
def slNil : AV → Option Bool
  | .sl p _ _ _ _ => some (isNone' p)
  | .gr _ _ _ => some false
  | .fz _ len _ _ => bif Nat.blt 0 len then some false else none
  | _ => none
def slEq (x y : AV) (K : Bool → Option A) : Option A := match slNil x, slNil y with
  | some a, some b => guardK (a || b) (K (a && b))
  | _, _ => none
/-- '==' where it is neither of numbers nor of strings. -/
def eqlK (t : TypeId) (x y : AV) (K : Bool → Option A) : Option A := tyK P t fun d => match d, x, y with
  | .bool, .bool a, .bool b => K (a == b)
  | .pointer _, .ptr none, .ptr q => K (isNone' q)
  | .pointer _, .ptr q, .ptr none => K (isNone' q)
  | .slice _, x, y => slEq x y K
  | .map _ _, .map none, .map q => K (isNone' q)
  | .map _ _, .map q, .map none => K (isNone' q)
  | .func _ _ _, .nilf, .nilf => K true
  | .func _ _ _, .nilf, .fn _ _ _ => K false
  | .func _ _ _, .fn _ _ _, .nilf => K false
  | _, _, _ => none
def binK (op : BinOp) (t : TypeId) (x y : AV) (K : AV → Option A) : Option A := match x with
  | .int k a => anyInt y fun k' b => match op with
    | .shl => shI op k a b K
    | .shr => shI op k a b K
    | _ => if k = k' then binI op k a b K else none
  | .str a => asStr y fun b => binS op a b K
  | x => match op with
    | .eql => eqlK P t x y fun b => K (.bool b)
    | .neq => eqlK P t x y fun b => K (.bool (!b))
    | _ => none
def unK (op : UnOp) (x : AV) (K : AV → Option A) : Option A := match op with
  | .neg => anyInt x fun k n => K (.int k (k.wrap (0 - n)))
  | .xor => anyInt x fun k n => K (.int k (k.wrap (BitVec.ofInt k.bits (if k.signed then -1 else k.max) ^^^ BitVec.ofInt k.bits n).toNat))
  | .not => asBool x fun b => K (.bool (!b))
  | _ => none
def bytesOf : List AV → Option (List UInt8)
  | [] => some []
  | .int .u8 n :: cs => (match bytesOf cs with
    | some s => some (UInt8.ofNat n.toNat :: s)
    | none => none)
  | _ => none
def cellsOfS : List UInt8 → List AV
  | [] => []
  | b :: s => .int .u8 b.toNat :: cellsOfS s
def convK (s d : TypeId) (x : AV) (h : Heap) (id : Nat) (K : AV → Heap → Option A) : Option A := tyK P s fun s' => tyK P d fun d' => match s', d' with
  | _, .int k => anyInt x fun _ n => K (.int k (k.wrap n)) h
  | .string, .string => asStr x fun b => K (.str b) h
  | .string, .slice e => tyK P e fun e' => (match e' with
    | .int .u8 => asStr x fun b => guardK (Nat.ble (lenS b) limit) (K (.sl (some (id, 0)) (lenS b) (lenS b) false 1) (h.put id (.cells true (cellsOfS b))))
    | _ => none)
  | .slice e, .string => tyK P e fun e' => (match e' with
    | .int .u8 => asSl2 x (fun p len _ _ _ => (match p with
      | none => K (.str []) h
      | some p => ldN h p len fun cs => (match bytesOf cs with
        | some b => K (.str b) h
        | none => none))) (fun cs _ _ sz => guardK (Nat.beq sz 1) (match bytesOf cs with
        | some b => K (.str b) h
        | none => none))
    | _ => none)
  | _, _ => none
/-- A composite value: the parts laid over the zero value. -/
def fillA (place : Nat → Option (Nat × Nat)) : List (Nat × AV) → List AV → (List AV → Option A) → Option A
  | [], cs, K => K cs
  | (i, v) :: rest, cs, K => match place i with
    | none => none
    | some (off, size) => cellsK v fun vs => guardK (Nat.beq (lenA vs) size) (guardK (Nat.ble (off + lenA vs) (lenA cs)) (fillA place rest (splice cs off vs) K))
def placesOf : List Field → Nat → Option (Nat × Nat)
  | [], _ => none
  | f :: _, 0 => (match P.info? f.type with
    | some i => some (f.offset, i.size)
    | none => none)
  | _ :: fs, n + 1 => placesOf fs n
def fieldsKnownA : List Field → Bool
  | [] => true
  | f :: fs => (P.info? f.type).isSome && fieldsKnownA fs
def buildK (t : TypeId) (parts : List (Nat × AV)) (K : AV → Option A) : Option A := zeroK P t fun zs => tyK P t fun d => match d with
  | .struct fs => guardK (fieldsKnownA P fs.toList) (fillA (placesOf P fs.toList) parts zs fun cs => K (.agg cs))
  | .array _ e => sizeK P e fun n => fillA (fun i => some (i * n, n)) parts zs fun cs => K (.agg cs)
  | _ => none
def repL (zs : List AV) : Nat → List AV
  | 0 => []
  | n + 1 => appA zs (repL zs n)
def buildSliceK (t : TypeId) (len : Nat) (parts : List (Nat × AV)) (h : Heap) (id : Nat) (K : AV → Heap → Option A) : Option A := tyK P t fun d => match d with
  | .slice e => sizeK P e fun n => zeroK P e fun zs => guardK (Nat.ble (len * n) 65536) (guardK (Nat.beq (lenA zs) n)
      (fillA (fun i => some (i * n, n)) parts (repL zs len) fun cs => guardK (Nat.beq (lenA cs) (len * n)) (K (.sl (some (id, 0)) len len true n) (h.put id (.cells true cs)))))
  | _ => none
def bytesK (t : TypeId) (K : Nat → Option A) : Option A := match P.info? t with
  | some i => K i.bytes
  | none => none
def makeSliceK (t : TypeId) (l c : AV) (h : Heap) (id : Nat) (K : AV → Heap → Option A) : Option A := tyK P t fun d => match d with
  | .slice e => asInt .i64 l fun l => asInt .i64 c fun c => sizeK P e fun n => bytesK P e fun by' => zeroK P e fun zs =>
      guardK (decide (0 ≤ l) && decide (l ≤ c) && decide (c ≤ limit) && decide (by' * c ≤ limit)) (guardK (Nat.beq (lenA zs) n)
        (K (.sl (some (id, 0)) l.toNat c.toNat true n) (h.put id (.cells true (repL zs c.toNat)))))
  | _ => none
def boundK (x : Option AV) (dflt : Nat) (K : Nat → Option A) : Option A := match x with
  | none => K dflt
  | some v => asInt .i64 v fun n => guardK (decide (0 ≤ n)) (K n.toNat)
def dropS : List UInt8 → Nat → List UInt8
  | s, 0 => s
  | [], _ + 1 => []
  | _ :: s, n + 1 => dropS s n
def takeS : List UInt8 → Nat → List UInt8
  | _, 0 => []
  | [], _ + 1 => []
  | b :: s, n + 1 => b :: takeS s n
/-- A part of a slice: of one that has grown, all from a place on is one that has grown. -/
def reslV (hi : Option AV) (p : Option (Nat × Nat)) (h l cap : Nat) (ex : Bool) (sz : Nat) : AV := match p, hi, ex with
  | some q, none, false => .gr (q.1, q.2 + l * sz) (h - l) sz
  | some q, _, _ => .sl (some (q.1, q.2 + l * sz)) (h - l) (cap - l) ex sz
  | none, _, _ => .sl none (h - l) (cap - l) ex sz
def sliceK (t : TypeId) (x : AV) (lo hi mx : Option AV) (K : AV → Option A) : Option A := tyK P t fun d => match d with
  | .string => asStr x fun s => (match mx with
    | none => boundK hi (lenS s) fun h => boundK lo 0 fun l => guardK (Nat.ble h (lenS s)) (guardK (Nat.ble l h) (K (.str (dropS (takeS s h) l))))
    | some _ => none)
  | .slice e => sizeK P e fun n => asSl2 x (fun p len cap ex sz => guardK (isNone' p || Nat.beq sz n) (match mx with
    | none => boundK hi len fun h => boundK lo 0 fun l => guardK (Nat.ble h cap) (guardK (Nat.ble l h)
        (K (reslV hi p h l cap ex sz)))
    | some m => boundK (some m) cap fun m => boundK hi len fun h => boundK lo 0 fun l => guardK (Nat.ble m cap) (guardK (Nat.ble h m) (guardK (Nat.ble l h)
        (K (.sl (match p with | some q => some (q.1, q.2 + l * sz) | none => none) (h - l) (m - l) true sz))))))
      (fun cs len ex sz => guardK (Nat.beq sz n) (match mx with
    | none => boundK hi len fun h => boundK lo 0 fun l => guardK (Nat.ble h len) (guardK (Nat.ble l h)
        (K (.fz (takeA (dropA cs (l * sz)) ((h - l) * sz)) (h - l) (ex && Nat.beq h len) sz)))
    | some m => boundK (some m) len fun m => boundK hi len fun h => boundK lo 0 fun l => guardK (Nat.ble m len) (guardK (Nat.ble h m) (guardK (Nat.ble l h)
        (K (.fz (takeA (dropA cs (l * sz)) ((h - l) * sz)) (h - l) (Nat.beq h m) sz))))))
  | .array _ e => asAdr x fun _ => sizeK P e fun _ => none
  | _ => none
def fieldOff (t : TypeId) (f : Nat) (K : Nat → TypeId → Option A) : Option A := tyK P t fun d => match d with
  | .struct fs => (match fs[f]? with
    | some fd => K fd.offset fd.type
    | none => none)
  | _ => none
def fieldAddrK (t : TypeId) (x : AV) (f : Nat) (K : AV → Option A) : Option A := fieldOff P t f fun o ft => sizeK P ft fun n =>
  guardK (Nat.blt 0 n) (asAdr2 x (fun p => K (.ptr (some (p.1, p.2 + o)))) (fun cs q => K (.fp cs (q + o))))
def partK (t : TypeId) (cs : List AV) (off : Nat) (K : AV → Option A) : Option A := tyK P t fun d =>
  bif isAggD d then sizeK P t fun n => K (.agg (takeA (dropA cs off) n)) else guardK (Nat.blt off (lenA cs)) (asTy d (nth cs off) K)
def fieldK (t : TypeId) (x : AV) (f : Nat) (K : AV → Option A) : Option A := fieldOff P t f fun o ft => asAgg x fun cs => partK P ft cs o K
/-- A place in a small array, by its number: one way for each. -/
def selK (i : Int) (K : Nat → Option A) : Nat → Nat → Option A
  | 0, _ => none
  | n + 1, j => bif i == (j : Int) then K j else selK i K n (j + 1)
def arrK (i : Int) (len : Nat) (K : Nat → Option A) : Option A := bif Nat.ble len 8 then selK i K len 0 else K i.toNat
def indexAddrK (t : TypeId) (x ix : AV) (K : AV → Option A) : Option A := anyInt ix fun _ i => tyK P t fun d => match d with
  | .array len e => sizeK P e fun n => asAdr2 x (fun p => guardK (decide (0 ≤ i) && decide (i < len)) (arrK i len fun m => K (.ptr (some (p.1, p.2 + m * n)))))
      (fun cs q => guardK (decide (0 ≤ i) && decide (i < len)) (arrK i len fun m => K (.fp cs (q + m * n))))
  | .slice e => sizeK P e fun n => asSl2 x (fun p len _ _ sz => (match p with
    | none => none
    | some p => guardK (Nat.beq sz n && decide (0 ≤ i) && decide (i < len)) (K (.ptr (some (p.1, p.2 + i.toNat * n))))))
      (fun cs len _ sz => guardK (Nat.beq sz n && decide (0 ≤ i) && decide (i < len)) (K (.fp cs (i.toNat * n))))
  | _ => none
def nthS : List UInt8 → Nat → UInt8
  | [], _ => 0
  | b :: _, 0 => b
  | _ :: s, n + 1 => nthS s n
def indexK (t : TypeId) (x ix : AV) (K : AV → Option A) : Option A := anyInt ix fun _ i => tyK P t fun d => match d with
  | .array len e => sizeK P e fun n => asAgg x fun cs => guardK (decide (0 ≤ i) && decide (i < len)) (partK P e cs (i.toNat * n) K)
  | .string => asStr x fun s => guardK (decide (0 ≤ i) && decide (i < lenS s)) (K (.int .u8 (nthS s i.toNat).toNat))
  | _ => none
def assertK (x : AV) (t : TypeId) (ok : Bool) (K : AV → Option A) : Option A := tyK P t fun d => match d with
  | .interface _ => none
  | _ => (match x with
    | .iface u v => bif Nat.beq u t then K (bif ok then .tup [v, .bool true] else v)
        else bif ok then zeroV P t fun z => K (.tup [z, .bool false]) else none
    | .nili => bif ok then zeroV P t fun z => K (.tup [z, .bool false]) else none
    | _ => none)
def extractK (x : AV) (i : Nat) (K : AV → Option A) : Option A := asTup x fun vs => guardK (Nat.blt i (lenA vs)) (K (nth vs i))
def nilK (x : AV) (K : AV → Option A) : Option A := match x with
  | .ptr (some p) => K (.ptr (some p))
  | .fp cs o => K (.fp cs o)
  | .fn f a c => K (.fn f a c)
  | .yield l => K (.yield l)
  | _ => none

/-! ### Maps: keys are whole numbers, strings, bools -/
def sameKey : AV → AV → Option Bool
  | .int k a, .int k' b => if k = k' then some (a == b) else none
  | .str a, .str b => some (eqS a b)
  | .bool a, .bool b => some (a == b)
  | _, _ => none
def findA (k : AV) : List (AV × AV × Nat) → Nat → Option (Option (Nat × AV))
  | [], _ => some none
  | e :: es, i => match sameKey k e.1 with
    | some true => some (some (i, e.2.1))
    | some false => findA k es (i + 1)
    | none => none
/-- The same, with what follows told ahead. -/
def findK (k : AV) (F : Nat → AV → Option A) (G : Option A) : List (AV × AV × Nat) → Nat → Option A
  | [], _ => G
  | e :: es, i => match sameKey k e.1 with
    | some b => bif b then F i e.2.1 else findK k F G es (i + 1)
    | none => none
def keyOk (d : TypeDesc) (k : AV) : Bool := match d, k with
  | .int j, .int j' _ => decide (j = j')
  | .string, .str _ => true
  | .bool, .bool _ => true
  | _, _ => false
def entriesK (r : Option Nat) (h : Heap) (K : List (AV × AV × Nat) → Nat → Option A) : Option A := match r with
  | none => K [] 0
  | some b => (match h.m b with
    | some (.map es c) => K es c
    | _ => none)
def lookupK (t : TypeId) (x k : AV) (ok : Bool) (h : Heap) (K : AV → Option A) : Option A := tyK P t fun d => match d with
  | .map kt et => tyK P kt fun kd => guardK (keyOk kd k) (asMap x fun r => entriesK r h fun es _ =>
      findK k (fun _ v => K (bif ok then .tup [v, .bool true] else v)) (zeroV P et fun z => K (bif ok then .tup [z, .bool false] else z)) es 0)
  | _ => none
def setEntry : List (AV × AV × Nat) → Nat → AV → AV → List (AV × AV × Nat)
  | [], _, _, _ => []
  | e :: es, 0, k, v => (k, v, e.2.2) :: es
  | e :: es, n + 1, k, v => e :: setEntry es n k v
def appE : List (AV × AV × Nat) → (AV × AV × Nat) → List (AV × AV × Nat)
  | [], x => [x]
  | e :: es, x => e :: appE es x
def delEntry : List (AV × AV × Nat) → Nat → List (AV × AV × Nat)
  | [], _ => []
  | _ :: es, 0 => es
  | e :: es, n + 1 => e :: delEntry es n
def mapUpdateK (t : TypeId) (x k v : AV) (h : Heap) (K : Heap → Option A) : Option A := tyK P t fun d => match d with
  | .map kt _ => tyK P kt fun kd => guardK (keyOk kd k) (asMap x fun r => (match r with
    | none => none
    | some b => (match h.m b with
      | some (.map es c) => (match findA k es 0 with
        | some (some (i, _)) => K (h.put b (.map (setEntry es i k v) c))
        | some none => K (h.put b (.map (appE es (k, v, c)) (c + 1)))
        | none => none)
      | _ => none)))
  | _ => none

/-! ### Builtins -/
def minI (a b : Int) : Int := if b < a then b else a
def maxI (a b : Int) : Int := if b > a then b else a
def foldI (f : Int → Int → Int) (k : IntKind) : Int → List AV → (AV → Option A) → Option A
  | a, [], K => K (.int k a)
  | a, v :: vs, K => asInt k v fun b => foldI f k (f a b) vs K
/-- The elements that are appended. -/
def srcK (size : Nat) (x : AV) (h : Heap) (K : Nat → List AV → Option A) : Option A := match x with
  | .sl none len _ _ _ => guardK (Nat.beq len 0) (K 0 [])
  | .sl (some p) len _ _ sz => bif Nat.beq len 0 then K 0 [] else guardK (Nat.beq sz size) (ldN h p (len * size) fun cs => K len cs)
  | .gr p len sz => bif Nat.beq len 0 then K 0 [] else guardK (Nat.beq sz size) (ldN h p (len * size) fun cs => K len cs)
  | .str s => guardK (Nat.beq size 1) (K (lenS s) (cellsOfS s))
  | .fz cs len _ sz => bif Nat.beq len 0 then K 0 [] else guardK (Nat.beq sz size) (K len cs)
  | _ => none
/-- So many zeros: 'append(s, make([]E, n)...)'. -/
def zsrcK (zs : List AV) (x : AV) (K : Nat → List AV → Option A) : Option A := anyInt x fun _ l =>
  guardK (decide (0 ≤ IntKind.i64.wrap l)) (K (IntKind.i64.wrap l).toNat (repL zs (IntKind.i64.wrap l).toNat))
/-- The elements that are there. -/
def oldK (size : Nat) (q : Nat × Nat) (len sz : Nat) (h : Heap) (K : List AV → Option A) : Option A :=
  bif Nat.beq len 0 then K [] else guardK (Nat.beq sz size) (ldN h q (len * size) K)
/-- What is written on behind a slice's elements in a row of its own: the row goes by another number from then on. -/
def growK (size : Nat) (q : Nat × Nat) (len sz : Nat) (new : List AV) (n : Nat) (h : Heap) (id : Nat) (K : AV → Heap → Option A) : Option A := oldK size q len sz h fun old => (match h.m q.1 with
  | some (.cells true _) => guardK (Nat.beq sz size && flatL new) (K (.gr (id, 0) (len + n) size) ((h.kill q.1).put id (.cells true (appA old new))))
  | _ => none)
def appendK (zr : Bool) (et : TypeId) (s x : AV) (h : Heap) (id : Nat) (K : AV → Heap → Option A) : Option A := sizeK P et fun size => bytesK P et fun by' =>
  zeroK P et fun zs => guardK (Nat.beq (lenA zs) size && Nat.blt 0 size) ((bif zr then zsrcK zs x else srcK size x h) fun n new => match s with
    | .gr q len sz => guardK (Nat.ble ((len + n) * by') limit && Nat.ble (len + n) limit) (bif Nat.beq n 0 then K (.gr q len sz) h else growK size q len sz new n h id K)
    | .fz cs len ex sz => bif Nat.beq n 0 then K (.fz cs len ex sz) h
      else guardK (Nat.ble ((len + n) * by') limit && Nat.ble (len + n) limit && ex && (Nat.beq sz size || Nat.beq len 0)) (K (.gr (id, 0) (len + n) size) (h.put id (.cells true (appA cs new))))
    | .sl p len cap ex sz => guardK (Nat.ble ((len + n) * by') limit && Nat.ble (len + n) limit) (match p with
      | none => bif Nat.beq n 0 then K (.sl none 0 0 true 0) h else K (.gr (id, 0) n size) (h.put id (.cells true new))
      | some q => bif Nat.ble (len + n) cap then
            (bif Nat.beq n 0 then K (.sl p len cap ex sz) h
             else guardK (Nat.beq sz size && flatL new) (stN h (q.1, q.2 + len * size) new fun h' => K (.sl p (len + n) cap ex sz) h'))
          else bif ex then oldK size q len sz h fun old => K (.gr (id, 0) (len + n) size) (h.put id (.cells true (appA old new)))
            else growK size q len sz new n h id K)
    | _ => none)
def copyK (et : TypeId) (d x : AV) (h : Heap) (K : AV → Heap → Option A) : Option A := sizeK P et fun size => guardK (Nat.blt 0 size) (asSl d fun p len _ _ sz =>
  srcK size x h fun n new => (match p with
    | none => K (.int .i64 0) h
    | some q => bif Nat.beq (min n len) 0 then K (.int .i64 0) h else guardK (Nat.beq sz size && flatL new) (stN h q (takeA new (min n len * size)) fun h' => K (.int .i64 (min n len : Nat)) h')))
def clearK (et : TypeId) (x : AV) (h : Heap) (K : Heap → Option A) : Option A := sizeK P et fun size => zeroK P et fun zs => guardK (Nat.beq (lenA zs) size) (asSl x fun p len _ _ sz =>
  bif Nat.beq len 0 then K h else (match p with
    | none => none
    | some q => guardK (Nat.beq sz size && flatL zs) (stN h q (repL zs len) K)))
def builtinK (b : Builtin) (tys : List TypeId) (args : List AV) (h : Heap) (id : Nat) (K : AV → Heap → Option A) : Option A := match b, tys, args with
  | .len, [t], [x] => tyK P t fun d => (match d with
    | .string => asStr x fun s => K (.int .i64 (lenS s : Nat)) h
    | .slice _ => asSl2 x (fun _ len _ _ _ => K (.int .i64 (len : Nat)) h) (fun _ len _ _ => K (.int .i64 (len : Nat)) h)
    | .array n _ => K (.int .i64 (n : Nat)) h
    | .map _ _ => asMap x fun r => entriesK r h fun es _ => K (.int .i64 (es.length : Nat)) h
    | _ => none)
  | .cap, [t], [x] => tyK P t fun d => (match d with
    | .slice _ => asSl2 x (fun _ _ cap ex _ => guardK ex (K (.int .i64 (cap : Nat)) h)) (fun _ len ex _ => guardK ex (K (.int .i64 (len : Nat)) h))
    | _ => none)
  | .append, [t, u], [s, x] => tyK P t fun d => tyK P u fun du => (match d, du with
    | .slice et, .slice _ => appendK P false et s x h id K
    | .slice et, .string => appendK P false et s x h id K
    | .slice et, .int _ => appendK P true et s x h id K
    | _, _ => none)
  | .copy, [t, _], [d', x] => tyK P t fun d => (match d with
    | .slice et => copyK P et d' x h K
    | _ => none)
  | .clear, [t], [x] => tyK P t fun d => (match d with
    | .slice et => clearK P et x h fun h' => K (.tup []) h'
    | _ => none)
  | .delete, [t, _], [x, k] => tyK P t fun d => (match d with
    | .map kt _ => tyK P kt fun kd => guardK (keyOk kd k) (asMap x fun r => (match r with
      | none => K (.tup []) h
      | some b => (match h.m b with
        | some (.map es c) => (match findA k es 0 with
          | some (some (i, _)) => K (.tup []) (h.put b (.map (delEntry es i) c))
          | some none => K (.tup []) h
          | none => none)
        | _ => none)))
    | _ => none)
  | .min, _, v :: vs => anyInt v fun k a => foldI minI k a vs fun v => K v h
  | .max, _, v :: vs => anyInt v fun k a => foldI maxI k a vs fun v => K v h
  | _, _, _ => none

/-- Does an operation use up a block's number? -/
def news : Op → Bool
  | .alloc _ | .box _ _ | .buildSlice _ _ _ | .makeSlice _ _ _ | .makeMap _ _ | .convert _ _ _ => true
  | .call { callee := .builtin .append, .. } => true
  | _ => false

/-- An operation that calls nothing. -/
def prim (o : Oper) (e : Operand → AV) (h : Heap) (id : Nat) (K : AV → Heap → Option A) : Option A := match o.op with
  | .move x => K (e x) h
  | .assign x => K (e x) h
  | .pick c a b => asBool (e c) fun c => K (bif c then e a else e b) h
  | .alloc t => zeroK P t fun zs => K (.ptr (some (id, 0))) (h.put id (.cells true zs))
  | .box _ x => cellsK (e x) fun cs => K (.ptr (some (id, 0))) (h.put id (.cells true cs))
  | .build t parts => buildK P t (parts.toList.map fun p => (p.1, e p.2)) fun v => K v h
  | .buildSlice t n parts => buildSliceK P t n (parts.toList.map fun p => (p.1, e p.2)) h id K
  | .load t a => asAdr2 (e a) (fun p => loadK P t h p fun v => K v h) (fun cs o => loadF P t cs o fun v => K v h)
  | .store t a x => asAdr (e a) fun p => cellsK (e x) fun cs => sizeK P t fun n => guardK (Nat.beq (lenA cs) n) (stN h p cs fun h' => K (.tup []) h')
  | .nilCheck x => nilK (e x) fun v => K v h
  | .binOp op t x y _ => binK P op t (e x) (e y) fun v => K v h
  | .unOp op _ x => unK op (e x) fun v => K v h
  | .convert s d x => convK P s d (e x) h id K
  | .makeInterface t x => tyK P t fun d => (match d with
    | .interface _ => none
    | _ => K (.iface t (e x)) h)
  | .makeFunc (.func f) first cap => K (.fn f (first.toList.map e) (cap.toList.map e)) h
  | .makeMap _ none => K (.map (some id)) (h.put id (.map [] 0))
  | .makeSlice t l c => makeSliceK P t (e l) (e c) h id K
  | .slice t x lo hi mx => guardK (isNone' mx || !isNone' hi) (sliceK P t (e x) (lo.map e) (hi.map e) (mx.map e) fun v => K v h)
  | .fieldAddr t x f => fieldAddrK P t (e x) f fun v => K v h
  | .field t x f => fieldK P t (e x) f fun v => K v h
  | .indexAddr t x ix => indexAddrK P t (e x) (e ix) fun v => K v h
  | .index t x ix => indexK P t (e x) (e ix) fun v => K v h
  | .lookup t x k ok => lookupK P t (e x) (e k) ok h fun v => K v h
  | .mapUpdate t m k x => mapUpdateK P t (e m) (e k) (e x) h fun h' => K (.tup []) h'
  | .typeAssert x _ t ok => assertK P (e x) t ok fun v => K v h
  | .extract x i => extractK (e x) i fun v => K v h
  | .call { callee := .builtin b, args, argTypes } => builtinK P b argTypes.toList (args.toList.map e) h id K
  | _ => none

/-- A function without a body here, for which the model stands in: math/bits.Add64. -/
def isAdd (f : Operand) : Bool := match f with
  | .func g => (match P.funcs[g]? with
    | some fn => fn.body.isNone && (fn.name == "math/bits.Add64") && (fn.origin == "")
    | none => false)
  | _ => false
def addK (args : List AV) (K : AV → Option A) : Option A := match args with
  | [.int .u64 x, .int .u64 y, .int .u64 c] => guardK (decide (0 ≤ x) && decide (0 ≤ y) && decide (0 ≤ c) && decide (c ≤ 1))
      (K (.tup [.int .u64 ((x + y + c) % 18446744073709551616), .int .u64 ((x + y + c) / 18446744073709551616)]))
  | _ => none

abbrev CallS (A : Type) := Cal → List AV → Heap → Md → (Out → Heap → Md → Option A) → Option A

def calleeK (call : CallS A) (f : AV) (args : List AV) (h : Heap) (K : Out → Heap → Md → Option A) : Option A := match f with
  | .fn g first cap => call (.fn g) (appA first (appA args cap)) h .off K
  | .yield l => call (.yield l) args h .off K
  | _ => none

/-- One operation, in the text's order. -/
def stepOp (call : CallS A) (rd : Option Nat) (o : Oper) (st : St) (K : AV → St → Option A) (Kp : AV → St → Option A) : Option A := match o.op with
  | .call { callee := .value f, args, .. } => bif isAdd P f then addK (args.toList.map (ev st.t)) fun v => K v st
    else calleeK call (ev st.t f) (args.toList.map (ev st.t)) st.h fun out h _ => (match out with
    | .ret v => K v { st with h := h }
    | .pan v => Kp v { st with h := h })
  | .call { callee := .builtin .recover, .. } => (match rd, st.r with
    | none, .pan v => K v { st with r := .rcd v }
    | none, _ => K .nili st
    | some _, _ => none)
  | .panic x => (match ev st.t x with
    | .iface t v => Kp (.iface t v) st
    | _ => none)
  | .defer { callee := .value f, args, .. } => (match rd, ev st.t f with
    | none, .fn g first cap => K (.tup []) { st with d := .call g (appA first (appA (args.toList.map (ev st.t)) cap)) :: st.d }
    | _, _ => none)
  | _ => prim P o (ev st.t) st.h st.h.next fun v h => K v { st with h := bif news o.op then h.bump else h }

/-- Is the operation carried out? Where its guard is not known the ways part. -/
def guarded (ops : Array Oper) (o : Oper) (t : List AV) (Y N : List AV → Option A) : Option A := match o.guard with
  | none => Y t
  | some (j, want) => match ops[j]? with
    | none => none
    | some g => match g.dst with
      | none => none
      | some d => match nth t d with
        | .bool b => bif b then (bif want then Y (setL t d (.bool true)) else N (setL t d (.bool true)))
            else (bif want then N (setL t d (.bool false)) else Y (setL t d (.bool false)))
        | .tup _ => N t
        | _ => none

def seqOps (call : CallS A) (rd : Option Nat) (ops : Array Oper) : List Oper → St → (St → Option A) → (AV → St → Option A) → Option A
  | [], st, K, _ => K st
  | o :: rest, st, K, Kp => guarded ops o st.t
      (fun t => stepOp P call rd o { st with t := t } (fun v st' => seqOps call rd ops rest { st' with t := putT st'.t o.dst v } K Kp) Kp)
      (fun t => seqOps call rd ops rest { st with t := putT t o.dst (.tup []) } K Kp)

def loopN (body : St → (Ex → St → Option A) → Option A) : Nat → St → (Ex → St → Option A) → Option A
  | 0, _, _ => none
  | n + 1, st, K => body st fun e st' => match e with
    | .normal => loopN body n st' K
    | e => K e st'
def rounds : Nat := 100000000000000000000

end
end Go.Ev
