/-
  An abstract interpreter of the model's code: slices are lists, the memory is a small list of blocks, no world and no draw. Conditions: none (definitions alone).
-/
import Derived.RangeFuncLeaves
import Derived.OrdersIn
namespace Go.Den

/-- How a slice may be appended to. -/
inductive Cap where
  | no
  | tight
  | tok (t : Nat)

/-- An abstract value. -/
inductive AV where
  | any
  | v (x : Value)
  | agg (cs : List AV)
  | tup (cs : List AV)
  | sl (sz : Nat) (es : List AV) (c : Cap)
  | own (sz id off n : Nat)
  | ref (id i off : Nat)
  | eref (e : AV)
  | fn (f : Fn) (first captured : List AV)
  | ifc (t : TypeId) (x : AV)
  | map (id : Nat)
  | yld (id : Nat)
  deriving Inhabited

structure ALoop where
  state : LoopState
  pending : Option Code
  fn : FuncId
  tmps : List AV
  params : Array Tmp
  assign : Code
  body : Code

inductive ABlk where
  | free
  | gone
  | arr (es : List AV) (sz : Nat)
  | vec (es : List AV) (sz : Nat)
  | map (es : List (Value × AV))
  | loop (l : ALoop)
  | dfd
  deriving Inhabited

structure AMem where
  blks : List ABlk
  next : Nat
  live : List Nat
  ro : Nat

def AV.ofV : Value → AV
  | .agg cs => bif cs.toList.all Value.oneCell' then .agg (cs.toList.map .v) else .v (.agg cs)
  | x => .v x

def AV.cells : AV → List AV
  | .agg cs => cs
  | a => [a]

/-- Its cells are known to be cells. -/
def AV.plain : AV → Bool
  | .any => false
  | .tup _ => false
  | .v x => x.oneCell'
  | _ => true

def ev (s : List AV) : Operand → AV
  | .tmp t => s.getD t (.v undef)
  | .const x => .ofV x
  | .global _ => .any
  | .func f => .fn (.func f) [] []

def put (s : List AV) (d : Option Tmp) (x : AV) : List AV :=
  match d with
  | some d => s.set d x
  | none => s

section types
variable (P : Program)

def aggOf (t : TypeId) : Option Bool :=
  match P.underlying t with
  | some (.struct _) => some true
  | some (.array _ _) => some true
  | some _ => some false
  | none => none

def sizeA (t : TypeId) : Option Nat := (P.info? t).map (·.size)

def zeroA (t : TypeId) : Option AV := ((P.info? t).bind (·.zero)).map .ofV

/-- The value of type t that lies in cells at off. -/
def partA (t : TypeId) (cs : List AV) (off : Nat) : Option AV :=
  match aggOf P t, sizeA P t with
  | some true, some n => if off + n ≤ cs.length then some (.agg ((cs.drop off).take n)) else none
  | some false, some 1 => cs[off]?
  | _, _ => none

def spliceA (cs : List AV) (off : Nat) (new : List AV) : List AV := cs.take off ++ new ++ cs.drop (off + new.length)

/-- A store of x, of type t, into the element e of sz cells, at off. -/
def storeIn (t : TypeId) (e : AV) (off sz : Nat) (x : AV) : Option AV :=
  match sizeA P t with
  | some n =>
    if x.plain && x.cells.length == n && e.plain then
      match e with
      | .agg cs => if off + n ≤ cs.length && cs.length == sz then some (.agg (spliceA cs off x.cells)) else none
      | _ => match x with
        | .agg _ => none
        | _ => if off == 0 && sz == 1 && n == 1 then some x else none
    else none
  | none => none

/-- The part of type t of the element e, from its cell off on. -/
def partE (t : TypeId) (e : AV) (off : Nat) : Option AV := if e.plain then partA P t e.cells off else none

end types

def intBin (op : BinOp) (k : IntKind) (a : Int) (k' : IntKind) (b : Int) : Option Value :=
  match op with
  | .shl => if b < 0 then none else some (.int k (k.wrap (a * 2 ^ (min b.toNat k.bits))))
  | .shr => if b < 0 then none else some (.int k (a.fdiv (2 ^ (min b.toNat k.bits))))
  | .add => if k = k' then some (.int k (k.wrap (a + b))) else none
  | .sub => if k = k' then some (.int k (k.wrap (a - b))) else none
  | .mul => if k = k' then some (.int k (k.wrap (a * b))) else none
  | .quo => if k = k' then (if b = 0 then none else some (.int k (k.wrap (a.tdiv b)))) else none
  | .rem => if k = k' then (if b = 0 then none else some (.int k (a.tmod b))) else none
  | .and => if k = k' then some (.int k (k.wrap (BitVec.ofInt k.bits a &&& BitVec.ofInt k.bits b).toNat)) else none
  | .or => if k = k' then some (.int k (k.wrap (BitVec.ofInt k.bits a ||| BitVec.ofInt k.bits b).toNat)) else none
  | .xor => if k = k' then some (.int k (k.wrap (BitVec.ofInt k.bits a ^^^ BitVec.ofInt k.bits b).toNat)) else none
  | .andNot => if k = k' then some (.int k (k.wrap (BitVec.ofInt k.bits a &&& ~~~BitVec.ofInt k.bits b).toNat)) else none
  | .eql => if k = k' then some (.bool (a == b)) else none
  | .neq => if k = k' then some (.bool (a != b)) else none
  | .lss => if k = k' then some (.bool (decide (a < b))) else none
  | .leq => if k = k' then some (.bool (decide (a ≤ b))) else none
  | .gtr => if k = k' then some (.bool (decide (a > b))) else none
  | .geq => if k = k' then some (.bool (decide (a ≥ b))) else none

def strBin (op : BinOp) (x y : ByteArray) : Option Value :=
  match op with
  | .add => if x.size + y.size ≤ 9223372036854775807 then some (.string (x ++ y)) else none
  | .eql => some (.bool (x.toList == y.toList))
  | .neq => some (.bool !(x.toList == y.toList))
  | .lss => some (.bool (Op.bytesLess x.toList y.toList))
  | .leq => some (.bool (Op.bytesLess x.toList y.toList || x.toList == y.toList))
  | .gtr => some (.bool !(Op.bytesLess x.toList y.toList || x.toList == y.toList))
  | .geq => some (.bool !(Op.bytesLess x.toList y.toList))
  | _ => none

def isConstOp : Operand → Bool
  | .const _ => true
  | _ => false

/-- Equality of two scalars, or of two abstract values one of which is nil. -/
def eqA (P : Program) (t : TypeId) (cst : Bool) (x y : AV) : Option Bool :=
  match P.underlying t, x, y with
  | some .bool, .v (.bool a), .v (.bool b) => some (a == b)
  | some (.pointer _), .v (.pointer none), .v (.pointer none) => some true
  | some (.pointer _), .v (.pointer none), .ref _ _ _ => some false
  | some (.pointer _), .v (.pointer none), .eref _ => some false
  | some (.pointer _), .ref _ _ _, .v (.pointer none) => some false
  | some (.pointer _), .eref _, .v (.pointer none) => some false
  | some (.slice _), .v (.slice none _ _), .v (.slice none _ _) => some true
  | some (.slice _), .v (.slice none _ _), .sl _ _ _ => some false
  | some (.slice _), .v (.slice none _ _), .own _ _ _ _ => some false
  | some (.slice _), .sl _ _ _, .v (.slice none _ _) => some false
  | some (.slice _), .own _ _ _ _, .v (.slice none _ _) => some false
  | some (.interface _), .v .nilIface, .v .nilIface => if cst then some true else none
  | some (.interface _), .v .nilIface, .ifc _ _ => some false
  | some (.interface _), .ifc _ _, .v .nilIface => some false
  | some (.func _ _ _), .v .nilFunc, .v .nilFunc => some true
  | some (.func _ _ _), .v .nilFunc, .fn _ _ _ => some false
  | some (.func _ _ _), .fn _ _ _, .v .nilFunc => some false
  | _, _, _ => none

def absBin (P : Program) (op : BinOp) (t : TypeId) (cst : Bool) (x y : AV) : Option AV :=
  match x, y with
  | .v (.int k a), .v (.int k' b) => (intBin op k a k' b).map .v
  | .v (.string a), .v (.string b) => (strBin op a b).map .v
  | x, y =>
    match op with
    | .eql => (eqA P t cst x y).map fun b => .v (.bool b)
    | .neq => (eqA P t cst x y).map fun b => .v (.bool !b)
    | _ => none

def absUn (op : UnOp) (x : AV) : Option AV :=
  match op, x with
  | .neg, .v (.int k n) => some (.v (.int k (k.wrap (0 - n))))
  | .not, .v (.bool b) => some (.v (.bool !b))
  | _, _ => none

/-- What an operation asks of the memory. -/
inductive Req where
  | val (x : AV)
  | rd (id : Nat) (k : ABlk → Option AV)
  | wr (id : Nat) (k : ABlk → Option (ABlk × AV))
  | tok (k : Nat → List Nat → Option (AV × Nat × List Nat))
  | all (k : AMem → Option AV)
  | eff (k : AMem → Option (AV × AMem))

/-- Two cells that are surely the same; two elements; two blocks. -/
def sameS : AV → AV → Bool
  | .v (.int k a), .v (.int k' b) => decide (k = k') && a == b
  | .v (.bool a), .v (.bool b) => a == b
  | .own a b c d, .own a' b' c' d' => a == a' && b == b' && c == c' && d == d'
  | .ref a b c, .ref a' b' c' => a == a' && b == b' && c == c'
  | .map a, .map a' => a == a'
  | _, _ => false
def sameL (f : AV → AV → Bool) : List AV → List AV → Bool
  | [], [] => true
  | x :: xs, y :: ys => f x y && sameL f xs ys
  | _, _ => false
def sameE : AV → AV → Bool
  | .agg xs, .agg ys => sameL sameS xs ys
  | x, y => sameS x y
def sameBlk : Option ABlk → Option ABlk → Bool
  | some (.arr es sz), some (.arr es' sz') => sz == sz' && sameL sameE es es'
  | some (.vec es sz), some (.vec es' sz') => sz == sz' && sameL sameE es es'
  | _, _ => false

inductive Acc where
  | none
  | rd (id : Nat)
  | wr (id : Nat)
  | tok
  | all
  | eff (m m' : AMem)

def Acc.free : Acc → Acc → Bool
  | .none, _ | _, .none => true
  | .rd _, .rd _ | .rd _, .all | .all, .rd _ | .all, .all => true
  | .rd i, .wr j | .wr i, .rd j | .wr i, .wr j => i != j
  | .tok, .rd _ | .tok, .wr _ | .rd _, .tok | .wr _, .tok => true
  | .rd i, .eff m m' | .eff m m', .rd i => sameBlk m.blks[i]? m'.blks[i]?
  | _, _ => false

def Req.run (r : Req) (m : AMem) : Option (AV × AMem × Acc) :=
  match r with
  | .val x => some (x, m, .none)
  | .rd id k => match m.blks[id]? with
    | some b => (k b).map fun x => (x, m, .rd id)
    | none => none
  | .wr id k => if m.ro ≤ id then
      match m.blks[id]? with
      | some b => (k b).map fun (b', x) => (x, { m with blks := m.blks.set id b' }, .wr id)
      | none => none
    else none
  | .tok k => (k m.next m.live).map fun (x, n, l) => (x, { m with next := n, live := l }, .tok)
  | .all k => (k m).map fun x => (x, m, .all)
  | .eff k => (k m).map fun (x, m') => (x, m', .eff m m')

inductive Task where
  | call (f : FuncId) (args : List AV)
  | round (id : Nat) (args : List AV)

/-- How a call's memory is handed back: 'pure': nothing that was there is written; 'meth': what was there may be written, what the callee made is forgotten; 'keep': as the callee leaves it. -/
inductive Pol where
  | pure | meth | keep | prim (n : Nat)
  deriving DecidableEq, Inhabited

structure FCfg where
  pol : Pol
  mask : List Bool
  deriving Inhabited

mutual
def conv1 (m : AMem) (n nx : Nat) (look : AV → AV) : AV → AV
  | .any => .any
  | .v x => .v x
  | .agg cs => .agg (convs m n nx look cs)
  | .tup cs => .tup (convs m n nx look cs)
  | .sl sz es c => .sl sz (convs m n nx look es) (match c with
      | .no => .no
      | .tight => .tight
      | .tok t => if t < nx then .tok t else .no)
  | .own z id off k => if id < n then .own z id off k else
      match m.blks[id]? with
      | some (.arr es sz) => if off + k ≤ es.length then .sl sz (((es.drop off).take k).map look) (if off = 0 && k = es.length then .tight else .no) else .any
      | some (.vec es sz) => if off + k ≤ es.length then .sl sz (((es.drop off).take k).map look) .no else .any
      | _ => .any
  | .ref id i off => if id < n then .ref id i off else .any
  | .eref e => .eref (conv1 m n nx look e)
  | .fn f a b => .fn f (convs m n nx look a) (convs m n nx look b)
  | .ifc t x => .ifc t (conv1 m n nx look x)
  | .map id => if id < n then .map id else .any
  | .yld id => if id < n then .yld id else .any
def convs (m : AMem) (n nx : Nat) (look : AV → AV) : List AV → List AV
  | [] => []
  | x :: xs => conv1 m n nx look x :: convs m n nx look xs
end

def convN (m : AMem) (n nx : Nat) : Nat → AV → AV
  | 0 => fun _ => .any
  | k + 1 => conv1 m n nx (convN m n nx k)

def conv (m : AMem) (n nx : Nat) : AV → AV := convN m n nx 3

def convLoop (f : AV → AV) (l : ALoop) : ALoop := { l with tmps := l.tmps.map f }

def convBlk (f : AV → AV) : ABlk → ABlk
  | .arr es sz => .arr (es.map f) sz
  | .vec es sz => .vec (es.map f) sz
  | .map es => .map (es.map fun (k, x) => (k, f x))
  | .loop l => .loop (convLoop f l)
  | b => b

/-- What the callee made is forgotten; what was there stays, as it is now. -/
def AMem.shrink (m : AMem) (n : Nat) : AMem :=
  { m with blks := m.blks.take (min m.ro n) ++ ((m.blks.take n).drop (min m.ro n)).map (convBlk (conv m n m.next)) }

def itemsA (x : AV) : Option (Nat × List AV) :=
  match x with
  | .v (.slice none 0 0) => some (0, [])
  | .sl sz es _ => some (sz, es)
  | _ => none

/-- The elements of a slice, which may lie in a block of one's own. -/
def itemsM (m : AMem) (x : AV) : Option (Nat × List AV) :=
  match x with
  | .own sz id off n => match m.blks[id]? with
    | some (.arr es _) => if off + n ≤ es.length then some (sz, (es.drop off).take n) else none
    | some (.vec es _) => if off + n ≤ es.length then some (sz, (es.drop off).take n) else none
    | _ => none
  | x => itemsA x

def roomFor (n bytes : Nat) : Bool := decide (n * bytes ≤ 70368744177664) && decide (n ≤ 70368744177664)

/-- slices.Insert of elements of one cell: a new number for the list, the old one is done with. -/
def insertA (args : List AV) (m : AMem) : Option (AV × AMem) :=
  match args with
  | [s, .v (.int .i64 i), .own 1 idx 0 1] =>
    match m.blks[idx]? with
    | some (.vec [x] 1) =>
      match s with
      | .v (.slice none 0 0) => if i = 0 then some (.own 1 m.blks.length 0 1, { m with blks := m.blks ++ [.vec [x] 1] }) else none
      | .own 1 id 0 n =>
        if m.ro ≤ id && id != idx then
          match m.blks[id]? with
          | some (.vec es 1) =>
            if n = es.length ∧ 0 ≤ i ∧ i ≤ n ∧ n ≤ 1000000 ∧ 0 < n then
              some (.own 1 m.blks.length 0 (n + 1), { m with blks := m.blks.set id .gone ++ [.vec (es.take i.toNat ++ x :: es.drop i.toNat) 1] })
            else none
          | _ => none
        else none
      | _ => none
    | _ => none
  | _ => none

/-- What functions do whose text is not looked into. -/
def primA (k : Nat) (args : List AV) (m : AMem) : Option (AV × AMem) :=
  match k with
  | 0 => insertA args m
  | _ => none

section exec
variable (P : Program) (cfg : FuncId → FCfg) (rec : Task → AMem → Option (AV × AMem))

/-- Slices of this type are written where they lie, and appended to. -/
def isVec (t : TypeId) : Bool :=
  match (cfg (1000000 + t)).pol with
  | .keep => true
  | _ => false

def callReq (g : FuncId) (args : List AV) : Req :=
  match (cfg g).pol with
  | .pure => .all fun m =>
      match rec (.call g args) { m with ro := m.blks.length, live := [] } with
      | some (r, m') => some (conv m' m.blks.length m.next r)
      | none => none
  | .meth => .eff fun m =>
      match rec (.call g args) m with
      | some (r, m') => some (conv m' m.blks.length m'.next r, m'.shrink m.blks.length)
      | none => none
  | .keep => .eff (rec (.call g args))
  | .prim k => .eff (primA k args)

/-- An append to a slice of one's own: a new number for it, the old one is done with. -/
def appendVecReq (t : TypeId) (s x : AV) : Option Req :=
  match P.underlying t with
  | some (.slice elem) =>
    match sizeA P elem, zeroA P elem with
    | some size, some z =>
      if z.plain && z.cells.length == size then
        some (.eff fun m =>
          match itemsM m x with
          | some (sz, e :: es') =>
            if sz == size then
              match s with
              | .v (.slice none 0 0) => if roomFor (es'.length + 1) (P.bytesOf elem) then some (.own size m.blks.length 0 (es'.length + 1), { m with blks := m.blks ++ [.vec (e :: es') size] }) else none
              | .own sz0 id 0 n =>
                if m.ro ≤ id then
                  match m.blks[id]? with
                  | some (.vec es0 sz1) =>
                    if sz0 == size && sz1 == size && n ≤ es0.length && roomFor (n + (es'.length + 1)) (P.bytesOf elem) then
                      some (.own size m.blks.length 0 (n + (es'.length + 1)), { m with blks := m.blks.set id .gone ++ [.vec (es0.take n ++ e :: es') size] })
                    else none
                  | _ => none
                else none
              | _ => none
            else none
          | some (_, []) => (match s with
            | .v (.slice none 0 0) => some (s, m)
            | .own _ _ _ _ => some (s, m)
            | _ => none)
          | none => none)
      else none
    | _, _ => none
  | _ => none

def appendReq (t : TypeId) (s x : AV) : Option Req :=
  match P.underlying t with
  | some (.slice elem) =>
    match sizeA P elem, zeroA P elem, itemsA x with
    | some size, some z, some (sz, es) =>
      match es with
      | [] => (match s with
        | .sl sz0 es0 c => some (.val (.sl sz0 es0 c))
        | .own sz0 id off n => some (.val (.own sz0 id off n))
        | .v (.slice none 0 0) => some (.val (.v (.slice none 0 0)))
        | _ => none)
      | e :: es' =>
        if sz == size && z.plain && z.cells.length == size then
          match s with
          | .v (.slice none 0 0) => some (.tok fun nx lv =>
              if roomFor (es'.length + 1) (P.bytesOf elem) then some (.sl size (e :: es') (.tok nx), nx + 1, nx :: lv) else none)
          | .sl sz0 es0 .tight => if sz0 == size then some (.tok fun nx lv =>
              if roomFor (es0.length + (es'.length + 1)) (P.bytesOf elem) then some (.sl size (es0 ++ e :: es') (.tok nx), nx + 1, nx :: lv) else none) else none
          | .sl sz0 es0 (.tok tk) => if sz0 == size then some (.tok fun nx lv =>
              if lv.contains tk && roomFor (es0.length + (es'.length + 1)) (P.bytesOf elem) then some (.sl size (es0 ++ e :: es') (.tok nx), nx + 1, nx :: lv.erase tk) else none) else none
          | _ => none
        else none
    | _, _, _ => none
  | _ => none

def copyReq (t : TypeId) (d x : AV) : Option Req :=
  match P.underlying t with
  | some (.slice elem) =>
    match sizeA P elem, itemsA x, d with
    | some size, some (sz, es), .own _ id off n =>
      some (.wr id fun b => match b with
        | .arr bs szb => if szb == size && (es.isEmpty || sz == size) && off + n ≤ bs.length then
            some (.arr (bs.take off ++ es.take n ++ bs.drop (off + min es.length n)) szb, .v (.int .i64 (min es.length n : Nat)))
          else none
        | _ => none)
    | _, _, _ => none
  | _ => none

def lenA (P : Program) (t : TypeId) (x : AV) : Option Req :=
  match P.underlying t, x with
  | some .string, .v (.string s) => some (.val (.v (.int .i64 s.size)))
  | some (.array n _), _ => some (.val (.v (.int .i64 n)))
  | some (.slice _), .v (.slice _ n _) => some (.val (.v (.int .i64 n)))
  | some (.slice _), .sl _ es _ => some (.val (.v (.int .i64 es.length)))
  | some (.slice _), .own _ _ _ n => some (.val (.v (.int .i64 n)))
  | some (.map _ _), .v (.map none) => some (.val (.v (.int .i64 0)))
  | some (.map _ _), .map id => some (.rd id fun b => match b with
      | .map es => some (.v (.int .i64 es.length))
      | _ => none)
  | _, _ => none

def max2A (x y : AV) : Option AV :=
  match x, y with
  | .v (.int k a), .v (.int _ b) => some (.v (.int k (if b > a then b else a)))
  | _, _ => none
def min2A (x y : AV) : Option AV :=
  match x, y with
  | .v (.int k a), .v (.int _ b) => some (.v (.int k (if b < a then b else a)))
  | _, _ => none

def builtinReq (b : Builtin) (ts : List TypeId) (args : List AV) : Option Req :=
  match b, ts, args with
  | .len, t :: _, [x] => lenA P t x
  | .append, [t, u], [s, x] => if t = u then (bif isVec cfg t then appendVecReq P t s x else appendReq P t s x) else none
  | .copy, t :: _, [d, x] => copyReq P t d x
  | .max, _, [x, y] => (max2A x y).map .val
  | .min, _, [x, y] => (min2A x y).map .val
  | _, _, _ => none

def bndA (d : Int) (x : Option AV) : Option Int :=
  match x with
  | none => some d
  | some (.v (.int _ i)) => some i
  | _ => none

def sliceReq (t : TypeId) (x : AV) (lo hi : Option AV) : Option Req :=
  match P.underlying t, x with
  | some .string, .v (.string s) =>
    match bndA 0 lo, bndA s.size hi with
    | some l, some h => if 0 ≤ l ∧ l ≤ h ∧ h ≤ s.size then some (.val (.v (.string (s.extract l.toNat h.toNat)))) else none
    | _, _ => none
  | some (.slice elem), .v (.slice none 0 0) =>
    match bndA 0 lo, bndA 0 hi with
    | some l, some h => if l = 0 ∧ h = 0 ∧ (sizeA P elem).isSome = true then some (.val (.v (.slice none 0 0))) else none
    | _, _ => none
  | some (.slice elem), .sl sz es c =>
    if sizeA P elem = some sz then
      match lo, hi with
      | none, none => some (.val (.sl sz es c))
      | some (.v (.int _ l)), none => if 0 ≤ l ∧ l ≤ es.length then some (.val (.sl sz (es.drop l.toNat) c)) else none
      | none, some (.v (.int _ h)) => if 0 ≤ h ∧ h ≤ es.length then some (.val (.sl sz (es.take h.toNat) .no)) else none
      | some (.v (.int _ l)), some (.v (.int _ h)) => if 0 ≤ l ∧ l ≤ h ∧ h ≤ es.length then some (.val (.sl sz ((es.take h.toNat).drop l.toNat) .no)) else none
      | _, _ => none
    else none
  | some (.slice elem), .own sz id off n =>
    if sizeA P elem = some sz then
      match bndA 0 lo, bndA n hi with
      | some l, some h => if 0 ≤ l ∧ l ≤ h ∧ h ≤ n ∧ (l < n ∨ l = 0) then some (.val (.own sz id (off + l.toNat) (h.toNat - l.toNat))) else none
      | _, _ => none
    else none
  | _, _ => none

def fieldOf (t : TypeId) (f : Nat) : Option Field :=
  match P.underlying t with
  | some (.struct fs) => fs[f]?
  | _ => none

def fieldAddrReq (t : TypeId) (x : AV) (f : Nat) : Option Req :=
  match fieldOf P t f with
  | some fd =>
    match sizeA P fd.type with
    | some (_ + 1) => (match x with
      | .ref id i off => some (.val (.ref id i (off + fd.offset)))
      | .eref e => (partE P fd.type e fd.offset).map fun p => .val (.eref p)
      | _ => none)
    | _ => none
  | none => none

def indexAddrReq (t : TypeId) (x ix : AV) : Option Req :=
  match ix with
  | .v (.int _ i) =>
    match P.underlying t, x with
    | some (.slice elem), .sl sz es _ => if 0 ≤ i ∧ sizeA P elem = some sz then (es[i.toNat]?).map fun e => .val (.eref e) else none
    | some (.slice elem), .own sz id off n => if 0 ≤ i ∧ i < n ∧ sizeA P elem = some sz then some (.val (.ref id (off + i.toNat) 0)) else none
    | some (.array len elem), .ref id j off => if 0 ≤ i ∧ i < len then (sizeA P elem).map fun sz => .val (.ref id j (off + i.toNat * sz)) else none
    | some (.array len elem), .eref e => if 0 ≤ i ∧ i < len then (sizeA P elem).bind fun sz => (partE P elem e (i.toNat * sz)).map fun p => .val (.eref p) else none
    | _, _ => none
  | _ => none

def indexReq (t : TypeId) (x ix : AV) : Option Req :=
  match ix with
  | .v (.int _ i) =>
    match P.underlying t, x with
    | some (.array len elem), .agg cs => if 0 ≤ i ∧ i < len then (sizeA P elem).bind fun sz => (partA P elem cs (i.toNat * sz)).map .val else none
    | some .string, .v (.string s) => if 0 ≤ i then (s.data.toList[i.toNat]?).map fun b => .val (.v (.int .u8 b.toNat)) else none
    | _, _ => none
  | _ => none

def fillA (place : Nat → Option (Nat × Nat)) (cs : List AV) : List (Nat × AV) → Option (List AV)
  | [] => some cs
  | (i, x) :: rest =>
    match place i with
    | some (off, size) => if x.plain && x.cells.length == size && off + size ≤ cs.length then fillA place (spliceA cs off x.cells) rest else none
    | none => none

def placesA : List Field → Option (List (Nat × Nat))
  | [] => some []
  | f :: fs => match sizeA P f.type, placesA fs with
    | some s, some r => some ((f.offset, s) :: r)
    | _, _ => none

def buildReq (t : TypeId) (ps : List (Nat × AV)) : Option Req :=
  match P.underlying t, zeroA P t with
  | some (.struct fs), some z => match placesA P fs.toList with
    | some pl => if z.plain then (fillA (fun i => pl[i]?) z.cells ps).map fun cs => .val (.agg cs) else none
    | none => none
  | some (.array _ elem), some z => match sizeA P elem with
    | some sz => if z.plain then (fillA (fun i => some (i * sz, sz)) z.cells ps).map fun cs => .val (.agg cs) else none
    | none => none
  | _, _ => none

def setAll (sz : Nat) (es : List AV) : List (Nat × AV) → Option (List AV)
  | [] => some es
  | (i, x) :: rest => if x.plain && x.cells.length == sz && i < es.length then setAll sz (es.set i x) rest else none

def buildSliceReq (t : TypeId) (len : Nat) (ps : List (Nat × AV)) : Option Req :=
  match P.underlying t with
  | some (.slice elem) => match sizeA P elem, zeroA P elem with
    | some sz, some z => if sz ≠ 0 ∧ len * sz ≤ 16777216 ∧ z.cells.length = sz ∧ z.plain = true then (setAll sz (List.replicate len z) ps).map fun es => .val (.sl sz es .tight) else none
    | _, _ => none
  | _ => none

def buildVecReq (t : TypeId) (len : Nat) (ps : List (Nat × AV)) : Option Req :=
  match P.underlying t with
  | some (.slice elem) => match sizeA P elem, zeroA P elem with
    | some sz, some z => if sz ≠ 0 ∧ len * sz ≤ 16777216 ∧ z.cells.length = sz ∧ z.plain = true then
        (setAll sz (List.replicate len z) ps).map fun es => .eff fun m => some (.own sz m.blks.length 0 len, { m with blks := m.blks ++ [.vec es sz] })
      else none
    | _, _ => none
  | _ => none

def sameOperand : Operand → Operand → Bool
  | .tmp a, .tmp b => a == b
  | .const (.int _ a), .const (.int _ b) => a == b
  | _, _ => false

def makeSliceReq (fresh : Nat) (t : TypeId) (same : Bool) (l c : AV) : Option Req :=
  match P.underlying t, l, c with
  | some (.slice elem), .v (.int _ n), .v (.int _ _) =>
    match sizeA P elem, zeroA P elem with
    | some sz, some z => if same && z.plain && z.cells.length == sz && sz != 0 && decide (0 ≤ n) && roomFor n.toNat (P.bytesOf elem) && decide (n ≤ 9223372036854775807) then
        some (.wr fresh fun b => match b with
          | .free => some (.arr (List.replicate n.toNat z) sz, .own sz fresh 0 n.toNat)
          | _ => none)
      else none
    | _, _ => none
  | _, _, _ => none

def keyEq : Value → Value → Option Bool
  | .string a, .string b => some (a == b)
  | .int k a, .int k' b => if k = k' then some (a == b) else none
  | .bool a, .bool b => some (a == b)
  | _, _ => none

def findA (k : Value) : List (Value × AV) → Option (Option AV)
  | [] => some none
  | (k', x) :: rest => match keyEq k k' with
    | some true => some (some x)
    | some false => findA k rest
    | none => none

def storeA (k : Value) (x : AV) : List (Value × AV) → Option (List (Value × AV))
  | [] => some [(k, x)]
  | (k', y) :: rest => match keyEq k k' with
    | some true => some ((k, x) :: rest)
    | some false => (storeA k x rest).map fun r => (k', y) :: r
    | none => none

def plainKey (P : Program) (t : TypeId) (k : Value) : Bool :=
  match P.underlying t, k with
  | some .string, .string _ => true
  | some (.int _), .int _ _ => true
  | some .bool, .bool _ => true
  | _, _ => false

def lookupReq (t : TypeId) (x ix : AV) (ok : Bool) : Option Req :=
  match P.underlying t with
  | some (.map key elem) => match zeroA P elem, ix with
    | some z, .v k => if plainKey P key k then (match x with
        | .v (.map none) => some (.val (if ok then .tup [z, .v (.bool false)] else z))
        | .map id => some (.rd id fun b => match b with
            | .map es => (findA k es).map fun r => match r with
              | some y => if ok then .tup [y, .v (.bool true)] else y
              | none => if ok then .tup [z, .v (.bool false)] else z
            | _ => none)
        | _ => none) else none
    | _, _ => none
  | _ => none

def mapUpdateReq (t : TypeId) (x ix y : AV) : Option Req :=
  match P.underlying t with
  | some (.map key _) => match ix with
    | .v k => if plainKey P key k then (match x with
        | .map id => some (.wr id fun b => match b with
            | .map es => (storeA k y es).map fun es' => (.map es', .v undef)
            | _ => none)
        | _ => none) else none
    | _ => none
  | _ => none

def convertA (src dst : TypeId) (x : AV) : Option AV :=
  match P.underlying src, P.underlying dst, x with
  | some _, some (.int k), .v (.int _ n) => some (.v (.int k (k.wrap n)))
  | some _, some .string, .v (.string s) => some (.v (.string s))
  | _, _, _ => none

def callOf (ρ : Operand → AV) (c : Call) : Option Req :=
  match c.callee with
  | .builtin b => builtinReq P cfg b c.argTypes.toList (c.args.toList.map ρ)
  | .value f => match ρ f with
    | .fn (.func g) first cap => some (callReq cfg rec g (first ++ c.args.toList.map ρ ++ cap))
    | .yld id => some (.eff fun m => rec (.round id (c.args.toList.map ρ)) m)
    | _ => none
  | .invoke _ _ => none

def req (ρ : Operand → AV) (fresh : Nat) (o : Op) : Option Req :=
  match o with
  | .move x => some (.val (ρ x))
  | .assign x => some (.val (ρ x))
  | .pick c a b => match ρ c with
    | .v (.bool t) => some (.val (cond t (ρ a) (ρ b)))
    | _ => none
  | .alloc elem => match zeroA P elem with
    | some z => if z.plain = false then none else some (.wr fresh fun b => match b with
        | .free => some (.arr [z] z.cells.length, .ref fresh 0 0)
        | _ => none)
    | none => none
  | .box _ x => if (ρ x).plain then some (.wr fresh fun b => match b with
        | .free => some (.arr [ρ x] (ρ x).cells.length, .ref fresh 0 0)
        | _ => none) else none
  | .build t ps => buildReq P t (ps.toList.map fun (i, x) => (i, ρ x))
  | .buildSlice t n ps => bif isVec cfg t then buildVecReq P t n (ps.toList.map fun (i, x) => (i, ρ x)) else buildSliceReq P t n (ps.toList.map fun (i, x) => (i, ρ x))
  | .load t a => match ρ a with
    | .ref id i off => some (.rd id fun b => match b with
        | .arr es _ => (es[i]?).bind fun e => partE P t e off
        | .vec es _ => (es[i]?).bind fun e => partE P t e off
        | _ => none)
    | .eref e => (partE P t e 0).map .val
    | _ => none
  | .store t a x => match ρ a with
    | .ref id i off => some (.wr id fun b => match b with
        | .arr es sz => (es[i]?).bind fun e => (storeIn P t e off sz (ρ x)).map fun e' => (.arr (es.set i e') sz, .v undef)
        | .vec es sz => (es[i]?).bind fun e => (storeIn P t e off sz (ρ x)).map fun e' => (.vec (es.set i e') sz, .v undef)
        | _ => none)
    | _ => none
  | .nilCheck x => match ρ x with
    | .ref id i off => some (.val (.ref id i off))
    | .eref e => some (.val (.eref e))
    | .fn (.func g) a b => some (.val (.fn (.func g) a b))
    | _ => none
  | .binOp op t x y _ => (absBin P op t (isConstOp x || isConstOp y) (ρ x) (ρ y)).map .val
  | .unOp op _ x => (absUn op (ρ x)).map .val
  | .convert src dst x => (convertA P src dst (ρ x)).map .val
  | .makeFunc fn first captured => some (.val (.fn fn (first.toList.map ρ) (captured.toList.map ρ)))
  | .makeMap _ none => some (.wr fresh fun b => match b with
        | .free => some (.map [], .map fresh)
        | _ => none)
  | .makeSlice t l c => makeSliceReq P fresh t (sameOperand l c) (ρ l) (ρ c)
  | .slice t x lo hi none => sliceReq P t (ρ x) (lo.map ρ) (hi.map ρ)
  | .fieldAddr t x f => fieldAddrReq P t (ρ x) f
  | .field t x f => match fieldOf P t f, ρ x with
    | some fd, .agg cs => (partA P fd.type cs fd.offset).map .val
    | _, _ => none
  | .indexAddr t x ix => indexAddrReq P t (ρ x) (ρ ix)
  | .index t x ix => indexReq P t (ρ x) (ρ ix)
  | .lookup t x ix ok => lookupReq P t (ρ x) (ρ ix) ok
  | .mapUpdate t m k x => mapUpdateReq P t (ρ m) (ρ k) (ρ x)
  | .insert t m k x => mapUpdateReq P t (ρ m) (ρ k) (ρ x)
  | .makeInterface t x => match P.underlying t with
    | some (.interface _) => none
    | some _ => some (.val (.ifc t (ρ x)))
    | none => none
  | .extract t ix => match ρ t with
    | .tup cs => (cs[ix]?).map .val
    | _ => none
  | .call c => callOf P cfg rec ρ c
  | _ => none

structure St where
  s : List AV
  m : AMem
  marks : List Nat

/-- Whether a guarded operation runs: none: not known. -/
def wantedA (ops : List Oper) (s : List AV) (o : Oper) : Option Bool :=
  match o.guard with
  | none => some true
  | some (j, want) => match (ops[j]?).bind (·.dst) with
    | some d => match s[d]? with
      | some (.v (.bool b)) => some (b == want)
      | some (.v _) => some false
      | _ => none
    | none => none

def ex1 (ops : List Oper) (fresh : Nat) (o : Oper) (st : St) : Option (St × Acc) :=
  match wantedA ops st.s o with
  | some true => match req P cfg rec (ev st.s) fresh o.op with
    | some r => match r.run st.m with
      | some (x, m', a) => some ({ st with s := put st.s o.dst x, m := m' }, a)
      | none => none
    | none => none
  | some false => some ({ st with s := put st.s o.dst (.v undef) }, .none)
  | none => none

def isNew : Op → Bool
  | .alloc _ | .box _ _ | .makeMap _ _ | .makeSlice _ _ _ => true
  | _ => false

def exOps (ops : List Oper) : Nat → List Oper → St → Option (St × List Acc)
  | _, [], st => some (st, [])
  | fresh, o :: rest, st =>
    match ex1 P cfg rec ops fresh o st with
    | some (st', a) => match exOps ops (bif isNew o.op then fresh + 1 else fresh) rest st' with
      | some (st'', as) => some (st'', a :: as)
      | none => none
    | none => none

/-- Each pair that no edge orders is free of one another. -/
def freeAll (bef : Array Nat) (as : List Acc) : Bool :=
  (as.zipIdx).all fun (b, j) => (as.zipIdx).all fun (a, i) => !(decide (i < j)) || (bef.getD j 0).testBit i || a.free b

def quietAcc : Acc → Bool
  | .none | .rd _ | .all => true
  | _ => false

def newCount : List Oper → Nat
  | [] => 0
  | o :: os => (bif isNew o.op then 1 else 0) + newCount os

def reserve (m : AMem) : Nat → AMem
  | 0 => m
  | k + 1 => { m with blks := m.blks ++ List.replicate (k + 1) .free }

def exRegion (ops : Array Oper) (draw : Bool) (st : St) : Option St :=
  match exOps P cfg rec ops.toList st.m.blks.length ops.toList { st with m := reserve st.m (newCount ops.toList) } with
  | some (st', as) => bif !draw || as.all quietAcc || freeAll (Region.before ops) as then some st' else none
  | none => none

inductive AExit where
  | normal
  | exit (id : Nat)
  | ret

def clrS : List Bool → List AV → List AV
  | b :: bs, x :: xs => (bif b then x else .any) :: clrS bs xs
  | [], xs => xs
  | _ :: _, [] => []

def loopN (mask : List Bool) (body : St → Option (AExit × St)) : Nat → St → Option (AExit × St)
  | 0, _ => none
  | n + 1, st => match body { st with s := clrS mask st.s } with
    | some (.normal, st') => loopN mask body n st'
    | r => r

def exitOf : Code → Option AExit
  | .ret => some .ret
  | .exit id => some (.exit id)
  | _ => none

/-- The record of a loop's rounds is laid (at an outermost loop a block for deferred calls ahead of it). -/
def layLoop (fn : FuncId) (around : Option Nat) (ps : Array Tmp) (assign body : Code) (st : St) : Option (Nat × List Nat × AMem) :=
  match around with
  | none => some (st.m.blks.length + 1, st.m.blks.length :: st.marks, { st.m with blks := st.m.blks ++ [.dfd, .loop { state := .ready, pending := none, fn, tmps := st.s, params := ps, assign, body }] })
  | some id => match st.m.blks[id]? with
    | some (.loop _) => some (st.m.blks.length, st.marks, { st.m with blks := st.m.blks ++ [.loop { state := .ready, pending := none, fn, tmps := st.s, params := ps, assign, body }] })
    | _ => none

/-- Behind the call of the function that was ranged over. -/
def afterRange (st : St) (l : Nat) (marks : List Nat) (m2 : AMem) : Option (AExit × St) :=
  match m2.blks[l]? with
  | some (.loop r) => match r.state with
    | .busy => none
    | _ => match r.pending with
      | none => some (.normal, { st with m := { m2 with blks := m2.blks.set l .gone }.shrink (l + 1), marks })
      | some c => (exitOf c).map fun e => (e, { st with m := { m2 with blks := m2.blks.set l .gone }.shrink (l + 1), marks })
  | _ => none

/-- A range over a function: the record of its rounds is laid under the number l, the function is called, the record is done with. -/
def exRange (fn : FuncId) (around : Option Nat) (g : Operand) (ps : Array Tmp) (assign body : Code) (st : St) : Option (AExit × St) :=
  match ev st.s g with
  | .fn (.func f) first cap => match layLoop fn around ps assign body st with
    | some (l, marks, m1) =>
      if st.m.ro ≤ st.m.blks.length then
        match rec (.call f (first ++ [.yld l] ++ cap)) m1 with
        | some (_, m2) => afterRange st l marks m2
        | none => none
      else none
    | none => none
  | _ => none

def exec (n : Nat) (fn : FuncId) (around : Option Nat) (mask : List Bool) : Code → St → Option (AExit × St)
  | .skip, st => some (.normal, st)
  | .label _, st => some (.normal, st)
  | .region _ ops draw, st => match exRegion P cfg rec ops draw st with
    | some st' => some (.normal, st')
    | none => none
  | .seq a b, st => match exec n fn around mask a st with
    | some (.normal, st') => exec n fn around mask b st'
    | r => r
  | .cond c x y, st => match ev st.s c with
    | .v (.bool t) => cond t (exec n fn around mask x st) (exec n fn around mask y st)
    | _ => none
  | .block id c, st => match exec n fn around mask c st with
    | some (.exit i, st') => if i = id then some (.normal, st') else some (.exit i, st')
    | r => r
  | .loop c, st => loopN mask (exec n fn around mask c) n st
  | .exit id, st => some (.exit id, st)
  | .ret, st => some (.ret, st)
  | .rangeFunc g ps assign body, st => exRange rec fn around g ps assign body st
  | _, _ => none

def resultA (s : List AV) (m : AMem) : ResultVar → Option AV
  | .tmp t => some (s.getD t (.v undef))
  | .cell a t => match s.getD a (.v undef) with
    | .ref id i off => match m.blks[id]? with
      | some (.arr es _) => (es[i]?).bind fun e => partE P t e off
      | _ => none
    | _ => none

def resultsA (s : List AV) (m : AMem) : List ResultVar → Option (List AV)
  | [] => some []
  | r :: rs => match resultA P s m r, resultsA s m rs with
    | some x, some xs => some (x :: xs)
    | _, _ => none

def oneOf : List AV → AV
  | [x] => x
  | xs => .tup xs

/-- The blocks for deferred calls of a function's loops are shut as it returns. -/
def setGone (m : AMem) : List Nat → Option AMem
  | [] => some m
  | i :: is => match m.blks[i]? with
    | some .dfd => if m.ro ≤ i then setGone { m with blks := m.blks.set i .gone } is else none
    | _ => none

def bodyOf (f : FuncId) : Option (Func × Code) :=
  match P.funcs[f]? with
  | some fn => match fn.body with
    | some c => some (fn, c)
    | none => none
  | none => none

def setParams : List (Tmp × AV) → List AV → List AV
  | [], s => s
  | (t, a) :: r, s => setParams r (s.set t a)

def endOf (l : ALoop) : AExit → ALoop
  | .normal => { l with state := .ready, pending := none }
  | .ret => { l with state := .done, pending := some .ret }
  | .exit i => { l with state := .done, pending := some (.exit i) }

def isNormal : AExit → Bool
  | .normal => true
  | _ => false

def stepCall (n : Nat) (f : FuncId) (args : List AV) (m : AMem) : Option (AV × AMem) :=
  match bodyOf P f with
  | some (fn, c) =>
    match exec P cfg rec n f none (cfg f).mask c { s := args ++ List.replicate (fn.ntmps - args.length) (.v undef), m, marks := [] } with
    | some (.exit _, _) => none
    | some (_, st) => match setGone st.m st.marks with
      | some m' => match resultsA P st.s m' fn.results.toList with
        | some xs => some (oneOf xs, m')
        | none => none
      | none => none
    | none => none
  | none => none

def stepRound (n : Nat) (id : Nat) (args : List AV) (m : AMem) : Option (AV × AMem) :=
  match m.blks[id]? with
  | some (.loop l) => match l.state with
    | .ready => if args.length = l.params.size ∧ m.ro ≤ id then
        match exec P cfg rec n l.fn (some id) (cfg l.fn).mask l.assign { s := setParams (l.params.toList.zip args) l.tmps, m, marks := [] } with
        | some (.normal, st1) => match st1.m.blks[id]? with
          | some (.loop l1) => match l1.state with
            | .ready =>
              match exec P cfg rec n l.fn (some id) (cfg l.fn).mask l.body { st1 with m := { st1.m with blks := st1.m.blks.set id (.loop { l1 with state := .busy }) } } with
              | some (e, st2) =>
                match st2.m.blks[id]? with
                | some (.loop l2) => some (.v (.bool (isNormal e)), { st2.m with blks := st2.m.blks.set id (.loop (endOf l2 e)) }.shrink m.blks.length)
                | _ => none
              | none => none
            | _ => none
          | _ => none
        | _ => none
      else none
    | _ => none
  | _ => none

def step (n : Nat) (t : Task) (m : AMem) : Option (AV × AMem) :=
  match t with
  | .call f args => stepCall P cfg rec n f args m
  | .round id args => stepRound P cfg rec n id args m

end exec

def den (P : Program) (cfg : FuncId → FCfg) : Nat → Task → AMem → Option (AV × AMem)
  | 0 => fun _ _ => none
  | n + 1 => step P cfg (den P cfg n) n

/-! ### What is asked of the program's text -/
def apartAll (ops : Array Oper) : Bool :=
  let bef := Region.before ops
  (ops.toList.zipIdx).all fun (y, j) => (ops.toList.zipIdx).all fun (x, i) => !(decide (i < j)) || (bef.getD j 0).testBit i || x.apart ops y

def codeOk : Code → Bool
  | .region _ ops draw => !draw || (apartAll ops && ops.toList.zipIdx.all fun (o, i) => o.after.all fun e => !(Region.binds .any e) || decide (e.on < i))
  | .seq a b => codeOk a && codeOk b
  | .cond _ a b => codeOk a && codeOk b
  | .block _ c => codeOk c
  | .loop c => codeOk c
  | .rangeFunc _ _ a b => codeOk a && codeOk b
  | _ => true

def progOk (P : Program) : Bool :=
  P.follows .mixedOrders && P.funcs.toList.all fun fn => fn.name != "runtime.NumGoroutine" && (match fn.body with | some c => codeOk c | none => true)

end Go.Den
