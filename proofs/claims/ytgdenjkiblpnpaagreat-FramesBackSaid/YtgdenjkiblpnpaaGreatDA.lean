/-
  The abstract evaluator 'D': values, heap, instructions, code, evaluation.
-/
import Derived.CallsIn
namespace Go.D

/-! ### Finite maps on numbers -/
inductive Tr (α : Type) where
  | lf
  | nd (v : Option α) (l r : Tr α)

namespace Tr
variable {α : Type}
def get? : Tr α → Nat → Option α
  | .lf, _ => none
  | .nd v l r, k => match k with
    | 0 => v
    | k + 1 => bif Nat.beq (k % 2) 0 then l.get? (k / 2) else r.get? (k / 2)

def putF : Nat → Nat → Option α → Tr α → Tr α
  | 0, _, _, t => t
  | f + 1, k, x, .lf => match k with
    | 0 => .nd x .lf .lf
    | k + 1 => bif Nat.beq (k % 2) 0 then .nd none (putF f (k / 2) x .lf) .lf else .nd none .lf (putF f (k / 2) x .lf)
  | f + 1, k, x, .nd v l r => match k with
    | 0 => .nd x l r
    | k + 1 => bif Nat.beq (k % 2) 0 then .nd v (putF f (k / 2) x l) r else .nd v l (putF f (k / 2) x r)

def put (k : Nat) (x : Option α) (t : Tr α) : Tr α := putF (k + 1) k x t
end Tr

/-! ### Values -/
inductive AV where
  | bot
  | bool (b : Bool)
  | int (k : IntKind) (n : Int)
  | str (s : List Nat)
  | nilp
  | ptr (b i off : Nat)
  | iptr (cells : List AV) (off : Nat)
  | nils
  | emps
  | slice (z b i len : Nat) (cap : Option Nat)
  | isl (esz : Nat) (elems : List (List AV))
  | nilm
  | map (b : Nat)
  | nilf
  | fn (f : Nat) (first captured : List AV)
  | yld (l : Nat)
  | nili
  | iface (t : Nat) (v : AV)
  | agg (cells : List AV)
  | tup (vs : List AV)
  deriving Inhabited

def AV.cells : AV → List AV
  | .agg cs => cs
  | v => [v]

inductive DO where
  | t (n : Nat)
  | c (v : AV)

/-! ### Instructions -/
/-- a cell that is one number, text or bool -/
inductive Sc where
  | i
  | s
  | b

/-- what kind of values are held against each other -/
inductive EqSh where
  | int
  | str
  | bl
  | cells (l : List Sc)
  | ptr
  | sl
  | mp
  | fn
  | ifc

inductive LenSh where
  | str
  | sl
  | mp

inductive DIns where
  | mv (x : DO)
  | pick (c a b : DO)
  | alloc (z : List AV)
  | box (n : Nat) (x : DO)
  | ibox (n : Nat) (x : DO)
  | build (z : List AV) (ps : List (Nat × Nat × DO))
  | bsl (z : List AV) (len : Nat) (ps : List (Nat × DO))
  | ibsl (z : List AV) (len : Nat) (ps : List (Nat × DO))
  | ld (k : Option Nat) (a : DO)
  | st (n : Nat) (a x : DO)
  | nck (x : DO)
  | ar (op : BinOp) (x y : DO)
  | eqc (neg : Bool) (sh : EqSh) (x y : DO)
  | un (op : UnOp) (x : DO)
  | cvi (k : IntKind) (x : DO)
  | cvbs (x : DO)
  | cvsl (x : DO)
  | mkif (t : Nat) (x : DO)
  | mkfn (f : Nat) (first captured : List DO)
  | mkmap
  | mksl (z : List AV) (bytes : Nat) (len cap : DO)
  | slstr (x : DO) (lo hi : Option DO)
  | slsl (esz : Nat) (x : DO) (lo hi mx : Option DO)
  | fad (off : Nat) (x : DO)
  | fld (k : Option Nat) (off : Nat) (x : DO)
  | iad (esz : Nat) (x i : DO)
  | iada (len esz : Nat) (x i : DO)
  | ixa (len : Nat) (k : Option Nat) (esz : Nat) (x i : DO)
  | ixs (x i : DO)
  | look (sh : EqSh) (z : AV) (ok : Bool) (m k : DO)
  | mup (sh : EqSh) (m k v : DO)
  | ext (x : DO) (i : Nat)
  | call (f : Nat) (args : List DO)
  | pcall (f : Nat) (args : List DO)
  | callv (x : DO) (args : List DO)
  | inv (x : DO) (tbl : List (Nat × Nat × Option (Option Nat))) (args : List DO)
  | app (z : List AV) (bytes : Nat) (x y : DO)
  | appz (z : List AV) (bytes : Nat) (x n : DO)
  | len (sh : LenSh) (x : DO)
  | cap (x : DO)
  | cpy (esz : Nat) (x y : DO)
  | clr (z : List AV) (x : DO)
  | mm (isMax : Bool) (args : List DO)
  | panic (x : DO)
  | recov
  | dfr (x : DO) (args : List DO)
  | ta (t : Nat) (z : AV) (ok : Bool) (x : DO)
  | rngs (x : DO)
  | nxts (x : DO)

/-- an operation: where its value goes, its guard (a slot and the bool that it must hold), what it does; 're': how many of the region's reads
that stand ahead are to be looked at again behind it (in a drawn region), as places in the region. -/
structure DOp where
  dst : Option Nat
  grd : Option (Nat × Bool)
  ins : DIns

/-- an operation with a slot, and one without -/
def DOp.a (t : Nat) (i : DIns) : DOp := ⟨some t, none, i⟩
def DOp.n (i : DIns) : DOp := ⟨none, none, i⟩

inductive DCode where
  | skip
  | ops (l : List DOp)
  | drawn (l : List (Nat × DOp × List Nat))
  | seq (a b : DCode)
  | cond (c : DO) (a b : DCode)
  | block (id : Nat) (b : DCode)
  | loop (b : DCode)
  | rfunc (g : DO) (ps : List Nat) (asg body : DCode)
  | exit (id : Nat)
  | ret

inductive DRes where
  | tmp (t : Nat)
  | cell (a : Nat) (k : Option Nat)

structure DFunc where
  nargs : Nat
  ntmps : Nat
  results : List DRes
  body : DCode

/-! ### Heap -/
inductive Ex where
  | norm
  | exit (id : Nat)
  | ret

inductive Ct where
  | list (l : List (List AV))
  | tree (n : Nat) (d : List AV) (t : Tr (List AV))

namespace Ct
def size : Ct → Nat
  | .list l => l.length
  | .tree n _ _ => n
def get? : Ct → Nat → Option (List AV)
  | .list l, i => l[i]?
  | .tree n d t, i => bif Nat.ble n i then none else some ((t.get? i).getD d)
def set : Ct → Nat → List AV → Ct
  | .list l, i, x => .list (l.set i x)
  | .tree n d t, i, x => .tree n d (t.put i (some x))
def subF (c : Ct) : Nat → Nat → Option (List (List AV))
  | _, 0 => some []
  | i, n + 1 => match c.get? i with
    | none => none
    | some x => match c.subF (i + 1) n with
      | none => none
      | some xs => some (x :: xs)
/-- the elements from i on, n of them -/
def sub (c : Ct) (i n : Nat) : Option (List (List AV)) := match c with
  | .list l => bif Nat.ble (i + n) l.length then some ((l.drop i).take n) else none
  | c => c.subF i n
/-- elements written from i on -/
def sets : Ct → Nat → List (List AV) → Ct
  | c, _, [] => c
  | c, i, x :: xs => (c.set i x).sets (i + 1) xs
end Ct

inductive LoopSt where
  | ready
  | busy
  | done (e : Ex)

inductive Ob where
  | cells (esz : Nat) (op : Bool) (c : Ct)
  | map (es : List (AV × AV))
  | siter (s : List Nat) (pos : Nat)
  | loop (s : Tr AV) (ps : List Nat) (asg body : DCode) (st : LoopSt)
  | mark

structure Heap where
  next : Nat
  tr : Tr Ob

namespace Heap
def empty : Heap := ⟨0, .lf⟩
def get (h : Heap) (b : Nat) : Option Ob := h.tr.get? b
def set (h : Heap) (b : Nat) (o : Ob) : Heap := { h with tr := h.tr.put b (some o) }
def drop (h : Heap) (b : Nat) : Heap := { h with tr := h.tr.put b none }
def new (h : Heap) (o : Ob) : Heap := { next := h.next + 1, tr := h.tr.put h.next (some o) }
end Heap

inductive Dfr where
  | mark (r : Nat)
  | fn (f : Nat) (args : List AV)

structure Env where
  s : Tr AV
  ds : List Dfr

def Env.get (e : Env) (t : Nat) : AV := (e.s.get? t).getD .bot
def Env.put (e : Env) (t : Nat) (v : AV) : Env := { e with s := e.s.put t (some v) }
def Env.putO (e : Env) (t : Option Nat) (v : AV) : Env := match t with
  | none => e
  | some t => e.put t v

def DO.ev (e : Env) : DO → AV
  | .t n => e.get n
  | .c v => v

inductive Res (α : Type) where
  | ok (a : α) (h : Heap)
  | panic (v : AV) (h : Heap)
  | err

/-! ### What holds no way into the heap -/
mutual
def AV.tree : AV → Bool
  | .ptr _ _ _ | .slice _ _ _ _ _ | .map _ | .yld _ | .bot => false
  | .fn _ a b => AV.trees a && AV.trees b
  | .iface _ v => v.tree
  | .agg cs => AV.trees cs
  | .tup vs => AV.trees vs
  | _ => true
def AV.trees : List AV → Bool
  | [] => true
  | v :: vs => v.tree && AV.trees vs
end

mutual
/-- what holds no address at all -/
def AV.scalar : AV → Bool
  | .bool _ | .int _ _ | .str _ | .nilp | .nils | .nilm | .nilf | .nili => true
  | .iface _ v => v.scalar
  | .agg cs => AV.scalars cs
  | .tup vs => AV.scalars vs
  | _ => false
def AV.scalars : List AV → Bool
  | [] => true
  | v :: vs => v.scalar && AV.scalars vs
end

def capOk (len : Nat) : Option Nat → Bool
  | some k => Nat.ble len k
  | none => true

/-- a value as one without a way into the heap: what it leads to is copied -/
def frz (h : Heap) : Nat → AV → Option AV
  | 0, _ => none
  | d + 1, v =>
    let many (vs : List AV) : Option (List AV) := vs.foldr (fun v acc => acc.bind fun l => (frz h d v).map (· :: l)) (some [])
    match v with
    | .ptr b i off => match h.get b with
      | some (.cells _ _ c) => match c.get? i with
        | some x => (many x).map fun x => .iptr x off
        | none => none
      | _ => none
    | .slice z b i len cap => match h.get b with
      | some (.cells _ _ c) => bif capOk len cap then (match c.sub i len with
        | some xs => (xs.foldr (fun x acc => acc.bind fun l => (many x).map (· :: l)) (some [])).map (.isl z)
        | none => none) else none
      | _ => none
    | .map _ | .yld _ | .bot => none
    | .fn f a b => (many a).bind fun a => (many b).map fun b => .fn f a b
    | .iface t v => (frz h d v).map (.iface t)
    | .agg cs => (many cs).map .agg
    | .tup vs => (many vs).map .tup
    | v => some v

def frzAll (h : Heap) (d : Nat) : List AV → Option (List AV)
  | [] => some []
  | v :: vs => (frz h d v).bind fun v => (frzAll h d vs).map (v :: ·)

/-! ### Small functions -/
/-- one cell's value -/
def AV.one : AV → Bool
  | .agg _ | .tup _ | .bot => false
  | _ => true

def fillC : List AV → List (Nat × Nat × List AV) → Option (List AV)
  | z, [] => some z
  | z, (off, n, x) :: ps =>
    bif Nat.beq x.length n && Nat.ble (off + n) z.length && x.all AV.one then fillC (z.take off ++ x ++ z.drop (off + n)) ps else none

def fillS (n : Nat) : List (List AV) → List (Nat × List AV) → Option (List (List AV))
  | z, [] => some z
  | z, (i, x) :: ps => bif Nat.beq x.length n && Nat.blt i z.length && x.all AV.one then fillS n (z.set i x) ps else none

def readC (k : Option Nat) (off : Nat) (cs : List AV) : Option AV := match k with
  | none => cs[off]?
  | some n => bif Nat.ble (off + n) cs.length then some (.agg ((cs.drop off).take n)) else none

def writeC (n off : Nat) (x cs : List AV) : Option (List AV) :=
  bif Nat.beq x.length n && Nat.ble (off + n) cs.length && x.all AV.one then some (cs.take off ++ x ++ cs.drop (off + n)) else none

def intBits (op : BinOp) (k : IntKind) (x y : Int) : Option Int :=
  let a := BitVec.ofInt k.bits x
  let b := BitVec.ofInt k.bits y
  match op with
  | .and => some (k.wrap (a &&& b).toNat)
  | .or => some (k.wrap (a ||| b).toNat)
  | .xor => some (k.wrap (a ^^^ b).toNat)
  | .andNot => some (k.wrap (a &&& ~~~b).toNat)
  | _ => none

def natsLess : List Nat → List Nat → Bool
  | _, [] => false
  | [], _ :: _ => true
  | a :: x, b :: y => Nat.blt a b || (Nat.beq a b && natsLess x y)

def natsEq : List Nat → List Nat → Bool
  | [], [] => true
  | a :: x, b :: y => Nat.beq a b && natsEq x y
  | _, _ => false

def kindEq (a b : IntKind) : Bool := match a, b with
  | .i8, .i8 | .i16, .i16 | .i32, .i32 | .i64, .i64 | .u8, .u8 | .u16, .u16 | .u32, .u32 | .u64, .u64 => true
  | _, _ => false

def arith (op : BinOp) : AV → AV → Option AV
  | .int k a, .int yk b =>
    match op with
    | .shl => bif decide (b < 0) then none else some (.int k (k.wrap (a * 2 ^ (min b.toNat k.bits))))
    | .shr => bif decide (b < 0) then none else some (.int k (a.fdiv (2 ^ (min b.toNat k.bits))))
    | _ =>
      bif kindEq k yk then
        match op with
        | .add => some (.int k (k.wrap (a + b)))
        | .sub => some (.int k (k.wrap (a - b)))
        | .mul => some (.int k (k.wrap (a * b)))
        | .quo => bif decide (b = 0) then none else some (.int k (k.wrap (a.tdiv b)))
        | .rem => bif decide (b = 0) then none else some (.int k (a.tmod b))
        | .eql => some (.bool (a == b))
        | .neq => some (.bool (a != b))
        | .lss => some (.bool (decide (a < b)))
        | .leq => some (.bool (decide (a ≤ b)))
        | .gtr => some (.bool (decide (a > b)))
        | .geq => some (.bool (decide (a ≥ b)))
        | op => (intBits op k a b).map (.int k)
      else none
  | .str x, .str y =>
    match op with
    | .add => bif Nat.ble (x.length + y.length) 9223372036854775807 then some (.str (x ++ y)) else none
    | .eql => some (.bool (natsEq x y))
    | .neq => some (.bool (!natsEq x y))
    | .lss => some (.bool (natsLess x y))
    | .leq => some (.bool (natsLess x y || natsEq x y))
    | .gtr => some (.bool (!(natsLess x y || natsEq x y)))
    | .geq => some (.bool (!natsLess x y))
    | _ => none
  | _, _ => none

def eqSs : List Sc → List AV → List AV → Option Bool
  | [], [], [] => some true
  | .i :: l, .int k a :: x, .int k' b :: y => bif kindEq k k' then (eqSs l x y).map ((a == b) && ·) else none
  | .s :: l, .str a :: x, .str b :: y => (eqSs l x y).map (natsEq a b && ·)
  | .b :: l, .bool a :: x, .bool b :: y => (eqSs l x y).map ((a == b) && ·)
  | _, _, _ => none

def eqAV : EqSh → AV → AV → Option Bool
  | .int, .int k a, .int k' b => bif kindEq k k' then some (a == b) else none
  | .str, .str a, .str b => some (natsEq a b)
  | .bl, .bool a, .bool b => some (a == b)
  | .cells l, .agg xs, .agg ys => eqSs l xs ys
  | .ptr, .nilp, .nilp => some true
  | .ptr, .nilp, .ptr _ _ _ | .ptr, .ptr _ _ _, .nilp | .ptr, .nilp, .iptr _ _ | .ptr, .iptr _ _, .nilp => some false
  | .sl, .nils, .nils => some true
  | .sl, .nils, .slice _ _ _ _ _ | .sl, .slice _ _ _ _ _, .nils | .sl, .nils, .isl _ _ | .sl, .isl _ _, .nils | .sl, .nils, .emps | .sl, .emps, .nils => some false
  | .mp, .nilm, .nilm => some true
  | .mp, .nilm, .map _ | .mp, .map _, .nilm => some false
  | .fn, .nilf, .nilf => some true
  | .fn, .nilf, .fn _ _ _ | .fn, .fn _ _ _, .nilf => some false
  | .ifc, .nili, .nili => some true
  | .ifc, .nili, .iface _ _ | .ifc, .iface _ _, .nili => some false
  | _, _, _ => none

def unary (op : UnOp) : AV → Option AV
  | .int k n => match op with
    | .neg => some (.int k (k.wrap (0 - n)))
    | .xor => (intBits .xor k (if k.signed then -1 else k.max) n).map (.int k)
    | _ => none
  | .bool b => match op with
    | .not => some (.bool !b)
    | _ => none
  | _ => none

/-- a key is of the kind that its map's keys are -/
def keyOk (sh : EqSh) (k : AV) : Bool := match eqAV sh k k with
  | some true => true
  | _ => false

/-- a key's place among entries -/
def findE (sh : EqSh) (k : AV) : List (AV × AV) → Option (Option AV)
  | [] => some none
  | (x, v) :: es => match eqAV sh k x with
    | some true => some (some v)
    | some false => findE sh k es
    | none => none

def setE (sh : EqSh) (k v : AV) : List (AV × AV) → Option (List (AV × AV))
  | [] => some [(k, v)]
  | (x, u) :: es => match eqAV sh k x with
    | some true => some ((k, v) :: es)
    | some false => (setE sh k v es).map ((x, u) :: ·)
    | none => none

def natOf : AV → Option Nat
  | .int _ (.ofNat n) => some n
  | _ => none

/-- an optional bound: its value, or another one -/
def bnd (e : Env) (x : Option DO) (d : Nat) : Option Nat := match x with
  | none => some d
  | some o => natOf (o.ev e)

def bytesOf : List (List AV) → Option (List Nat)
  | [] => some []
  | [.int .u8 (.ofNat n)] :: xs => bif Nat.blt n 256 then (bytesOf xs).map (n :: ·) else none
  | _ => none

/-- the elements of a slice (or a string's bytes), the first n -/
def elemsOf (h : Heap) : AV → Option (List (List AV))
  | .nils | .emps => some []
  | .slice _ b i len _ => match h.get b with
    | some (.cells _ _ c) => c.sub i len
    | _ => none
  | .isl _ es => some es
  | .str s => some (s.map fun n => [AV.int .u8 (Int.ofNat n)])
  | _ => none

def okElems (esz : Nat) : List (List AV) → Bool
  | [] => true
  | x :: xs => Nat.beq x.length esz && x.all AV.one && okElems esz xs

/-- a new row that a slice leads to, its end open -/
def newOpen (esz : Nat) (h : Heap) (es : List (List AV)) : Res AV :=
  .ok (.slice esz h.next 0 es.length none) (h.new (.cells esz true (.list es)))

def roomy (n bytes : Nat) : Bool := Nat.ble (n * (bytes + 1)) 17592186044416

def appendD (z : List AV) (bytes : Nat) (h : Heap) (x : AV) (new : List (List AV)) : Res AV :=
  let esz := z.length
  bif !(okElems esz new && Nat.blt 0 esz) then .err else
  match x with
  | .nils => match new with
    | [] => .ok .nils h
    | _ => bif roomy new.length bytes then newOpen esz h new else .err
  | .emps => match new with
    | [] => .ok .emps h
    | _ => bif roomy new.length bytes then newOpen esz h new else .err
  | .isl k es => match new with
    | [] => .ok (.isl k es) h
    | _ => .err
  | .slice z' b i len cap => match h.get b with
    | some (.cells esz' op c) =>
      bif !(Nat.beq esz esz' && Nat.beq esz z') then .err else
      match cap with
      | some k =>
        bif Nat.ble (len + new.length) k then
          bif Nat.ble (i + len + new.length) c.size then .ok (.slice esz b i (len + new.length) (some k)) (h.set b (.cells esz op (c.sets (i + len) new))) else .err
        else match c.sub i len with
          | some old => bif roomy (len + new.length) bytes then newOpen esz h (old ++ new) else .err
          | none => .err
      | none =>
        bif Nat.ble (i + len + new.length) c.size then .ok (.slice esz b i (len + new.length) none) (h.set b (.cells esz op (c.sets (i + len) new)))
        else match c.sub i len with
          | some old => bif roomy (len + new.length) bytes then newOpen esz (h.drop b) (old ++ new) else .err
          | none => .err
    | _ => .err
  | _ => .err

/-- the least that a slice's capacity may be -/
def capLow (c : Ct) (i : Nat) (cap : Option Nat) : Nat := match cap with
  | some k => k
  | none => c.size - i

def sliceD (esz : Nat) (e : Env) (h : Heap) (x : AV) (lo hi mx : Option DO) : Option AV :=
  match x with
  | .nils => match bnd e lo 0, bnd e hi 0, bnd e mx 0 with
    | some 0, some 0, some 0 => some .nils
    | _, _, _ => none
  | .emps => match bnd e lo 0, bnd e hi 0, bnd e mx 0 with
    | some 0, some 0, some 0 => some .emps
    | _, _, _ => none
  | .isl k es => match bnd e lo 0, bnd e hi es.length with
    | some l, some r => bif Nat.beq k esz && Nat.ble l r && Nat.ble r es.length then
        match mx with
        | none => some (.isl k ((es.drop l).take (r - l)))
        | some m => match natOf (m.ev e) with
          | some m => bif Nat.beq m 0 then (bif Nat.beq r 0 then some .emps else none) else bif Nat.ble r m && Nat.ble m es.length then some (.isl k ((es.drop l).take (r - l))) else none
          | none => none
      else none
    | _, _ => none
  | .slice z b i len cap => bif !(Nat.beq z esz) then none else match h.get b with
    | some (.cells _ _ c) => match bnd e lo 0, bnd e hi len with
      | some l, some r =>
        let low := capLow c i cap
        match mx with
        | some m => match natOf (m.ev e) with
          | some m => bif Nat.ble l r && Nat.ble r m && Nat.ble m low then some (.slice z b (bif Nat.beq m l then i else i + l) (r - l) (some (m - l))) else none
          | none => none
        | none =>
          bif Nat.ble l r && Nat.ble r low then
            match cap with
            | some k => some (.slice z b (bif Nat.beq k l then i else i + l) (r - l) (some (k - l)))
            | none => bif Nat.blt l low then some (.slice z b (i + l) (r - l) none) else some (.isl z [])
          else none
      | _, _ => none
    | _ => none
  | _ => none

def strSlice (e : Env) (x : AV) (lo hi : Option DO) : Option AV := match x with
  | .str s => match bnd e lo 0, bnd e hi s.length with
    | some l, some r => bif Nat.ble l r && Nat.ble r s.length then some (.str ((s.drop l).take (r - l))) else none
    | _, _ => none
  | _ => none

def lenD (h : Heap) : LenSh → AV → Option Nat
  | .str, .str s => some s.length
  | .sl, .nils | .sl, .emps | .mp, .nilm => some 0
  | .sl, .slice _ _ _ len _ => some len
  | .sl, .isl _ es => some es.length
  | .mp, .map b => match h.get b with
    | some (.map es) => some es.length
    | _ => none
  | _, _ => none

def mmD (isMax : Bool) : AV → List AV → Option AV
  | x, [] => some x
  | .int k x, .int k' y :: r => bif kindEq k k' then mmD isMax (.int k (bif isMax then (if y > x then y else x) else (if y < x then y else x))) r else none
  | _, _ => none

def Res.of (o : Option AV) (h : Heap) : Res AV := match o with
  | some v => .ok v h
  | none => .err

/-- the method of a type, and whether its receiver is loaded first -/
def findM (t : Nat) : List (Nat × Nat × Option (Option Nat)) → Option (Nat × Option (Option Nat))
  | [] => none
  | (u, r) :: l => bif Nat.beq t u then some r else findM t l

inductive Tgt where
  | fn (f : Nat)
  | yld (l : Nat)

abbrev Caller := Tgt → List AV → Heap → Res AV

/-- a call of what has no part in the heap: its arguments are told as trees, its answer comes as one -/
def pureCall (call : Caller) (f : Nat) (args : List AV) (h : Heap) : Res AV :=
  bif AV.trees args then
    match call (.fn f) args .empty with
    | .ok v h' => Res.of (frz h' 16 v) h
    | .panic v h' => match frz h' 16 v with
      | some v => .panic v h
      | none => .err
    | .err => .err
  else match frzAll h 16 args with
    | none => .err
    | some args => match call (.fn f) args .empty with
      | .ok v _ => bif v.scalar then .ok v h else .err
      | _ => .err

def storeD (h : Heap) (n : Nat) (a x : AV) : Res AV := match a with
  | .ptr b i off => match h.get b with
    | some (.cells esz op c) => match c.get? i with
      | some y => match writeC n off x.cells y with
        | some y => .ok (.tup []) (h.set b (.cells esz op (c.set i y)))
        | none => .err
      | none => .err
    | _ => .err
  | _ => .err

def loadD (h : Heap) (k : Option Nat) (a : AV) : Option AV := match a with
  | .ptr b i off => match h.get b with
    | some (.cells _ _ c) => match c.get? i with
      | some y => readC k off y
      | none => none
    | _ => none
  | .iptr cs off => readC k off cs
  | _ => none

/-- what an instruction lays: the object, and its value at a block -/
def newOf (e : Env) : DIns → Option (Ob × (Nat → AV))
  | .alloc z => some (.cells z.length false (.list [z]), fun b => .ptr b 0 0)
  | .box n x => bif Nat.beq (x.ev e).cells.length n && (x.ev e).cells.all AV.one then some (.cells n false (.list [(x.ev e).cells]), fun b => .ptr b 0 0) else none
  | .bsl z len ps => match fillS z.length (List.replicate len z) (ps.map fun p => (p.1, (p.2.ev e).cells)) with
    | some es => some (.cells z.length false (.list es), fun b => .slice z.length b 0 len (some len))
    | none => none
  | .mkmap => some (.map [], fun b => .map b)
  | .mksl z bytes len cap => match natOf (len.ev e), natOf (cap.ev e) with
    | some l, some c => bif Nat.ble l c && roomy c bytes && Nat.blt 0 z.length then
        some (.cells z.length false (bif Nat.ble 1024 c then .tree c z .lf else .list (List.replicate c z)), fun b => .slice z.length b 0 l (some c))
      else none
    | _, _ => none
  | .rngs x => match x.ev e with
    | .str s => some (.siter s 0, fun b => .ptr b 0 0)
    | _ => none
  | _ => none

/-- what an instruction does -/
def step (call : Caller) (e : Env) (h : Heap) : DIns → Res AV
  | .mv x => .ok (x.ev e) h
  | .pick c a b => match c.ev e with
    | .bool true => .ok (a.ev e) h
    | .bool false => .ok (b.ev e) h
    | _ => .err
  | .ibox n x => bif Nat.beq (x.ev e).cells.length n && (x.ev e).cells.all AV.one && AV.trees (x.ev e).cells then .ok (.iptr (x.ev e).cells 0) h else .err
  | .build z ps => match fillC z (ps.map fun p => (p.1, p.2.1, (p.2.2.ev e).cells)) with
    | some cs => .ok (.agg cs) h
    | none => .err
  | .ibsl z len ps => match fillS z.length (List.replicate len z) (ps.map fun p => (p.1, (p.2.ev e).cells)) with
    | some es => bif es.all AV.trees then .ok (.isl z.length es) h else .err
    | none => .err
  | .ld k a => Res.of (loadD h k (a.ev e)) h
  | .st n a x => storeD h n (a.ev e) (x.ev e)
  | .nck x => match x.ev e with
    | .ptr b i o => .ok (.ptr b i o) h
    | .iptr c o => .ok (.iptr c o) h
    | .fn f a b => .ok (.fn f a b) h
    | .iface t v => .ok (.iface t v) h
    | _ => .err
  | .ar op x y => Res.of (arith op (x.ev e) (y.ev e)) h
  | .eqc neg sh x y => Res.of ((eqAV sh (x.ev e) (y.ev e)).map fun b => .bool (b != neg)) h
  | .un op x => Res.of (unary op (x.ev e)) h
  | .cvi k x => match x.ev e with
    | .int _ n => .ok (.int k (k.wrap n)) h
    | _ => .err
  | .cvbs x => match x.ev e with
    | .str _ => .err
    | v => match elemsOf h v with
      | some es => Res.of ((bytesOf es).map .str) h
      | none => .err
  | .cvsl x => match x.ev e with
    | .slice z b i len cap => match h.get b with
      | some (.cells esz op c) => .ok (.slice z b i len cap) (h.set b (.cells esz op c))
      | _ => .err
    | _ => .err
  | .mkif t x => .ok (.iface t (x.ev e)) h
  | .mkfn f a b => .ok (.fn f (a.map (DO.ev e)) (b.map (DO.ev e))) h
  | .slstr x lo hi => Res.of (strSlice e (x.ev e) lo hi) h
  | .slsl esz x lo hi mx => Res.of (sliceD esz e h (x.ev e) lo hi mx) h
  | .fad off x => match x.ev e with
    | .ptr b i o => .ok (.ptr b i (o + off)) h
    | .iptr cs o => .ok (.iptr cs (o + off)) h
    | _ => .err
  | .fld k off x => match x.ev e with
    | .agg cs => Res.of (readC k off cs) h
    | _ => .err
  | .iad esz x i => match natOf (i.ev e), x.ev e with
    | some i, .slice z b s len _ => bif Nat.beq z esz && Nat.blt i len then .ok (.ptr b (s + i) 0) h else .err
    | some i, .isl esz' es => bif Nat.beq esz esz' then match es[i]? with
        | some cs => .ok (.iptr cs 0) h
        | none => .err
      else .err
    | _, _ => .err
  | .iada len esz x i => match natOf (i.ev e), x.ev e with
    | some i, .ptr b j o => bif Nat.blt i len then .ok (.ptr b j (o + i * esz)) h else .err
    | some i, .iptr cs o => bif Nat.blt i len then .ok (.iptr cs (o + i * esz)) h else .err
    | _, _ => .err
  | .ixa len k esz x i => match natOf (i.ev e), x.ev e with
    | some i, .agg cs => bif Nat.blt i len then Res.of (readC k (i * esz) cs) h else .err
    | _, _ => .err
  | .ixs x i => match natOf (i.ev e), x.ev e with
    | some i, .str s => match s[i]? with
      | some b => .ok (.int .u8 b) h
      | none => .err
    | _, _ => .err
  | .look sh z ok m k => bif !(keyOk sh (k.ev e)) then .err else match m.ev e with
    | .nilm => .ok (bif ok then .tup [z, .bool false] else z) h
    | .map b => match h.get b with
      | some (.map es) => match findE sh (k.ev e) es with
        | some (some v) => .ok (bif ok then .tup [v, .bool true] else v) h
        | some none => .ok (bif ok then .tup [z, .bool false] else z) h
        | none => .err
      | _ => .err
    | _ => .err
  | .mup sh m k v => bif !(keyOk sh (k.ev e)) then .err else match m.ev e with
    | .map b => match h.get b with
      | some (.map es) => match setE sh (k.ev e) (v.ev e) es with
        | some es => .ok (.tup []) (h.set b (.map es))
        | none => .err
      | _ => .err
    | _ => .err
  | .ext x i => match x.ev e with
    | .tup vs => Res.of (vs[i]?) h
    | _ => .err
  | .call f args => call (.fn f) (args.map (DO.ev e)) h
  | .pcall f args => pureCall call f (args.map (DO.ev e)) h
  | .callv x args => match x.ev e with
    | .fn f a b => call (.fn f) (a ++ args.map (DO.ev e) ++ b) h
    | .yld l => call (.yld l) (args.map (DO.ev e)) h
    | _ => .err
  | .inv x tbl args => match x.ev e with
    | .iface t v => match findM t tbl with
      | some (f, none) => call (.fn f) (v :: args.map (DO.ev e)) h
      | some (f, some k) => match loadD h k v with
        | some v => call (.fn f) (v :: args.map (DO.ev e)) h
        | none => .err
      | none => .err
    | _ => .err
  | .app z bytes x y => match elemsOf h (y.ev e) with
    | some es => appendD z bytes h (x.ev e) es
    | none => .err
  | .appz z bytes x n => match natOf (n.ev e) with
    | some n => bif roomy n bytes then appendD z bytes h (x.ev e) (List.replicate n z) else .err
    | none => .err
  | .cap x => match x.ev e with
    | .nils | .emps => .ok (.int .i64 0) h
    | .slice _ _ _ _ (some c) => .ok (.int .i64 c) h
    | _ => .err
  | .len sh x => match lenD h sh (x.ev e) with
    | some n => .ok (.int .i64 n) h
    | none => .err
  | .cpy esz x y => match elemsOf h (y.ev e) with
    | some es => match x.ev e with
      | .nils | .emps => .ok (.int .i64 0) h
      | .slice z' b i len _ => match h.get b with
        | some (.cells esz' op c) =>
          let new := es.take len
          bif Nat.beq esz esz' && Nat.beq esz z' && okElems esz new && Nat.ble (i + len) c.size then .ok (.int .i64 new.length) (h.set b (.cells esz op (c.sets i new))) else .err
        | _ => .err
      | _ => .err
    | none => .err
  | .clr z x => match x.ev e with
    | .nils | .emps => .ok (.tup []) h
    | .slice z' b i len _ => match h.get b with
      | some (.cells esz op c) => bif Nat.beq esz z.length && Nat.beq esz z' && z.all AV.one && Nat.ble (i + len) c.size then .ok (.tup []) (h.set b (.cells esz op (c.sets i (List.replicate len z)))) else .err
      | _ => .err
    | _ => .err
  | .mm isMax args => match args.map (DO.ev e) with
    | AV.int k x :: r => Res.of (mmD isMax (AV.int k x) r) h
    | _ => .err
  | .panic x => match x.ev e with
    | .iface t v => .panic (.iface t v) h
    | _ => .err
  | .ta t z ok x => match x.ev e with
    | .nili => bif ok then .ok (.tup [z, .bool false]) h else .err
    | .iface t' v => bif Nat.beq t t' then .ok (bif ok then .tup [v, .bool true] else v) h
      else bif ok then .ok (.tup [z, .bool false]) h else .err
    | _ => .err
  | .nxts x => match x.ev e with
    | .ptr b 0 0 => match h.get b with
      | some (.siter s pos) => match s[pos]? with
        | none => .ok (.tup [.bool false]) h
        | some c => bif Nat.blt c 128 then .ok (.tup [.bool true, .int .i64 pos, .int .i32 c]) (h.set b (.siter s (pos + 1))) else .err
      | _ => .err
    | _ => .err
  | .recov => .err
  | .dfr _ _ => .err
  | i => match newOf e i with
    | some (o, f) => .ok (f h.next) (h.new o)
    | none => .err

/-- whether an operation is to be done: its guard -/
def wanted (e : Env) : Option (Nat × Bool) → Option Bool
  | none => some true
  | some (t, b) => match e.get t with
    | .bool x => some (x == b)
    | .tup [] => some false
    | _ => none

inductive Out where
  | go (x : Ex) (e : Env) (h : Heap)
  | panic (v : AV) (e : Env) (h : Heap)
  | err

def opD (call : Caller) (o : DOp) (e : Env) (h : Heap) : Out :=
  match wanted e o.grd with
  | none => .err
  | some false => .go .norm (e.putO o.dst (.tup [])) h
  | some true => match o.ins with
    | .dfr x args => match x.ev e with
      | .fn f a b => .go .norm ({ e with ds := .fn f (a ++ args.map (DO.ev e) ++ b) :: e.ds }.putO o.dst (.tup [])) h
      | _ => .err
    | i => match step call e h i with
      | .ok v h => .go .norm (e.putO o.dst v) h
      | .panic v h => .panic v e h
      | .err => .err

def opsD (call : Caller) : List DOp → Env → Heap → Out
  | [], e, h => .go .norm e h
  | o :: l, e, h => match opD call o e h with
    | .go _ e h => opsD call l e h
    | r => r

mutual
/-- the same value -/
def AV.beq : AV → AV → Bool
  | .bool a, .bool b => a == b
  | .int k a, .int k' b => kindEq k k' && decide (a = b)
  | .str a, .str b => natsEq a b
  | .nilp, .nilp | .nils, .nils | .emps, .emps | .nilm, .nilm | .nilf, .nilf | .nili, .nili => true
  | .ptr b i o, .ptr b' i' o' => Nat.beq b b' && Nat.beq i i' && Nat.beq o o'
  | .iptr c o, .iptr c' o' => Nat.beq o o' && AV.beqs c c'
  | .slice z b i l c, .slice z' b' i' l' c' => Nat.beq z z' && Nat.beq b b' && Nat.beq i i' && Nat.beq l l' && c == c'
  | .isl z es, .isl z' es' => Nat.beq z z' && AV.beqss es es'
  | .map b, .map b' => Nat.beq b b'
  | .fn f a b, .fn f' a' b' => Nat.beq f f' && AV.beqs a a' && AV.beqs b b'
  | .yld l, .yld l' => Nat.beq l l'
  | .iface t v, .iface t' v' => Nat.beq t t' && AV.beq v v'
  | .agg a, .agg b => AV.beqs a b
  | .tup a, .tup b => AV.beqs a b
  | _, _ => false
def AV.beqs : List AV → List AV → Bool
  | [], [] => true
  | a :: x, b :: y => AV.beq a b && AV.beqs x y
  | _, _ => false
def AV.beqss : List (List AV) → List (List AV) → Bool
  | [], [] => true
  | a :: x, b :: y => AV.beqs a b && AV.beqss x y
  | _, _ => false
end

/-- a read is looked at again: does it give what it gave? -/
def again (call : Caller) (o : DOp) (e : Env) (h : Heap) : Bool :=
  match wanted e o.grd, o.dst with
  | some true, some d => match step call e h o.ins with
    | .ok v _ => AV.beq v (e.get d)
    | _ => false
  | some false, some _ => true
  | _, _ => false

/-- what operations have left in slots is forgotten -/
def forget : List (Nat × DOp × List Nat) → Env → Env
  | [], e => e
  | o :: l, e => forget l (e.putO o.2.1.dst .bot)

/-- an operation of a region, by its place -/
def findEl : List (Nat × DOp × List Nat) → Nat → Option DOp
  | [], _ => none
  | (i, d, _) :: l, j => bif Nat.beq i j then some d else findEl l j

def againAt (call : Caller) (all : List (Nat × DOp × List Nat)) (i : Nat) (e : Env) (h : Heap) : Bool := match findEl all i with
  | some d => again call d e h
  | none => false

def drawnD (call : Caller) (all : List (Nat × DOp × List Nat)) : List (Nat × DOp × List Nat) → Env → Heap → Out
  | [], e, h => .go .norm e h
  | (_, o, re) :: l, e, h => match opD call o e h with
    | .go _ e h => bif re.all fun i => againAt call all i e h then drawnD call all l e h else .err
    | .panic v e h => .panic v (forget all e) h
    | .err => .err

/-- the call of an iterator's loop body is told by the loop's object -/
def rounds (body : Env → Heap → Out) : Nat → Env → Heap → Out
  | 0, _, _ => .err
  | n + 1, e, h => match body e h with
    | .go .norm e h => rounds body n e h
    | r => r

def putMany (s : Tr AV) : List Nat → List AV → Option (Tr AV)
  | [], [] => some s
  | t :: ts, v :: vs => putMany (s.put t (some v)) ts vs
  | _, _ => none

def rfuncD (call : Caller) (g : DO) (ps : List Nat) (asg body : DCode) (e : Env) (h : Heap) : Out :=
  match g.ev e with
  | .fn f a b =>
    let r := h.next
    let h := h.new .mark
    let l := h.next
    let h := h.new (.loop e.s ps asg body .ready)
    let e := { e with ds := .mark r :: e.ds }
    match call (.fn f) (a ++ [.yld l] ++ b) h with
    | .ok _ h => match h.get l with
      | some (.loop _ _ _ _ .ready) => .go .norm e (h.drop l)
      | some (.loop _ _ _ _ (.done x)) => .go x e (h.drop l)
      | _ => .err
    | .panic v h => .panic v e h
    | .err => .err
  | _ => .err

def DIns.isDfr : DIns → Bool
  | .dfr _ _ => true
  | _ => false

/-- the evaluation of code; L: the rounds that a loop may have -/
def evd (call : Caller) (L : Nat) (inRound : Bool) : DCode → Env → Heap → Out
  | .skip, e, h => .go .norm e h
  | .ops l, e, h => bif inRound && l.any (fun o => o.ins.isDfr) then .err else opsD call l e h
  | .drawn l, e, h => bif inRound && l.any (fun o => o.2.1.ins.isDfr) then .err else drawnD call l l e h
  | .seq a b, e, h => match evd call L inRound a e h with
    | .go .norm e h => evd call L inRound b e h
    | r => r
  | .cond c a b, e, h => match c.ev e with
    | .bool true => evd call L inRound a e h
    | .bool false => evd call L inRound b e h
    | _ => .err
  | .block id b, e, h => match evd call L inRound b e h with
    | .go (.exit id') e h => bif Nat.beq id id' then .go .norm e h else .go (.exit id') e h
    | r => r
  | .loop b, e, h => rounds (evd call L inRound b) L e h
  | .rfunc g ps asg body, e, h => bif inRound then .err else rfuncD call g ps asg body e h
  | .exit id, e, h => .go (.exit id) e h
  | .ret, e, h => .go .ret e h

/-- code of a deferred function: what may be recovered goes along -/
inductive OutS where
  | go (x : Ex) (e : Env) (p : Option AV × Bool) (h : Heap)
  | err

/-- 'p': the panic that is under way, and whether it has been recovered -/
def opsS (call : Caller) : List DOp → Env → Option AV × Bool → Heap → OutS
  | [], e, p, h => .go .norm e p h
  | o :: l, e, p, h => match o.ins, o.grd with
    | .recov, none => match p with
      | (some v, false) => opsS call l (e.putO o.dst v) (some v, true) h
      | p => opsS call l (e.putO o.dst .nili) p h
    | _, _ => match wanted e o.grd with
      | none => .err
      | some false => opsS call l (e.putO o.dst (.tup [])) p h
      | some true => match step call e h o.ins with
        | .ok v h => opsS call l (e.putO o.dst v) p h
        | _ => .err

def DIns.isRecov : DIns → Bool
  | .recov => true
  | _ => false

def noCall : Caller := fun _ _ _ => .err

def evS (call : Caller) (L : Nat) : DCode → Env → Option AV × Bool → Heap → OutS
  | .ops l, e, p, h => bif l.any (fun o => o.ins.isRecov) then opsS noCall l e p h else
    match opsD call l e h with
    | .go x e h => .go x e p h
    | _ => .err
  | .seq a b, e, p, h => match evS call L a e p h with
    | .go .norm e p h => evS call L b e p h
    | r => r
  | .cond c a b, e, p, h => match c.ev e with
    | .bool true => evS call L a e p h
    | .bool false => evS call L b e p h
    | _ => .err
  | c, e, p, h => match evd call L false c e h with
    | .go x e h => .go x e p h
    | _ => .err

def envOf : Nat → List AV → Tr AV → Tr AV
  | _, [], s => s
  | k, v :: vs, s => envOf (k + 1) vs (s.put k (some v))

def startEnv (args : List AV) : Env := ⟨envOf 0 args .lf, []⟩

def resD (h : Heap) (e : Env) : DRes → Option AV
  | .tmp t => some (e.get t)
  | .cell a k => loadD h k (e.get a)

def resAll (h : Heap) (e : Env) : List DRes → Option (List AV)
  | [] => some []
  | r :: rs => (resD h e r).bind fun v => (resAll h e rs).map (v :: ·)

def resultsD (h : Heap) (e : Env) (rs : List DRes) : Option AV := match resAll h e rs with
  | some [v] => some v
  | some vs => some (.tup vs)
  | none => none

/-- a function is left: its deferred calls, the last first; 'p': the panic under way -/
def leave (call : Caller) (tab : Nat → Option DFunc) (L : Nat) (rs : List DRes) (e : Env) : List Dfr → Option AV → Heap → Res AV
  | [], none, h => Res.of (resultsD h e rs) h
  | [], some v, h => .panic v h
  | .mark r :: ds, p, h => match h.get r with
    | some .mark => leave call tab L rs e ds p (h.drop r)
    | _ => .err
  | .fn f args :: ds, p, h => match tab f with
    | none => .err
    | some fn => bif !(Nat.beq args.length fn.nargs) then .err else
      match evS call L fn.body (startEnv args) (p, false) h with
      | .go x e' p' h => match x, e'.ds, resultsD h e' fn.results with
        | .exit _, _, _ => .err
        | _, [], some _ => match p' with
          | (some _, true) => leave call tab L rs e ds none h
          | (q, _) => leave call tab L rs e ds q h
        | _, _, _ => .err
      | .err => .err

def callF (tab : Nat → Option DFunc) (L : Nat) : Nat → Caller
  | 0, _, _, _ => .err
  | d + 1, .fn f, args, h => match tab f with
    | none => .err
    | some fn => bif !(Nat.beq args.length fn.nargs) then .err else
      match evd (callF tab L d) L false fn.body (startEnv args) h with
      | .go (.exit _) _ _ => .err
      | .go _ e h => leave (callF tab L d) tab L fn.results e e.ds none h
      | .panic v e h => leave (callF tab L d) tab L fn.results e e.ds (some v) h
      | .err => .err
  | d + 1, .yld l, args, h => match h.get l with
    | some (.loop s ps asg body .ready) => match putMany s ps args with
      | none => .err
      | some s' => match evd (callF tab L d) L true asg ⟨s', []⟩ h with
        | .go .norm e h => match h.get l with
          | some (.loop s ps asg2 body2 .ready) => match evd (callF tab L d) L true body e (h.set l (.loop s ps asg2 body2 .busy)) with
            | .go .norm _ h => match h.get l with
              | some (.loop s ps asg body .busy) => .ok (.bool true) (h.set l (.loop s ps asg body .ready))
              | _ => .err
            | .go x _ h => match h.get l with
              | some (.loop s ps asg body .busy) => .ok (.bool false) (h.set l (.loop s ps asg body (.done x)))
              | _ => .err
            | _ => .err
          | _ => .err
        | _ => .err
    | _ => .err

end Go.D
