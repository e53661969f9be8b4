/-
  The abstract evaluator 'D': when an instruction, and code, is what the model's operation, and code, is.
-/
import Derived.Test.YtgdenjkiblpnpaaGreatDC
import GoSem.Dispatch
namespace Go.D

mutual
/-- a constant is told right -/
def okVal : AV → Value → Bool
  | .bool b, .bool c => b == c
  | .int k n, .int k' n' => kindEq k k' && decide (n = n')
  | .str s, .string x => natsEq (x.data.toList.map UInt8.toNat) s
  | .nilp, .pointer none => true
  | .nils, .slice none 0 0 => true
  | .nilm, .map none => true
  | .nilf, .nilFunc => true
  | .nili, .nilIface => true
  | .fn f [] [], .func (.func g) a b => Nat.beq f g && a.isEmpty && b.isEmpty
  | .agg cs, .agg xs => okVals cs xs.toList
  | .tup cs, .tuple xs => okVals cs xs.toList
  | _, _ => false
def okVals : List AV → List Value → Bool
  | [], [] => true
  | v :: vs, x :: xs => okVal v x && okVals vs xs
  | _, _ => false
end

theorem kindEq_eq {a b : IntKind} (h : kindEq a b = true) : a = b := by cases a <;> cases b <;> simp_all [kindEq]
theorem kindEq_refl (a : IntKind) : kindEq a a = true := by cases a <;> rfl
theorem natsEq_eq : ∀ {a b : List Nat}, natsEq a b = true → a = b
  | [], [], _ => rfl
  | [], _ :: _, h => by simp [natsEq] at h
  | _ :: _, [], h => by simp [natsEq] at h
  | x :: a, y :: b, h => by simp [natsEq, nbeq] at h; rw [h.1, natsEq_eq h.2]
theorem natsEq_refl : ∀ a : List Nat, natsEq a a = true
  | [] => rfl
  | x :: a => by simp [natsEq, natsEq_refl a]
theorem natsEq_iff (a b : List Nat) : natsEq a b = decide (a = b) := by
  by_cases h : a = b
  · subst h; simp [natsEq_refl]
  · simp only [h, decide_false]; cases hn : natsEq a b with
    | false => rfl
    | true => exact absurd (natsEq_eq hn) h

mutual
theorem okVal_rv {K : Km} {m : Mm} : ∀ (v : AV) (x : Value), okVal v x = true → Rv K m v x := by
  intro v x h
  match v, x, h with
  | .bool b, .bool c, h => simp [okVal] at h; subst h; exact .bool
  | .int k n, .int k' n', h => simp [okVal] at h; obtain ⟨h1, h2⟩ := h; rw [kindEq_eq h1, h2]; exact .int
  | .str s, .string x, h => exact .str (natsEq_eq h)
  | .nilp, .pointer none, _ => exact .nilp
  | .nils, .slice none 0 0, _ => exact .nils
  | .nilm, .map none, _ => exact .nilm
  | .nilf, .nilFunc, _ => exact .nilf
  | .nili, .nilIface, _ => exact .nili
  | .fn f [] [], .func (.func g) a b, h =>
    simp [okVal, nbeq] at h
    obtain ⟨⟨h1, h2⟩, h3⟩ := h
    subst h1 h2 h3
    exact .fn .nil .nil
  | .agg cs, .agg xs, h => exact .agg (okVals_rv cs xs.toList h)
  | .tup cs, .tuple xs, h => exact .tup (okVals_rv cs xs.toList h)
theorem okVals_rv {K : Km} {m : Mm} : ∀ (vs : List AV) (xs : List Value), okVals vs xs = true → RvL K m vs xs := by
  intro vs xs h
  match vs, xs, h with
  | [], [], _ => exact .nil
  | v :: vs, x :: xs, h => simp [okVals] at h; exact .cons (okVal_rv v x h.1) (okVals_rv vs xs h.2)
end

def okO : Operand → DO → Bool
  | .tmp t, .t n => Nat.beq t n
  | .const v, .c a => okVal a v
  | .func f, .c (.fn g [] []) => Nat.beq f g
  | _, _ => false

def okOs : List Operand → List DO → Bool
  | [], [] => true
  | x :: xs, y :: ys => okO x y && okOs xs ys
  | _, _ => false

def okOpt : Option Operand → Option DO → Bool
  | none, none => true
  | some x, some y => okO x y
  | _, _ => false

def isConstNil : Operand → Bool
  | .const .nilIface => true
  | _ => false

section
variable (P : Program)
def ckSize (t : TypeId) (n : Nat) : Bool := match P.info? t with
  | some i => Nat.beq i.size n
  | none => false
def ckBytes (t : TypeId) (n : Nat) : Bool := match P.info? t with
  | some i => Nat.beq i.bytes n
  | none => false
def natO : Option Nat → Option Nat → Bool
  | none, none => true
  | some a, some b => Nat.beq a b
  | _, _ => false
/-- how a value of a type is read: one cell, or so many -/
def ckKind (t : TypeId) (k : Option Nat) : Bool := match P.info? t, P.underlying t with
  | some i, some (.struct _) => natO k (some i.size)
  | some i, some (.array _ _) => natO k (some i.size)
  | some _, some _ => natO k none
  | _, _ => false
def ckZeroC (t : TypeId) (z : List AV) : Bool := match P.info? t with
  | some i => match i.zero with
    | some v => okVals z v.cells.toList && Nat.beq i.size z.length
    | none => false
  | none => false
def ckZero (t : TypeId) (z : AV) : Bool := match P.info? t with
  | some i => match i.zero with
    | some v => okVal z v
    | none => false
  | none => false
def sliceOf (t : TypeId) : Option TypeId := match P.underlying t with
  | some (.slice e) => some e
  | _ => none
def isInt (t : TypeId) : Bool := match P.underlying t with
  | some (.int _) => true
  | _ => false
def isIntK (t : TypeId) (k : IntKind) : Bool := match P.underlying t with
  | some (.int k') => kindEq k k'
  | _ => false
def isStr (t : TypeId) : Bool := match P.underlying t with
  | some .string => true
  | _ => false
def isMap (t : TypeId) : Bool := match P.underlying t with
  | some (.map _ _) => true
  | _ => false

def scEq : Sc → Sc → Bool
  | .i, .i | .s, .s | .b, .b => true
  | _, _ => false
/-- the cells that are told of a list, what is left of it -/
def takeSc : Sc → List Sc → Option (List Sc)
  | x, y :: l => bif scEq x y then some l else none
  | _, [] => none

mutual
/-- a type whose cells are numbers, texts and bools alone, told one behind the other: what is left of a list -/
def flatT : Nat → TypeId → List Sc → Option (List Sc)
  | 0, _, _ => none
  | d + 1, t, l => match P.underlying t with
    | some (.int _) => takeSc .i l
    | some .string => takeSc .s l
    | some .bool => takeSc .b l
    | some (.struct fs) => bif P.stoodInHeld t then none else flatF d fs.toList l.length l
    | some (.array n e) => bif Nat.beq n 0 then none else flatA d e n l
    | _ => none
def flatF : Nat → List Field → Nat → List Sc → Option (List Sc)
  | _, [], _, l => some l
  | 0, _ :: _, _, _ => none
  | d + 1, f :: fs, all, l => bif f.name == "_" || !(Nat.beq (f.offset + l.length) all) then none else
    match flatT d f.type l with
    | some l' => bif ckSize P f.type (l.length - l'.length) then flatF d fs all l' else none
    | none => none
def flatA : Nat → TypeId → Nat → List Sc → Option (List Sc)
  | _, _, 0, l => some l
  | 0, _, _ + 1, _ => none
  | d + 1, e, n + 1, l => match flatT d e l with
    | some l' => bif ckSize P e (l.length - l'.length) then flatA d e n l' else none
    | none => none
end

def ckSh (t : TypeId) : EqSh → Bool
  | .int => isInt P t
  | .str => isStr P t
  | .bl => match P.underlying t with
    | some .bool => true
    | _ => false
  | .cells l => match P.underlying t with
    | some (.struct _) | some (.array _ _) => !(P.eqGuardType P.depth t) && (match flatT P 40 t l with
      | some [] => true
      | _ => false)
    | _ => false
  | .ptr => match P.underlying t with
    | some (.pointer _) => true
    | _ => false
  | .sl => match P.underlying t with
    | some (.slice _) => true
    | _ => false
  | .mp => isMap P t
  | .fn => match P.underlying t with
    | some (.func _ _ _) => true
    | _ => false
  | .ifc => match P.underlying t with
    | some (.interface _) => true
    | _ => false

def noMethods (t : TypeId) : Bool := match P.underlying t with
  | some (.interface ms) => ms.isEmpty
  | _ => false

def ckKey (t : TypeId) (sh : EqSh) : Bool := match P.underlying t with
  | some (.map kt _) => ckSh P kt sh && (match sh with
    | .int | .str | .bl | .cells _ => true
    | _ => false)
  | _ => false

def partsS (fs : Array Field) : List (Nat × Operand) → List (Nat × Nat × DO) → Bool
  | [], [] => true
  | (i, x) :: ps, (off, n, y) :: qs => (match fs[i]? with
    | some f => Nat.beq f.offset off && ckSize P f.type n
    | none => false) && okO x y && partsS fs ps qs
  | _, _ => false
def partsA (z : Nat) : List (Nat × Operand) → List (Nat × Nat × DO) → Bool
  | [], [] => true
  | (i, x) :: ps, (off, n, y) :: qs => Nat.beq off (i * z) && Nat.beq n z && okO x y && partsA z ps qs
  | _, _ => false
def partsL : List (Nat × Operand) → List (Nat × DO) → Bool
  | [], [] => true
  | (i, x) :: ps, (j, y) :: qs => Nat.beq i j && okO x y && partsL ps qs
  | _, _ => false

def okInv (name : String) : List (Nat × Nat × Option (Option Nat)) → Bool
  | [] => true
  | (t, f, d) :: l => (match P.info? t with
    | some i => match i.methods.find? (·.name == name), P.underlying t with
      | some m, some (.pointer e) => m.path.isEmpty && (match m.func, d with
        | some (g, true), none => Nat.beq g f
        | some (g, false), some k => Nat.beq g f && ckKind P e k
        | _, _ => false)
      | _, _ => false
    | none => false) && okInv name l

def allInfo : List Field → Bool
  | [] => true
  | f :: fs => (P.info? f.type).isSome && allInfo fs

def okIns (op : Op) : DIns → Bool
  | .mv y => match op with
    | .move x | .assign x => okO x y
    | _ => false
  | .pick c a b => match op with
    | .pick c' a' b' => okO c' c && okO a' a && okO b' b
    | _ => false
  | .alloc z => match op with
    | .alloc t => ckZeroC P t z
    | _ => false
  | .box n y | .ibox n y => match op with
    | .box t x => ckSize P t n && okO x y
    | _ => false
  | .build z qs => match op with
    | .build t ps => ckZeroC P t z && (match P.underlying t with
      | some (.struct fs) => allInfo P fs.toList && partsS P fs ps.toList qs
      | some (.array _ e) => match P.info? e with
        | some i => partsA i.size ps.toList qs
        | none => false
      | _ => false)
    | _ => false
  | .bsl z len qs | .ibsl z len qs => match op with
    | .buildSlice t n ps => Nat.beq n len && Nat.ble (len * z.length) 16777216 && Nat.blt 0 z.length && (match sliceOf P t with
      | some e => ckZeroC P e z && partsL ps.toList qs
      | none => false)
    | _ => false
  | .ld k y => match op with
    | .load t x => ckKind P t k && okO x y
    | _ => false
  | .st n a y => match op with
    | .store t b x => ckSize P t n && okO b a && okO x y
    | _ => false
  | .nck y => match op with
    | .nilCheck x => okO x y
    | _ => false
  | .ar bop a b => match op with
    | .binOp bop' _ x y _ => bop == bop' && okO x a && okO y b
    | _ => false
  | .eqc neg sh a b => match op with
    | .binOp bop t x y _ => (bop == (bif neg then BinOp.neq else BinOp.eql)) && ckSh P t sh && okO x a && okO y b &&
      (match sh with
        | .ifc => isConstNil x || isConstNil y || noMethods P t
        | _ => true)
    | _ => false
  | .un u a => match op with
    | .unOp u' _ x => u == u' && okO x a
    | _ => false
  | .cvi k a => match op with
    | .convert s d x => isInt P s && isIntK P d k && okO x a
    | _ => false
  | .cvbs a => match op with
    | .convert s d x => (match sliceOf P s with
      | some e => isIntK P e .u8
      | none => false) && isStr P d && okO x a
    | _ => false
  | .cvsl a => match op with
    | .convert s d x => (match sliceOf P s with
      | some e => isIntK P e .u8
      | none => false) && Nat.beq s d && okO x a
    | _ => false
  | .mkif t a => match op with
    | .makeInterface t' x => Nat.beq t t' && okO x a && (match P.underlying t' with
      | some (.interface _) => false
      | some _ => true
      | none => false)
    | _ => false
  | .mkfn f a b => match op with
    | .makeFunc (.func g) a' b' => Nat.beq f g && okOs a'.toList a && okOs b'.toList b
    | _ => false
  | .mkmap => match op with
    | .makeMap _ none => true
    | .makeMap t (some (.const (.int _ _))) => isMap P t
    | _ => false
  | .mksl z bytes l c => match op with
    | .makeSlice t l' c' => (match sliceOf P t with
      | some e => ckZeroC P e z && ckBytes P e bytes
      | none => false) && okO l' l && okO c' c
    | _ => false
  | .slstr a lo hi => match op with
    | .slice t x lo' hi' none => isStr P t && okO x a && okOpt lo' lo && okOpt hi' hi
    | _ => false
  | .slsl z a lo hi mx => match op with
    | .slice t x lo' hi' mx' => (match sliceOf P t with
      | some e => ckSize P e z
      | none => false) && okO x a && okOpt lo' lo && okOpt hi' hi && okOpt mx' mx && (mx'.isNone || hi'.isSome)
    | _ => false
  | .fad off a => match op with
    | .fieldAddr t x i => okO x a && (match P.underlying t with
      | some (.struct fs) => match fs[i]? with
        | some f => Nat.beq f.offset off && (match P.info? f.type with
          | some i => Nat.blt 0 i.size
          | none => false)
        | none => false
      | _ => false)
    | _ => false
  | .fld k off a => match op with
    | .field t x i => okO x a && (match P.underlying t with
      | some (.struct fs) => match fs[i]? with
        | some f => Nat.beq f.offset off && ckKind P f.type k
        | none => false
      | _ => false)
    | _ => false
  | .iad z a b => match op with
    | .indexAddr t x i => okO x a && okO i b && (match sliceOf P t with
      | some e => ckSize P e z
      | none => false)
    | _ => false
  | .iada n z a b => match op with
    | .indexAddr t x i => okO x a && okO i b && (match P.underlying t with
      | some (.array n' e) => Nat.beq n n' && ckSize P e z
      | _ => false)
    | _ => false
  | .ixa n k z a b => match op with
    | .index t x i => okO x a && okO i b && (match P.underlying t with
      | some (.array n' e) => Nat.beq n n' && ckSize P e z && ckKind P e k
      | _ => false)
    | _ => false
  | .ixs a b => match op with
    | .index t x i => okO x a && okO i b && isStr P t
    | _ => false
  | .look sh z ok a b => match op with
    | .lookup t x i ok' => okO x a && okO i b && ok == ok' && ckKey P t sh && (match P.underlying t with
      | some (.map _ e) => ckZero P e z
      | _ => false)
    | _ => false
  | .mup sh a b c => match op with
    | .mapUpdate t x y z | .insert t x y z => okO x a && okO y b && okO z c && ckKey P t sh
    | _ => false
  | .ext a i => match op with
    | .extract x j => okO x a && Nat.beq i j
    | _ => false
  | .call f as | .pcall f as => match op with
    | .call c => match c.callee with
      | .value (.func g) => Nat.beq f g && okOs c.args.toList as
      | _ => false
    | _ => false
  | .callv a as => match op with
    | .call c => match c.callee with
      | .value x => okO x a && okOs c.args.toList as
      | _ => false
    | _ => false
  | .inv a tbl as => match op with
    | .call c => match c.callee with
      | .invoke r name => okO r a && okOs c.args.toList as && okInv P name tbl
      | _ => false
    | _ => false
  | .app z bytes a b => match op with
    | .call c => match c.callee with
      | .builtin .append => okOs c.args.toList [a, b] && (match c.argTypes.toList with
        | [t, t1] => (match sliceOf P t with
          | some e => ckZeroC P e z && ckBytes P e bytes
          | none => false) && ((sliceOf P t1).isSome || isStr P t1)
        | _ => false)
      | _ => false
    | _ => false
  | .appz z bytes a b => match op with
    | .call c => match c.callee with
      | .builtin .append => okOs c.args.toList [a, b] && (match c.argTypes.toList with
        | [t, t1] => (match sliceOf P t with
          | some e => ckZeroC P e z && ckBytes P e bytes
          | none => false) && isInt P t1
        | _ => false)
      | _ => false
    | _ => false
  | .len sh a => match op with
    | .call c => match c.callee with
      | .builtin .len => okOs c.args.toList [a] && (match c.argTypes[0]? with
        | some t => match sh with
          | .str => isStr P t
          | .sl => (sliceOf P t).isSome
          | .mp => isMap P t
        | none => false)
      | _ => false
    | _ => false
  | .cap a => match op with
    | .call c => match c.callee with
      | .builtin .cap => okOs c.args.toList [a] && (match c.argTypes[0]? with
        | some t => (sliceOf P t).isSome
        | none => false)
      | _ => false
    | _ => false
  | .cpy z a b => match op with
    | .call c => match c.callee with
      | .builtin .copy => okOs c.args.toList [a, b] && (match c.argTypes[0]? with
        | some t => match sliceOf P t with
          | some e => ckSize P e z
          | none => false
        | none => false)
      | _ => false
    | _ => false
  | .clr z a => match op with
    | .call c => match c.callee with
      | .builtin .clear => okOs c.args.toList [a] && (match c.argTypes[0]? with
        | some t => match sliceOf P t with
          | some e => ckZeroC P e z
          | none => false
        | none => false)
      | _ => false
    | _ => false
  | .mm isMax as => match op with
    | .call c => match c.callee with
      | .builtin .max => isMax && okOs c.args.toList as
      | .builtin .min => !isMax && okOs c.args.toList as
      | _ => false
    | _ => false
  | .panic a => match op with
    | .panic x => okO x a
    | .call c => match c.callee with
      | .builtin .panic => okOs c.args.toList [a]
      | _ => false
    | _ => false
  | .recov => match op with
    | .call c => match c.callee with
      | .builtin .recover => c.args.isEmpty
      | _ => false
    | _ => false
  | .dfr a as => match op with
    | .defer c => match c.callee with
      | .value x => okO x a && okOs c.args.toList as
      | _ => false
    | _ => false
  | .ta t z ok a => match op with
    | .typeAssert x _ t' ok' => okO x a && Nat.beq t t' && ok == ok' && ckZero P t z && (match P.underlying t' with
      | some (.interface _) => false
      | some _ => true
      | none => false)
    | _ => false
  | .rngs a => match op with
    | .range t x => okO x a && isStr P t
    | _ => false
  | .nxts a => match op with
    | .next x true => okO x a
    | _ => false

/-- an operation among others: its slot, its guard -/
def okOp (n : Nat) (ops : Array Oper) (o : Oper) (d : DOp) : Bool :=
  natO o.dst d.dst && (match d.dst with
    | some t => Nat.blt t n
    | none => true) && (match o.guard, d.grd with
    | none, none => true
    | some (j, b), some (t, b') => b == b' && (match ops[j]? with
      | some oj => natO oj.dst (some t)
      | none => false)
    | _, _ => false) && okIns P o.op d.ins

def okOps (n : Nat) (ops : Array Oper) : List Oper → List DOp → Bool
  | [], [] => true
  | o :: os, d :: ds => okOp P n ops o d && okOps n ops os ds
  | _, _ => false

/-! ### Regions that draw their order -/
inductive Kind where
  | pure
  | rd
  | al
  | wr

def kindOf (op : Op) (d : DIns) : Kind := match op with
  | .assign _ => .wr
  | _ => match d with
    | .mv _ | .pick _ _ _ | .build _ _ | .nck _ | .ar _ _ _ | .eqc _ _ _ _ | .un _ _ | .cvi _ _ | .mkif _ _ | .mkfn _ _ _ | .slstr _ _ _ | .fad _ _ | .fld _ _ _
    | .iad _ _ _ | .iada _ _ _ _ | .ixa _ _ _ _ _ | .ixs _ _ | .ext _ _ | .mm _ _ | .ta _ _ _ _ | .ibox _ _ | .ibsl _ _ _ | .cap _ => .pure
    | .ld _ _ | .look _ _ _ _ _ | .len _ _ | .cvbs _ | .slsl _ _ _ _ _ => .rd
    | .alloc _ | .box _ _ | .bsl _ _ _ | .mkmap | .mksl _ _ _ _ | .rngs _ => .al
    | _ => .wr

def isWr : Kind → Bool
  | .wr => true
  | _ => false
def isRd : Kind → Bool
  | .rd => true
  | _ => false

def DO.slots : DO → List Nat
  | .t n => [n]
  | .c _ => []
def slotsO : Option DO → List Nat
  | none => []
  | some o => o.slots
def slotsL (l : List DO) : List Nat := l.flatMap DO.slots

def DIns.slots : DIns → List Nat
  | .mv x | .box _ x | .ibox _ x | .ld _ x | .nck x | .un _ x | .cvi _ x | .cvbs x | .cvsl x | .mkif _ x | .fad _ x | .fld _ _ x | .ext x _ | .len _ x | .cap x
  | .clr _ x | .panic x | .ta _ _ _ x | .rngs x | .nxts x => x.slots
  | .pick a b c => a.slots ++ b.slots ++ c.slots
  | .build _ ps => ps.flatMap fun p => p.2.2.slots
  | .bsl _ _ ps | .ibsl _ _ ps => ps.flatMap fun p => p.2.slots
  | .st _ a b | .ar _ a b | .eqc _ _ a b | .iad _ a b | .iada _ _ a b | .ixa _ _ _ a b | .ixs a b | .look _ _ _ a b | .app _ _ a b | .appz _ _ a b | .cpy _ a b
  | .mksl _ _ a b => a.slots ++ b.slots
  | .mkfn _ a b => slotsL a ++ slotsL b
  | .slstr a lo hi => a.slots ++ slotsO lo ++ slotsO hi
  | .slsl _ a lo hi mx => a.slots ++ slotsO lo ++ slotsO hi ++ slotsO mx
  | .mup _ a b c => a.slots ++ b.slots ++ c.slots
  | .call _ as | .pcall _ as | .mm _ as => slotsL as
  | .callv a as | .inv a _ as | .dfr a as => a.slots ++ slotsL as
  | .alloc _ | .mkmap | .recov => []

/-- the slots that an operation looks at -/
def DOp.slots (d : DOp) : List Nat := (match d.grd with
  | some (t, _) => [t]
  | none => []) ++ d.ins.slots

def memN (x : Nat) : List Nat → Bool
  | [] => false
  | y :: l => Nat.beq x y || memN x l

def hasDst (d : DOp) (l : List Nat) : Bool := match d.dst with
  | some t => memN t l
  | none => false
def sameDst (a b : DOp) : Bool := match a.dst, b.dst with
  | some t, some u => Nat.beq t u
  | _, _ => false

/-- of two elements, the first placed ahead of the second: what must be so -/
def pairOk (ops : Array Oper) (bef : Array Nat) (x y : Nat × DOp × List Nat) : Bool :=
  let kx := kindOf (ops.getD x.1 default).op x.2.1.ins
  let ky := kindOf (ops.getD y.1 default).op y.2.1.ins
  let xy := (bef.getD y.1 0).testBit x.1
  !(Nat.beq x.1 y.1) &&
  -- a writer is ahead of all that is placed behind it
  (!isWr kx || xy) &&
  -- what a float writes nobody else writes; who looks at it comes behind
  (isWr kx || ((!sameDst x.2.1 y.2.1 || xy) && (!hasDst x.2.1 y.2.1.slots || xy))) &&
  -- what a float looks at is not written behind it, but by who must come behind
  (isWr kx || !hasDst y.2.1 x.2.1.slots || xy) &&
  -- what a float placed behind writes, who is placed ahead doesn't look at
  (isWr ky || !hasDst y.2.1 x.2.1.slots) &&
  -- floats don't write what other floats write, nor what floats ahead look at
  (isWr kx || isWr ky || (!sameDst x.2.1 y.2.1 && !hasDst y.2.1 x.2.1.slots)) &&
  -- a read that may come behind a writer is looked at again
  (!(isRd kx && isWr ky) || xy || memN x.1 y.2.2)

def pairsOk (ops : Array Oper) (bef : Array Nat) : List (Nat × DOp × List Nat) → Bool
  | [] => true
  | x :: l => l.all (pairOk ops bef x) && pairsOk ops bef l

def elemsOk (n : Nat) (ops : Array Oper) : List (Nat × DOp × List Nat) → Bool
  | [] => true
  | (i, d, _) :: l => (match ops[i]? with
    | some o => okOp P n ops o d && (isWr (kindOf o.op d.ins) || !hasDst d d.slots)
    | none => false) && elemsOk n ops l

def noSelect (ops : Array Oper) : Bool := ops.all fun o => match o.op with
  | .select _ _ => false
  | _ => true

/-- what must come ahead of an operation, out of its edges -/
def befOf (bef : Array Nat) (o : Oper) : Nat := o.after.toList.foldr (fun e s => if Region.binds .any e then s ||| 2 ^ e.on ||| bef.getD e.on 0 else s) 0

def befOk (bef : Array Nat) : Nat → List Oper → Bool
  | _, [] => true
  | i, o :: l => Nat.beq (bef.getD i 0) (befOf bef o) && (o.after.toList.all fun e => !Region.binds .any e || Nat.blt e.on i) && befOk bef (i + 1) l

def coverOk (l : List (Nat × DOp × List Nat)) : Nat → Bool
  | 0 => true
  | i + 1 => memN i (l.map (·.1)) && coverOk l i

def okDrawn (n : Nat) (ops : Array Oper) (l : List (Nat × DOp × List Nat)) : Bool :=
  coverOk l ops.size && befOk (Region.before ops) 0 ops.toList && elemsOk P n ops l && pairsOk ops (Region.before ops) l

def okCode (n : Nat) : Code → DCode → Bool
  | .skip, .skip => true
  | .region _ ops false, .ops l => okOps P n ops ops.toList l
  | .region _ ops true, .drawn l => okDrawn P n ops l
  | .seq a b, .seq a' b' => okCode n a a' && okCode n b b'
  | .cond c a b, .cond c' a' b' => okO c c' && okCode n a a' && okCode n b b'
  | .block id b, .block id' b' => Nat.beq id id' && okCode n b b'
  | .loop b, .loop b' => okCode n b b'
  | .rangeFunc g ps a b, .rfunc g' ps' a' b' => okO g g' && natsEq ps.toList ps' && ps'.all (Nat.blt · n) && okCode n a a' && okCode n b b'
  | .exit id, .exit id' => Nat.beq id id'
  | .ret, .ret => true
  | _, _ => false

def okResults : List ResultVar → List DRes → Bool
  | [], [] => true
  | .tmp t :: rs, .tmp u :: qs => Nat.beq t u && okResults rs qs
  | .cell a t :: rs, .cell b k :: qs => Nat.beq a b && ckKind P t k && okResults rs qs
  | _, _ => false

def okFunc (f : Func) (d : DFunc) : Bool := match f.body with
  | some c => Nat.beq f.ntmps d.ntmps && Nat.ble d.nargs d.ntmps && okResults P f.results.toList d.results && okCode P f.ntmps c d.body
  | none => false
end

end Go.D
