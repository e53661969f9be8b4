/-
  Rules for running the abstract evaluator with unknown values.
-/
import Derived.Test.YtgdenjkiblpnpaaGreatEK
set_option linter.unusedSimpArgs false
set_option linter.unusedVariables false
/-
  The abstract evaluator 'D': rules by which code is run on values that are not known in full.
-/
namespace Go.D
section
variable {call : Caller} {L : Nat} {r : Bool} {e : Env} {h : Heap}

/-! ### Code, a piece at a time; what is still to be run stays as it is -/
def thenD (call : Caller) (L : Nat) (r : Bool) (o : Out) (b : DCode) : Out := match o with
  | .go .norm e h => evd call L r b e h
  | o => o
def opsThen (call : Caller) (o : Out) (l : List DOp) : Out := match o with
  | .go _ e h => opsD call l e h
  | o => o
def drawnThen (call : Caller) (all : List (Nat × DOp × List Nat)) (o : Out) (re : List Nat) (l : List (Nat × DOp × List Nat)) : Out := match o with
  | .go _ e h => bif re.all fun i => againAt call all i e h then drawnD call all l e h else .err
  | .panic v e h => .panic v (forget all e) h
  | .err => .err
def condD (call : Caller) (L : Nat) (r : Bool) (c : AV) (a b : DCode) (e : Env) (h : Heap) : Out := match c with
  | .bool true => evd call L r a e h
  | .bool false => evd call L r b e h
  | _ => .err
def blockD (id : Nat) (o : Out) : Out := match o with
  | .go (.exit id') e h => bif Nat.beq id id' then .go .norm e h else .go (.exit id') e h
  | o => o
def putOR (d : Option Nat) (e : Env) (x : Res AV) : Out := match x with
  | .ok v h => .go .norm (e.putO d v) h
  | .panic v h => .panic v e h
  | .err => .err
def wantR (call : Caller) (w : Option Bool) (d : Option Nat) (e : Env) (h : Heap) (i : DIns) : Out := match w with
  | none => .err
  | some false => .go .norm (e.putO d (.tup [])) h
  | some true => putOR d e (step call e h i)
def isB (b : Bool) (v : AV) : Option Bool := match v with
  | .bool x => some (x == b)
  | .tup [] => some false
  | _ => none

@[simp] theorem evd_skip : evd call L r .skip e h = .go .norm e h := by simp only [evd]
@[simp] theorem evd_ops0 (l : List DOp) : evd call L false (.ops l) e h = opsD call l e h := by simp only [evd, Bool.false_and, cond_false]
@[simp] theorem evd_drawn0 (l : List (Nat × DOp × List Nat)) : evd call L false (.drawn l) e h = drawnD call l l e h := by simp only [evd, Bool.false_and, cond_false]
@[simp] theorem evd_seq0 (a b : DCode) : evd call L r (.seq a b) e h = thenD call L r (evd call L r a e h) b := by
  simp only [evd, thenD]
  generalize evd call L r a e h = o
  cases o with
  | go x e h => cases x <;> rfl
  | _ => rfl
@[simp] theorem evd_cond0 (c : DO) (a b : DCode) : evd call L r (.cond c a b) e h = condD call L r (c.ev e) a b e h := by
  simp only [evd, condD]
  generalize c.ev e = v
  cases v with
  | bool b => cases b <;> rfl
  | _ => rfl
@[simp] theorem evd_block0 (id : Nat) (b : DCode) : evd call L r (.block id b) e h = blockD id (evd call L r b e h) := by
  simp only [evd, blockD]
  generalize evd call L r b e h = o
  cases o with
  | go x e h => cases x <;> rfl
  | _ => rfl
@[simp] theorem evd_loop0 (b : DCode) : evd call L r (.loop b) e h = rounds (evd call L r b) L e h := by simp only [evd]
@[simp] theorem evd_exit0 (id : Nat) : evd call L r (.exit id) e h = .go (.exit id) e h := by simp only [evd]
@[simp] theorem evd_ret0 : evd call L r .ret e h = .go .ret e h := by simp only [evd]

@[simp] theorem thenD_norm (b : DCode) : thenD call L r (.go .norm e h) b = evd call L r b e h := (rfl)
@[simp] theorem thenD_ret (b : DCode) : thenD call L r (.go .ret e h) b = .go .ret e h := (rfl)
@[simp] theorem thenD_exit (i : Nat) (b : DCode) : thenD call L r (.go (.exit i) e h) b = .go (.exit i) e h := (rfl)
@[simp] theorem condD_true (a b : DCode) : condD call L r (.bool true) a b e h = evd call L r a e h := (rfl)
@[simp] theorem condD_false (a b : DCode) : condD call L r (.bool false) a b e h = evd call L r b e h := (rfl)
@[simp] theorem blockD_norm (id : Nat) : blockD id (.go .norm e h) = .go .norm e h := (rfl)
@[simp] theorem blockD_ret (id : Nat) : blockD id (.go .ret e h) = .go .ret e h := (rfl)
@[simp] theorem blockD_exit (id i : Nat) : blockD id (.go (.exit i) e h) = if id = i then .go .norm e h else .go (.exit i) e h := by
  simp only [blockD, nbeq]
  by_cases hh : id = i <;> simp [hh]

@[simp] theorem opsD_nil : opsD call [] e h = .go .norm e h := by simp only [opsD]
@[simp] theorem opsD_cons0 (o : DOp) (l : List DOp) : opsD call (o :: l) e h = opsThen call (opD call o e h) l := by
  simp only [opsD, opsThen]
  cases opD call o e h <;> rfl
@[simp] theorem opsThen_go (x : Ex) (l : List DOp) : opsThen call (.go x e h) l = opsD call l e h := (rfl)
@[simp] theorem drawnD_nil (all : List (Nat × DOp × List Nat)) : drawnD call all [] e h = .go .norm e h := by simp only [drawnD]
@[simp] theorem drawnD_cons0 (all : List (Nat × DOp × List Nat)) (i : Nat) (o : DOp) (re : List Nat) (l : List (Nat × DOp × List Nat)) :
    drawnD call all ((i, o, re) :: l) e h = drawnThen call all (opD call o e h) re l := by
  simp only [drawnD, drawnThen]
  cases opD call o e h <;> rfl
@[simp] theorem drawnThen_nil (all : List (Nat × DOp × List Nat)) (x : Ex) (l : List (Nat × DOp × List Nat)) : drawnThen call all (.go x e h) [] l = drawnD call all l e h := (rfl)
def reThen (call : Caller) (all : List (Nat × DOp × List Nat)) (b : Bool) (x : Ex) (e : Env) (h : Heap) (re : List Nat) (l : List (Nat × DOp × List Nat)) : Out :=
  bif b then drawnThen call all (.go x e h) re l else .err
@[simp] theorem drawnThen_cons (all : List (Nat × DOp × List Nat)) (x : Ex) (i : Nat) (re : List Nat) (l : List (Nat × DOp × List Nat)) :
    drawnThen call all (.go x e h) (i :: re) l = reThen call all (againAt call all i e h) x e h re l := by
  simp only [drawnThen, reThen, List.all_cons]
  cases againAt call all i e h <;> rfl
@[simp] theorem reThen_true (all : List (Nat × DOp × List Nat)) (x : Ex) (re : List Nat) (l : List (Nat × DOp × List Nat)) :
    reThen call all true x e h re l = drawnThen call all (.go x e h) re l := (rfl)
def againO (call : Caller) (o : Option DOp) (e : Env) (h : Heap) : Bool := match o with
  | some d => again call d e h
  | none => false
def againR (x : Res AV) (w : AV) : Bool := match x with
  | .ok v _ => AV.beq v w
  | _ => false
def againG (call : Caller) (b : Option Bool) (i : DIns) (w : AV) (e : Env) (h : Heap) : Bool := match b with
  | some true => againR (step call e h i) w
  | some false => true
  | none => false
@[simp] theorem againAt_def (all : List (Nat × DOp × List Nat)) (i : Nat) : againAt call all i e h = againO call (findEl all i) e h := by
  unfold againAt againO
  cases findEl all i <;> rfl
@[simp] theorem findEl_cons (j : Nat) (d : DOp) (r : List Nat) (l : List (Nat × DOp × List Nat)) (i : Nat) : findEl ((j, d, r) :: l) i = if j = i then some d else findEl l i := by
  simp only [findEl, nbeq]
  by_cases hh : j = i <;> simp [hh]
@[simp] theorem againO_a (t : Nat) (i : DIns) : againO call (some (.a t i)) e h = againR (step call e h i) (e.get t) := by
  simp only [againO, again, DOp.a, wanted, againR]
  cases step call e h i <;> rfl
@[simp] theorem againO_g (t g : Nat) (b : Bool) (i : DIns) : againO call (some ⟨some t, some (g, b), i⟩) e h = againG call (isB b (e.get g)) i (e.get t) e h := by
  have hw : wanted e (some (g, b)) = isB b (e.get g) := by
    simp only [wanted, isB]
    cases e.get g with
    | tup l => cases l <;> rfl
    | _ => rfl
  simp only [againO, again, hw, againG, againR]
  cases isB b (e.get g) with
  | none => rfl
  | some x => cases x with
    | false => rfl
    | true => simp only []; cases step call e h i <;> rfl
@[simp] theorem againG_true (i : DIns) (w : AV) : againG call (some true) i w e h = againR (step call e h i) w := (rfl)
@[simp] theorem againG_false (i : DIns) (w : AV) : againG call (some false) i w e h = true := (rfl)
@[simp] theorem againR_ok (v w : AV) (h : Heap) : againR (.ok v h) w = AV.beq v w := (rfl)
@[simp] theorem beq_int (k : IntKind) (n : Int) : AV.beq (.int k n) (.int k n) = true := by cases k <;> simp [AV.beq, kindEq]
@[simp] theorem beq_bool (b : Bool) : AV.beq (.bool b) (.bool b) = true := by simp [AV.beq]
@[simp] theorem beq_ptr (b i o : Nat) : AV.beq (.ptr b i o) (.ptr b i o) = true := by simp [AV.beq]
@[simp] theorem beq_slice (z b i l : Nat) (c : Option Nat) : AV.beq (.slice z b i l c) (.slice z b i l c) = true := by simp [AV.beq]
@[simp] theorem beq_nils : AV.beq .nils .nils = true := by simp [AV.beq]
@[simp] theorem beq_nilp : AV.beq .nilp .nilp = true := by simp [AV.beq]
@[simp] theorem beq_emps : AV.beq .emps .emps = true := by simp [AV.beq]

@[simp] theorem wanted_none : wanted e none = some true := (rfl)
@[simp] theorem wanted_some (g : Nat) (b : Bool) : wanted e (some (g, b)) = isB b (e.get g) := by
  simp only [wanted, isB]
  cases e.get g with
  | tup l => cases l <;> rfl
  | _ => rfl
@[simp] theorem isB_bool (b x : Bool) : isB b (.bool x) = some (x == b) := (rfl)
@[simp] theorem isB_tup (b : Bool) : isB b (.tup []) = some false := (rfl)
@[simp] theorem wantR_true (d : Option Nat) (i : DIns) : wantR call (some true) d e h i = putOR d e (step call e h i) := (rfl)
@[simp] theorem wantR_false (d : Option Nat) (i : DIns) : wantR call (some false) d e h i = .go .norm (e.putO d (.tup [])) h := (rfl)
@[simp] theorem putOR_ok (d : Option Nat) (v : AV) : putOR d e (.ok v h) = .go .norm (e.putO d v) h := (rfl)
@[simp] theorem putO_some (d : Nat) (v : AV) : e.putO (some d) v = e.put d v := (rfl)
@[simp] theorem putO_none (v : AV) : e.putO none v = e := (rfl)

theorem opD_def (d : Option Nat) (g : Option (Nat × Bool)) (i : DIns) (hi : i.isDfr = false) : opD call ⟨d, g, i⟩ e h = wantR call (wanted e g) d e h i := by
  unfold opD wantR
  simp only
  cases wanted e g with
  | none => rfl
  | some b => cases b with
    | false => rfl
    | true => cases i <;> first | rfl | (cases hi; done) | (simp only [putOR]; split <;> simp_all)

@[simp] theorem opD_a (t : Nat) (i : DIns) (hi : i.isDfr = false) : opD call (.a t i) e h = putOR (some t) e (step call e h i) := by
  unfold DOp.a
  rw [opD_def _ _ _ hi]; rfl
@[simp] theorem opD_n (i : DIns) (hi : i.isDfr = false) : opD call (.n i) e h = putOR none e (step call e h i) := by
  unfold DOp.n
  rw [opD_def _ _ _ hi]; rfl
@[simp] theorem opD_g (d : Nat) (g : Nat) (b : Bool) (i : DIns) (hi : i.isDfr = false) : opD call ⟨some d, some (g, b), i⟩ e h = wantR call (isB b (e.get g)) (some d) e h i := by
  rw [opD_def _ _ _ hi, wanted_some]

@[simp] theorem ev_t (n : Nat) : (DO.t n).ev e = e.get n := (rfl)
@[simp] theorem ev_c (v : AV) : (DO.c v).ev e = v := (rfl)

/-! ### No deferral -/
@[simp] theorem isDfr_mv : ∀ a0, (DIns.mv a0).isDfr = false := fun _ => (rfl)
@[simp] theorem isDfr_pick : ∀ a0 a1 a2, (DIns.pick a0 a1 a2).isDfr = false := fun _ _ _ => (rfl)
@[simp] theorem isDfr_alloc : ∀ a0, (DIns.alloc a0).isDfr = false := fun _ => (rfl)
@[simp] theorem isDfr_box : ∀ a0 a1, (DIns.box a0 a1).isDfr = false := fun _ _ => (rfl)
@[simp] theorem isDfr_ibox : ∀ a0 a1, (DIns.ibox a0 a1).isDfr = false := fun _ _ => (rfl)
@[simp] theorem isDfr_build : ∀ a0 a1, (DIns.build a0 a1).isDfr = false := fun _ _ => (rfl)
@[simp] theorem isDfr_bsl : ∀ a0 a1 a2, (DIns.bsl a0 a1 a2).isDfr = false := fun _ _ _ => (rfl)
@[simp] theorem isDfr_ibsl : ∀ a0 a1 a2, (DIns.ibsl a0 a1 a2).isDfr = false := fun _ _ _ => (rfl)
@[simp] theorem isDfr_ld : ∀ a0 a1, (DIns.ld a0 a1).isDfr = false := fun _ _ => (rfl)
@[simp] theorem isDfr_st : ∀ a0 a1 a2, (DIns.st a0 a1 a2).isDfr = false := fun _ _ _ => (rfl)
@[simp] theorem isDfr_nck : ∀ a0, (DIns.nck a0).isDfr = false := fun _ => (rfl)
@[simp] theorem isDfr_ar : ∀ a0 a1 a2, (DIns.ar a0 a1 a2).isDfr = false := fun _ _ _ => (rfl)
@[simp] theorem isDfr_eqc : ∀ a0 a1 a2 a3, (DIns.eqc a0 a1 a2 a3).isDfr = false := fun _ _ _ _ => (rfl)
@[simp] theorem isDfr_un : ∀ a0 a1, (DIns.un a0 a1).isDfr = false := fun _ _ => (rfl)
@[simp] theorem isDfr_cvi : ∀ a0 a1, (DIns.cvi a0 a1).isDfr = false := fun _ _ => (rfl)
@[simp] theorem isDfr_cvbs : ∀ a0, (DIns.cvbs a0).isDfr = false := fun _ => (rfl)
@[simp] theorem isDfr_cvsl : ∀ a0, (DIns.cvsl a0).isDfr = false := fun _ => (rfl)
@[simp] theorem isDfr_mkif : ∀ a0 a1, (DIns.mkif a0 a1).isDfr = false := fun _ _ => (rfl)
@[simp] theorem isDfr_mkfn : ∀ a0 a1 a2, (DIns.mkfn a0 a1 a2).isDfr = false := fun _ _ _ => (rfl)
@[simp] theorem isDfr_mkmap : DIns.mkmap.isDfr = false := (rfl)
@[simp] theorem isDfr_mksl : ∀ a0 a1 a2 a3, (DIns.mksl a0 a1 a2 a3).isDfr = false := fun _ _ _ _ => (rfl)
@[simp] theorem isDfr_slstr : ∀ a0 a1 a2, (DIns.slstr a0 a1 a2).isDfr = false := fun _ _ _ => (rfl)
@[simp] theorem isDfr_slsl : ∀ a0 a1 a2 a3 a4, (DIns.slsl a0 a1 a2 a3 a4).isDfr = false := fun _ _ _ _ _ => (rfl)
@[simp] theorem isDfr_fad : ∀ a0 a1, (DIns.fad a0 a1).isDfr = false := fun _ _ => (rfl)
@[simp] theorem isDfr_fld : ∀ a0 a1 a2, (DIns.fld a0 a1 a2).isDfr = false := fun _ _ _ => (rfl)
@[simp] theorem isDfr_iad : ∀ a0 a1 a2, (DIns.iad a0 a1 a2).isDfr = false := fun _ _ _ => (rfl)
@[simp] theorem isDfr_iada : ∀ a0 a1 a2 a3, (DIns.iada a0 a1 a2 a3).isDfr = false := fun _ _ _ _ => (rfl)
@[simp] theorem isDfr_ixa : ∀ a0 a1 a2 a3 a4, (DIns.ixa a0 a1 a2 a3 a4).isDfr = false := fun _ _ _ _ _ => (rfl)
@[simp] theorem isDfr_ixs : ∀ a0 a1, (DIns.ixs a0 a1).isDfr = false := fun _ _ => (rfl)
@[simp] theorem isDfr_look : ∀ a0 a1 a2 a3 a4, (DIns.look a0 a1 a2 a3 a4).isDfr = false := fun _ _ _ _ _ => (rfl)
@[simp] theorem isDfr_mup : ∀ a0 a1 a2 a3, (DIns.mup a0 a1 a2 a3).isDfr = false := fun _ _ _ _ => (rfl)
@[simp] theorem isDfr_ext : ∀ a0 a1, (DIns.ext a0 a1).isDfr = false := fun _ _ => (rfl)
@[simp] theorem isDfr_call : ∀ a0 a1, (DIns.call a0 a1).isDfr = false := fun _ _ => (rfl)
@[simp] theorem isDfr_pcall : ∀ a0 a1, (DIns.pcall a0 a1).isDfr = false := fun _ _ => (rfl)
@[simp] theorem isDfr_callv : ∀ a0 a1, (DIns.callv a0 a1).isDfr = false := fun _ _ => (rfl)
@[simp] theorem isDfr_inv : ∀ a0 a1 a2, (DIns.inv a0 a1 a2).isDfr = false := fun _ _ _ => (rfl)
@[simp] theorem isDfr_app : ∀ a0 a1 a2 a3, (DIns.app a0 a1 a2 a3).isDfr = false := fun _ _ _ _ => (rfl)
@[simp] theorem isDfr_appz : ∀ a0 a1 a2 a3, (DIns.appz a0 a1 a2 a3).isDfr = false := fun _ _ _ _ => (rfl)
@[simp] theorem isDfr_len : ∀ a0 a1, (DIns.len a0 a1).isDfr = false := fun _ _ => (rfl)
@[simp] theorem isDfr_cap : ∀ a0, (DIns.cap a0).isDfr = false := fun _ => (rfl)
@[simp] theorem isDfr_cpy : ∀ a0 a1 a2, (DIns.cpy a0 a1 a2).isDfr = false := fun _ _ _ => (rfl)
@[simp] theorem isDfr_clr : ∀ a0 a1, (DIns.clr a0 a1).isDfr = false := fun _ _ => (rfl)
@[simp] theorem isDfr_mm : ∀ a0 a1, (DIns.mm a0 a1).isDfr = false := fun _ _ => (rfl)
@[simp] theorem isDfr_panic : ∀ a0, (DIns.panic a0).isDfr = false := fun _ => (rfl)
@[simp] theorem isDfr_recov : DIns.recov.isDfr = false := (rfl)
@[simp] theorem isDfr_ta : ∀ a0 a1 a2 a3, (DIns.ta a0 a1 a2 a3).isDfr = false := fun _ _ _ _ => (rfl)
@[simp] theorem isDfr_rngs : ∀ a0, (DIns.rngs a0).isDfr = false := fun _ => (rfl)
@[simp] theorem isDfr_nxts : ∀ a0, (DIns.nxts a0).isDfr = false := fun _ => (rfl)

/-! ### New blocks -/
@[simp] theorem step_alloc (z : List AV) : step call e h (.alloc z) = .ok (.ptr h.next 0 0) (h.new (.cells z.length false (.list [z]))) := (rfl)
def newR (o : Option (Ob × (Nat → AV))) (h : Heap) : Res AV := match o with
  | some (o, f) => .ok (f h.next) (h.new o)
  | none => .err
@[simp] theorem newR_some (o : Ob) (f : Nat → AV) : newR (some (o, f)) h = .ok (f h.next) (h.new o) := (rfl)
@[simp] theorem step_box (n : Nat) (x : DO) : step call e h (.box n x) = newR (newOf e (.box n x)) h := (rfl)
@[simp] theorem step_mksl (z : List AV) (bytes : Nat) (l c : DO) : step call e h (.mksl z bytes l c) = newR (newOf e (.mksl z bytes l c)) h := (rfl)
@[simp] theorem step_bsl (z : List AV) (n : Nat) (ps : List (Nat × DO)) : step call e h (.bsl z n ps) = newR (newOf e (.bsl z n ps)) h := (rfl)
@[simp] theorem step_mkmap : step call e h .mkmap = .ok (.map h.next) (h.new (.map [])) := (rfl)

/-! ### Instructions, one at a time -/
@[simp] theorem step_mv (x : DO) : step call e h (.mv x) = .ok (x.ev e) h := (rfl)
def pickD (c a b : AV) (h : Heap) : Res AV := match c with
  | .bool true => .ok a h
  | .bool false => .ok b h
  | _ => .err
@[simp] theorem step_pick (c a b : DO) : step call e h (.pick c a b) = pickD (c.ev e) (a.ev e) (b.ev e) h := by
  simp only [step, pickD]
  cases c.ev e with
  | bool x => cases x <;> rfl
  | _ => rfl
@[simp] theorem pickD_true (a b : AV) : pickD (.bool true) a b h = .ok a h := (rfl)
@[simp] theorem pickD_false (a b : AV) : pickD (.bool false) a b h = .ok b h := (rfl)
def okO2 (o : Option (List AV)) (h : Heap) : Res AV := match o with
  | some cs => .ok (.agg cs) h
  | none => .err
@[simp] theorem okO2_some (cs : List AV) : okO2 (some cs) h = .ok (.agg cs) h := (rfl)
@[simp] theorem step_build (z : List AV) (ps : List (Nat × Nat × DO)) : step call e h (.build z ps) = okO2 (fillC z (ps.map fun p => (p.1, p.2.1, (p.2.2.ev e).cells))) h := by
  simp only [step, okO2]
  split <;> simp_all
@[simp] theorem step_ld (k : Option Nat) (a : DO) : step call e h (.ld k a) = Res.of (loadD h k (a.ev e)) h := (rfl)
@[simp] theorem step_st (n : Nat) (a x : DO) : step call e h (.st n a x) = storeD h n (a.ev e) (x.ev e) := (rfl)
def nckD (v : AV) (h : Heap) : Res AV := match v with
  | .ptr b i o => .ok (.ptr b i o) h
  | .iptr c o => .ok (.iptr c o) h
  | .fn f a b => .ok (.fn f a b) h
  | .iface t v => .ok (.iface t v) h
  | _ => .err
@[simp] theorem step_nck (x : DO) : step call e h (.nck x) = nckD (x.ev e) h := (rfl)
@[simp] theorem nckD_ptr (b i o : Nat) : nckD (.ptr b i o) h = .ok (.ptr b i o) h := (rfl)
@[simp] theorem nckD_iptr (c : List AV) (o : Nat) : nckD (.iptr c o) h = .ok (.iptr c o) h := (rfl)
@[simp] theorem step_ar (op : BinOp) (x y : DO) : step call e h (.ar op x y) = Res.of (arith op (x.ev e) (y.ev e)) h := (rfl)
@[simp] theorem step_eqc (neg : Bool) (sh : EqSh) (x y : DO) : step call e h (.eqc neg sh x y) = Res.of ((eqAV sh (x.ev e) (y.ev e)).map fun b => .bool (b != neg)) h := (rfl)
@[simp] theorem step_un (op : UnOp) (x : DO) : step call e h (.un op x) = Res.of (unary op (x.ev e)) h := (rfl)
@[simp] theorem unary_not (b : Bool) : unary .not (.bool b) = some (.bool !b) := (rfl)
def cviD (k : IntKind) (v : AV) (h : Heap) : Res AV := match v with
  | .int _ n => .ok (.int k (k.wrap n)) h
  | _ => .err
@[simp] theorem step_cvi (k : IntKind) (x : DO) : step call e h (.cvi k x) = cviD k (x.ev e) h := (rfl)
@[simp] theorem cviD_int (k k' : IntKind) (n : Int) : cviD k (.int k' n) h = .ok (.int k (k.wrap n)) h := (rfl)
@[simp] theorem step_slstr (x : DO) (lo hi : Option DO) : step call e h (.slstr x lo hi) = Res.of (strSlice e (x.ev e) lo hi) h := (rfl)
/-- an optional bound, told apart from the slots -/
def bN (x : Option (Option Nat)) (d : Nat) : Option Nat := match x with
  | none => some d
  | some o => o
@[simp] theorem bN_none (d : Nat) : bN none d = some d := (rfl)
@[simp] theorem bN_some (o : Option Nat) (d : Nat) : bN (some o) d = o := (rfl)
/-- a slice of a slice, told apart from the slots -/
def sliceN (esz : Nat) (h : Heap) (x : AV) (lo hi mx : Option (Option Nat)) : Option AV :=
  match x with
  | .nils => match bN lo 0, bN hi 0, bN mx 0 with
    | some 0, some 0, some 0 => some .nils
    | _, _, _ => none
  | .emps => match bN lo 0, bN hi 0, bN mx 0 with
    | some 0, some 0, some 0 => some .emps
    | _, _, _ => none
  | .isl k es => match bN lo 0, bN hi es.length with
    | some l, some r => bif Nat.beq k esz && Nat.ble l r && Nat.ble r es.length then
        match mx with
        | none => some (.isl k ((es.drop l).take (r - l)))
        | some m => match m with
          | some m => bif Nat.beq m 0 then (bif Nat.beq r 0 then some .emps else none) else bif Nat.ble r m && Nat.ble m es.length then some (.isl k ((es.drop l).take (r - l))) else none
          | none => none
      else none
    | _, _ => none
  | .slice z b i len cap => bif !(Nat.beq z esz) then none else match h.get b with
    | some (.cells _ _ c) => match bN lo 0, bN hi len with
      | some l, some r =>
        let low := capLow c i cap
        match mx with
        | some m => match m with
          | some m => bif Nat.ble l r && Nat.ble r m && Nat.ble m low then some (.slice z b (bif Nat.beq m l then i else i + l) (r - l) (some (m - l))) else none
          | none => none
        | none =>
          bif Nat.ble l r && Nat.ble r low then
            match cap with
            | some k => some (.slice z b (bif Nat.beq k l then i else i + l) (r - l) (some (k - l)))
            | none => bif Nat.blt l low then some (.slice z b (i + l) (r - l) none) else some (.isl z [])
          else none
      | _, _ => none
    | _ => none
  | _ => none
theorem sliceD_eq (z : Nat) (x : AV) (lo hi mx : Option DO) : sliceD z e h x lo hi mx = sliceN z h x (lo.map fun o => natOf (o.ev e)) (hi.map fun o => natOf (o.ev e)) (mx.map fun o => natOf (o.ev e)) := by
  cases lo <;> cases hi <;> cases mx <;> rfl
@[simp] theorem step_slsl (z : Nat) (x : DO) (lo hi mx : Option DO) : step call e h (.slsl z x lo hi mx) = Res.of (sliceN z h (x.ev e) (lo.map fun o => natOf (o.ev e)) (hi.map fun o => natOf (o.ev e)) (mx.map fun o => natOf (o.ev e))) h := by
  simp only [step, sliceD_eq]
def fadD (off : Nat) (v : AV) (h : Heap) : Res AV := match v with
  | .ptr b i o => .ok (.ptr b i (o + off)) h
  | .iptr cs o => .ok (.iptr cs (o + off)) h
  | _ => .err
@[simp] theorem step_fad (off : Nat) (x : DO) : step call e h (.fad off x) = fadD off (x.ev e) h := (rfl)
@[simp] theorem fadD_ptr (off b i o : Nat) : fadD off (.ptr b i o) h = .ok (.ptr b i (o + off)) h := (rfl)
@[simp] theorem fadD_iptr (off o : Nat) (cs : List AV) : fadD off (.iptr cs o) h = .ok (.iptr cs (o + off)) h := (rfl)
def fldD (k : Option Nat) (off : Nat) (v : AV) (h : Heap) : Res AV := match v with
  | .agg cs => Res.of (readC k off cs) h
  | _ => .err
@[simp] theorem step_fld (k : Option Nat) (off : Nat) (x : DO) : step call e h (.fld k off x) = fldD k off (x.ev e) h := (rfl)
@[simp] theorem fldD_agg (k : Option Nat) (off : Nat) (cs : List AV) : fldD k off (.agg cs) h = Res.of (readC k off cs) h := (rfl)
def lenR (n : Option Nat) (h : Heap) : Res AV := match n with
  | some n => .ok (.int .i64 n) h
  | none => .err
@[simp] theorem step_len (sh : LenSh) (x : DO) : step call e h (.len sh x) = lenR (lenD h sh (x.ev e)) h := by
  simp only [step, lenR]
  split <;> simp_all
@[simp] theorem lenR_some (n : Nat) : lenR (some n) h = .ok (.int .i64 n) h := (rfl)
@[simp] theorem step_call (f : Nat) (args : List DO) : step call e h (.call f args) = call (.fn f) (args.map (DO.ev e)) h := (rfl)
@[simp] theorem step_pcall (f : Nat) (args : List DO) : step call e h (.pcall f args) = pureCall call f (args.map (DO.ev e)) h := (rfl)
def extD (v : AV) (i : Nat) (h : Heap) : Res AV := match v with
  | .tup vs => Res.of (vs[i]?) h
  | _ => .err
@[simp] theorem step_ext (x : DO) (i : Nat) : step call e h (.ext x i) = extD (x.ev e) i h := (rfl)
@[simp] theorem extD_tup (vs : List AV) (i : Nat) : extD (.tup vs) i h = Res.of (vs[i]?) h := (rfl)
@[simp] theorem step_mkif (t : Nat) (x : DO) : step call e h (.mkif t x) = .ok (.iface t (x.ev e)) h := (rfl)
def appR (z : List AV) (bytes : Nat) (v : AV) (es : Option (List (List AV))) (h : Heap) : Res AV := match es with
  | some es => appendD z bytes h v es
  | none => .err
@[simp] theorem step_app (z : List AV) (bytes : Nat) (x y : DO) : step call e h (.app z bytes x y) = appR z bytes (x.ev e) (elemsOf h (y.ev e)) h := by
  simp only [step, appR]
  split <;> simp_all
@[simp] theorem appR_some (z : List AV) (bytes : Nat) (v : AV) (es : List (List AV)) : appR z bytes v (some es) h = appendD z bytes h v es := (rfl)

/-! ### Rounds -/
theorem rounds_inv {body : Env → Heap → Out} {I : Nat → Env → Heap → Prop} {n L : Nat} {Q : Out → Prop} (hL : n < L)
    (hstep : ∀ k, k < n → ∀ e h, I k e h → ∃ e' h', body e h = .go .norm e' h' ∧ I (k + 1) e' h')
    (hend : ∀ e h, I n e h → ∃ o, body e h = o ∧ (∀ e' h', o ≠ .go .norm e' h') ∧ Q o) (h0 : I 0 e h) : Q (rounds body L e h) := by
  have key : ∀ m k L e h, n = k + m → m < L → I k e h → Q (rounds body L e h) := by
    intro m
    induction m with
    | zero =>
      intro k L e h hn hl hi
      obtain ⟨L, rfl⟩ : ∃ L', L = L' + 1 := ⟨L - 1, by omega⟩
      obtain ⟨o, ho, hno, hq⟩ := hend e h (by rw [hn]; exact hi)
      simp only [rounds, ho]
      cases o with
      | go x e' h' => cases x with
        | norm => exact absurd rfl (hno e' h')
        | _ => exact hq
      | _ => exact hq
    | succ m ih =>
      intro k L e h hn hl hi
      obtain ⟨L, rfl⟩ : ∃ L', L = L' + 1 := ⟨L - 1, by omega⟩
      obtain ⟨e', h', ho, hi'⟩ := hstep k (by omega) e h hi
      simp only [rounds, ho]
      exact ih (k + 1) L e' h' (by omega) (by omega) hi'
  exact key n 0 L e h (by omega) hL h0

/-! ### Numbers -/
theorem wrap_u64 {x : Int} (h0 : 0 ≤ x) (h1 : x < 18446744073709551616) : IntKind.u64.wrap x = x := by
  have : x % 18446744073709551616 = x := Int.emod_eq_of_lt h0 h1
  simp [IntKind.wrap, IntKind.bits, IntKind.signed, this]
theorem wrap_i64 {x : Int} (h0 : -9223372036854775808 ≤ x) (h1 : x < 9223372036854775808) : IntKind.i64.wrap x = x := by
  simp only [IntKind.wrap, IntKind.bits, IntKind.signed]
  simp
  split <;> omega
@[simp] theorem natOf_nat (k : IntKind) (n : Nat) : natOf (.int k (n : Int)) = some n := (rfl)
@[simp] theorem natOf_0 (k : IntKind) : natOf (.int k 0) = some 0 := (rfl)
@[simp] theorem natOf_1 (k : IntKind) : natOf (.int k 1) = some 1 := (rfl)
@[simp] theorem natOf_int {k : IntKind} {x : Int} (h : 0 ≤ x) : natOf (.int k x) = some x.toNat := by
  obtain ⟨n, rfl⟩ := Int.eq_ofNat_of_zero_le h
  rfl

/-! ### What is read -/
theorem loadD_row {k : Option Nat} {b z off : Nat} {op : Bool} {y : List AV} (hg : h.get b = some (.cells z op (.list [y]))) : loadD h k (.ptr b 0 off) = readC k off y := by
  simp [loadD, hg, Ct.get?]
theorem loadD_at {k : Option Nat} {b z off i : Nat} {op : Bool} {c : Ct} {y : List AV} (hg : h.get b = some (.cells z op c)) (hc : c.get? i = some y) : loadD h k (.ptr b i off) = readC k off y := by
  simp [loadD, hg, hc]
@[simp] theorem readC_at (off : Nat) (cs : List AV) : readC none off cs = cs[off]? := (rfl)
@[simp] theorem Res.of_some (v : AV) : Res.of (some v) h = .ok v h := (rfl)


/-! ### A function's call -/
def E0 : Env := ⟨.lf, []⟩
@[simp] theorem E0_ds : E0.ds = [] := (rfl)
/-- nothing is deferred -/
def noDs (e : Env) : Bool := e.ds.isEmpty
@[simp] theorem noDs_E0 : noDs E0 = true := (rfl)
@[simp] theorem noDs_put (e : Env) (t : Nat) (v : AV) : noDs (e.put t v) = noDs e := (rfl)
@[simp] theorem startEnv0 : startEnv [] = E0 := (rfl)
@[simp] theorem startEnv1 (a : AV) : startEnv [a] = E0.put 0 a := (rfl)
@[simp] theorem startEnv2 (a b : AV) : startEnv [a, b] = (E0.put 0 a).put 1 b := (rfl)
@[simp] theorem startEnv3 (a b c : AV) : startEnv [a, b, c] = ((E0.put 0 a).put 1 b).put 2 c := (rfl)
@[simp] theorem startEnv4 (a b c d : AV) : startEnv [a, b, c, d] = (((E0.put 0 a).put 1 b).put 2 c).put 3 d := (rfl)

def finishF (rs : List DRes) (o : Out) : Res AV := match o with
  | .go .norm e h => match e.ds with
    | [] => Res.of (resultsD h e rs) h
    | _ => .err
  | .go .ret e h => match e.ds with
    | [] => Res.of (resultsD h e rs) h
    | _ => .err
  | _ => .err
@[simp] theorem finishF_norm (rs : List DRes) (hd : noDs e = true) : finishF rs (.go .norm e h) = Res.of (resultsD h e rs) h := by
  have : e.ds = [] := by simpa [noDs] using hd
  simp only [finishF, this]
@[simp] theorem finishF_ret (rs : List DRes) (hd : noDs e = true) : finishF rs (.go .ret e h) = Res.of (resultsD h e rs) h := by
  have : e.ds = [] := by simpa [noDs] using hd
  simp only [finishF, this]

/-- a call whose function defers nothing and doesn't panic -/
theorem callF_run {tab : Nat → Option DFunc} {d f : Nat} {fn : DFunc} {args : List AV} {v : AV} {h' : Heap} (ht : tab f = some fn) (hn : args.length = fn.nargs)
    (hr : finishF fn.results (evd (callF tab L d) L false fn.body (startEnv args) h) = .ok v h') :
    callF tab L (d + 1) (.fn f) args h = .ok v h' := by
  rw [callF_fn ht]
  unfold bodyF
  rw [hn, show Nat.beq fn.nargs fn.nargs = true from by simp]
  simp only [Bool.not_true, cond_false]
  generalize evd (callF tab L d) L false fn.body (startEnv args) h = o at hr
  cases o with
  | go x e1 h1 =>
    cases x with
    | norm =>
      simp only [finishF] at hr
      cases hd : e1.ds with
      | nil => rw [hd] at hr; simp only [hd, leave]; exact hr
      | cons a l => rw [hd] at hr; cases hr
    | ret =>
      simp only [finishF] at hr
      cases hd : e1.ds with
      | nil => rw [hd] at hr; simp only [hd, leave]; exact hr
      | cons a l => rw [hd] at hr; cases hr
    | exit i => cases hr
  | panic v e h => cases hr
  | err => cases hr

@[simp] theorem resultsD_nil : resultsD h e [] = some (.tup []) := (rfl)
@[simp] theorem resultsD_tmp (t : Nat) : resultsD h e [.tmp t] = some (e.get t) := (rfl)
@[simp] theorem resultsD_cell (a : Nat) (k : Option Nat) : resultsD h e [.cell a k] = loadD h k (e.get a) := by
  simp only [resultsD, resAll, resD]
  cases loadD h k (e.get a) <;> rfl

/-! ### Slices that grow -/
/-- a slice whose row was made by append: its elements, spare ones behind -/
def OpenS (z : Nat) (h : Heap) (v : AV) (es : List (List AV)) : Prop :=
  (v = .nils ∧ es = []) ∨ ∃ b sp, v = .slice z b 0 es.length none ∧ h.get b = some (.cells z true (.list (es ++ sp)))

def AV.blk : AV → Option Nat
  | .slice _ b _ _ _ => some b
  | _ => none

/-- what a piece of work may have touched: blocks of a list, and new ones -/
def Touch (h h' : Heap) (bs : List Nat) : Prop := h.next ≤ h'.next ∧ ∀ x, x < h.next → x ∉ bs → h'.get x = h.get x

theorem Touch.refl (h : Heap) (bs : List Nat) : Touch h h bs := ⟨Nat.le_refl _, fun _ _ _ => rfl⟩
theorem Touch.trans {h1 h2 h3 : Heap} {bs : List Nat} (a : Touch h1 h2 bs) (b : Touch h2 h3 bs) : Touch h1 h3 bs :=
  ⟨Nat.le_trans a.1 b.1, fun x hx hn => (b.2 x (Nat.lt_of_lt_of_le hx a.1) hn).trans (a.2 x hx hn)⟩
theorem Touch.mono {h1 h2 : Heap} {bs cs : List Nat} (a : Touch h1 h2 bs) (hs : ∀ x ∈ bs, x ∈ cs) : Touch h1 h2 cs := ⟨a.1, fun x hx hn => a.2 x hx fun hh => hn (hs x hh)⟩
theorem Touch.set {h : Heap} {b : Nat} {o : Ob} {bs : List Nat} (hb : b ∈ bs) : Touch h (h.set b o) bs :=
  ⟨Nat.le_refl _, fun x _ hn => by rw [Heap.get_set, if_neg (fun hh => by subst hh; exact hn hb)]⟩
theorem Touch.drop {h : Heap} {b : Nat} {bs : List Nat} (hb : b ∈ bs) : Touch h (h.drop b) bs :=
  ⟨Nat.le_refl _, fun x _ hn => by rw [Heap.get_drop, if_neg (fun hh => by subst hh; exact hn hb)]⟩
theorem Touch.new {h : Heap} {o : Ob} {bs : List Nat} : Touch h (h.new o) bs :=
  ⟨by simp, fun x hx _ => by rw [Heap.get_new, if_neg (by omega)]⟩

/-- a block that came after the beginning is written -/
theorem Touch.fresh {h g : Heap} {b : Nat} {o : Ob} {bs : List Nat} (ht : Touch h g bs) (hb : h.next ≤ b) : Touch h (g.set b o) bs :=
  ⟨ht.1, fun x hx hn => by rw [Heap.get_set, if_neg (by omega)]; exact ht.2 x hx hn⟩
theorem Touch.news {h g : Heap} {o : Ob} {bs : List Nat} (ht : Touch h g bs) : Touch h (g.new o) bs := ht.trans .new
theorem Touch.sets {h g : Heap} {b : Nat} {o : Ob} {bs : List Nat} (ht : Touch h g bs) (hb : b ∈ bs) : Touch h (g.set b o) bs := ht.trans (.set hb)

theorem list_sets : ∀ (es sp new : List (List AV)), new.length ≤ sp.length → (Ct.list (es ++ sp)).sets es.length new = .list (es ++ new ++ sp.drop new.length)
  | es, sp, [], _ => by simp [Ct.sets]
  | es, [], x :: new, h => by simp at h
  | es, s :: sp, x :: new, h => by
    simp only [Ct.sets, Ct.set]
    have h1 : (es ++ s :: sp).set es.length x = (es ++ [x]) ++ sp := by simp
    rw [h1]
    have := list_sets (es ++ [x]) sp new (by simpa using h)
    simpa using this

/-- elements are put behind a slice that grows -/
theorem append_open {z bytes : Nat} {zs : List AV} {v : AV} {es new : List (List AV)} (hv : OpenS z h v es) (hz : zs.length = z) (h0 : 0 < z) (hok : okElems z new = true) (hne : new ≠ [])
    (hroom : roomy (es.length + new.length) bytes = true) :
    ∃ v' h', appendD zs bytes h v new = .ok v' h' ∧ OpenS z h' v' (es ++ new) ∧ Touch h h' v.blk.toList ∧ (v'.blk = v.blk ∨ (v'.blk = some h.next ∧ h'.next = h.next + 1)) ∧ v'.blk ≠ none := by
  subst hz
  have hb : (!(okElems zs.length new && Nat.blt 0 zs.length)) = false := by simp [hok, nblt, h0]
  rcases hv with ⟨rfl, rfl⟩ | ⟨b, sp, rfl, hg⟩
  · simp only [List.length_nil, Nat.zero_add] at hroom
    refine ⟨.slice zs.length h.next 0 new.length none, h.new (.cells zs.length true (.list new)), ?_, ?_, Touch.new, .inr ⟨rfl, rfl⟩, by simp [AV.blk]⟩
    · simp only [appendD, hb, cond_false]
      cases new with
      | nil => exact absurd rfl hne
      | cons x xs => simp only [hroom, cond_true, newOpen]
    · exact .inr ⟨h.next, [], by simp, by simp [Heap.get_new]⟩
  · by_cases hfit : es.length + new.length ≤ (es ++ sp).length
    · refine ⟨.slice zs.length b 0 (es.length + new.length) none, h.set b (.cells zs.length true (.list (es ++ new ++ sp.drop new.length))), ?_, ?_, Touch.set (by simp [AV.blk]), .inl rfl, by simp [AV.blk]⟩
      · have h1 : Nat.ble (es.length + new.length) (Ct.list (es ++ sp)).size = true := by
          rw [nble, decide_eq_true_eq]; simpa [Ct.size] using hfit
        simp only [appendD, hb, cond_false, hg, nbeq, decide_true, Bool.and_true, Bool.not_true, h1, cond_true, Nat.zero_add]
        rw [list_sets es sp new (by simpa using hfit)]
      · exact .inr ⟨b, sp.drop new.length, by simp, by simp [Heap.get_set]⟩
    · refine ⟨.slice zs.length h.next 0 (es ++ new).length none, (h.drop b).new (.cells zs.length true (.list (es ++ new))), ?_, ?_,
        (Touch.drop (by simp [AV.blk])).trans Touch.new, .inr ⟨rfl, rfl⟩, by simp [AV.blk]⟩
      · have h1 : Nat.ble (es.length + new.length) (Ct.list (es ++ sp)).size = false := by
          rw [nble, decide_eq_false_iff_not]; simpa [Ct.size] using hfit
        have h2 : (Ct.list (es ++ sp)).sub 0 es.length = some es := by
          simp only [Ct.sub, nble]
          have : decide (0 + es.length ≤ (es ++ sp).length) = true := by simp
          rw [this]; simp
        simp only [appendD, hb, cond_false, hg, nbeq, decide_true, Bool.and_true, Bool.not_true, Nat.zero_add, h1, h2, hroom, cond_true, newOpen]
        rfl
      · exact .inr ⟨h.next, [], rfl, by
          rw [List.append_nil, Heap.get_new]
          have : (h.drop b).next = h.next := rfl
          rw [this, if_pos rfl]⟩

/-! ### Arithmetic -/
attribute [simp] kindEq_refl
@[simp] theorem arith_add (k : IntKind) (a b : Int) : arith .add (.int k a) (.int k b) = some (.int k (k.wrap (a + b))) := by simp [arith]
@[simp] theorem arith_sub (k : IntKind) (a b : Int) : arith .sub (.int k a) (.int k b) = some (.int k (k.wrap (a - b))) := by simp [arith]
@[simp] theorem arith_mul (k : IntKind) (a b : Int) : arith .mul (.int k a) (.int k b) = some (.int k (k.wrap (a * b))) := by simp [arith]
@[simp] theorem arith_eql (k : IntKind) (a b : Int) : arith .eql (.int k a) (.int k b) = some (.bool (decide (a = b))) := by
  simp only [arith, kindEq_refl, cond_true, Option.some.injEq, AV.bool.injEq]
  by_cases h : a = b <;> simp [h]
@[simp] theorem arith_neq (k : IntKind) (a b : Int) : arith .neq (.int k a) (.int k b) = some (.bool (!decide (a = b))) := by
  simp only [arith, kindEq_refl, cond_true, Option.some.injEq, AV.bool.injEq]
  by_cases h : a = b <;> simp [h]
@[simp] theorem arith_lss (k : IntKind) (a b : Int) : arith .lss (.int k a) (.int k b) = some (.bool (decide (a < b))) := by simp [arith]
@[simp] theorem arith_leq (k : IntKind) (a b : Int) : arith .leq (.int k a) (.int k b) = some (.bool (decide (a ≤ b))) := by simp [arith]
@[simp] theorem arith_gtr (k : IntKind) (a b : Int) : arith .gtr (.int k a) (.int k b) = some (.bool (decide (b < a))) := by simp [arith]
@[simp] theorem arith_geq (k : IntKind) (a b : Int) : arith .geq (.int k a) (.int k b) = some (.bool (decide (b ≤ a))) := by simp [arith]

/-! ### What is written -/
theorem storeD_at {n b z off i : Nat} {op : Bool} {c : Ct} {y y' : List AV} {x : AV} (hg : h.get b = some (.cells z op c)) (hc : c.get? i = some y) (hw : writeC n off x.cells y = some y') :
    storeD h n (.ptr b i off) x = .ok (.tup []) (h.set b (.cells z op (c.set i y'))) := by
  simp [storeD, hg, hc, hw]
theorem storeD_row {n b z off : Nat} {op : Bool} {y y' : List AV} {x : AV} (hg : h.get b = some (.cells z op (.list [y]))) (hw : writeC n off x.cells y = some y') :
    storeD h n (.ptr b 0 off) x = .ok (.tup []) (h.set b (.cells z op (.list [y']))) := by
  rw [storeD_at hg (y := y) rfl hw]; rfl

/-! ### Words -/
/-- a block of numbers -/
def WordsAt (h : Heap) (b n : Nat) (f : Nat → Int) : Prop := ∃ op ct, h.get b = some (.cells 1 op ct) ∧ ct.size = n ∧ ∀ i, i < n → ct.get? i = some [.int .u64 (f i)]
def upd (f : Nat → Int) (i : Nat) (x : Int) : Nat → Int := fun j => if j = i then x else f j
theorem WordsAt.set {b n i : Nat} {f : Nat → Int} {x : Int} {op : Bool} {ct : Ct} (hs : ct.size = n) (hc : ∀ i, i < n → ct.get? i = some [.int .u64 (f i)]) (hi : i < n) :
    WordsAt (h.set b (.cells 1 op (ct.set i [.int .u64 x]))) b n (upd f i x) := by
  refine ⟨op, _, by rw [Heap.get_set, if_pos rfl], by simp [hs], fun j hj => ?_⟩
  rw [Ct.get?_set _ _ _ _ (by omega)]
  unfold upd
  split
  · rfl
  · exact hc j hj
theorem WordsAt.same {h' : Heap} {b n : Nat} {f : Nat → Int} (hw : WordsAt h b n f) (he : h'.get b = h.get b) : WordsAt h' b n f := by
  obtain ⟨op, ct, q1, q2, q3⟩ := hw
  exact ⟨op, ct, by rw [he]; exact q1, q2, q3⟩

/-! ### Loops that are left by their test -/
theorem ex2 {p : Env → Heap → Prop} {o : Out} {x : Ex} (he : o = .go x e h) (hp : p e h) : ∃ e' h', o = .go x e' h' ∧ p e' h' := ⟨e, h, he, hp⟩
theorem loop_exit {body : Env → Heap → Out} {o : Out} {id : Nat} (hr : rounds body L e h = o) (n : Nat) (I : Nat → Env → Heap → Prop) {J : Env → Heap → Prop} (hL : n < L) (h0 : I 0 e h)
    (hstep : ∀ k, k < n → ∀ e h, I k e h → ∃ e' h', body e h = .go .norm e' h' ∧ I (k + 1) e' h')
    (hend : ∀ e h, I n e h → ∃ e' h', body e h = .go (.exit id) e' h' ∧ J e' h') : ∃ e' h', o = .go (.exit id) e' h' ∧ J e' h' := by
  subst hr
  refine rounds_inv (Q := fun o => ∃ e' h', o = .go (.exit id) e' h' ∧ J e' h') hL hstep (fun e h hi => ?_) h0
  obtain ⟨e', h', q1, q2⟩ := hend e h hi
  exact ⟨_, q1, fun _ _ hh => (by cases hh), e', h', rfl, q2⟩

/-! ### Elements -/
def iadV (z : Nat) (v : AV) (i : Nat) : Option AV := match v with
  | .slice z' b s len _ => bif Nat.beq z' z && Nat.blt i len then some (.ptr b (s + i) 0) else none
  | .isl z' es => bif Nat.beq z z' then (es[i]?).map fun cs => .iptr cs 0 else none
  | _ => none
def iadR (z : Nat) (v : AV) (i : Option Nat) (h : Heap) : Res AV := match i with
  | some i => Res.of (iadV z v i) h
  | none => .err
@[simp] theorem step_iad (z : Nat) (x i : DO) : step call e h (.iad z x i) = iadR z (x.ev e) (natOf (i.ev e)) h := by
  simp only [step, iadR, iadV]
  cases natOf (i.ev e) with
  | none => simp only []
  | some k =>
    simp only []
    cases x.ev e with
    | slice z' b s len c => simp only []; cases (Nat.beq z' z && Nat.blt k len) <;> rfl
    | isl z' es =>
      simp only []
      cases Nat.beq z z' with
      | false => rfl
      | true => simp only [cond_true]; cases es[k]? <;> rfl
    | _ => rfl
@[simp] theorem iadR_some (z : Nat) (v : AV) (i : Nat) : iadR z v (some i) h = Res.of (iadV z v i) h := (rfl)
@[simp] theorem iadV_if (z b s len i : Nat) (c : Option Nat) : iadV z (.slice z b s len c) i = if i < len then some (.ptr b (s + i) 0) else none := by
  simp only [iadV, nblt, nbeq, decide_true, Bool.true_and]
  by_cases hi : i < len <;> simp [hi]
theorem iadV_slice {z b s len i : Nat} {c : Option Nat} (hi : i < len) : iadV z (.slice z b s len c) i = some (.ptr b (s + i) 0) := by simp [iadV, nblt, hi]

/-- numbers as elements -/
def encW (ws : List Int) : List (List AV) := ws.map fun w => [.int .u64 w]
@[simp] theorem encW_length (ws : List Int) : (encW ws).length = ws.length := by simp [encW]
@[simp] theorem encW_append (a b : List Int) : encW (a ++ b) = encW a ++ encW b := by simp [encW]
@[simp] theorem encW_nil : encW [] = [] := (rfl)
theorem encW_get {ws : List Int} {i : Nat} {w : Int} (h : ws[i]? = some w) : (encW ws)[i]? = some [.int .u64 w] := by simp [encW, h]
theorem encW_ok (ws : List Int) : okElems 1 (encW ws) = true := by
  induction ws with
  | nil => rfl
  | cons w ws ih => simp only [encW, List.map_cons, okElems] at ih ⊢; rw [ih]; simp [AV.one]

/-- a slice of numbers that can be read -/
structure ReadsW (h : Heap) (v : AV) (ws : List Int) : Prop where
  len : lenD h .sl v = some ws.length
  elems : elemsOf h v = some (encW ws)
  at_ : ∀ k, k < ws.length → ∃ p w, iadV 1 v k = some p ∧ ws[k]? = some w ∧ loadD h none p = some (.int .u64 w)

theorem ReadsW.nils : ReadsW h .nils [] := ⟨rfl, rfl, fun k hk => by simp at hk⟩
theorem ReadsW.emps : ReadsW h .emps [] := ⟨rfl, rfl, fun k hk => by simp at hk⟩
theorem ReadsW.isl (ws : List Int) : ReadsW h (.isl 1 (encW ws)) ws where
  len := by simp [lenD]
  elems := rfl
  at_ := fun k hk => by
    obtain ⟨w, hw⟩ : ∃ w, ws[k]? = some w := ⟨ws[k], by simp [hk]⟩
    exact ⟨.iptr [.int .u64 w] 0, w, by simp [iadV, encW_get hw], hw, by simp [loadD]⟩
/-- a slice of a block that is a list of numbers -/
theorem ReadsW.slice {b i : Nat} {ws pre suf : List Int} {op : Bool} {c : Option Nat} (hg : h.get b = some (.cells 1 op (.list (encW pre ++ encW ws ++ encW suf)))) (hi : pre.length = i) :
    ReadsW h (.slice 1 b i ws.length c) ws where
  len := by simp [lenD]
  elems := by
    subst hi
    simp only [elemsOf, hg, Ct.sub]
    have : Nat.ble (pre.length + ws.length) (encW pre ++ encW ws ++ encW suf).length = true := by rw [nble, decide_eq_true_eq]; simp
    rw [this, cond_true]
    have h1 : (encW pre ++ encW ws ++ encW suf).drop pre.length = encW ws ++ encW suf := by
      rw [List.append_assoc, List.drop_append_of_le_length (by simp), List.drop_eq_nil_of_le (by simp), List.nil_append]
    rw [h1, List.take_append_of_le_length (by simp), List.take_of_length_le (by simp)]
  at_ := fun k hk => by
    subst hi
    obtain ⟨w, hw⟩ : ∃ w, ws[k]? = some w := ⟨ws[k], by simp [hk]⟩
    refine ⟨.ptr b (pre.length + k) 0, w, iadV_slice hk, hw, ?_⟩
    rw [loadD_at hg (y := [.int .u64 w])]
    · rfl
    · simp only [Ct.get?]
      rw [List.append_assoc, List.getElem?_append_right (by simp)]
      simp only [encW_length, Nat.add_sub_cancel_left]
      rw [List.getElem?_append_left (by simpa using hk)]
      exact encW_get hw

theorem loadD_touch {g : Heap} {bs : List Nat} {p : AV} {k : Option Nat} (ht : Touch h g bs) (hp : ∀ b i o, p = .ptr b i o → b < h.next ∧ b ∉ bs) : loadD g k p = loadD h k p := by
  cases p with
  | ptr b i o =>
    obtain ⟨h1, h2⟩ := hp b i o rfl
    simp only [loadD, ht.2 b h1 h2]
  | _ => rfl
theorem ReadsW.touch {g : Heap} {bs : List Nat} {v : AV} {ws : List Int} (hv : ReadsW h v ws) (ht : Touch h g bs) (hb : ∀ b, v.blk = some b → b < h.next ∧ b ∉ bs) : ReadsW g v ws where
  len := by
    have := hv.len
    cases v <;> simp_all [lenD]
  elems := by
    rw [← hv.elems]
    cases v with
    | slice z b i len c =>
      obtain ⟨h1, h2⟩ := hb b rfl
      simp only [elemsOf, ht.2 b h1 h2]
    | _ => rfl
  at_ := fun k hk => by
    obtain ⟨p, w, q1, q2, q3⟩ := hv.at_ k hk
    refine ⟨p, w, q1, q2, ?_⟩
    rw [loadD_touch ht]
    · exact q3
    · intro b i o hp
      subst hp
      cases v with
      | slice z b' s len c =>
        simp only [iadV] at q1
        cases hc : (Nat.beq z 1 && Nat.blt k len) with
        | false => rw [hc] at q1; cases q1
        | true =>
          rw [hc] at q1
          simp only [cond_true, Option.some.injEq, AV.ptr.injEq] at q1
          rw [← q1.1]
          exact hb b' rfl
      | isl z es =>
        simp only [iadV] at q1
        cases hc : Nat.beq 1 z with
        | false => rw [hc] at q1; cases q1
        | true =>
          rw [hc] at q1
          simp only [cond_true, Option.map_eq_some_iff] at q1
          obtain ⟨cs, _, hcs⟩ := q1
          cases hcs
      | _ => cases q1

/-- numbers laid over others -/
def lay (f : Nat → Int) (a : Nat) (ws : List Int) (k : Nat) : Nat → Int := fun j => if a ≤ j ∧ j < a + k then ws.getD (j - a) 0 else f j
theorem lay_zero (f : Nat → Int) (a : Nat) (ws : List Int) : lay f a ws 0 = f := by
  funext j; unfold lay; rw [if_neg (by omega)]
theorem lay_succ (f : Nat → Int) (a : Nat) (ws : List Int) (k : Nat) {w : Int} (hw : ws[k]? = some w) : upd (lay f a ws k) (a + k) w = lay f a ws (k + 1) := by
  funext j
  unfold upd lay
  by_cases h1 : j = a + k
  · subst h1
    rw [if_pos rfl, if_pos (by omega)]
    simp [List.getD_eq_getElem?_getD, hw]
  · rw [if_neg h1]
    by_cases h2 : a ≤ j ∧ j < a + k
    · rw [if_pos h2, if_pos (by omega)]
    · rw [if_neg h2, if_neg (by omega)]

theorem zer_succ (f : Nat → Int) (a k : Nat) : upd (lay f a [] k) (a + k) 0 = lay f a [] (k + 1) := by
  funext j
  unfold upd lay
  by_cases h1 : j = a + k
  · subst h1
    rw [if_pos rfl, if_pos (by omega)]
    simp
  · rw [if_neg h1]
    by_cases h2 : a ≤ j ∧ j < a + k
    · rw [if_pos h2, if_pos (by omega)]
    · rw [if_neg h2, if_neg (by omega)]

theorem OpenS.len {z : Nat} {v : AV} {es : List (List AV)} (hv : OpenS z h v es) : lenD h .sl v = some es.length := by
  rcases hv with ⟨rfl, rfl⟩ | ⟨b, sp, rfl, _⟩ <;> rfl
theorem OpenS.beq {z : Nat} {v : AV} {es : List (List AV)} (hv : OpenS z h v es) : AV.beq v v = true := by
  rcases hv with ⟨rfl, rfl⟩ | ⟨b, sp, rfl, _⟩ <;> simp
theorem OpenS.touch {g : Heap} {bs : List Nat} {z : Nat} {v : AV} {es : List (List AV)} (hv : OpenS z h v es) (ht : Touch h g bs) (hb : ∀ b, v.blk = some b → b < h.next ∧ b ∉ bs) : OpenS z g v es := by
  rcases hv with ⟨rfl, rfl⟩ | ⟨b, sp, rfl, hg⟩
  · exact .inl ⟨rfl, rfl⟩
  · obtain ⟨h1, h2⟩ := hb b rfl
    exact .inr ⟨b, sp, rfl, by rw [ht.2 b h1 h2]; exact hg⟩

theorem OpenS.one {z : Nat} {v : AV} {es : List (List AV)} (hv : OpenS z h v es) : AV.one v = true := by
  rcases hv with ⟨rfl, _⟩ | ⟨b, sp, rfl, _⟩ <;> rfl
theorem OpenS.cells {z : Nat} {v : AV} {es : List (List AV)} (hv : OpenS z h v es) : v.cells = [v] := by
  rcases hv with ⟨rfl, _⟩ | ⟨b, sp, rfl, _⟩ <;> rfl
/-- elements, perhaps none, are put behind a slice that grows -/
theorem append_any {z bytes : Nat} {zs : List AV} {v : AV} {es new : List (List AV)} (hv : OpenS z h v es) (hz : zs.length = z) (h0 : 0 < z) (hok : okElems z new = true)
    (hroom : roomy (es.length + new.length) bytes = true) :
    ∃ v' h', appendD zs bytes h v new = .ok v' h' ∧ OpenS z h' v' (es ++ new) ∧ Touch h h' v.blk.toList ∧ (v'.blk = v.blk ∨ (v'.blk = some h.next ∧ h'.next = h.next + 1)) := by
  by_cases hne : new = []
  · subst hne
    subst hz
    have hb : (!(okElems zs.length [] && Nat.blt 0 zs.length)) = false := by simp [okElems, nblt, h0]
    rcases hv with ⟨rfl, rfl⟩ | ⟨b, sp, rfl, hg⟩
    · exact ⟨.nils, h, by simp [appendD, okElems, nblt, h0], .inl ⟨rfl, rfl⟩, .refl _ _, .inl rfl⟩
    · refine ⟨.slice zs.length b 0 es.length none, h.set b (.cells zs.length true (.list (es ++ sp))), ?_, ?_, Touch.set (by simp [AV.blk]), .inl rfl⟩
      · simp [appendD, okElems, nblt, nble, h0, hg, Ct.size, Ct.sets]
      · exact .inr ⟨b, sp, by simp, by simp [Heap.get_set]⟩
  · obtain ⟨v', h', q1, q2, q3, q4, _⟩ := append_open hv hz h0 hok hne hroom
    exact ⟨v', h', q1, q2, q3, q4⟩
theorem storeD_one {b z off i : Nat} {op : Bool} {c : Ct} {y : List AV} {x : AV} (hg : h.get b = some (.cells z op c)) (hc : c.get? i = some y) (hx : x.cells = [x]) (ho : AV.one x = true) (hl : off < y.length) :
    storeD h 1 (.ptr b i off) x = .ok (.tup []) (h.set b (.cells z op (c.set i (y.take off ++ [x] ++ y.drop (off + 1))))) :=
  storeD_at hg hc (by
    have : decide (off + 1 ≤ y.length) = true := by simp; omega
    simp only [writeC, hx, nble, this]
    simp [ho])
theorem OpenS.reads {v : AV} {ws : List Int} (hv : OpenS 1 h v (encW ws)) : ReadsW h v ws := by
  rcases hv with ⟨rfl, hw⟩ | ⟨b, sp, rfl, hg⟩
  · have : ws = [] := by cases ws with | nil => rfl | cons w ws => simp [encW] at hw
    subst this; exact .nils
  · refine ⟨by simp [lenD], ?_, fun k hk => ?_⟩
    · simp [elemsOf, hg, Ct.sub, nble]
    · obtain ⟨w, hw⟩ : ∃ w, ws[k]? = some w := ⟨ws[k], by simp [hk]⟩
      refine ⟨.ptr b (0 + k) 0, w, by simp [hk], hw, ?_⟩
      rw [loadD_at hg (y := [.int .u64 w])]
      · rfl
      · simp only [Ct.get?, Nat.zero_add]
        rw [List.getElem?_append_left (by simpa using hk)]
        exact encW_get hw

theorem OpenS.elems {z : Nat} {v : AV} {es : List (List AV)} (hv : OpenS z h v es) : elemsOf h v = some es := by
  rcases hv with ⟨rfl, rfl⟩ | ⟨b, sp, rfl, hg⟩
  · rfl
  · simp [elemsOf, hg, Ct.sub, nble]
/-- the first elements -/
theorem sliceN_to {z n : Nat} {v : AV} {es : List (List AV)} (hv : OpenS z h v es) (hn : n ≤ es.length) :
    ∃ v', sliceN z h v none (some (some n)) none = some v' ∧ elemsOf h v' = some (es.take n) := by
  rcases hv with ⟨rfl, rfl⟩ | ⟨b, sp, rfl, hg⟩
  · have : n = 0 := by simpa using hn
    subst this
    exact ⟨.nils, by simp [sliceN], rfl⟩
  · have h1 : n ≤ es.length + sp.length := by omega
    by_cases h0 : 0 < es.length + sp.length
    · refine ⟨.slice z b 0 n none, by simp [sliceN, hg, capLow, Ct.size, nble, nblt, h1, h0], ?_⟩
      simp [elemsOf, hg, Ct.sub, nble, h1, List.take_append_of_le_length hn]
    · have h2 : es.length = 0 := by omega
      have h3 : sp.length = 0 := by omega
      have h4 : n = 0 := by omega
      subst h4
      exact ⟨.isl z [], by simp [sliceN, hg, capLow, Ct.size, nble, nblt, h2, h3], by simp [elemsOf]⟩
/-- the last elements -/
theorem sliceN_from {z n : Nat} {v : AV} {es : List (List AV)} (hv : OpenS z h v es) (hn : n ≤ es.length) :
    ∃ v', sliceN z h v (some (some n)) none none = some v' ∧ elemsOf h v' = some (es.drop n) := by
  rcases hv with ⟨rfl, rfl⟩ | ⟨b, sp, rfl, hg⟩
  · have : n = 0 := by simpa using hn
    subst this
    exact ⟨.nils, by simp [sliceN], rfl⟩
  · have h1 : es.length ≤ es.length + sp.length := by omega
    by_cases h0 : n < es.length + sp.length
    · refine ⟨.slice z b n (es.length - n) none, by simp [sliceN, hg, capLow, Ct.size, nble, nblt, hn, h0], ?_⟩
      have h2 : n + (es.length - n) ≤ es.length + sp.length := by omega
      have h3 : (es ++ sp).drop n = es.drop n ++ sp := by rw [List.drop_append_of_le_length hn]
      simp only [elemsOf, hg, Ct.sub, nble, List.length_append, h2, decide_true, cond_true, h3]
      rw [List.take_append_of_le_length (by simp), List.take_of_length_le (by simp)]
    · have h2 : n = es.length := by omega
      refine ⟨.isl z [], by simp [sliceN, hg, capLow, Ct.size, nble, nblt, hn, h0], ?_⟩
      subst h2
      simp [elemsOf]
theorem okElems_iff {z : Nat} : ∀ {es : List (List AV)}, okElems z es = true ↔ ∀ x ∈ es, x.length = z ∧ x.all AV.one = true
  | [] => by simp [okElems]
  | x :: es => by
    have ih := okElems_iff (z := z) (es := es)
    simp only [okElems, Bool.and_eq_true, nbeq, decide_eq_true_eq, List.mem_cons, forall_eq_or_imp]
    rw [ih]
theorem okElems_sub {z : Nat} {es es' : List (List AV)} (h : okElems z es = true) (hs : ∀ x ∈ es', x ∈ es) : okElems z es' = true :=
  okElems_iff.2 fun x hx => okElems_iff.1 h x (hs x hx)
end
end Go.D
