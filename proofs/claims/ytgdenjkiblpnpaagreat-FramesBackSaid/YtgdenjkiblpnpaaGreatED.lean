/-
  The abstract evaluator 'D': regions that draw their order: what holds on the way.
-/
import Derived.Test.YtgdenjkiblpnpaaGreatEC
namespace Go.D
section
variable {P : Program} {call : Caller} {n : Nat} {ops : Array Oper} {all : List El} {K0 : Km} {m0 : Mm} {h0 : Heap} {w0 : World} {Q : Exit → Act → World → Prop}

def kindEl (ops : Array Oper) (x : El) : Kind := kindOf (ops.getD x.1 default).op x.2.1.ins
def on (ls : Array Bool) (i : Nat) : Bool := ls.getD i false

/-- what an operation that has not come up yet is to give -/
structure Val (ops : Array Oper) (call : Caller) (m : Mm) (b0 : Nat) (e1 : Env) (h1 : Heap) (x : El) (b : Nat) (v : AV) : Prop where
  slot : ∀ t, x.2.1.dst = some t → e1.get t = v
  val : (wanted e1 x.2.1.grd = some false ∧ v = .tup []) ∨
    (wanted e1 x.2.1.grd = some true ∧ (kindEl ops x = .pure ∨ kindEl ops x = .rd) ∧ step call e1 h1 x.2.1.ins = .ok v h1) ∨
    (wanted e1 x.2.1.grd = some true ∧ kindEl ops x = .al ∧ ∃ ob f, newOf e1 x.2.1.ins = some (ob, f) ∧ v = f b ∧ h1.get b = some ob ∧ m b = none ∧ b0 ≤ b)

/-- what holds on the way -/
structure Inv (P : Program) (call : Caller) (n : Nat) (ops : Array Oper) (all : List El) (K0 : Km) (m0 : Mm) (h0 : Heap) (w0 : World) (Q : Exit → Act → World → Prop)
    (ls : Array Bool) (l1 l2 : List El) (eS e1 : Env) (h1 : Heap) (K : Km) (m : Mm) (a : Act) (w : World) (B : Nat → Nat) : Prop where
  size : ls.size = ops.size
  split : all = l1 ++ l2
  two : ∀ x ∈ l2, on ls x.1 = false
  wr : ∀ x ∈ l1, isWr (kindEl ops x) = true → on ls x.1 = true
  clo : ∀ i j, i < ops.size → on ls i = true → ((Region.before ops).getD i 0).testBit j = true → on ls j = true
  rel : Rel P K m h1 w
  env : REnv K m n eS a
  ext : Ext K0 m0 h0 w0 K m h1 w
  ds : eS.ds = e1.ds
  same : ∀ t, (∀ x ∈ l1, on ls x.1 = false → x.2.1.dst ≠ some t) → eS.get t = e1.get t
  val : ∀ x ∈ l1, on ls x.1 = false → ∃ v, Val ops call m h0.next e1 h1 x (B x.1) v
  low : ∀ x ∈ l1, on ls x.1 = false → kindEl ops x = .al → wanted e1 x.2.1.grd = some true → B x.1 < h1.next
  inj : ∀ x ∈ l1, ∀ y ∈ l1, on ls x.1 = false → on ls y.1 = false → kindEl ops x = .al → kindEl ops y = .al → wanted e1 x.2.1.grd = some true → wanted e1 y.2.1.grd = some true → B x.1 = B y.1 → x.1 = y.1
  out : OutOk P K0 m0 h0 w0 n Q (drawnD call all l2 e1 h1)

theorem Env.get_putO (e : Env) (d : Option Nat) (v : AV) (t : Nat) : (e.putO d v).get t = if d = some t then v else e.get t := by
  cases d with
  | none => simp [Env.putO]
  | some u =>
    simp only [Env.putO, Env.get_put]
    by_cases h : t = u
    · subst h; simp
    · rw [if_neg h, if_neg (fun hh => h (by simpa using (Option.some.inj hh).symm))]

theorem wanted_same {e e' : Env} {d : DOp} (hs : Same d.slots e e') : wanted e d.grd = wanted e' d.grd := by
  unfold wanted
  cases hg : d.grd with
  | none => rfl
  | some p =>
    obtain ⟨t, b⟩ := p
    have : e.get t = e'.get t := hs t (by simp [DOp.slots, hg])
    simp only [this]

theorem Same.ins {e e' : Env} {d : DOp} (hs : Same d.slots e e') : Same d.ins.slots e e' := fun t ht => hs t (by simp [DOp.slots, ht])

theorem hasDst_false {d : DOp} {l : List Nat} (hd : hasDst d l = false) {t : Nat} (ht : t ∈ l) : d.dst ≠ some t := by
  intro hh
  unfold hasDst at hd
  rw [hh] at hd
  simp only at hd
  have := (memN_iff (x := t)).2 ht
  rw [this] at hd; cases hd

theorem sameDst_false {a b : DOp} (hd : sameDst a b = false) {t : Nat} (ht : a.dst = some t) : b.dst ≠ some t := by
  intro hh
  unfold sameDst at hd
  rw [ht, hh] at hd
  simp at hd

/-- a value that is still to come keeps, when slots that it doesn't look at are written and the heap grows -/
theorem Val.keep {m : Mm} {b0 : Nat} {e1 e2 : Env} {h1 h2 : Heap} {x : El} {b : Nat} {v : AV} (hv : Val ops call m b0 e1 h1 x b v) (hs : Same x.2.1.slots e2 e1) (hd : ∀ t, x.2.1.dst = some t → e2.get t = e1.get t)
    (hm : More h1 h2) : Val ops call m b0 e2 h2 x b v where
  slot := fun t ht => by rw [hd t ht]; exact hv.slot t ht
  val := by
    rcases hv.val with ⟨q1, q2⟩ | ⟨q1, q2, q3⟩ | ⟨q1, q2, ob, f, q3, q4, q5, q6, q7⟩
    · exact .inl ⟨by rw [wanted_same hs]; exact q1, q2⟩
    · refine .inr (.inl ⟨by rw [wanted_same hs]; exact q1, q2, ?_⟩)
      rw [step_same hs.ins]
      rcases q2 with q2 | q2
      · exact (pure_step q2 q3).2 h2
      · exact (rd_step q2 q3).2 h2 hm
    · exact .inr (.inr ⟨by rw [wanted_same hs]; exact q1, q2, ob, f, by rw [newOf_same hs.ins]; exact q3, q4, hm _ _ q5, q6, q7⟩)

structure PairOk (ops : Array Oper) (x y : El) : Prop where
  ne : x.1 ≠ y.1
  wr : isWr (kindEl ops x) = true → ((Region.before ops).getD y.1 0).testBit x.1 = true
  dst : isWr (kindEl ops x) = false → sameDst x.2.1 y.2.1 = true → ((Region.before ops).getD y.1 0).testBit x.1 = true
  use : isWr (kindEl ops x) = false → hasDst x.2.1 y.2.1.slots = true → ((Region.before ops).getD y.1 0).testBit x.1 = true
  over : isWr (kindEl ops x) = false → hasDst y.2.1 x.2.1.slots = true → ((Region.before ops).getD y.1 0).testBit x.1 = true
  fl : isWr (kindEl ops x) = false → isWr (kindEl ops y) = false → sameDst x.2.1 y.2.1 = false ∧ hasDst y.2.1 x.2.1.slots = false
  rd : kindEl ops x = .rd → isWr (kindEl ops y) = true → ((Region.before ops).getD y.1 0).testBit x.1 = true ∨ x.1 ∈ y.2.2

theorem pair_ok {x y : El} (h : pairOk ops (Region.before ops) x y = true) : PairOk ops x y := by
  unfold pairOk at h
  simp only [Bool.and_eq_true, Bool.or_eq_true, Bool.not_eq_true', nbeq, decide_eq_false_iff_not] at h
  obtain ⟨⟨⟨⟨⟨⟨h1, h2⟩, h3⟩, h4⟩, h5⟩, h6⟩, h7⟩ := h
  have e1 : kindEl ops x = kindOf (ops.getD x.1 default).op x.2.1.ins := rfl
  have e2 : kindEl ops y = kindOf (ops.getD y.1 default).op y.2.1.ins := rfl
  rw [← e1] at h2 h3 h4 h6 h7
  rw [← e2] at h5 h6 h7
  refine ⟨h1, fun hw => ?_, fun hw hs => ?_, fun hw hs => ?_, fun hw hs => ?_, fun hw hs => ?_, fun hw hs => ?_⟩
  · rcases h2 with h2 | h2
    · rw [hw] at h2; cases h2
    · exact h2
  · rcases h3 with h3 | ⟨h3, _⟩
    · rw [hw] at h3; cases h3
    · rcases h3 with h3 | h3
      · rw [hs] at h3; cases h3
      · exact h3
  · rcases h3 with h3 | ⟨_, h3⟩
    · rw [hw] at h3; cases h3
    · rcases h3 with h3 | h3
      · rw [hs] at h3; cases h3
      · exact h3
  · rcases h4 with (h4 | h4) | h4
    · rw [hw] at h4; cases h4
    · rw [hs] at h4; cases h4
    · exact h4
  · rcases h6 with (h6 | h6) | h6
    · rw [hw] at h6; cases h6
    · rw [hs] at h6; cases h6
    · exact h6
  · rcases h7 with (h7 | h7) | h7
    · rw [hs, hw] at h7
      simp [isRd] at h7
    · exact .inl h7
    · exact .inr (memN_iff.1 h7)

/-- the checker's word of a region, as facts -/
structure Okd (P : Program) (n : Nat) (ops : Array Oper) (all : List El) : Prop where
  cover : ∀ i, i < ops.size → ∃ x ∈ all, x.1 = i
  elem : ∀ x ∈ all, ∃ o, ops[x.1]? = some o ∧ okOp P n ops o x.2.1 = true ∧ (isWr (kindEl ops x) = true ∨ hasDst x.2.1 x.2.1.slots = false)
  pair : ∀ l1 x l2, all = l1 ++ x :: l2 → ∀ y ∈ l2, PairOk ops x y
  edge : ∀ i o, ops[i]? = some o → ∀ e ∈ o.after.toList, Region.binds .any e = true → e.on < i
  bef : ∀ i o, ops[i]? = some o → ∀ j, ((Region.before ops).getD i 0).testBit j = true → ∃ e ∈ o.after.toList, Region.binds .any e = true ∧ (j = e.on ∨ ((Region.before ops).getD e.on 0).testBit j = true)

theorem getD_ops {i : Nat} {o : Oper} (h : ops[i]? = some o) : ops.getD i default = o := by
  rw [Array.getD_eq_getD_getElem?, h]; rfl

theorem okd_of (h : okDrawn P n ops all = true) : Okd P n ops all := by
  unfold okDrawn at h
  simp only [Bool.and_eq_true] at h
  obtain ⟨⟨⟨h1, h2⟩, h3⟩, h4⟩ := h
  refine ⟨cover_spec h1, fun x hx => ?_, fun l1 x l2 hs y hy => pair_ok (pairs_spec (hs ▸ h4) y hy), fun i o ho e he hb => ?_, fun i o ho j hj => ?_⟩
  · obtain ⟨o, q1, q2, q3⟩ := elems_spec h3 x hx
    refine ⟨o, q1, q2, ?_⟩
    unfold kindEl
    rw [getD_ops q1]; exact q3
  · have := (bef_spec h2 i o (by rw [Array.getElem?_toList]; exact ho)).1 e he hb
    simpa using this
  · have := (bef_spec h2 i o (by rw [Array.getElem?_toList]; exact ho)).2 j
    rw [Nat.zero_add] at this
    exact this hj

theorem float_plain {op : Op} {i : DIns} (hk : isWr (kindOf op i) = false) : i.plain = true ∧ i.isDfr = false := by
  cases i <;> first | exact ⟨rfl, rfl⟩ | (exfalso; unfold kindOf at hk; split at hk <;> simp [isWr] at hk)

theorem al_step {op : Op} {i : DIns} {e : Env} {h : Heap} (hk : kindOf op i = .al) : step call e h i = match newOf e i with
    | some (o, f) => .ok (f h.next) (h.new o)
    | none => .err := by
  have hk' : (match i with
    | .alloc _ | .box _ _ | .bsl _ _ _ | .mkmap | .mksl _ _ _ _ | .rngs _ => true
    | _ => false) = true := by
    unfold kindOf at hk
    split at hk
    · cases hk
    · split at hk <;> first | rfl | cases hk
  cases i <;> first | rfl | cases hk'

/-- an operation that is no writer, done by the evaluator -/
theorem float_op {x : El} {o : Oper} (ho : ops[x.1]? = some o) (hx : isWr (kindEl ops x) = false) {e1 : Env} {h1 : Heap} {out : Out} (hs : opD call x.2.1 e1 h1 = out) (hne : out ≠ .err) :
    ∃ v h2, out = .go .norm (e1.putO x.2.1.dst v) h2 ∧ ((wanted e1 x.2.1.grd = some false ∧ v = .tup [] ∧ h2 = h1) ∨
      (wanted e1 x.2.1.grd = some true ∧ step call e1 h1 x.2.1.ins = .ok v h2 ∧
        (((kindEl ops x = .pure ∨ kindEl ops x = .rd) ∧ h2 = h1) ∨ (kindEl ops x = .al ∧ ∃ ob f, newOf e1 x.2.1.ins = some (ob, f) ∧ v = f h1.next ∧ h2 = h1.new ob)))) := by
  have hk : kindEl ops x = kindOf o.op x.2.1.ins := by unfold kindEl; rw [getD_ops ho]
  obtain ⟨hp, hd⟩ := float_plain (by rw [← hk]; exact hx)
  have hop : opD call x.2.1 e1 h1 = match wanted e1 x.2.1.grd with
      | none => .err
      | some false => .go .norm (e1.putO x.2.1.dst (.tup [])) h1
      | some true => match step call e1 h1 x.2.1.ins with
        | .ok v h => .go .norm (e1.putO x.2.1.dst v) h
        | .panic v h => .panic v e1 h
        | .err => .err := by
    unfold opD
    cases hw : wanted e1 x.2.1.grd with
    | none => rfl
    | some b => cases b with
      | false => rfl
      | true =>
        simp only
        cases hi : x.2.1.ins with
        | dfr q1 q2 => rw [hi] at hd; cases hd
        | _ => rfl
  rw [hop] at hs
  cases hw : wanted e1 x.2.1.grd with
  | none => rw [hw] at hs; exact absurd hs.symm hne
  | some b => cases b with
    | false => rw [hw] at hs; exact ⟨_, _, hs.symm, .inl ⟨rfl, rfl, rfl⟩⟩
    | true =>
      rw [hw] at hs
      simp only at hs
      cases hst : step call e1 h1 x.2.1.ins with
      | err => rw [hst] at hs; exact absurd hs.symm hne
      | panic v h => exact absurd hst (plain_calm hp v h)
      | ok v h2 =>
        rw [hst] at hs
        refine ⟨v, h2, hs.symm, .inr ⟨rfl, rfl, ?_⟩⟩
        cases hkk : kindEl ops x with
        | wr => rw [hkk] at hx; cases hx
        | pure => exact .inl ⟨.inl rfl, (pure_step (hk.symm.trans hkk) hst).1⟩
        | rd => exact .inl ⟨.inr rfl, (rd_step (hk.symm.trans hkk) hst).1⟩
        | al =>
          refine .inr ⟨rfl, ?_⟩
          rw [al_step (hk.symm.trans hkk)] at hst
          cases hn : newOf e1 x.2.1.ins with
          | none => rw [hn] at hst; cases hst
          | some p =>
            obtain ⟨ob, f⟩ := p
            rw [hn] at hst
            simp only [Res.ok.injEq] at hst
            exact ⟨ob, f, rfl, hst.1.symm, hst.2.symm⟩
end
end Go.D
