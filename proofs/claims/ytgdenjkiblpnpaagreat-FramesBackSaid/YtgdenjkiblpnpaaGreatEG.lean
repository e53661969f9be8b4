/-
  The abstract evaluator 'D': regions that draw their order: a float comes up; a writer comes up.
-/
import Derived.Test.YtgdenjkiblpnpaaGreatEF
namespace Go.D
section
variable {P : Program} {call : Caller} {n : Nat} {ops : Array Oper} {all : List El} {K0 : Km} {m0 : Mm} {h0 : Heap} {w0 : World} {Q : Exit → Act → World → Prop}
  {ls : Array Bool} {l1 l2 : List El} {eS e1 : Env} {h1 : Heap} {K : Km} {m : Mm} {a : Act} {w : World} {B : Nat → Nat}

theorem Val.ghost {m' : Mm} {b0 : Nat} {x : El} {b : Nat} {v : AV} (hv : Val ops call m b0 e1 h1 x b v) (hm : kindEl ops x = .al → wanted e1 x.2.1.grd = some true → m b = none → m' b = none) : Val ops call m' b0 e1 h1 x b v where
  slot := hv.slot
  val := by
    rcases hv.val with q | q | ⟨q1, q2, ob, f, q3, q4, q5, q6, q7⟩
    · exact .inl q
    · exact .inr (.inl q)
    · exact .inr (.inr ⟨q1, q2, ob, f, q3, q4, q5, hm q2 q1 q6, q7⟩)

/-- the invariant when a float of the part behind has come up -/
theorem Inv.listed (okd : Okd P n ops all) (inv : Inv P call n ops all K0 m0 h0 w0 Q ls l1 l2 eS e1 h1 K m a w B) {x : El} (hx : x ∈ l1) {o : Oper} (ho : ops[x.1]? = some o)
    (hb : ∀ j, ((Region.before ops).getD x.1 0).testBit j = true → on ls j = true) {K' : Km} {m' : Mm} {a' : Act} {w' : World} {v : AV} (hv : ∀ t, x.2.1.dst = some t → e1.get t = v)
    (rel' : Rel P K' m' h1 w') (env' : REnv K' m' n (eS.putO x.2.1.dst v) a') (ext' : Ext K0 m0 h0 w0 K' m' h1 w')
    (hg : ∀ y ∈ l1, y.1 ≠ x.1 → on ls y.1 = false → kindEl ops y = .al → wanted e1 y.2.1.grd = some true → m (B y.1) = none → m' (B y.1) = none) :
    Inv P call n ops all K0 m0 h0 w0 Q (ls.setIfInBounds x.1 true) l1 l2 (eS.putO x.2.1.dst v) e1 h1 K' m' a' w' B := by
  have hlt : x.1 < ls.size := by rw [inv.size]; exact (Array.getElem?_eq_some_iff.1 ho).1
  have hsp := inv.split
  have hoff : ∀ y ∈ l1, on (ls.setIfInBounds x.1 true) y.1 = false → on ls y.1 = false ∧ y.1 ≠ x.1 := fun y _ hs => by
    rw [on_set hlt] at hs
    by_cases h : y.1 = x.1
    · rw [if_pos h] at hs; cases hs
    · rw [if_neg h] at hs; exact ⟨hs, h⟩
  exact {
    size := by simpa using inv.size
    split := hsp
    two := fun y hy => by
      have hne := (okd.before hsp hx hy).ne
      rw [on_set hlt, if_neg (Ne.symm hne)]
      exact inv.two y hy
    wr := fun y hy hw => by rw [on_set hlt]; split; rfl; exact inv.wr y hy hw
    clo := fun i j hi hon hbit => by
      rw [on_set hlt] at hon ⊢
      split
      · rfl
      · split at hon
        · rename_i h; subst h; exact hb j hbit
        · exact inv.clo i j hi hon hbit
    rel := rel'
    env := env'
    ext := ext'
    ds := by rw [← inv.ds]; cases x.2.1.dst <;> rfl
    same := fun t ht => by
      rw [Env.get_putO]
      split
      · rename_i hd; rw [hv t hd]
      · rename_i hd
        refine inv.same t fun y hy hs => ?_
        by_cases h : y.1 = x.1
        · have hyx : y = x := by
            obtain ⟨p, q, rfl⟩ := List.append_of_mem hx
            rcases List.mem_append.1 hy with hy' | hy'
            · exact absurd h (okd.before (l1 := p) (l2 := x :: q ++ l2) (by rw [hsp]; simp) hy' (by simp)).ne
            · rcases List.mem_cons.1 hy' with rfl | hy'
              · rfl
              · exact absurd h.symm (okd.before (l1 := p ++ [x]) (l2 := q ++ l2) (by rw [hsp]; simp) (x := x) (by simp) (y := y) (by simp [hy'])).ne
          subst hyx; exact hd
        · exact ht y hy (by rw [on_set hlt, if_neg h]; exact hs)
    val := fun y hy hs => by
      obtain ⟨h2, h3⟩ := hoff y hy hs
      obtain ⟨u, hu⟩ := inv.val y hy h2
      exact ⟨u, hu.ghost fun q1 q2 => hg y hy h3 h2 q1 q2⟩
    low := fun y hy hs => inv.low y hy (hoff y hy hs).1
    inj := fun y hy z hz hsy hsz => inv.inj y hy z hz (hoff y hy hsy).1 (hoff z hz hsz).1
    out := inv.out }

/-- a float of the part behind comes up -/
theorem Inv.up {ro : Option Nat} (cok : CallOk P call) (okd : Okd P n ops all) (inv : Inv P call n ops all K0 m0 h0 w0 Q ls l1 l2 eS e1 h1 K m a w B) {x : El} (hx : x ∈ l1) (hs : on ls x.1 = false)
    (hr : x.1 ∈ Region.ready .any ops ls) {next : Act → World → Prop} {Q' : Exit → Act → World → Prop}
    (hn : ∀ eS' K' m' a' w', Inv P call n ops all K0 m0 h0 w0 Q (ls.setIfInBounds x.1 true) l1 l2 eS' e1 h1 K' m' a' w' B → next a' w') : wpOpIn (Wide ro) 0 P ops Q' x.1 next a w := by
  have hsp := inv.split
  obtain ⟨o, ho, hok, hself⟩ := okd.elem x (by rw [hsp]; simp [hx])
  obtain ⟨_, hb⟩ := ready_bef okd inv.clo ho hr
  have hsame := same_of okd inv hx hs hb
  have hxf : isWr (kindEl ops x) = false := by
    cases hw : isWr (kindEl ops x) with
    | false => rfl
    | true => rw [inv.wr x hx hw] at hs; cases hs
  have hk : kindEl ops x = kindOf o.op x.2.1.ins := by unfold kindEl; rw [getD_ops ho]
  obtain ⟨hp, hd⟩ := float_plain (by rw [← hk]; exact hxf)
  obtain ⟨v, hv⟩ := inv.val x hx hs
  obtain ⟨hdst, hlt⟩ := okOp_dst hok
  have hcont : ∀ K' m' w' a', Rel P K' m' h1 w' → REnv K' m' n (eS.putO x.2.1.dst v) a' → Ext K m h1 w K' m' h1 w' → next a' w' := fun K' m' w' a' q1 q2 q3 =>
    hn _ K' m' a' w' (inv.listed okd hx ho hb hv.slot q1 q2 (inv.ext.trans q3) fun y hy _ hsy hky hwy hmy => (q3.ghost _ (inv.low y hy hsy hky hwy) hmy).1)
  have hopD : ∀ r, (wanted e1 x.2.1.grd = some false ∧ r = Out.go .norm (eS.putO x.2.1.dst (.tup [])) h1) ∨ (wanted e1 x.2.1.grd = some true ∧ ∃ u, step call e1 h1 x.2.1.ins = .ok u h1 ∧ r = .go .norm (eS.putO x.2.1.dst u) h1) →
      opD call x.2.1 eS h1 = r := by
    intro r hr
    unfold opD
    rw [wanted_same hsame]
    rcases hr with ⟨q1, rfl⟩ | ⟨q1, u, q2, rfl⟩
    · rw [q1]
    · rw [q1]
      simp only
      cases hi : x.2.1.ins with
      | dfr p q => rw [hi] at hd; cases hd
      | _ => simp only []; rw [← hi, step_same hsame.ins, q2]
  rcases hv.val with ⟨q1, q2⟩ | ⟨q1, q2, q3⟩ | ⟨q1, q2, ob, f, q3, q4, q5, q6, q7⟩
  · refine op_ok cok inv.rel inv.env ho hok (fun _ => hd) ?_
    rw [hopD _ (.inl ⟨q1, rfl⟩)]
    subst q2
    exact fun K' m' w' a' r1 r2 r3 => hcont K' m' w' a' r1 r2 r3
  · refine op_ok cok inv.rel inv.env ho hok (fun _ => hd) ?_
    rw [hopD _ (.inr ⟨q1, v, q3, rfl⟩)]
    exact fun K' m' w' a' r1 r2 r3 => hcont K' m' w' a' r1 r2 r3
  · -- a block is laid
    have hins : okIns P o.op x.2.1.ins = true := by simp only [okOp, Bool.and_eq_true] at hok; exact hok.2
    obtain ⟨obj, L, X, hrun, hL, hobj⟩ := new_ok (w := w) inv.env hins (by rw [newOf_same hsame.ins]; exact q3)
    obtain ⟨hX, hO⟩ := hobj (B x.1) (m.put (B x.1) L) (Mm.put_le m q6) (Mm.put_self _ _ _)
    unfold Go.wpOpIn
    rw [ho]
    simp only
    rw [wanted_ok inv.env hok (by rw [wanted_same hsame]; exact q1)]
    simp only [if_true]
    refine ⟨fun _ _ => trivial, ?_⟩
    have hsem : o.semAt ro a.eval = execOp a.eval o := by
      refine Oper.semAt_eq ro a.eval o fun c hc => ?_
      rw [hc] at hins
      cases hdi : x.2.1.ins <;> rw [hdi] at hins hd <;> first | (simp [okIns] at hins; done) | cases hd
    show Oper.uponIn _ _ _ _ _ _ _ ((o.semAt ro a.eval).run P w)
    rw [hsem, hrun]
    show next (a.put o.dst X) (w.alloc obj)
    rw [hdst]
    have hm := Mm.put_le m (L := L) q6
    refine hn _ K _ _ _ (inv.listed okd hx ho hb hv.slot (inv.rel.adopt q5 q6 hL hO) ((inv.env.mono (.refl _) hm).put (by rw [q4]; exact hX) hlt) (inv.ext.adopt q6 q7 hL) ?_)
    intro y hy hyx hsy hky hwy hmy
    have : B y.1 ≠ B x.1 := fun hh => hyx (inv.inj y hy x hx hsy hs hky q2 hwy q1 hh)
    simp only [Mm.put, if_neg this]
    exact hmy
end
end Go.D
