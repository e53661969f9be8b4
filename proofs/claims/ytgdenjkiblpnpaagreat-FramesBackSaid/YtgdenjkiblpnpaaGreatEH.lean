/-
  The abstract evaluator 'D': regions that draw their order: a writer comes up.
-/
import Derived.Test.YtgdenjkiblpnpaaGreatEG
namespace Go.D

mutual
theorem AV.beq_eq : ∀ (a b : AV), AV.beq a b = true → a = b
  | .bool a, .bool b, h => by simp only [AV.beq, beq_iff_eq] at h; rw [h]
  | .int k a, .int k' b, h => by
    simp only [AV.beq, Bool.and_eq_true, decide_eq_true_eq] at h
    rw [kindEq_eq h.1, h.2]
  | .str a, .str b, h => by simp only [AV.beq] at h; rw [natsEq_eq h]
  | .nilp, .nilp, _ => rfl
  | .nils, .nils, _ => rfl
  | .emps, .emps, _ => rfl
  | .nilm, .nilm, _ => rfl
  | .nilf, .nilf, _ => rfl
  | .nili, .nili, _ => rfl
  | .ptr b i o, .ptr b' i' o', h => by
    simp only [AV.beq, Bool.and_eq_true, nbeq, decide_eq_true_eq] at h
    obtain ⟨⟨rfl, rfl⟩, rfl⟩ := h; rfl
  | .iptr c o, .iptr c' o', h => by
    simp only [AV.beq, Bool.and_eq_true, nbeq, decide_eq_true_eq] at h
    obtain ⟨rfl, h2⟩ := h
    rw [AV.beqs_eq c c' h2]
  | .slice z b i l c, .slice z' b' i' l' c', h => by
    simp only [AV.beq, Bool.and_eq_true, nbeq, decide_eq_true_eq, beq_iff_eq] at h
    obtain ⟨⟨⟨⟨rfl, rfl⟩, rfl⟩, rfl⟩, rfl⟩ := h; rfl
  | .isl z es, .isl z' es', h => by
    simp only [AV.beq, Bool.and_eq_true, nbeq, decide_eq_true_eq] at h
    obtain ⟨rfl, h2⟩ := h
    rw [AV.beqss_eq es es' h2]
  | .map b, .map b', h => by
    simp only [AV.beq, nbeq, decide_eq_true_eq] at h
    rw [h]
  | .fn f a b, .fn f' a' b', h => by
    simp only [AV.beq, Bool.and_eq_true, nbeq, decide_eq_true_eq] at h
    obtain ⟨⟨rfl, h2⟩, h3⟩ := h
    rw [AV.beqs_eq a a' h2, AV.beqs_eq b b' h3]
  | .yld l, .yld l', h => by
    simp only [AV.beq, nbeq, decide_eq_true_eq] at h
    rw [h]
  | .iface t v, .iface t' v', h => by
    simp only [AV.beq, Bool.and_eq_true, nbeq, decide_eq_true_eq] at h
    obtain ⟨rfl, h2⟩ := h
    rw [AV.beq_eq v v' h2]
  | .agg a, .agg b, h => by simp only [AV.beq] at h; rw [AV.beqs_eq a b h]
  | .tup a, .tup b, h => by simp only [AV.beq] at h; rw [AV.beqs_eq a b h]
theorem AV.beqs_eq : ∀ (a b : List AV), AV.beqs a b = true → a = b
  | [], [], _ => rfl
  | a :: x, b :: y, h => by
    simp only [AV.beqs, Bool.and_eq_true] at h
    rw [AV.beq_eq a b h.1, AV.beqs_eq x y h.2]
theorem AV.beqss_eq : ∀ (a b : List (List AV)), AV.beqss a b = true → a = b
  | [], [], _ => rfl
  | a :: x, b :: y, h => by
    simp only [AV.beqss, Bool.and_eq_true] at h
    rw [AV.beqs_eq a b h.1, AV.beqss_eq x y h.2]
end

section
variable {P : Program} {call : Caller} {n : Nat} {ops : Array Oper} {all : List El} {K0 : Km} {m0 : Mm} {h0 : Heap} {w0 : World} {Q : Exit → Act → World → Prop}
  {ls : Array Bool} {l1 l2 : List El} {eS e1 : Env} {h1 : Heap} {K : Km} {m : Mm} {a : Act} {w : World} {B : Nat → Nat}

/-- what an operation does, told apart from the slots -/
inductive OpR where
  | err
  | go (v : AV) (ds : List Dfr) (h : Heap)
  | panic (v : AV) (h : Heap)

def opR (call : Caller) (o : DOp) (e : Env) (h : Heap) : OpR :=
  match wanted e o.grd with
  | none => .err
  | some false => .go (.tup []) e.ds h
  | some true => match o.ins with
    | .dfr x args => match x.ev e with
      | .fn f a b => .go (.tup []) (.fn f (a ++ args.map (DO.ev e) ++ b) :: e.ds) h
      | _ => .err
    | i => match step call e h i with
      | .ok v h => .go v e.ds h
      | .panic v h => .panic v h
      | .err => .err

def OpR.out (d : DOp) (e : Env) : OpR → Out
  | .err => .err
  | .go v ds h => .go .norm (({ e with ds := ds } : Env).putO d.dst v) h
  | .panic v h => .panic v e h

theorem opD_eq {d : DOp} {e : Env} {h : Heap} : opD call d e h = (opR call d e h).out d e := by
  unfold opD opR
  cases wanted e d.grd with
  | none => rfl
  | some b => cases b with
    | false => rfl
    | true =>
      simp only
      cases hi : d.ins with
      | dfr x args =>
        simp only
        cases x.ev e <;> rfl
      | _ =>
        simp only
        generalize step call e h _ = r
        cases r <;> rfl

theorem opR_same {d : DOp} {e e' : Env} {h : Heap} (hs : Same d.slots e e') (hd : e.ds = e'.ds) : opR call d e h = opR call d e' h := by
  unfold opR
  rw [wanted_same hs, hd]
  cases wanted e' d.grd with
  | none => rfl
  | some b => cases b with
    | false => rfl
    | true =>
      have hi := hs.ins
      simp only
      cases hdi : d.ins with
      | dfr x args =>
        rw [hdi] at hi
        have hi' : Same (x.slots ++ slotsL args) e e' := hi
        simp only
        rw [DO.ev_same hi'.left, evs_same hi'.right]
      | _ =>
        rw [hdi] at hi
        simp only
        rw [step_same hi]

theorem forget_ds : ∀ (l : List El) (e : Env), (forget l e).ds = e.ds
  | [], e => rfl
  | o :: l, e => by
    simp only [forget]
    rw [forget_ds l]
    cases o.2.1.dst <;> rfl

theorem forget_get : ∀ (l : List El) (e : Env) (t : Nat), (forget l e).get t = .bot ∨ ((forget l e).get t = e.get t ∧ ∀ x ∈ l, x.2.1.dst ≠ some t)
  | [], e, t => .inr ⟨rfl, fun _ h => by cases h⟩
  | o :: l, e, t => by
    simp only [forget]
    rcases forget_get l (e.putO o.2.1.dst .bot) t with h | ⟨h1, h2⟩
    · exact .inl h
    · rw [Env.get_putO] at h1
      by_cases hd : o.2.1.dst = some t
      · rw [if_pos hd] at h1; exact .inl h1
      · rw [if_neg hd] at h1
        refine .inr ⟨h1, fun x hx => ?_⟩
        rcases List.mem_cons.1 hx with rfl | hx
        · exact hd
        · exact h2 x hx

theorem findEl_mem {x : El} : ∀ {l1 l2 : List El}, (∀ y ∈ l1, y.1 ≠ x.1) → findEl (l1 ++ x :: l2) x.1 = some x.2.1
  | [], l2, _ => by
    obtain ⟨i, d, re⟩ := x
    simp [findEl]
  | y :: l1, l2, h => by
    obtain ⟨i, d, re⟩ := y
    have h1 : i ≠ x.1 := h (i, d, re) (by simp)
    simp only [List.cons_append, findEl]
    rw [nbeq, decide_eq_false h1, cond_false]
    exact findEl_mem fun z hz => h z (by simp [hz])

theorem Okd.find (okd : Okd P n ops all) {x : El} (hx : x ∈ all) : findEl all x.1 = some x.2.1 := by
  obtain ⟨p, q, rfl⟩ := List.append_of_mem hx
  exact findEl_mem fun y hy => (okd.before (l1 := p) (l2 := x :: q) rfl hy (by simp)).ne

/-- a writer comes up -/
theorem Inv.write {ro : Option Nat} (cok : CallOk P call) (okd : Okd P n ops all) {y : El} (inv : Inv P call n ops all K0 m0 h0 w0 Q ls l1 (y :: l2) eS e1 h1 K m a w B)
    (hr : y.1 ∈ Region.ready .any ops ls) (hro : ro ≠ none → y.2.1.ins.isDfr = false) (hyw : isWr (kindEl ops y) = true) {next : Act → World → Prop}
    (hn : ∀ eS' e2 h2 K' m' a' w', Inv P call n ops all K0 m0 h0 w0 Q (ls.setIfInBounds y.1 true) (l1 ++ [y]) l2 eS' e2 h2 K' m' a' w' B → next a' w') : wpOpIn (Wide ro) 0 P ops Q y.1 next a w := by
  have hsp := inv.split
  have hyall : y ∈ all := by rw [hsp]; simp
  obtain ⟨o, ho, hok, _⟩ := okd.elem y hyall
  obtain ⟨_, hb⟩ := ready_bef okd inv.clo ho hr
  have hlt : y.1 < ls.size := by rw [inv.size]; exact (Array.getElem?_eq_some_iff.1 ho).1
  have hfl : ∀ x ∈ l1, on ls x.1 = false → isWr (kindEl ops x) = false := fun x hx hs => by
    cases hw : isWr (kindEl ops x) with
    | false => rfl
    | true => rw [inv.wr x hx hw] at hs; cases hs
  have hpair : ∀ x ∈ l1, PairOk ops x y := fun x hx => okd.before hsp hx (by simp)
  have hnb : ∀ x ∈ l1, on ls x.1 = false → ¬ ((Region.before ops).getD y.1 0).testBit x.1 = true := fun x _ hs hh => by
    rw [hb _ hh] at hs; cases hs
  have hsame : Same y.2.1.slots eS e1 := fun t ht => inv.same t fun x hx hs => by
    refine hasDst_false (l := y.2.1.slots) ?_ ht
    cases hd : hasDst x.2.1 y.2.1.slots with
    | false => rfl
    | true => exact absurd ((hpair x hx).use (hfl x hx hs) hd) (hnb x hx hs)
  have hout := inv.out
  obtain ⟨yi, yd, yre⟩ := y
  simp only [drawnD] at hout
  refine op_ok cok inv.rel inv.env ho hok hro ?_
  rw [opD_eq] at hout
  rw [opD_eq, opR_same hsame inv.ds]
  simp only at hout hlt hb hnb hsame hok hro ⊢
  cases hR : opR call yd e1 h1 with
  | err => rw [hR] at hout; exact hout
  | panic v h2 =>
    rw [hR] at hout
    simp only [OpR.out] at hout ⊢
    intro K' m' w' a' x q1 q2 q3 q4
    refine hout K' m' w' a' x q1 ⟨fun t => ?_, q2.size, ?_⟩ q3 (inv.ext.trans q4)
    · rcases forget_get all e1 t with hf | ⟨hf, hf2⟩
      · rw [hf]; exact .bot
      · rw [hf, ← inv.same t fun x hx _ => hf2 x (by rw [hsp]; simp [hx])]
        exact q2.get t
    · rw [forget_ds, ← inv.ds]; exact q2.ds
  | go v ds h2 =>
    rw [hR] at hout
    simp only [OpR.out] at hout ⊢
    cases hall : yre.all (fun i => againAt call all i (({ e1 with ds := ds } : Env).putO yd.dst v) h2) with
    | false => rw [hall] at hout; exact hout.elim
    | true =>
      rw [hall, cond_true] at hout
      intro K' m' w' a' q1 q2 q3
      have hge : ∀ (e : Env) t, (({ e with ds := ds } : Env).putO yd.dst v).get t = if yd.dst = some t then v else e.get t := fun e t => by
        rw [Env.get_putO]; rfl
      have hoff : ∀ x ∈ l1 ++ [(yi, yd, yre)], on (ls.setIfInBounds yi true) x.1 = false → x ∈ l1 ∧ on ls x.1 = false ∧ x.1 ≠ yi := fun x hx hs => by
        rw [on_set hlt] at hs
        by_cases h : x.1 = yi
        · rw [if_pos h] at hs; cases hs
        · rw [if_neg h] at hs
          refine ⟨?_, hs, h⟩
          rcases List.mem_append.1 hx with hx | hx
          · exact hx
          · simp only [List.mem_singleton] at hx; subst hx; exact absurd rfl h
      have hkS : ∀ x ∈ l1, on ls x.1 = false → Same x.2.1.slots (({ e1 with ds := ds } : Env).putO yd.dst v) e1 := fun x hx hs t ht => by
        rw [hge, if_neg]
        refine hasDst_false (d := yd) ?_ ht
        cases hd : hasDst yd x.2.1.slots with
        | false => rfl
        | true => exact absurd ((hpair x hx).over (hfl x hx hs) hd) (hnb x hx hs)
      have hkD : ∀ x ∈ l1, on ls x.1 = false → ∀ t, x.2.1.dst = some t → (({ e1 with ds := ds } : Env).putO yd.dst v).get t = e1.get t := fun x hx hs t ht => by
        rw [hge, if_neg]
        refine sameDst_false (a := x.2.1) ?_ ht
        cases hd : sameDst x.2.1 yd with
        | false => rfl
        | true => exact absurd ((hpair x hx).dst (hfl x hx hs) hd) (hnb x hx hs)
      refine hn _ (({ e1 with ds := ds } : Env).putO yd.dst v) h2 K' m' a' w' {
        size := by simpa using inv.size, split := by rw [hsp]; simp, rel := q1, env := q2, ext := inv.ext.trans q3, out := hout,
        ds := by cases yd.dst <;> rfl, two := ?_, wr := ?_, clo := ?_, same := ?_, val := ?_, low := ?_, inj := ?_ }
      · intro x hx
        have hne := (okd.before (l1 := l1 ++ [(yi, yd, yre)]) (l2 := l2) (by rw [hsp]; simp) (x := (yi, yd, yre)) (by simp) hx).ne
        rw [on_set hlt, if_neg (Ne.symm hne)]
        exact inv.two x (by simp [hx])
      · intro x hx hw
        rw [on_set hlt]
        split
        · rfl
        · rename_i h
          rcases List.mem_append.1 hx with hx | hx
          · exact inv.wr x hx hw
          · simp only [List.mem_singleton] at hx; subst hx; exact absurd rfl h
      · intro i j hi hon hbit
        rw [on_set hlt] at hon ⊢
        split
        · rfl
        · split at hon
          · rename_i h; subst h; exact hb j hbit
          · exact inv.clo i j hi hon hbit
      · intro t ht
        rw [hge, hge]
        split
        · rfl
        · refine inv.same t fun x hx hs => ht x (by simp [hx]) ?_
          rw [on_set hlt, if_neg (hpair x hx).ne]
          exact hs
      · intro x hx hs
        obtain ⟨hx, hs, hne⟩ := hoff x hx hs
        obtain ⟨u, hu⟩ := inv.val x hx hs
        have hlow := inv.low x hx hs
        refine ⟨u, fun t ht => by rw [hkD x hx hs t ht]; exact hu.slot t ht, ?_⟩
        rcases hu.val with ⟨r1, r2⟩ | ⟨r1, r2, r3⟩ | ⟨r1, r2, ob, f, r3, r4, r5, r6, r7⟩
        · exact .inl ⟨by rw [wanted_same (hkS x hx hs)]; exact r1, r2⟩
        · refine .inr (.inl ⟨by rw [wanted_same (hkS x hx hs)]; exact r1, r2, ?_⟩)
          rcases r2 with r2 | r2
          · rw [step_same (hkS x hx hs).ins]
            exact (pure_step r2 r3).2 h2
          · rcases (hpair x hx).rd r2 hyw with hh | hh
            · exact absurd hh (hnb x hx hs)
            · have hag := List.all_eq_true.1 hall _ hh
              unfold againAt at hag
              rw [okd.find (by rw [hsp]; simp [hx])] at hag
              simp only at hag
              unfold again at hag
              rw [wanted_same (hkS x hx hs), r1] at hag
              split at hag
              · rename_i d _ hd
                split at hag
                · rename_i u2 hh2 hst
                  have := AV.beq_eq _ _ hag
                  rw [hkD x hx hs d hd, hu.slot d hd] at this
                  subst this
                  have := (rd_step r2 hst).1
                  rw [hst, this]
                · cases hag
              · rename_i heq _
                cases heq
              · cases hag
        · have hgh := q3.ghost _ (hlow r2 r1) r6
          exact .inr (.inr ⟨by rw [wanted_same (hkS x hx hs)]; exact r1, r2, ob, f, by rw [newOf_same (hkS x hx hs).ins]; exact r3, r4, by rw [hgh.2]; exact r5, hgh.1, r7⟩)
      · intro x hx hs hk hw
        obtain ⟨hx, hs, hne⟩ := hoff x hx hs
        rw [wanted_same (hkS x hx hs)] at hw
        exact Nat.lt_of_lt_of_le (inv.low x hx hs hk hw) q3.next
      · intro x hx z hz hsx hsz hkx hkz hwx hwz hB
        obtain ⟨hx, hsx, _⟩ := hoff x hx hsx
        obtain ⟨hz, hsz, _⟩ := hoff z hz hsz
        rw [wanted_same (hkS x hx hsx)] at hwx
        rw [wanted_same (hkS z hz hsz)] at hwz
        exact inv.inj x hx z hz hsx hsz hkx hkz hwx hwz hB
end
end Go.D
