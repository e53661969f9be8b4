/-
  The abstract evaluator 'D': regions that draw their order: the steps.
-/
import Derived.Test.YtgdenjkiblpnpaaGreatED
namespace Go.D
section
variable {P : Program} {call : Caller} {n : Nat} {ops : Array Oper} {all : List El} {K0 : Km} {m0 : Mm} {h0 : Heap} {w0 : World} {Q : Exit → Act → World → Prop}
  {ls : Array Bool} {l1 l2 : List El} {eS e1 : Env} {h1 : Heap} {K : Km} {m : Mm} {a : Act} {w : World} {B : Nat → Nat}

theorem Okd.before (okd : Okd P n ops all) {l1 l2 : List El} (hs : all = l1 ++ l2) {x y : El} (hx : x ∈ l1) (hy : y ∈ l2) : PairOk ops x y := by
  obtain ⟨p, q, rfl⟩ := List.append_of_mem hx
  exact okd.pair p x (q ++ l2) (by rw [hs]; simp) y (by simp [hy])

/-- a float is taken into the part that lies behind -/
theorem Inv.float (okd : Okd P n ops all) {x : El} (inv : Inv P call n ops all K0 m0 h0 w0 Q ls l1 (x :: l2) eS e1 h1 K m a w B) (hx : isWr (kindEl ops x) = false) :
    ∃ e2 h2 B', Inv P call n ops all K0 m0 h0 w0 Q ls (l1 ++ [x]) l2 eS e2 h2 K m a w B' := by
  have hsp := inv.split
  have hxall : x ∈ all := by rw [hsp]; simp
  obtain ⟨o, ho, hok, hself⟩ := okd.elem x hxall
  have hself' : hasDst x.2.1 x.2.1.slots = false := hself.resolve_left (by rw [hx]; simp)
  have hout := inv.out
  obtain ⟨xi, xd, xre⟩ := x
  simp only [drawnD] at hout
  have hne : opD call xd e1 h1 ≠ .err := fun hh => by rw [hh] at hout; exact hout
  obtain ⟨v, h2, hopd, hcase⟩ := float_op (x := (xi, xd, xre)) ho hx (rfl : opD call xd e1 h1 = _) hne
  rw [hopd] at hout
  simp only at hout
  cases hall : xre.all (fun i => againAt call all i (e1.putO xd.dst v) h2) with
  | false => rw [hall] at hout; exact hout.elim
  | true =>
    rw [hall, cond_true] at hout
    have hfl : ∀ y ∈ l1, on ls y.1 = false → isWr (kindEl ops y) = false := fun y hy hs => by
      cases hw : isWr (kindEl ops y) with
      | false => rfl
      | true => rw [inv.wr y hy hw] at hs; cases hs
    have hpair : ∀ y ∈ l1, PairOk ops y (xi, xd, xre) := fun y hy => okd.before hsp hy (by simp)
    have hkeepS : ∀ y ∈ l1, on ls y.1 = false → Same y.2.1.slots (e1.putO xd.dst v) e1 := fun y hy hs t ht => by
      rw [Env.get_putO, if_neg]
      exact hasDst_false ((hpair y hy).fl (hfl y hy hs) hx).2 ht
    have hkeepD : ∀ y ∈ l1, on ls y.1 = false → ∀ t, y.2.1.dst = some t → (e1.putO xd.dst v).get t = e1.get t := fun y hy hs t ht => by
      rw [Env.get_putO, if_neg]
      exact sameDst_false ((hpair y hy).fl (hfl y hy hs) hx).1 ht
    have hmore : More h1 h2 := by
      rcases hcase with ⟨_, _, rfl⟩ | ⟨_, _, ⟨_, rfl⟩ | ⟨_, ob, f, _, _, rfl⟩⟩
      · exact fun _ _ hh => hh
      · exact fun _ _ hh => hh
      · intro b o hb
        rw [Heap.get_new, if_neg]
        · exact hb
        · intro hh
          rw [hh, inv.rel.fresh _ (Nat.le_refl _)] at hb; cases hb
    have hrel : Rel P K m h2 w ∧ Ext K0 m0 h0 w0 K m h2 w ∧ h1.next ≤ h2.next := by
      rcases hcase with ⟨_, _, rfl⟩ | ⟨_, _, ⟨_, rfl⟩ | ⟨_, ob, f, _, _, rfl⟩⟩
      · exact ⟨inv.rel, inv.ext, Nat.le_refl _⟩
      · exact ⟨inv.rel, inv.ext, Nat.le_refl _⟩
      · exact ⟨inv.rel.ghost ob, Ext.ghostB inv.rel inv.ext ob, by simp⟩
    have hxS : Same xd.slots (e1.putO xd.dst v) e1 := fun t ht => by
      rw [Env.get_putO, if_neg (hasDst_false hself' ht)]
    let B' : Nat → Nat := fun i => if i = xi then h1.next else B i
    have hBy : ∀ y ∈ l1, B' y.1 = B y.1 := fun y hy => by
      have := (hpair y hy).ne
      show (if y.1 = xi then h1.next else B y.1) = B y.1
      rw [if_neg this]
    have hBx : B' xi = h1.next := by show (if xi = xi then _ else _) = _; rw [if_pos rfl]
    refine ⟨e1.putO xd.dst v, h2, B', ?_⟩
    refine {
      size := inv.size, split := by rw [hsp]; simp, two := fun y hy => inv.two y (by simp [hy]), clo := inv.clo, rel := hrel.1, env := inv.env, ext := hrel.2.1,
      ds := by rw [inv.ds]; cases xd.dst <;> rfl, out := hout, wr := ?_, same := ?_, val := ?_, low := ?_, inj := ?_ }
    · intro y hy hw
      rcases List.mem_append.1 hy with hy | hy
      · exact inv.wr y hy hw
      · simp only [List.mem_singleton] at hy; subst hy
        rw [hx] at hw; cases hw
    · intro t ht
      have hxt : xd.dst ≠ some t := ht (xi, xd, xre) (by simp) (inv.two _ (by simp))
      rw [Env.get_putO, if_neg hxt]
      exact inv.same t fun y hy hs => ht y (by simp [hy]) hs
    · intro y hy hs
      rcases List.mem_append.1 hy with hy | hy
      · obtain ⟨u, hv⟩ := inv.val y hy hs
        exact ⟨u, by rw [hBy y hy]; exact hv.keep (hkeepS y hy hs) (hkeepD y hy hs) hmore⟩
      · simp only [List.mem_singleton] at hy; subst hy
        refine ⟨v, fun t ht => ?_, ?_⟩
        · rw [Env.get_putO, if_pos ht]
        · rcases hcase with ⟨q1, q2, q3⟩ | ⟨q1, q2, ⟨q3, q4⟩ | ⟨q3, ob, f, q4, q5, q6⟩⟩
          · exact .inl ⟨by rw [wanted_same hxS]; exact q1, q2⟩
          · refine .inr (.inl ⟨by rw [wanted_same hxS]; exact q1, q3, ?_⟩)
            rw [step_same hxS.ins]
            rw [q4] at q2 ⊢
            exact q2
          · refine .inr (.inr ⟨by rw [wanted_same hxS]; exact q1, q3, ob, f, by rw [newOf_same hxS.ins]; exact q4, by rw [hBx]; exact q5, ?_, ?_, ?_⟩)
            · rw [hBx, q6, Heap.get_new, if_pos rfl]
            · rw [hBx]; exact inv.rel.none_next
            · rw [hBx]; exact inv.ext.next
    · intro y hy hs hk hw
      rcases List.mem_append.1 hy with hy | hy
      · rw [wanted_same (hkeepS y hy hs)] at hw
        rw [hBy y hy]
        exact Nat.lt_of_lt_of_le (inv.low y hy hs hk hw) hrel.2.2
      · simp only [List.mem_singleton] at hy; subst hy
        rw [wanted_same hxS] at hw
        rcases hcase with ⟨q1, _⟩ | ⟨_, _, ⟨q3, _⟩ | ⟨_, ob, f, _, _, q6⟩⟩
        · rw [q1] at hw; cases hw
        · rcases q3 with q3 | q3 <;> rw [hk] at q3 <;> cases q3
        · rw [hBx, q6]; simp
    · intro y hy z hz hsy hsz hky hkz hwy hwz hb
      rcases List.mem_append.1 hy with hy | hy <;> rcases List.mem_append.1 hz with hz | hz
      · rw [hBy y hy, hBy z hz] at hb
        rw [wanted_same (hkeepS y hy hsy)] at hwy
        rw [wanted_same (hkeepS z hz hsz)] at hwz
        exact inv.inj y hy z hz hsy hsz hky hkz hwy hwz hb
      · simp only [List.mem_singleton] at hz; subst hz
        rw [wanted_same (hkeepS y hy hsy)] at hwy
        have := inv.low y hy hsy hky hwy
        rw [hBy y hy, hBx] at hb
        omega
      · simp only [List.mem_singleton] at hy; subst hy
        rw [wanted_same (hkeepS z hz hsz)] at hwz
        have := inv.low z hz hsz hkz hwz
        rw [hBy z hz, hBx] at hb
        omega
      · simp only [List.mem_singleton] at hy hz; subst hy hz
        rfl

/-- all floats up to the next writer are taken in -/
theorem Inv.advance (okd : Okd P n ops all) : ∀ {l2 l1 : List El} {e1 : Env} {h1 : Heap} {B : Nat → Nat}, Inv P call n ops all K0 m0 h0 w0 Q ls l1 l2 eS e1 h1 K m a w B →
    ∃ l1' l2' e' h' B', Inv P call n ops all K0 m0 h0 w0 Q ls l1' l2' eS e' h' K m a w B' ∧ (l2' = [] ∨ ∃ x q, l2' = x :: q ∧ isWr (kindEl ops x) = true)
  | [], l1, e1, h1, B, inv => ⟨l1, [], e1, h1, B, inv, .inl rfl⟩
  | x :: l2, l1, e1, h1, B, inv => by
    cases hx : isWr (kindEl ops x) with
    | true => exact ⟨l1, x :: l2, e1, h1, B, inv, .inr ⟨x, l2, rfl, hx⟩⟩
    | false =>
      obtain ⟨e2, h2, B', inv'⟩ := inv.float okd hx
      exact Inv.advance okd inv'

/-- where nothing is ready, all has come up -/
theorem all_listed (okd : Okd P n ops all) (hs : ls.size = ops.size) (hr : Region.ready .any ops ls = []) : ∀ i, i < ops.size → on ls i = true := by
  intro i
  induction i using Nat.strongRecOn with
  | _ i ih =>
    intro hi
    cases hl : on ls i with
    | true => rfl
    | false =>
      exfalso
      have ho : ops[i]? = some ops[i] := by simp [hi]
      have hmem : i ∈ Region.ready .any ops ls := by
        unfold Region.ready
        rw [List.mem_filter]
        refine ⟨by simp [hi], ?_⟩
        have h1 : ls.getD i true = false := by
          have : ls.getD i true = ls.getD i false := by simp [Array.getD_eq_getD_getElem?, show i < ls.size by omega]
          rw [this]; exact hl
        rw [h1, ho]
        simp only [Bool.not_false, Option.map_some, Option.getD_some, Bool.true_and]
        rw [Array.all_eq_true']
        intro e he
        cases hb : Region.binds .any e with
        | false => rfl
        | true =>
          have hlt := okd.edge i _ ho e (by simpa using he) hb
          have := ih e.on hlt (by omega)
          simpa [on] using this
      rw [hr] at hmem; cases hmem
end
end Go.D
