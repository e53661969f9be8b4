/-
  The abstract evaluator 'D': regions that draw their order: an operation comes up.
-/
import Derived.Test.YtgdenjkiblpnpaaGreatEE
namespace Go.D
section
variable {P : Program} {call : Caller} {n : Nat} {ops : Array Oper} {all : List El} {K0 : Km} {m0 : Mm} {h0 : Heap} {w0 : World} {Q : Exit → Act → World → Prop}
  {ls : Array Bool} {l1 l2 : List El} {eS e1 : Env} {h1 : Heap} {K : Km} {m : Mm} {a : Act} {w : World} {B : Nat → Nat}

theorem on_set {ls : Array Bool} {i j : Nat} (hi : i < ls.size) : on (ls.setIfInBounds i true) j = if j = i then true else on ls j := by
  unfold on
  simp only [Array.getD_eq_getD_getElem?]
  by_cases h : j = i
  · subst h; simp [hi]
  · rw [if_neg h, Array.getElem?_setIfInBounds_ne (Ne.symm h)]

/-- all that must come ahead of what is ready has come up -/
theorem ready_bef (okd : Okd P n ops all) (clo : ∀ i j, i < ops.size → on ls i = true → ((Region.before ops).getD i 0).testBit j = true → on ls j = true) {i : Nat} {o : Oper} (ho : ops[i]? = some o)
    (hr : i ∈ Region.ready .any ops ls) : on ls i = false ∧ ∀ j, ((Region.before ops).getD i 0).testBit j = true → on ls j = true := by
  obtain ⟨h0, o', ho', hall⟩ := mem_ready.1 hr
  rw [ho] at ho'; cases ho'
  refine ⟨?_, fun j hj => ?_⟩
  · unfold on
    rw [Array.getD_eq_getD_getElem?] at h0 ⊢
    cases hl : ls[i]? with
    | none => rfl
    | some b => rw [hl] at h0; exact h0
  · obtain ⟨e, he, hb, hh⟩ := okd.bef i o ho j hj
    have hon := hall e (by simpa using he) hb
    rcases hh with rfl | hh
    · exact hon
    · have hlt : e.on < ops.size := by
        have := okd.edge i o ho e he hb
        have := (Array.getElem?_eq_some_iff.1 ho).1
        omega
      exact clo e.on j hlt hon hh

theorem same_of (okd : Okd P n ops all) (inv : Inv P call n ops all K0 m0 h0 w0 Q ls l1 l2 eS e1 h1 K m a w B) {x : El} (hx : x ∈ l1) (hs : on ls x.1 = false)
    (hb : ∀ j, ((Region.before ops).getD x.1 0).testBit j = true → on ls j = true) : Same x.2.1.slots eS e1 := by
  intro t ht
  refine inv.same t fun y hy hys => ?_
  have hfl : ∀ y ∈ l1, on ls y.1 = false → isWr (kindEl ops y) = false := fun y hy hs => by
    cases hw : isWr (kindEl ops y) with
    | false => rfl
    | true => rw [inv.wr y hy hw] at hs; cases hs
  obtain ⟨p, q, rfl⟩ := List.append_of_mem hx
  have hsp := inv.split
  rcases List.mem_append.1 hy with hy' | hy'
  · have hp := okd.before (l1 := p) (l2 := x :: q ++ l2) (by rw [hsp]; simp) hy' (y := x) (by simp)
    refine hasDst_false (l := x.2.1.slots) ?_ ht
    cases hd : hasDst y.2.1 x.2.1.slots with
    | false => rfl
    | true => rw [hb _ (hp.use (hfl y hy hys) hd)] at hys; cases hys
  · rcases List.mem_cons.1 hy' with rfl | hy'
    · obtain ⟨o, ho, hok, hself⟩ := okd.elem y (by rw [hsp]; simp)
      exact hasDst_false (hself.resolve_left (by rw [hfl y hy hys]; simp)) ht
    · have hp := okd.before (l1 := p ++ [x]) (l2 := q ++ l2) (by rw [hsp]; simp) (x := x) (by simp) (y := y) (by simp [hy'])
      exact hasDst_false (hp.fl (hfl x hx hs) (hfl y hy hys)).2 ht
end
end Go.D
