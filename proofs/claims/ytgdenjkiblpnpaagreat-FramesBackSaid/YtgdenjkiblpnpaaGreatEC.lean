/-
  The abstract evaluator 'D': regions that draw their order: what the checker has seen.
-/
import Derived.Test.YtgdenjkiblpnpaaGreatEB
namespace Go.D
abbrev El := Nat × DOp × List Nat
section
variable {P : Program} {K : Km} {m : Mm} {h h' : Heap} {w : World} {v : AV} {n : Nat} {e e' : Env} {a : Act} {o : Oper} {call : Caller}

theorem memN_iff {x : Nat} : ∀ {l : List Nat}, memN x l = true ↔ x ∈ l
  | [] => by simp [memN]
  | y :: l => by simp [memN, memN_iff (l := l), nbeq]

theorem cover_spec {l : List El} : ∀ {k : Nat}, coverOk l k = true → ∀ i, i < k → ∃ x ∈ l, x.1 = i
  | 0, _, i, hi => by omega
  | k + 1, hc, i, hi => by
    simp only [coverOk, Bool.and_eq_true] at hc
    by_cases e : i = k
    · subst e
      have := memN_iff.1 hc.1
      obtain ⟨x, hx, h2⟩ := List.mem_map.1 this
      exact ⟨x, hx, h2⟩
    · exact cover_spec hc.2 i (by omega)

theorem elems_spec {ops : Array Oper} : ∀ {l : List El}, elemsOk P n ops l = true → ∀ x ∈ l, ∃ o, ops[x.1]? = some o ∧ okOp P n ops o x.2.1 = true ∧
    (isWr (kindOf o.op x.2.1.ins) = true ∨ hasDst x.2.1 x.2.1.slots = false)
  | [], _, x, hx => by cases hx
  | (i, d, re) :: l, ho, x, hx => by
    simp only [elemsOk, Bool.and_eq_true] at ho
    rcases List.mem_cons.1 hx with rfl | hx
    · have h1 := ho.1
      split at h1
      · rename_i o ho2
        simp only [Bool.and_eq_true, Bool.or_eq_true, Bool.not_eq_true'] at h1
        exact ⟨o, ho2, h1.1, h1.2⟩
      · cases h1
    · exact elems_spec ho.2 x hx

theorem pairs_spec {ops : Array Oper} {bef : Array Nat} : ∀ {l1 : List El} {x : El} {l2 : List El}, pairsOk ops bef (l1 ++ x :: l2) = true → ∀ y ∈ l2, pairOk ops bef x y = true
  | [], x, l2, ho, y, hy => by
    simp only [List.nil_append, pairsOk, Bool.and_eq_true] at ho
    exact List.all_eq_true.1 ho.1 y hy
  | z :: l1, x, l2, ho, y, hy => by
    simp only [List.cons_append, pairsOk, Bool.and_eq_true] at ho
    exact pairs_spec ho.2 y hy

theorem befOf_bit {bef : Array Nat} {l : List Edge} {j : Nat} (hj : (l.foldr (fun e s => if Region.binds .any e then s ||| 2 ^ e.on ||| bef.getD e.on 0 else s) 0).testBit j = true) :
    ∃ e ∈ l, Region.binds .any e = true ∧ (j = e.on ∨ (bef.getD e.on 0).testBit j = true) := by
  induction l with
  | nil => simp at hj
  | cons e l ih =>
    rw [List.foldr_cons] at hj
    split at hj
    · rename_i hb
      rw [Nat.testBit_or, Nat.testBit_or, Bool.or_eq_true, Bool.or_eq_true] at hj
      rcases hj with (h1 | h1) | h1
      · obtain ⟨e2, q1, q2⟩ := ih h1
        exact ⟨e2, by simp [q1], q2⟩
      · rw [Nat.testBit_two_pow] at h1
        exact ⟨e, by simp, hb, .inl (by simpa using (Eq.symm (by simpa using h1 : e.on = j)))⟩
      · exact ⟨e, by simp, hb, .inr h1⟩
    · obtain ⟨e2, q1, q2⟩ := ih hj
      exact ⟨e2, by simp [q1], q2⟩

theorem bef_spec {bef : Array Nat} : ∀ {l : List Oper} {k : Nat}, befOk bef k l = true → ∀ (i : Nat) (o : Oper), l[i]? = some o →
    (∀ e ∈ o.after.toList, Region.binds .any e = true → e.on < k + i) ∧
    ∀ j, (bef.getD (k + i) 0).testBit j = true → ∃ e ∈ o.after.toList, Region.binds .any e = true ∧ (j = e.on ∨ (bef.getD e.on 0).testBit j = true)
  | [], k, _, i, o, hi => by simp at hi
  | p :: l, k, ho, i, o, hi => by
    simp only [befOk, Bool.and_eq_true] at ho
    obtain ⟨⟨h1, h2⟩, h3⟩ := ho
    cases i with
    | zero =>
      simp at hi; subst hi
      refine ⟨fun e he hb => ?_, fun j hj => ?_⟩
      · have := List.all_eq_true.1 h2 e he
        simp only [hb, Bool.not_true, Bool.false_or, nblt, decide_eq_true_eq] at this
        simpa using this
      · rw [nbeq, decide_eq_true_eq] at h1
        rw [Nat.add_zero, h1] at hj
        exact befOf_bit hj
    | succ i =>
      have := bef_spec h3 i o (by simpa using hi)
      rw [show k + 1 + i = k + (i + 1) from by omega] at this
      exact this
end
end Go.D
