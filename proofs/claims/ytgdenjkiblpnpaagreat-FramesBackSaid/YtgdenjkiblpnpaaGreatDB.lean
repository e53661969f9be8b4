/-
  The abstract evaluator 'D': finite maps and rows of elements.
-/
import Derived.Test.YtgdenjkiblpnpaaGreatDA
namespace Go.D

theorem nbeq (a b : Nat) : Nat.beq a b = decide (a = b) := by rw [Bool.eq_iff_iff, Nat.beq_eq, decide_eq_true_iff]
theorem nble (a b : Nat) : Nat.ble a b = decide (a ≤ b) := by rw [Bool.eq_iff_iff, Nat.ble_eq, decide_eq_true_iff]
theorem nblt (a b : Nat) : Nat.blt a b = decide (a < b) := by rw [Bool.eq_iff_iff, Nat.blt_eq, decide_eq_true_iff]

namespace Tr
variable {α : Type}
theorem get?_lf (k : Nat) : (Tr.lf : Tr α).get? k = none := by unfold get?; rfl
theorem get?_nd_zero (v : Option α) (l r : Tr α) : (Tr.nd v l r).get? 0 = v := rfl
theorem get?_nd_succ (v : Option α) (l r : Tr α) (k : Nat) :
    (Tr.nd v l r).get? (k + 1) = if k % 2 = 0 then l.get? (k / 2) else r.get? (k / 2) := by
  show (bif Nat.beq (k % 2) 0 then l.get? (k / 2) else r.get? (k / 2)) = _
  by_cases h : k % 2 = 0 <;> simp [h, nbeq]

theorem get?_putF (f : Nat) : ∀ (k j : Nat) (x : Option α) (t : Tr α), k < f → (putF f k x t).get? j = if j = k then x else t.get? j := by
  induction f with
  | zero => intro k j x t h; omega
  | succ f ih =>
    intro k j x t h
    cases t with
    | lf =>
      cases k with
      | zero =>
        cases j with
        | zero => simp [putF, get?_nd_zero]
        | succ j => simp [putF, get?_nd_succ, get?_lf]
      | succ k =>
        have hk : k / 2 < f := by omega
        by_cases hp : k % 2 = 0
        · simp only [putF, hp, cond_true, show Nat.beq 0 0 = true from rfl]
          cases j with
          | zero => simp [get?_nd_zero, get?_lf]
          | succ j =>
            rw [get?_nd_succ, ih _ _ _ _ hk]
            by_cases hj : j % 2 = 0
            · have : (j / 2 = k / 2) ↔ j + 1 = k + 1 := by omega
              simp [hj, this, get?_lf]
            · have : ¬ (j = k) := by intro e; subst e; exact hj hp
              simp [hj, this, get?_lf]
        · have hb : Nat.beq (k % 2) 0 = false := by simp [hp, nbeq]
          simp only [putF, hb, cond_false]
          cases j with
          | zero => simp [get?_nd_zero, get?_lf]
          | succ j =>
            rw [get?_nd_succ, ih _ _ _ _ hk]
            by_cases hj : j % 2 = 0
            · have : ¬ (j = k) := by intro e; subst e; exact hp hj
              simp [hj, this, get?_lf]
            · have : (j / 2 = k / 2) ↔ j + 1 = k + 1 := by omega
              simp [hj, this, get?_lf]
    | nd v l r =>
      cases k with
      | zero =>
        cases j with
        | zero => simp [putF, get?_nd_zero]
        | succ j => simp [putF, get?_nd_succ]
      | succ k =>
        have hk : k / 2 < f := by omega
        by_cases hp : k % 2 = 0
        · simp only [putF, hp, show Nat.beq 0 0 = true from rfl, cond_true]
          cases j with
          | zero => simp [get?_nd_zero]
          | succ j =>
            rw [get?_nd_succ, get?_nd_succ, ih _ _ _ _ hk]
            by_cases hj : j % 2 = 0
            · have : (j / 2 = k / 2) ↔ j + 1 = k + 1 := by omega
              simp [hj, this]
            · have : ¬ (j = k) := by intro e; subst e; exact hj hp
              simp [hj, this]
        · have hb : Nat.beq (k % 2) 0 = false := by simp [hp, nbeq]
          simp only [putF, hb, cond_false]
          cases j with
          | zero => simp [get?_nd_zero]
          | succ j =>
            rw [get?_nd_succ, get?_nd_succ, ih _ _ _ _ hk]
            by_cases hj : j % 2 = 0
            · have : ¬ (j = k) := by intro e; subst e; exact hp hj
              simp [hj, this]
            · have : (j / 2 = k / 2) ↔ j + 1 = k + 1 := by omega
              simp [hj, this]

theorem get?_put (k j : Nat) (x : Option α) (t : Tr α) : (t.put k x).get? j = if j = k then x else t.get? j :=
  get?_putF (k + 1) k j x t (by omega)
end Tr

namespace Heap
variable (h : Heap) (b c : Nat) (o : Ob)
theorem get_set : (h.set b o).get c = if c = b then some o else h.get c := Tr.get?_put ..
theorem get_drop : (h.drop b).get c = if c = b then none else h.get c := Tr.get?_put ..
theorem get_new : (h.new o).get c = if c = h.next then some o else h.get c := Tr.get?_put ..
@[simp] theorem next_set : (h.set b o).next = h.next := rfl
@[simp] theorem next_drop : (h.drop b).next = h.next := rfl
@[simp] theorem next_new : (h.new o).next = h.next + 1 := rfl
@[simp] theorem get_empty : Heap.empty.get c = none := Tr.get?_lf c
end Heap

theorem Env.get_put (e : Env) (t u : Nat) (v : AV) : (e.put t v).get u = if u = t then v else e.get u := by
  unfold Env.get Env.put
  simp only [Tr.get?_put]
  split <;> rfl
@[simp] theorem Env.ds_put (e : Env) (t : Nat) (v : AV) : (e.put t v).ds = e.ds := rfl
@[simp] theorem Env.ds_putO (e : Env) (t : Option Nat) (v : AV) : (e.putO t v).ds = e.ds := by cases t <;> rfl

namespace Ct
theorem lt_of_get? {c : Ct} {i : Nat} {x : List AV} (h : c.get? i = some x) : i < c.size := by
  cases c with
  | list l => exact (List.getElem?_eq_some_iff.1 h).1
  | tree n d t =>
    unfold get? at h
    cases hb : Nat.ble n i with
    | true => simp [hb] at h
    | false => simpa [size, nble] using hb

theorem get?_isSome {c : Ct} {i : Nat} (h : i < c.size) : ∃ x, c.get? i = some x := by
  cases c with
  | list l => exact ⟨l[i], List.getElem?_eq_getElem h⟩
  | tree n d t =>
    unfold get?
    have : Nat.ble n i = false := by simpa [size, nble] using h
    exact ⟨(t.get? i).getD d, by simp [this]⟩

@[simp] theorem size_set (c : Ct) (i : Nat) (x : List AV) : (c.set i x).size = c.size := by cases c <;> simp [set, size]

theorem get?_set (c : Ct) (i j : Nat) (x : List AV) (h : i < c.size) : (c.set i x).get? j = if j = i then some x else c.get? j := by
  cases c with
  | list l =>
    simp only [set, get?, List.getElem?_set]
    by_cases hj : i = j
    · subst hj
      have h' : i < l.length := h
      simp [h']
    · simp [hj, Ne.symm hj]
  | tree n d t =>
    have hn : i < n := h
    simp only [set, get?, Tr.get?_put]
    by_cases hj : j = i
    · subst hj
      have : Nat.ble n j = false := by simpa [nble] using hn
      simp [this]
    · simp [hj]

@[simp] theorem size_sets (xs : List (List AV)) : ∀ (c : Ct) (i : Nat), (c.sets i xs).size = c.size := by
  induction xs with
  | nil => intro c i; rfl
  | cons x xs ih => intro c i; simp [sets, ih]

theorem get?_sets (xs : List (List AV)) : ∀ (c : Ct) (i j : Nat), i + xs.length ≤ c.size →
    (c.sets i xs).get? j = if i ≤ j ∧ j < i + xs.length then xs[j - i]? else c.get? j := by
  induction xs with
  | nil => intro c i j _; simp [sets]; intro a b; omega
  | cons x xs ih =>
    intro c i j h
    simp only [List.length_cons] at h
    simp only [sets]
    rw [ih (c.set i x) (i + 1) j (by simp; omega), get?_set _ _ _ _ (by omega)]
    by_cases hji : j = i
    · subst hji
      have h1 : ¬ (j + 1 ≤ j ∧ j < j + 1 + xs.length) := by omega
      simp [h1]
    · by_cases hr : i + 1 ≤ j ∧ j < i + 1 + xs.length
      · have h2 : i ≤ j ∧ j < i + (x :: xs).length := by simp; omega
        rw [if_pos hr, if_pos h2]
        have : j - i = (j - (i + 1)) + 1 := by omega
        rw [this, List.getElem?_cons_succ]
      · have h2 : ¬ (i ≤ j ∧ j < i + (x :: xs).length) := by simp; omega
        rw [if_neg hr, if_neg h2, if_neg hji]

theorem subF_spec (c : Ct) : ∀ (n i : Nat) (xs : List (List AV)), c.subF i n = some xs → xs.length = n ∧ (n = 0 ∨ i + n ≤ c.size) ∧ ∀ j, j < n → xs[j]? = c.get? (i + j) := by
  intro n
  induction n with
  | zero => intro i xs h; simp [subF] at h; subst h; simp
  | succ n ih =>
    intro i xs h
    simp only [subF] at h
    cases hx : c.get? i with
    | none => simp [hx] at h
    | some x =>
      simp only [hx] at h
      cases hs : c.subF (i + 1) n with
      | none => simp [hs] at h
      | some ys =>
        simp only [hs] at h
        cases h
        obtain ⟨h1, h2, h3⟩ := ih _ _ hs
        have hlt := lt_of_get? hx
        refine ⟨by simp [h1], .inr (by omega), fun j hj => ?_⟩
        cases j with
        | zero => simp [hx]
        | succ j =>
          rw [List.getElem?_cons_succ, h3 j (by omega)]
          congr 1; omega

theorem sub_spec {c : Ct} {i n : Nat} {xs : List (List AV)} (h : c.sub i n = some xs) :
    xs.length = n ∧ (n = 0 ∨ i + n ≤ c.size) ∧ ∀ j, j < n → xs[j]? = c.get? (i + j) := by
  cases c with
  | list l =>
    simp only [sub] at h
    cases hb : Nat.ble (i + n) l.length with
    | false => simp [hb] at h
    | true =>
      simp only [hb, cond_true, Option.some.injEq] at h
      have hle : i + n ≤ l.length := Nat.le_of_ble_eq_true hb
      subst h
      refine ⟨by simp; omega, .inr hle, fun j hj => ?_⟩
      simp [get?, List.getElem?_drop, hj]
  | tree m d t => exact subF_spec _ n i xs h
end Ct

end Go.D
