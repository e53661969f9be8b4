/-
  The abstract evaluator 'D': reads and writes of rows in the model.
-/
import Derived.Test.YtgdenjkiblpnpaaGreatDE
namespace Go.D

theorem addr_add (c o n : Nat) : (⟨c, o, none⟩ : Addr).add n = ⟨c, o + n, none⟩ := by
  unfold Addr.add
  split
  · rename_i h; subst h; rfl
  · rfl

theorem cell_row {w : World} {c : Nat} {row : Array Value} {t : TypeId} {fz : Nat × Nat} (h : w.heap[c]? = some (.cells row t fz)) (o : Nat) :
    w.cell? ⟨c, o, none⟩ = row[o]? := by
  unfold World.cell?
  simp [h]

theorem frozen_row {w : World} {c : Nat} {row : Array Value} {t : TypeId} {fz : Nat × Nat} (h : w.heap[c]? = some (.cells row t fz)) (hf : fz.2 = fz.1 ∨ row.size ≤ fz.1)
    {o : Nat} (ho : o < row.size) : w.frozen? ⟨c, o, none⟩ = false := by
  unfold World.frozen?
  obtain ⟨lo, hi⟩ := fz
  simp only [h]
  simp only at hf
  simp
  intro hlo
  rcases hf with h1 | h1 <;> omega

theorem run_load_row (P : Program) {w : World} {c : Nat} {row : Array Value} {t : TypeId} {fz : Nat × Nat} (h : w.heap[c]? = some (.cells row t fz)) {o : Nat} {v : Value}
    (hv : row[o]? = some v) : (load ⟨c, o, none⟩).run P w = .ok v w := by
  rw [run_load, cell_row h, hv]

theorem run_loadCellsFrom_row (P : Program) {w : World} {c : Nat} {row : Array Value} {t : TypeId} {fz : Nat × Nat} (h : w.heap[c]? = some (.cells row t fz)) (o : Nat) :
    ∀ (vs : List Value) (i : Nat) (acc : Array Value), RowAt row (o + i) vs → (loadCellsFrom ⟨c, o, none⟩ i vs.length acc).run P w = .ok (acc ++ vs.toArray) w := by
  intro vs
  induction vs with
  | nil => intro i acc _; simp [loadCellsFrom]
  | cons v vs ih =>
    intro i acc hr
    have h0 : row[o + i]? = some v := by simpa using hr 0 v rfl
    simp only [List.length_cons, loadCellsFrom, Sem.run_bind, addr_add, run_load_row P h h0, Result.andThen_ok]
    rw [ih (i + 1) (acc.push v) fun j x hx => by
      have := hr (j + 1) x (by simpa using hx)
      rw [show o + (i + 1) + j = o + i + (j + 1) from by omega]; exact this]
    simp

theorem run_loadCells_row (P : Program) {w : World} {c : Nat} {row : Array Value} {t : TypeId} {fz : Nat × Nat} (h : w.heap[c]? = some (.cells row t fz)) {o : Nat}
    {vs : List Value} {n : Nat} (hn : n = vs.length) (hr : RowAt row o vs) : (loadCells ⟨c, o, none⟩ n).run P w = .ok vs.toArray w := by
  subst hn
  unfold loadCells
  rw [run_loadCellsFrom_row P h o vs 0 #[] (by simpa using hr)]
  simp

/-- a row with values written from a place on -/
def writeRow (row : Array Value) (o : Nat) : List Value → Array Value
  | [] => row
  | x :: xs => writeRow (row.setIfInBounds o x) (o + 1) xs

@[simp] theorem size_writeRow : ∀ (xs : List Value) (row : Array Value) (o : Nat), (writeRow row o xs).size = row.size
  | [], _, _ => rfl
  | x :: xs, row, o => by simp [writeRow, size_writeRow xs]

theorem get_writeRow : ∀ (xs : List Value) (row : Array Value) (o j : Nat), o + xs.length ≤ row.size →
    (writeRow row o xs)[j]? = if o ≤ j ∧ j < o + xs.length then xs[j - o]? else row[j]?
  | [], row, o, j, _ => by simp [writeRow]; intro a b; omega
  | x :: xs, row, o, j, h => by
    simp only [List.length_cons] at h
    simp only [writeRow]
    rw [get_writeRow xs _ _ _ (by simp; omega)]
    by_cases hj : j = o
    · subst hj
      have h1 : ¬ (j + 1 ≤ j ∧ j < j + 1 + xs.length) := by omega
      have h2 : j < row.size := by omega
      simp [h1, h2]
    · by_cases hr : o + 1 ≤ j ∧ j < o + 1 + xs.length
      · have h2 : o ≤ j ∧ j < o + (x :: xs).length := by simp; omega
        rw [if_pos hr, if_pos h2]
        have : j - o = (j - (o + 1)) + 1 := by omega
        rw [this, List.getElem?_cons_succ]
      · have h2 : ¬ (o ≤ j ∧ j < o + (x :: xs).length) := by simp; omega
        rw [if_neg hr, if_neg h2, Array.getElem?_setIfInBounds_ne (Ne.symm hj)]

/-- the world w' is w with another object at c -/
structure SetAt (w : World) (c : Nat) (o : Obj) (w' : World) : Prop where
  at_ : w'.heap[c]? = some o
  other : ∀ c', c' ≠ c → w'.heap[c']? = w.heap[c']?
  size : w'.heap.size = w.heap.size
  os : w'.os = w.os
  output : w'.output = w.output
  tape : w'.tape = w.tape

theorem SetAt.refl {w : World} {c : Nat} {o : Obj} (h : w.heap[c]? = some o) : SetAt w c o w := ⟨h, fun _ _ => rfl, rfl, rfl, rfl, rfl⟩

theorem SetAt.trans {w w' w'' : World} {c : Nat} {o o' : Obj} (h : SetAt w c o w') (h' : SetAt w' c o' w'') : SetAt w c o' w'' :=
  ⟨h'.at_, fun c' hc => (h'.other c' hc).trans (h.other c' hc), h'.size.trans h.size, h'.os.trans h.os, h'.output.trans h.output, h'.tape.trans h.tape⟩

theorem setAt_of_setIfInBounds {w : World} {c : Nat} (hc : c < w.heap.size) (o : Obj) : SetAt w c o { w with heap := w.heap.setIfInBounds c o } where
  at_ := by simp [hc]
  other := fun c' h => by simp [Array.getElem?_setIfInBounds_ne (Ne.symm h)]
  size := by simp
  os := rfl
  output := rfl
  tape := rfl

theorem lt_of_heap {w : World} {c : Nat} {o : Obj} (h : w.heap[c]? = some o) : c < w.heap.size := by
  rcases Nat.lt_or_ge c w.heap.size with hlt | hge
  · exact hlt
  · simp [Array.getElem?_eq_none hge] at h

theorem run_storeCells_row (P : Program) (c o : Nat) (t : TypeId) (fz : Nat × Nat) : ∀ (xs : List Value) (i : Nat) (w : World) (row : Array Value),
    w.heap[c]? = some (.cells row t fz) → (fz.2 = fz.1 ∨ row.size ≤ fz.1) → o + i + xs.length ≤ row.size → (∀ x ∈ xs, x.oneCell' = true) →
    ∃ w', (storeCells ⟨c, o, none⟩ xs i).run P w = .ok () w' ∧ SetAt w c (.cells (writeRow row (o + i) xs) t fz) w' := by
  intro xs
  induction xs with
  | nil => intro i w row h _ _ _; exact ⟨w, by simp [storeCells], .refl h⟩
  | cons x xs ih =>
    intro i w row h hf hle hone
    simp only [List.length_cons] at hle
    have hlt : o + i < row.size := by omega
    have hcell : w.cell? ⟨c, o + i, none⟩ = some row[o + i] := by rw [cell_row h]; simp [hlt]
    have hfr := frozen_row h hf hlt
    have hst : (store (⟨c, o + i, none⟩ : Addr) x).run P w = .ok () (w.setCell ⟨c, o + i, none⟩ x) := by
      rw [run_store P w _ x .plain (hone x (by simp)), hcell]
      simp [hfr]
    have h1 : (w.setCell ⟨c, o + i, none⟩ x).heap[c]? = some (.cells (row.setIfInBounds (o + i) x) t fz) := by
      simp [World.setCell, Array.getElem?_modify, h]
    have s1 : SetAt w c (.cells (row.setIfInBounds (o + i) x) t fz) (w.setCell ⟨c, o + i, none⟩ x) := by
      refine ⟨h1, fun c' hc => ?_, by simp, rfl, rfl, rfl⟩
      simp [World.setCell, Array.getElem?_modify, Ne.symm hc]
    obtain ⟨w', hr, s2⟩ := ih (i + 1) _ _ h1 (by simpa using hf) (by simp; omega) fun y hy => hone y (by simp [hy])
    refine ⟨w', ?_, s1.trans ?_⟩
    · simp only [storeCells, Sem.run_bind, addr_add, hst, Result.andThen_ok]
      exact hr
    · simpa [writeRow, show o + i + 1 = o + (i + 1) from by omega] using s2

section
variable {P : Program} {K : Km} {m : Mm} {h : Heap} {w : World}

/-- the cells of a live block -/
theorem Rel.row (r : Rel P K m h w) {b z : Nat} {op : Bool} {ct : Ct} (hb : h.get b = some (.cells z op ct)) {L : Loc} (hL : m b = some L) :
    ∃ row t fz, L.z = z ∧ w.heap[L.c]? = some (.cells row t fz) ∧ (fz.2 = fz.1 ∨ row.size ≤ fz.1) ∧ row.size = L.n * L.z ∧ L.sh + ct.size ≤ L.n ∧
      (op = false → L.sh + ct.size = L.n) ∧ CellsAt K m row L ct := by
  cases r.ob b _ hb L hL with
  | cells hz hw hf hn hs ho hc => exact ⟨_, _, _, hz, hw, hf, hn, hs, ho, hc⟩

theorem CellsAt.sub {row : Array Value} {L : Loc} {ct : Ct} (hc : CellsAt K m row L ct) : ∀ (n i : Nat) (es : List (List AV)), es.length = n → (∀ j, j < n → es[j]? = ct.get? (i + j)) →
    (∀ cs ∈ es, cs.length = L.z) ∧ ∃ vs, RvL K m es.flatten vs ∧ vs.length = n * L.z ∧ RowAt row ((L.sh + i) * L.z) vs := by
  intro n
  induction n with
  | zero =>
    intro i es hl _
    cases es with
    | nil => exact ⟨by simp, [], .nil, by simp, fun j v hj => by simp at hj⟩
    | cons => simp at hl
  | succ n ih =>
    intro i es hl hg
    cases es with
    | nil => simp at hl
    | cons e es =>
      have h0 : ct.get? i = some e := by simpa using (hg 0 (by omega)).symm
      obtain ⟨he, vs, hvs, hr⟩ := hc i e h0
      obtain ⟨h1, ws, hws, hwl, hr2⟩ := ih (i + 1) es (by simpa using hl) fun j hj => by
        have := hg (j + 1) (by omega)
        rw [show i + 1 + j = i + (j + 1) from by omega]; simpa using this
      have hvl : vs.length = L.z := hvs.length.trans he
      refine ⟨fun cs hcs => ?_, vs ++ ws, by simpa using hvs.append hws, ?_, fun j v hj => ?_⟩
      · rcases List.mem_cons.1 hcs with rfl | h2
        · exact he
        · exact h1 cs h2
      · simp [hvl, hwl]; rw [Nat.succ_mul]; omega
      · rcases Nat.lt_or_ge j vs.length with hlt | hge
        · rw [List.getElem?_append_left hlt] at hj
          exact hr j v hj
        · rw [List.getElem?_append_right hge] at hj
          have := hr2 (j - vs.length) v hj
          rw [← this]
          congr 1
          rw [hvl] at hge ⊢
          have : (L.sh + (i + 1)) * L.z = (L.sh + i) * L.z + L.z := by rw [← Nat.add_assoc, Nat.succ_mul]
          omega
end

end Go.D
