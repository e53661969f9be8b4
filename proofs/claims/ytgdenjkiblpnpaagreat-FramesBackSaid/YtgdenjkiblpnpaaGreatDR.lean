/-
  The abstract evaluator 'D': instructions that call nobody, one by one (tenth part): append, copy, clear.
-/
import Derived.Test.YtgdenjkiblpnpaaGreatDQ
namespace Go.D
section
variable {P : Program} {K : Km} {m : Mm} {h h' : Heap} {w : World} {v : AV} {n : Nat} {e : Env} {a : Act} {o : Oper} {call : Caller}

theorem need_small {need bytes : Nat} (hb : need * (bytes + 1) ≤ 17592186044416) : need ≤ 17592186044416 ∧ need * bytes ≤ 17592186044416 := by
  have h1 : need * 1 ≤ need * (bytes + 1) := Nat.mul_le_mul_left need (by omega)
  have h2 : need * bytes ≤ need * (bytes + 1) := Nat.mul_le_mul_left need (by omega)
  omega

/-- the capacity that the tape tells -/
def grown (w : World) (need sCap : Nat) (el : TypeId) : Nat := (Question.appendCap need sCap el).cut (w.tape w.drawn (.appendCap need sCap el))
theorem le_grown (w : World) (need sCap : Nat) (el : TypeId) : need ≤ grown w need sCap el := by simp [grown, Question.cut]

section app
variable {t t1 el ty : TypeId} {inf : TypeInfo} {zv : Value} {d : TypeDesc} (hu : P.underlying t = some (.slice el)) (hi : P.info? el = some inf) (hz : inf.zero = some zv)
  (hd : P.underlying t1 = some d) {X : Value} {base : Option Addr} {sLen sCap q : Nat} {new old : Array Value}
include hu hi hz hd

theorem run_app_fits_some {A : Addr} (hni : (∃ x, d = .slice x) ∨ d = .string) (hlen : (Builtin.lenOf X).run P w = .ok q w) (hnew : (Builtin.firstCells inf.size q X).run P w = .ok new w) (hfit : sLen + q ≤ sCap) {w' : World}
    (hst : (storeCells (A.add (sLen * inf.size)) new.toList).run P w = .ok () w') :
    (Builtin.append_ #[t, t1] ty #[.slice (some A) sLen sCap, X]).run P w = .ok (.slice (some A) (sLen + q) sCap) w' := by
  have _ := hz
  rcases hni with ⟨x, rfl⟩ | rfl <;> simp [Builtin.append_, run_und hu, run_und hd, run_size hi, hlen, hfit, hnew, hst]

theorem run_app_fits_none (hni : (∃ x, d = .slice x) ∨ d = .string) (hlen : (Builtin.lenOf X).run P w = .ok q w) (hnew : (Builtin.firstCells inf.size q X).run P w = .ok new w) (hfit : sLen + q ≤ sCap) :
    (Builtin.append_ #[t, t1] ty #[.slice none sLen sCap, X]).run P w = .ok (.slice none (sLen + q) sCap) w := by
  have _ := hz
  rcases hni with ⟨x, rfl⟩ | rfl <;> simp [Builtin.append_, run_und hu, run_und hd, run_size hi, hlen, hfit, hnew]

theorem run_app_grows (hni : (∃ x, d = .slice x) ∨ d = .string) (hlen : (Builtin.lenOf X).run P w = .ok q w) (hnew : (Builtin.firstCells inf.size q X).run P w.drew = .ok new w.drew)
    (hold : (Builtin.firstCells inf.size sLen (.slice base sLen sCap)).run P w.drew = .ok old w.drew) (hno : sCap < sLen + q) (hb : (sLen + q) * (inf.bytes + 1) ≤ 17592186044416) :
    (Builtin.append_ #[t, t1] ty #[.slice base sLen sCap, X]).run P w = .ok (.slice (some ⟨w.heap.size, 0, none⟩) (sLen + q) (grown w (sLen + q) sCap el))
      (w.drew.alloc (.cells (old ++ new ++ Builtin.zeroCells zv.cells (grown w (sLen + q) sCap el - (sLen + q))) el)) := by
  obtain ⟨hn1, hn2⟩ := need_small hb
  have hn : ¬ (sLen + q ≤ sCap) := by omega
  have h63 : ¬ (9223372036854775807 < ((sLen : Int) + (q : Int))) := by omega
  have hfit := growslice_fits (need := sLen + q) (old := sCap) (bytes := inf.bytes) hno (by omega)
  have h48 : ¬ (281474976710656 < Builtin.nextslicecap (sLen + q) sCap * inf.bytes) := by omega
  rcases hni with ⟨x, rfl⟩ | rfl <;>
    simp [Builtin.append_, run_und hu, run_und hd, run_size hi, run_info hi, run_zero hi hz, hlen, hn, h63, h48, Question.forced, hnew, hold, newRow, grown]

/-- a 'zeros' count -/
theorem wrap_of {k : Nat} (h : k ≤ 17592186044416) : IntKind.i64.wrap (k : Int) = k := have _ := hu; have _ := hi; have _ := hz; have _ := hd; wrap_nat h

theorem run_appz_fits_some {A : Addr} {k : IntKind} (hdk : d = .int k) {kx : IntKind} (hX : X = .int kx (q : Int)) (h0 : 0 < inf.size) (hqb : q * inf.bytes ≤ 17592186044416) (hq : q ≤ 17592186044416)
    (hfit : sLen + q ≤ sCap) {w' : World} (hst : (storeCells (A.add (sLen * inf.size)) (Builtin.zeroCells zv.cells q).toList).run P w = .ok () w') :
    (Builtin.append_ #[t, t1] ty #[.slice (some A) sLen sCap, X]).run P w = .ok (.slice (some A) (sLen + q) sCap) w' := by
  subst hdk hX
  have hw : IntKind.i64.wrap (q : Int) = q := wrap_nat hq
  have h1 : ¬ ((q : Int) < 0) := by omega
  have h2 : ¬ (281474976710656 < (q : Int) * (inf.bytes : Int)) := by
    have : (q : Int) * (inf.bytes : Int) = ((q * inf.bytes : Nat) : Int) := by simp
    rw [this]; omega
  by_cases hq0 : q = 0
  · subst hq0
    have : Builtin.zeroCells zv.cells 0 = #[] := by simp [Builtin.zeroCells]
    rw [this] at hst
    have hw0 : IntKind.i64.wrap 0 = 0 := by simpa using hw
    simp at hfit
    simp [Builtin.append_, run_und hu, run_und hd, run_size hi, run_info hi, asInt, asIntOf, hw0, hfit]
    simp at hst
    simp [hst]
  · have h3 : ¬ (q * inf.size = 0) := Nat.mul_ne_zero hq0 (by omega)
    have h4 : ¬ (q = 0 ∨ inf.size = 0) := by omega
    simp [Builtin.append_, run_und hu, run_und hd, run_size hi, run_info hi, run_zero hi hz, asInt, asIntOf, hw, h1, h2, h3, hfit, hst]

theorem run_appz_fits_none {k : IntKind} (hdk : d = .int k) {kx : IntKind} (hX : X = .int kx (q : Int)) (hq : q = 0) (hfit : sLen + q ≤ sCap) :
    (Builtin.append_ #[t, t1] ty #[.slice none sLen sCap, X]).run P w = .ok (.slice none (sLen + q) sCap) w := by
  have _ := hz
  subst hdk hX hq
  have hw0 : IntKind.i64.wrap 0 = 0 := by decide
  simp at hfit
  simp [Builtin.append_, run_und hu, run_und hd, run_size hi, run_info hi, asInt, asIntOf, hw0, hfit]

theorem run_appz_grows {k : IntKind} (hdk : d = .int k) {kx : IntKind} (hX : X = .int kx (q : Int)) (h0 : 0 < inf.size)
    (hold : (Builtin.firstCells inf.size sLen (.slice base sLen sCap)).run P w.drew = .ok old w.drew) (hno : sCap < sLen + q) (hb : (sLen + q) * (inf.bytes + 1) ≤ 17592186044416) :
    (Builtin.append_ #[t, t1] ty #[.slice base sLen sCap, X]).run P w = .ok (.slice (some ⟨w.heap.size, 0, none⟩) (sLen + q) (grown w (sLen + q) sCap el))
      (w.drew.alloc (.cells (old ++ Builtin.zeroCells zv.cells q ++ Builtin.zeroCells zv.cells (grown w (sLen + q) sCap el - (sLen + q))) el)) := by
  subst hdk hX
  obtain ⟨hn1, hn2⟩ := need_small hb
  have hn : ¬ (sLen + q ≤ sCap) := by omega
  have hfit := growslice_fits (need := sLen + q) (old := sCap) (bytes := inf.bytes) hno (by omega)
  have h48 : ¬ (281474976710656 < Builtin.nextslicecap (sLen + q) sCap * inf.bytes) := by omega
  have hw : IntKind.i64.wrap (q : Int) = q := wrap_nat (by omega)
  have h1 : ¬ ((q : Int) < 0) := by omega
  have h2 : ¬ (281474976710656 < (q : Int) * (inf.bytes : Int)) := by
    have h4 : (q : Int) * (inf.bytes : Int) = ((q * inf.bytes : Nat) : Int) := by simp
    have h5 : q * inf.bytes ≤ (sLen + q) * inf.bytes := Nat.mul_le_mul_right _ (by omega)
    rw [h4]; omega
  have h63 : ¬ (9223372036854775807 < ((sLen : Int) + (q : Int))) := by omega
  by_cases hq0 : q = 0
  · subst hq0
    have hz0 : Builtin.zeroCells zv.cells 0 = #[] := by simp [Builtin.zeroCells]
    have hw0 : IntKind.i64.wrap 0 = 0 := by decide
    have hn' : ¬ (sLen ≤ sCap) := by omega
    have h63' : ¬ (9223372036854775807 < (sLen : Int)) := by omega
    simp only [Nat.add_zero] at h48
    simp [Builtin.append_, run_und hu, run_und hd, run_size hi, run_info hi, run_zero hi hz, asInt, asIntOf, hw0, hn', h63', h48, Question.forced, hold, newRow, grown, hz0]
  have h3 : ¬ (q * inf.size = 0) := Nat.mul_ne_zero hq0 (by omega)
  have h4 : ¬ (q = 0 ∨ inf.size = 0) := by omega
  simp [Builtin.append_, run_und hu, run_und hd, run_size hi, run_info hi, run_zero hi hz, asInt, asIntOf, hw, h1, h2, h3, hn, h63, h48, Question.forced, hold, newRow, grown]
end app

/-- what an append comes to in the model: 'q' elements, these cells, are put behind a slice's -/
structure AppRuns (P : Program) (w : World) (t t1 ty el : TypeId) (inf : TypeInfo) (zv : Value) (X : Value) (q : Nat) (news : List Value) : Prop where
  some_ : ∀ {A : Addr} {sLen sCap : Nat} {w' : World}, sLen + q ≤ sCap → (storeCells (A.add (sLen * inf.size)) news).run P w = .ok () w' →
    (Builtin.append_ #[t, t1] ty #[.slice (some A) sLen sCap, X]).run P w = .ok (.slice (some A) (sLen + q) sCap) w'
  none_ : ∀ {sLen sCap : Nat}, q = 0 → sLen + q ≤ sCap → (Builtin.append_ #[t, t1] ty #[.slice none sLen sCap, X]).run P w = .ok (.slice none (sLen + q) sCap) w
  grows : ∀ {base : Option Addr} {sLen sCap : Nat} {old : Array Value}, (Builtin.firstCells inf.size sLen (.slice base sLen sCap)).run P w.drew = .ok old w.drew → sCap < sLen + q →
    (sLen + q) * (inf.bytes + 1) ≤ 17592186044416 →
    (Builtin.append_ #[t, t1] ty #[.slice base sLen sCap, X]).run P w = .ok (.slice (some ⟨w.heap.size, 0, none⟩) (sLen + q) (grown w (sLen + q) sCap el))
      (w.drew.alloc (.cells (old ++ news.toArray ++ Builtin.zeroCells zv.cells (grown w (sLen + q) sCap el - (sLen + q))) el))

theorem zeroCells_size (zv : Array Value) (q : Nat) : (Builtin.zeroCells zv q).size = q * zv.size := by simp [Builtin.zeroCells]

theorem CellsAt.ofList {row : Array Value} {L : Loc} {es : List (List AV)} {vs : List Value} (hz : ∀ cs ∈ es, cs.length = L.z) (hv : RvL K m es.flatten vs) (hr : RowAt row (L.sh * L.z) vs) :
    CellsAt K m row L (.list es) := by
  intro i cs hi
  have hi' : es[i]? = some cs := hi
  refine ⟨hz cs (List.mem_of_getElem? hi'), (vs.drop (i * L.z)).take L.z, ?_, fun j u hj => ?_⟩
  · have := (hv.drop (i * L.z)).take L.z
    rw [flat_get hz hi'] at this; exact this
  · rw [List.getElem?_take] at hj
    split at hj
    · rw [List.getElem?_drop] at hj
      have := hr _ _ hj
      rw [Nat.add_mul, Nat.add_assoc]; exact this
    · cases hj

/-- a new row whose end is open -/
theorem Rel.newOpen (r : Rel P K m h w) {z k : Nat} {es : List (List AV)} {vs : List Value} {row : Array Value} {t : TypeId} (hz : ∀ cs ∈ es, cs.length = z) (hv : RvL K m es.flatten vs)
    (hr : RowAt row 0 vs) (hk : es.length ≤ k) (hs : row.size = k * z) :
    m.le (m.put h.next ⟨w.heap.size, 0, z, k⟩) ∧ Rel P K (m.put h.next ⟨w.heap.size, 0, z, k⟩) (h.new (.cells z true (.list es))) (w.alloc (.cells row t)) ∧
      Ext K m h w K (m.put h.next ⟨w.heap.size, 0, z, k⟩) (h.new (.cells z true (.list es))) (w.alloc (.cells row t)) := by
  have hm := Mm.put_le m (L := ⟨w.heap.size, 0, z, k⟩) r.none_next
  refine ⟨hm, r.new rfl ?_, Ext.newB r rfl⟩
  refine .cells (row := row) (t := t) (fz := (0, 0)) rfl heap_alloc_new (.inl rfl) hs (by simp [Ct.size]; omega) (fun hh => by cases hh) ?_
  exact CellsAt.ofList hz (hv.mono (.refl _) hm) (by simpa using hr)

/-- a block's row is taken over by a new block -/
theorem Rel.moved (r : Rel P K m h w) {w' : World} {b : Nat} {o o' : Ob} {L L' : Loc} (hb : h.get b = some o) (hL : m b = some L) (hc : L'.c = L.c)
    (hw : ∀ c, c ≠ L.c → w'.heap[c]? = w.heap[c]?) (ho : RObj P K (m.put h.next L') w' L' o') : Rel P K (m.put h.next L') ((h.drop b).new o') w' := by
  have hbn : b < h.next := r.dom _ _ hL
  have hget : ∀ x, ((h.drop b).new o').get x = if x = h.next then some o' else if x = b then none else h.get x := fun x => by
    rw [Heap.get_new, Heap.get_drop]; rfl
  have hput : ∀ x, x ≠ h.next → (m.put h.next L') x = m x := fun x e => by simp [Mm.put, e]
  exact {
    ob := fun x ox hx Lx hLx => by
      rw [hget] at hx
      by_cases e : x = h.next
      · subst e
        rw [if_pos rfl] at hx; cases hx
        rw [Mm.put_self] at hLx; cases hLx
        exact ho
      · rw [if_neg e] at hx
        rw [hput x e] at hLx
        by_cases e2 : x = b
        · rw [if_pos e2] at hx; cases hx
        · rw [if_neg e2] at hx
          refine (r.ob x ox hx Lx hLx).mono (.refl _) (Mm.put_le m r.none_next) (hw _ fun h2 => e2 ?_)
          exact r.inj _ _ _ _ hLx hL h2 (by simp [hx]) (by simp [hb])
    inj := fun x y Lx Ly hx hy h2 gx gy => by
      rw [hget] at gx gy
      have aux : ∀ x Lx, (m.put h.next L') x = some Lx → (if x = h.next then some o' else if x = b then none else h.get x).isSome = true → x ≠ h.next → Lx.c ≠ L.c := by
        intro x Lx hx gx e
        rw [if_neg e] at gx
        rw [hput x e] at hx
        by_cases e2 : x = b
        · rw [if_pos e2] at gx; cases gx
        · rw [if_neg e2] at gx
          intro h3
          exact e2 (r.inj _ _ _ _ hx hL h3 gx (by simp [hb]))
      by_cases e1 : x = h.next <;> by_cases e2 : y = h.next
      · rw [e1, e2]
      · subst e1
        rw [Mm.put_self] at hx; cases hx
        exact absurd (h2.symm.trans hc) (aux y Ly hy gy e2)
      · subst e2
        rw [Mm.put_self] at hy; cases hy
        exact absurd (h2.trans hc) (aux x Lx hx gx e1)
      · rw [if_neg e1] at gx
        rw [if_neg e2] at gy
        rw [hput x e1] at hx
        rw [hput y e2] at hy
        by_cases f1 : x = b
        · rw [if_pos f1] at gx; cases gx
        · by_cases f2 : y = b
          · rw [if_pos f2] at gy; cases gy
          · rw [if_neg f1] at gx
            rw [if_neg f2] at gy
            exact r.inj _ _ _ _ hx hy h2 gx gy
    dom := fun x Lx hx => by
      show x < h.next + 1
      by_cases e : x = h.next
      · omega
      · rw [hput x e] at hx
        have := r.dom _ _ hx
        omega
    fresh := fun x hx => by
      have hx' : h.next + 1 ≤ x := hx
      rw [hget, if_neg (by omega), if_neg (by omega)]
      exact r.fresh x (by omega)
    imm := fun c row hk => by
      have hd := r.dis b L hL (by simp [hb])
      rw [hw c fun e => by rw [e, hd] at hk; cases hk]
      exact r.imm c row hk
    dis := fun x Lx hx gx => by
      by_cases e : x = h.next
      · subst e
        rw [Mm.put_self] at hx; cases hx
        rw [hc]
        exact r.dis b L hL (by simp [hb])
      · rw [hput x e] at hx
        rw [hget, if_neg e] at gx
        by_cases f : x = b
        · rw [if_pos f] at gx; cases gx
        · rw [if_neg f] at gx
          exact r.dis x Lx hx gx }

theorem Ext.moved (r : Rel P K m h w) {w' : World} {b : Nat} {o o' : Ob} {L L' : Loc} (hb : h.get b = some o) (hL : m b = some L) (hc : L'.c = L.c)
    (hw : ∀ c, c ≠ L.c → w'.heap[c]? = w.heap[c]?) (hs : w'.heap.size = w.heap.size) (h1 : w'.os = w.os) (h2 : w'.output = w.output) (h3 : w'.tape = w.tape) :
    Ext K m h w K (m.put h.next L') ((h.drop b).new o') w' where
  mono := Mm.put_le m r.none_next
  kmono := .refl _
  next := by show h.next ≤ h.next + 1; omega
  size := by rw [hs]; exact Nat.le_refl _
  frame := fun c _ hn => hw c fun e => by
    have := hn b L hL e.symm
    rw [hb] at this; cases this
  new := fun x Lx hx gx => by
    by_cases e : x = h.next
    · subst e
      rw [Mm.put_self] at hx; cases hx
      exact .inr ⟨b, L, hL, hc.symm, by simp [hb]⟩
    · simp only [Mm.put, if_neg e] at hx
      rw [Heap.get_new, Heap.get_drop] at gx
      have e' : ¬ x = (h.drop b).next := e
      rw [if_neg e'] at gx
      by_cases f : x = b
      · rw [if_pos f] at gx; cases gx
      · rw [if_neg f] at gx
        exact .inr ⟨x, Lx, hx, rfl, gx⟩
  knew := fun _ _ h => .inl h
  ghost := fun x hx hm => by
    have e1 : x ≠ h.next := by omega
    have e2 : x ≠ b := fun e => by rw [e, hL] at hm; cases hm
    have e1' : ¬ x = (h.drop b).next := e1
    refine ⟨by simp [Mm.put, e1, hm], ?_⟩
    rw [Heap.get_new, if_neg e1', Heap.get_drop, if_neg e2]
  os := h1
  output := h2
  tape := h3

/-- a slice with elements put behind its own, in a new row -/
theorem append_new (r : Rel P K m h w) {t t1 ty el : TypeId} {inf : TypeInfo} {zv X : Value} {z : List AV} {news : List Value} {old new : List (List AV)} {base : Option Addr} {k : Nat}
    (hA : AppRuns P w t t1 ty el inf zv X new.length news) (hzs : zv.cells.size = z.length) (hnv : RvL K m new.flatten news) (hnz : ∀ cs ∈ new, cs.length = z.length)
    {olds : List Value} (hov : RvL K m old.flatten olds) (hoz : ∀ cs ∈ old, cs.length = z.length)
    (hold : (Builtin.firstCells inf.size old.length (.slice base old.length k)).run P w.drew = .ok olds.toArray w.drew) (hno : k < old.length + new.length)
    (hroom : (old.length + new.length) * (inf.bytes + 1) ≤ 17592186044416) :
    ∃ m' w' y, (Builtin.append_ #[t, t1] ty #[.slice base old.length k, X]).run P w = .ok y w' ∧ Rv K m' (.slice z.length h.next 0 (old ++ new).length none) y ∧
      Rel P K m' (h.new (.cells z.length true (.list (old ++ new)))) w' ∧ Ext K m h w K m' (h.new (.cells z.length true (.list (old ++ new)))) w' := by
  have hrun := hA.grows hold hno hroom
  have hge := le_grown w (old.length + new.length) k el
  have hol := hov.length
  have hnl := hnv.length
  rw [flat_length hoz] at hol
  rw [flat_length hnz] at hnl
  have hs : (olds.toArray ++ news.toArray ++ Builtin.zeroCells zv.cells (grown w (old.length + new.length) k el - (old.length + new.length))).size =
      grown w (old.length + new.length) k el * z.length := by
    simp only [Array.size_append, List.size_toArray, hol, hnl, zeroCells_size, hzs]
    rw [← Nat.add_mul, ← Nat.add_mul]
    congr 1; omega
  have hws : SameHeap w w.drew := ⟨rfl, rfl, rfl, rfl⟩
  obtain ⟨hm, hrel, hext⟩ := (r.same hws).newOpen (z := z.length) (k := grown w (old.length + new.length) k el) (es := old ++ new) (vs := olds ++ news) (t := el)
    (fun cs hcs => (List.mem_append.1 hcs).elim (hoz cs) (hnz cs))
    (by rw [List.flatten_append]; exact hov.append hnv) (row := olds.toArray ++ news.toArray ++ Builtin.zeroCells zv.cells (grown w (old.length + new.length) k el - (old.length + new.length)))
    (fun j v hj => by
      have hlt := (List.getElem?_eq_some_iff.1 hj).1
      rw [Nat.zero_add, Array.getElem?_append_left (by simpa using hlt)]
      simpa using hj) (by simpa using hge) hs
  refine ⟨_, _, _, hrun, ?_, hrel, (Ext.same hws).trans hext⟩
  rw [List.length_append]
  exact .sliceo (L := ⟨w.heap.size, 0, z.length, grown w (old.length + new.length) k el⟩) (Mm.put_self _ _ _) (by simp) (by simp) rfl

theorem appendD_pre {z : List AV} {bytes : Nat} {x : AV} {new : List (List AV)} (hs : appendD z bytes h x new = .ok v h') : okElems z.length new = true ∧ 0 < z.length := by
  unfold appendD at hs
  simp only at hs
  cases hc : (okElems z.length new && Nat.blt 0 z.length) with
  | false => simp [hc] at hs
  | true => simp only [Bool.and_eq_true, nblt, decide_eq_true_eq] at hc; exact hc

/-- a slice with elements put behind its own -/
theorem append_ok (r : Rel P K m h w) {t t1 ty el : TypeId} {inf : TypeInfo} {zv X : Value} {z : List AV} {news : List Value} {new : List (List AV)}
    (hA : AppRuns P w t t1 ty el inf zv X new.length news) (hzv : RvL K m z zv.cells.toList) (hsz : inf.size = z.length) (hnv : RvL K m new.flatten news) {x : AV} {S : Value} (hS : Rv K m x S)
    (hs : appendD z inf.bytes h x new = .ok v h') :
    ∃ m' w' y, (Builtin.append_ #[t, t1] ty #[S, X]).run P w = .ok y w' ∧ Rv K m' v y ∧ Rel P K m' h' w' ∧ Ext K m h w K m' h' w' := by
  obtain ⟨hel, h0⟩ := appendD_pre hs
  obtain ⟨hnz, hone⟩ := okElems_spec hel
  have hzs : zv.cells.size = z.length := by rw [← Array.length_toList, hzv.length]
  unfold appendD at hs
  simp only [hel, Bool.true_and, (nblt 0 z.length).trans (decide_eq_true h0), Bool.not_true, cond_false] at hs
  have hnl := hnv.length
  rw [flat_length hnz] at hnl
  split at hs
  · -- nils
    cases hS
    split at hs
    · simp only [Res.ok.injEq] at hs
      obtain ⟨rfl, rfl⟩ := hs
      exact ⟨m, w, _, hA.none_ (by simp) (by simp), .nils, r, .refl ..⟩
    · rename_i hnn
      cases hr : roomy new.length inf.bytes with
      | false => simp [hr] at hs
      | true =>
        simp only [hr, cond_true, Go.D.newOpen, Res.ok.injEq] at hs
        obtain ⟨rfl, rfl⟩ := hs
        simp only [roomy, nble, decide_eq_true_eq] at hr
        have hpos : 0 < new.length := List.length_pos_iff.2 fun e => hnn e
        exact append_new r hA hzs hnv hnz (old := []) (olds := []) .nil (by simp) (by simp [Builtin.firstCells]) (by simpa using hpos) (by simpa using hr)
  · -- emps
    cases hS
    split at hs
    · simp only [Res.ok.injEq] at hs
      obtain ⟨rfl, rfl⟩ := hs
      cases hnv
      exact ⟨m, w, _, hA.some_ (by simp) (by simp [storeCells]), .emps, r, .refl ..⟩
    · rename_i hnn
      cases hr : roomy new.length inf.bytes with
      | false => simp [hr] at hs
      | true =>
        simp only [hr, cond_true, Go.D.newOpen, Res.ok.injEq] at hs
        obtain ⟨rfl, rfl⟩ := hs
        simp only [roomy, nble, decide_eq_true_eq] at hr
        have hpos : 0 < new.length := List.length_pos_iff.2 fun e => hnn e
        exact append_new r hA hzs hnv hnz (old := []) (olds := []) .nil (by simp) (by simp [Builtin.firstCells, loadCells, loadCellsFrom]) (by simpa using hpos) (by simpa using hr)
  · -- isl
    split at hs
    · simp only [Res.ok.injEq] at hs
      obtain ⟨rfl, rfl⟩ := hs
      cases hnv
      cases hS with
      | isl hl hk hz hv ha => exact ⟨m, w, _, hA.some_ (by simpa using hk) (by simp [storeCells]), .isl hl hk hz hv ha, r, .refl ..⟩
    · cases hs
  · -- slices
    rename_i z' b i len cap
    split at hs
    · rename_i z2 op ct hb
      cases hzz : (Nat.beq z.length z2 && Nat.beq z.length z') with
      | false => simp [hzz] at hs
      | true =>
        simp only [hzz, Bool.not_true, cond_false] at hs
        simp only [Bool.and_eq_true, nbeq, decide_eq_true_eq] at hzz
        obtain ⟨rfl, rfl⟩ := hzz
        -- the elements that lie there
        have helems : ∀ {L : Loc}, m b = some L → ∀ {old : List (List AV)}, ct.sub i len = some old → ∀ k : Nat, ∃ olds : List Value, RvL K m old.flatten olds ∧ (∀ cs ∈ old, cs.length = z.length) ∧ old.length = len ∧
            (Builtin.firstCells inf.size old.length (.slice (some ⟨L.c, (L.sh + i) * L.z, none⟩) old.length k)).run P w.drew = .ok olds.toArray w.drew ∧
            ∃ row t fz, w.heap[L.c]? = some (.cells row t fz) ∧ (fz.2 = fz.1 ∨ row.size ≤ fz.1) ∧ RowAt row ((L.sh + i) * L.z) olds ∧ olds.length = len * L.z ∧ row.size = L.n * L.z := by
          intro L hL old hold k
          obtain ⟨row, t3, fz, hz, hwr, hf, hn, hsh, hop, hc⟩ := r.row hb hL
          obtain ⟨hol, _, hog⟩ := Ct.sub_spec hold
          obtain ⟨hoz, olds, hov, hosz, hor⟩ := hc.sub len i old hol hog
          refine ⟨olds, hov, by rw [hz] at hoz; exact hoz, hol, ?_, row, t3, fz, hwr, hf, hor, hosz, hn⟩
          simp only [Builtin.firstCells]
          exact run_loadCells_row P (w := w.drew) hwr (by rw [hosz, hol, hz, hsz]) hor
        -- in place
        have hinpl : ∀ {L : Loc} {k : Nat}, m b = some L → len + new.length ≤ k → i + len + new.length ≤ ct.size →
            ∃ w', (Builtin.append_ #[t, t1] ty #[.slice (some ⟨L.c, (L.sh + i) * L.z, none⟩) len k, X]).run P w = .ok (.slice (some ⟨L.c, (L.sh + i) * L.z, none⟩) (len + new.length) k) w' ∧
              Rel P K m (h.set b (.cells z.length op (ct.sets (i + len) new))) w' ∧ Ext K m h w K m (h.set b (.cells z.length op (ct.sets (i + len) new))) w' := by
          intro L k hL hfit hfit2
          obtain ⟨row, t3, fz, hz, _⟩ := r.row hb hL
          obtain ⟨w', hrun, hrel, hext⟩ := r.write (ct' := ct.sets (i + len) new) (o := (L.sh + (i + len)) * L.z) (xs := news) hb hL (by simp)
            (by rw [hnl, ← hz, ← Nat.add_mul]; exact Nat.mul_le_mul_right _ (by omega))
            (hnv.oneCells hone) (fun row hc hle => hc.many (by rw [hz]; exact hnz) hnv hfit2 hle)
          refine ⟨w', hA.some_ hfit ?_, hrel, hext⟩
          rw [addr_add, hsz, ← hz, ← Nat.add_mul, Nat.add_assoc]
          exact hrun
        split at hs
        · -- the capacity is known
          rename_i k
          cases hS with
          | slicex hL hoo hLz =>
            rename_i o L
            subst hoo
            cases hle : Nat.ble (len + new.length) k with
            | true =>
              rw [hle, cond_true] at hs
              rw [nble, decide_eq_true_eq] at hle
              cases hle2 : Nat.ble (i + len + new.length) ct.size with
              | false => simp [hle2] at hs
              | true =>
                simp only [hle2, cond_true, Res.ok.injEq] at hs
                rw [nble, decide_eq_true_eq] at hle2
                obtain ⟨rfl, rfl⟩ := hs
                obtain ⟨w', hrun, hrel, hext⟩ := hinpl hL hle hle2
                exact ⟨m, w', _, hrun, .slicex hL rfl hLz, hrel, hext⟩
            | false =>
              rw [hle, cond_false] at hs
              rw [nble, decide_eq_false_iff_not] at hle
              split at hs
              · rename_i old hold
                cases hr : roomy (len + new.length) inf.bytes with
                | false => simp [hr] at hs
                | true =>
                  simp only [hr, cond_true, Go.D.newOpen, Res.ok.injEq] at hs
                  obtain ⟨rfl, rfl⟩ := hs
                  simp only [roomy, nble, decide_eq_true_eq] at hr
                  obtain ⟨olds, hov, hoz, rfl, hfc, _⟩ := helems hL hold k
                  exact append_new r hA hzs hnv hnz hov hoz hfc (by omega) hr
              · cases hs
        · -- the row is open
          cases hS with
          | sliceo hL hoo hkn hLz =>
            rename_i k o L
            subst hoo
            obtain ⟨row0, t3, fz, hz, hwr, hf, hn, hsh, hop, hc⟩ := r.row hb hL
            cases hle2 : Nat.ble (i + len + new.length) ct.size with
            | true =>
              simp only [hle2, cond_true, Res.ok.injEq] at hs
              rw [nble, decide_eq_true_eq] at hle2
              obtain ⟨rfl, rfl⟩ := hs
              obtain ⟨w', hrun, hrel, hext⟩ := hinpl (k := k) hL (by omega) hle2
              exact ⟨m, w', _, hrun, .sliceo hL rfl hkn hLz, hrel, hext⟩
            | false =>
              rw [hle2, cond_false] at hs
              split at hs
              · rename_i old hold
                cases hr : roomy (len + new.length) inf.bytes with
                | false => simp [hr] at hs
                | true =>
                  simp only [hr, cond_true, Go.D.newOpen, Res.ok.injEq] at hs
                  obtain ⟨rfl, rfl⟩ := hs
                  simp only [roomy, nble, decide_eq_true_eq] at hr
                  obtain ⟨olds, hov, hoz, rfl, hfc, row, t4, fz4, hwr4, hf4, hor, hosz, hn4⟩ := helems hL hold k
                  rcases Nat.lt_or_ge k (old.length + new.length) with hlt | hge
                  · -- a new row
                    have r2 := r.drop b
                    obtain ⟨m', w', y, hrun, hrv, hrel, hext⟩ := append_new (h := h.drop b) r2 hA hzs hnv hnz hov hoz hfc hlt hr
                    exact ⟨m', w', y, hrun, hrv, hrel, (Ext.dropB hL).trans hext⟩
                  · -- the row has room for more
                    have hle3 : ((L.sh + i) * L.z + old.length * L.z) + news.length ≤ row.size := by
                      rw [hnl, hn4, ← hz, ← Nat.add_mul, ← Nat.add_mul]
                      exact Nat.mul_le_mul_right _ (by omega)
                    obtain ⟨w', hst, hset⟩ := run_storeCells_row P L.c ((L.sh + i) * L.z + old.length * L.z) t4 fz4 news 0 w row hwr4 hf4 (by simpa using hle3) (hnv.oneCells hone)
                    have hrun := hA.some_ (A := ⟨L.c, (L.sh + i) * L.z, none⟩) (sLen := old.length) (sCap := k) (w' := w') hge (by
                      rw [addr_add, hsz, ← hz]; exact hst)
                    have hm := Mm.put_le m (L := ⟨L.c, L.sh + i, L.z, L.n⟩) r.none_next
                    refine ⟨m.put h.next ⟨L.c, L.sh + i, L.z, L.n⟩, w', _, hrun, ?_,
                      Rel.moved r hb hL rfl hset.other (.cells (by simpa using hz) hset.at_ (by simpa using hf4) (by simpa using hn4) (by simp [Ct.size]; omega) (fun hh => by cases hh) ?_),
                      Ext.moved r hb hL rfl hset.other hset.size hset.os hset.output hset.tape⟩
                    · rw [List.length_append]
                      exact .sliceo (L := ⟨L.c, L.sh + i, L.z, L.n⟩) (Mm.put_self _ _ _) (by simp) (by simp; omega) (by simpa using hz)
                    · refine CellsAt.ofList (vs := olds ++ news) ?_ ?_ ?_
                      · intro cs hcs
                        show cs.length = L.z
                        rw [hz]
                        exact (List.mem_append.1 hcs).elim (hoz cs) (hnz cs)
                      · rw [List.flatten_append]
                        exact (hov.mono (.refl _) hm).append (hnv.mono (.refl _) hm)
                      · intro j u hj
                        show (writeRow row ((L.sh + i) * L.z + old.length * L.z) news)[(L.sh + i) * L.z + j]? = some u
                        rw [get_writeRow _ _ _ _ hle3]
                        rcases Nat.lt_or_ge j olds.length with hj1 | hj1
                        · rw [List.getElem?_append_left hj1] at hj
                          rw [if_neg (by omega)]
                          exact hor j u hj
                        · rw [List.getElem?_append_right hj1] at hj
                          have := (List.getElem?_eq_some_iff.1 hj).1
                          rw [if_pos ⟨by omega, by omega⟩, ← hj]
                          congr 1; omega
              · cases hs
    · cases hs
  · cases hs

/-- the first cells of a slice, or of a text, whatever has been drawn -/
theorem ElemsAt.first' {es : List (List AV)} {X : Value} (hE : ElemsAt K m w es X) {z : Nat} (hz : ∀ cs ∈ es, cs.length = z) {k : Nat} (hk : k ≤ es.length) :
    ∃ vs : List Value, (∀ w' : World, w'.heap = w.heap → (Builtin.firstCells z k X).run P w' = .ok vs.toArray w') ∧ RvL K m (es.take k).flatten vs := by
  cases hE with
  | none h => subst h; exact ⟨[], by simp [Builtin.firstCells], by simpa using .nil⟩
  | void h =>
    subst h
    simp at hk; subst hk
    exact ⟨[], by simp [Builtin.firstCells, loadCells, loadCellsFrom], by simpa using .nil⟩
  | row hw hr hv hl hz' =>
    rename_i c o0 len cap z' row t fz vs
    have hvl : vs.length = es.length * z := by rw [hv.length, flat_length hz]
    have hle : k * z ≤ es.length * z := Nat.mul_le_mul_right z hk
    refine ⟨vs.take (k * z), fun w' hw' => ?_, ?_⟩
    · simp only [Builtin.firstCells]
      exact run_loadCells_row P (by rw [hw']; exact hw) (by simp; omega) (hr.take _)
    · rw [flat_take _ hz]; exact hv.take _
  | str h he =>
    obtain ⟨vs, h1, h2⟩ := ElemsAt.first (P := P) (K := K) (m := m) (w := w) (.str h he) hz hk
    refine ⟨vs, fun w' _ => ?_, h2⟩
    simp only [Builtin.firstCells, Sem.run_pure, Result.ok.injEq] at h1 ⊢
    exact ⟨h1.1, trivial⟩

theorem elemsOf_z {es : List (List AV)} {z : Nat} (hel : okElems z es = true) : ∀ cs ∈ es, cs.length = z := (okElems_spec hel).1

theorem appArgs {args : Array Operand} {argTypes : Array TypeId} {y1 y2 : DO} {z : List AV} {bytes : Nat} {p : TypeId → Bool}
    (ho : (okOs args.toList [y1, y2] && (match argTypes.toList with
        | [t, t1] => (match sliceOf P t with
          | some e => ckZeroC P e z && ckBytes P e bytes
          | none => false) && p t1
        | _ => false)) = true) :
    ∃ x1 x2 t t1 el inf zv, args = #[x1, x2] ∧ argTypes = #[t, t1] ∧ okO x1 y1 = true ∧ okO x2 y2 = true ∧ P.underlying t = some (.slice el) ∧ P.info? el = some inf ∧ inf.zero = some zv ∧
      okVals z zv.cells.toList = true ∧ inf.size = z.length ∧ inf.bytes = bytes ∧ p t1 = true := by
  simp only [Bool.and_eq_true] at ho
  obtain ⟨h1, h2⟩ := ho
  obtain ⟨x1, x2, rfl, h3, h4⟩ := args2 h1
  split at h2
  · rename_i t t1 hat
    simp only [Bool.and_eq_true] at h2
    obtain ⟨h5, h6⟩ := h2
    split at h5
    · rename_i el hel
      simp only [Bool.and_eq_true] at h5
      obtain ⟨inf, zv, hi, hzv, hzok, hsz⟩ := ckZeroC_info h5.1
      obtain ⟨inf', hi', hby⟩ := ckBytes_info h5.2
      rw [hi] at hi'; cases hi'
      exact ⟨x1, x2, t, t1, el, inf, zv, rfl, by apply Array.ext'; simpa using hat, h3, h4, sliceOf_und hel, hi, hzv, hzok, hsz, hby, h6⟩
    · cases h5
  · cases h2

theorem ok_app (r : Rel P K m h w) (he : REnv K m n e a) {z : List AV} {bytes : Nat} {y1 y2 : DO} (ho : okIns P o.op (.app z bytes y1 y2) = true) (hs : step call e h (.app z bytes y1 y2) = .ok v h') :
    StepOk P (execOp a.eval o) K m h w v h' := by
  obtain ⟨dst, op, ty, pos, after, guard⟩ := o
  simp only [okIns] at ho
  split at ho
  · rename_i c
    obtain ⟨callee, args, argTypes⟩ := c
    simp only at ho
    split at ho
    · obtain ⟨x1, x2, t, t1, el, inf, zv, rfl, rfl, h1, h2, hu, hi, hz, hzok, hsz, rfl, hp⟩ := appArgs (p := fun t1 => (sliceOf P t1).isSome || isStr P t1) ho
      have hx := he.eval h1
      have hy := he.eval h2
      simp only [step] at hs
      split at hs
      · rename_i es hes
        have hE := elemsOf_ok r hy hes
        obtain ⟨hel, h0⟩ := appendD_pre hs
        have hnz := elemsOf_z hel
        obtain ⟨news, hnews, hnv⟩ := hE.first' (P := P) hnz (Nat.le_refl _)
        rw [List.take_length] at hnv
        rw [← hsz] at hnews
        have hd : ∃ d, P.underlying t1 = some d ∧ ((∃ x, d = .slice x) ∨ d = .string) := by
          rcases Bool.or_eq_true_iff.1 hp with h3 | h3
          · obtain ⟨x, hx⟩ := Option.isSome_iff_exists.1 h3
            exact ⟨_, sliceOf_und hx, .inl ⟨x, rfl⟩⟩
          · exact ⟨_, isStr_und h3, .inr rfl⟩
        obtain ⟨d, hd, hds⟩ := hd
        have hA : AppRuns P w t t1 ty el inf zv (a.eval x2) es.length news := ⟨
          fun hfit hst => run_app_fits_some hu hi hz hd hds hE.len (hnews w rfl) hfit (by simpa using hst),
          fun _ hfit => run_app_fits_none hu hi hz hd hds hE.len (hnews w rfl) hfit,
          fun hold hno hb => run_app_grows hu hi hz hd hds hE.len (hnews w.drew rfl) hold hno hb⟩
        obtain ⟨m', w', y, hrun, hrv, hrel, hext⟩ := append_ok r hA (okVals_rv _ _ hzok) hsz hnv hx hs
        refine ⟨K, m', w', y, .inl ?_, hrv, hrel, hext⟩
        rw [run_builtin]
        simp [Go.builtin, hrun]
      · cases hs
    · cases ho
  · simp at ho

theorem ok_appz (r : Rel P K m h w) (he : REnv K m n e a) {z : List AV} {bytes : Nat} {y1 y2 : DO} (ho : okIns P o.op (.appz z bytes y1 y2) = true) (hs : step call e h (.appz z bytes y1 y2) = .ok v h') :
    StepOk P (execOp a.eval o) K m h w v h' := by
  obtain ⟨dst, op, ty, pos, after, guard⟩ := o
  simp only [okIns] at ho
  split at ho
  · rename_i c
    obtain ⟨callee, args, argTypes⟩ := c
    simp only at ho
    split at ho
    · obtain ⟨x1, x2, t, t1, el, inf, zv, rfl, rfl, h1, h2, hu, hi, hz, hzok, hsz, rfl, hp⟩ := appArgs (p := fun t1 => isInt P t1) ho
      have hx := he.eval h1
      simp only [step] at hs
      split at hs
      · rename_i q hq
        cases hr : roomy q inf.bytes with
        | false => simp [hr] at hs
        | true =>
          rw [hr, cond_true] at hs
          obtain ⟨kx, hkx⟩ := natOf_rv (he.eval h2) hq
          obtain ⟨hel, h0⟩ := appendD_pre hs
          obtain ⟨ki, hki⟩ := isInt_und hp
          have hzr : RvL K m z zv.cells.toList := okVals_rv _ _ hzok
          have hzs : zv.cells.size = z.length := by rw [← Array.length_toList, hzr.length]
          have hnews : (Builtin.zeroCells zv.cells q).toList = (List.replicate q zv.cells.toList).flatten := zeros_eq (by omega) q
          have hnv : RvL K m (List.replicate q z).flatten (Builtin.zeroCells zv.cells q).toList := by rw [hnews]; exact zeros_rv hzr q
          simp only [roomy, nble, decide_eq_true_eq] at hr
          obtain ⟨hq1, hq2⟩ := need_small hr
          have hA : AppRuns P w t t1 ty el inf zv (a.eval x2) (List.replicate q z).length (Builtin.zeroCells zv.cells q).toList := by
            rw [List.length_replicate]
            exact ⟨fun hfit hst => run_appz_fits_some hu hi hz hki rfl hkx (by omega) hq2 hq1 hfit hst,
              fun hq0 hfit => run_appz_fits_none hu hi hz hki rfl hkx hq0 hfit,
              fun hold hno hb => by simpa using run_appz_grows hu hi hz hki rfl hkx (by omega) hold hno hb⟩
          obtain ⟨m', w', y, hrun, hrv, hrel, hext⟩ := append_ok r hA hzr hsz hnv hx hs
          refine ⟨K, m', w', y, .inl ?_, hrv, hrel, hext⟩
          rw [run_builtin]
          simp [Go.builtin, hrun]
      · cases hs
    · cases ho
  · simp at ho
end
end Go.D
