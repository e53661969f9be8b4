/-
  The abstract evaluator 'D': instructions that call nobody, one by one (fifth part): what lays memory.
-/
import Derived.Test.YtgdenjkiblpnpaaGreatDK
namespace Go.D
section
variable {P : Program} {K : Km} {m : Mm} {h h' : Heap} {w : World} {v : AV} {n : Nat} {e : Env} {a : Act} {o : Oper} {call : Caller}

theorem ok_box_rel {k : Nat} {x : AV} {X : Value} (hx : Rv K m x X) (hl : x.cells.length = k) (h1 : x.cells.all AV.one = true) : RvL K m x.cells X.cells.toList ∧ X.cells.size = k := by
  have := hx.cells h1
  exact ⟨this, by rw [← Array.length_toList, this.length, hl]⟩

/-- a new block with a row that is known whole -/
theorem Rel.newRow (r : Rel P K m h w) {z : Nat} {es : List (List AV)} {row : Array Value} {t : TypeId} (hz : ∀ cs ∈ es, cs.length = z) (hv : RvL K m es.flatten row.toList) :
    ∃ m', m'.le m' ∧ m' h.next = some ⟨w.heap.size, 0, z, es.length⟩ ∧ Rel P K m' (h.new (.cells z false (.list es))) (w.alloc (.cells row t)) ∧
      Ext K m h w K m' (h.new (.cells z false (.list es))) (w.alloc (.cells row t)) := by
  refine ⟨m.put h.next ⟨w.heap.size, 0, z, es.length⟩, .refl _, Mm.put_self _ _ _, r.new rfl ?_, Ext.newB r rfl⟩
  have hm := Mm.put_le m (L := ⟨w.heap.size, 0, z, es.length⟩) r.none_next
  have hsz : row.size = es.length * z := by rw [← Array.length_toList, hv.length, flat_length hz]
  refine .cells (row := row) (t := t) (fz := (0, 0)) rfl heap_alloc_new (.inl rfl) hsz (by simp [Ct.size]) (fun _ => by simp [Ct.size]) ?_
  intro i cs hi
  have hi' : es[i]? = some cs := hi
  have hmem : cs ∈ es := List.mem_of_getElem? hi'
  refine ⟨hz cs hmem, (row.toList.drop (i * z)).take z, ?_, ?_⟩
  · have := (hv.drop (i * z)).take z
    rw [flat_get hz hi'] at this
    exact this.mono (.refl _) hm
  · have : RowAt row 0 row.toList := fun j x hj => by rw [Array.getElem?_toList] at hj; simpa using hj
    have := (this.drop (i * z)).take z
    simpa using this

theorem ok_ibox (r : Rel P K m h w) (he : REnv K m n e a) {k : Nat} {y : DO} (ho : okIns P o.op (.ibox k y) = true) (hs : step call e h (.ibox k y) = .ok v h') :
    StepOk P (execOp a.eval o) K m h w v h' := by
  obtain ⟨dst, op, ty, pos, after, guard⟩ := o
  simp only [okIns] at ho
  split at ho
  · rename_i t x
    simp only [Bool.and_eq_true] at ho
    have hx := he.eval ho.2
    simp only [step] at hs
    cases hc : (Nat.beq (y.ev e).cells.length k && (y.ev e).cells.all AV.one && AV.trees (y.ev e).cells) with
    | false => rw [hc] at hs; simp at hs
    | true =>
      rw [hc] at hs
      simp only [cond_true, Res.ok.injEq] at hs
      obtain ⟨rfl, rfl⟩ := hs
      simp only [Bool.and_eq_true, nbeq, decide_eq_true_eq] at hc
      have hcells := hx.cells hc.1.2
      refine ⟨_, m, _, .pointer (some ⟨w.heap.size, 0, none⟩), .inl ?_, .iptr (row := (a.eval x).cells) (vs := (a.eval x).cells.toList) (c := w.heap.size) (base := 0) ?_ ?_ ?_ rfl,
        Rel.immB (t := t) r (row := (a.eval x).cells), Ext.immB r⟩
      · simp [execOp, Instr.box, newVar, newRow]
      · simp
      · exact (hcells.tree hc.2).mono (Km.imm_le r _) (.refl _)
      · intro j u hj
        rw [Array.getElem?_toList] at hj
        simpa using hj
  · simp at ho

theorem fold_writeRow (l : List Value) (off : Nat) : ∀ (j0 : Nat) (acc : Array Value),
    (l.zipIdx j0).foldl (fun cs (x : Value × Nat) => cs.setIfInBounds (off + x.2) x.1) acc = writeRow acc (off + j0) l := by
  induction l with
  | nil => intro j0 acc; rfl
  | cons y l ih =>
    intro j0 acc
    rw [List.zipIdx_cons, List.foldl_cons, ih (j0 + 1)]
    rfl

theorem toList_writeRow {row : Array Value} {o : Nat} {xs : List Value} (h : o + xs.length ≤ row.size) :
    (writeRow row o xs).toList = row.toList.take o ++ xs ++ row.toList.drop (o + xs.length) := by
  apply List.ext_getElem?
  intro i
  rw [Array.getElem?_toList, get_writeRow _ _ _ _ h]
  by_cases h1 : i < o
  · rw [if_neg (by omega), List.append_assoc, List.getElem?_append_left (by simp; omega), List.getElem?_take_of_lt h1]; simp
  · by_cases h2 : i < o + xs.length
    · rw [if_pos ⟨by omega, h2⟩, List.append_assoc, List.getElem?_append_right (by simp; omega), List.getElem?_append_left (by simp; omega)]
      congr 1; simp; omega
    · rw [if_neg (by omega), List.append_assoc, List.getElem?_append_right (by simp; omega), List.getElem?_append_right (by simp; omega), List.getElem?_drop, ← Array.getElem?_toList]
      congr 1; simp; omega

/-- parts put into a row of zeros -/
theorem fill_ok {sz : Nat → Option (Nat × Nat)} : ∀ {ps : List (Nat × Value)} {qs : List (Nat × Nat × List AV)} {z : List AV} {cells : Array Value} {z' : List AV},
    RvL K m z cells.toList → ps.length = qs.length →
    (∀ (i : Nat) (p : Nat × Value) (q : Nat × Nat × List AV), ps[i]? = some p → qs[i]? = some q → sz p.1 = some (q.1, q.2.1) ∧ (q.2.2.all AV.one = true → RvL K m q.2.2 p.2.cells.toList)) →
    fillC z qs = some z' → ∃ out, Instr.fill sz cells ps = some out ∧ RvL K m z' out.toList
  | [], [], z, cells, z', hz, _, _, hf => by
    simp only [fillC, Option.some.injEq] at hf; subst hf
    exact ⟨cells, rfl, hz⟩
  | p :: ps, q :: qs, z, cells, z', hz, hl, hp, hf => by
    obtain ⟨off, k, x⟩ := q
    obtain ⟨i, u⟩ := p
    simp only [fillC] at hf
    cases hc : (Nat.beq x.length k && Nat.ble (off + k) z.length && x.all AV.one) with
    | false => simp [hc] at hf
    | true =>
      simp only [hc, cond_true] at hf
      simp only [Bool.and_eq_true, nbeq, nble, decide_eq_true_eq] at hc
      obtain ⟨⟨hxk, hle⟩, hone⟩ := hc
      obtain ⟨h1, h2⟩ := hp 0 (i, u) (off, k, x) rfl rfl
      have hxu := h2 hone
      have hul : u.cells.size = k := by rw [← Array.length_toList, hxu.length, hxk]
      have hzl : cells.size = z.length := by rw [← Array.length_toList, hz.length]
      have hfold : (u.cells.zipIdx.foldl (fun cs (c, j) => cs.setIfInBounds (off + j) c) cells).toList = cells.toList.take off ++ u.cells.toList ++ cells.toList.drop (off + k) := by
        rw [← Array.foldl_toList, Array.toList_zipIdx]
        have := fold_writeRow u.cells.toList off 0 cells
        simp only [Nat.add_zero] at this
        rw [this, toList_writeRow (by simp; omega)]
        simp [hul]
      have hz' : RvL K m (z.take off ++ x ++ z.drop (off + k)) (u.cells.zipIdx.foldl (fun cs (c, j) => cs.setIfInBounds (off + j) c) cells).toList := by
        rw [hfold]
        exact ((hz.take off).append hxu).append (hz.drop (off + k))
      obtain ⟨out, ho1, ho2⟩ := fill_ok (ps := ps) (qs := qs) hz' (by simpa using hl) (fun i p q hpi hqi => hp (i + 1) p q (by simpa using hpi) (by simpa using hqi)) hf
      refine ⟨out, ?_, ho2⟩
      simp only [Instr.fill, h1]
      have hn : ¬ (u.cells.size ≠ k ∨ off + u.cells.size > cells.size) := by
        rw [hul, hzl]; omega
      simp only [Bool.or_eq_true, decide_eq_true_eq]
      rw [if_neg (by simpa using hn)]
      exact ho1
  | [], _ :: _, _, _, _, _, hl, _, _ => by simp at hl
  | _ :: _, [], _, _, _, _, hl, _, _ => by simp at hl

theorem allInfo_get {fs : List Field} (hf : allInfo P fs = true) : ∀ f ∈ fs, ∃ i, P.info? f.type = some i := by
  induction fs with
  | nil => simp
  | cons f fs ih =>
    simp only [allInfo, Bool.and_eq_true] at hf
    intro g hg
    rcases List.mem_cons.1 hg with rfl | hg
    · exact Option.isSome_iff_exists.1 hf.1
    · exact ih hf.2 g hg

theorem run_placesL (w : World) : ∀ (l : List Field), (∀ f ∈ l, ∃ i, P.info? f.type = some i) →
    (l.mapM fun f => do pure (f.offset, ← sizeOf f.type) : Sem (List (Nat × Nat))).run P w = .ok (l.map fun f => (f.offset, P.cellsOf f.type)) w
  | [], _ => by simp
  | f :: l, hf => by
    obtain ⟨i, hi⟩ := hf f (by simp)
    have ih := run_placesL w l fun g hg => hf g (by simp [hg])
    simp only [List.mapM_cons, Sem.run_bind, run_size hi, Result.andThen_ok, Sem.run_pure]
    rw [ih]
    simp [Program.cellsOf, hi]

theorem run_places (fs : Array Field) (hf : ∀ f ∈ fs.toList, ∃ i, P.info? f.type = some i) (w : World) :
    (fs.mapM fun f => do pure (f.offset, ← sizeOf f.type) : Sem (Array (Nat × Nat))).run P w = .ok (fs.map fun f => (f.offset, P.cellsOf f.type)) w := by
  obtain ⟨l⟩ := fs
  rw [List.mapM_toArray, Sem.run_map, run_placesL w l hf]
  simp

theorem partsS_get {fs : Array Field} : ∀ {ps : List (Nat × Operand)} {qs : List (Nat × Nat × DO)}, partsS P fs ps qs = true → ps.length = qs.length ∧
    ∀ (i : Nat) (p : Nat × Operand) (q : Nat × Nat × DO), ps[i]? = some p → qs[i]? = some q → (∃ f, fs[p.1]? = some f ∧ f.offset = q.1 ∧ P.cellsOf f.type = q.2.1) ∧ okO p.2 q.2.2 = true
  | [], [], _ => ⟨rfl, fun i p q h => by simp at h⟩
  | (i, x) :: ps, (off, k, y) :: qs, h => by
    simp only [partsS, Bool.and_eq_true] at h
    obtain ⟨⟨h1, h2⟩, h3⟩ := h
    obtain ⟨hl, hg⟩ := partsS_get h3
    refine ⟨by simp [hl], fun j p q hp hq => ?_⟩
    cases j with
    | zero =>
      simp at hp hq; subst hp hq
      refine ⟨?_, h2⟩
      split at h1
      · rename_i f hf
        simp only [Bool.and_eq_true, nbeq, decide_eq_true_eq] at h1
        obtain ⟨inf, hi, hsz⟩ := ckSize_info h1.2
        exact ⟨f, hf, h1.1, by simp [Program.cellsOf, hi, hsz]⟩
      · cases h1
    | succ j => exact hg j p q (by simpa using hp) (by simpa using hq)
  | [], _ :: _, h => by simp [partsS] at h
  | _ :: _, [], h => by simp [partsS] at h

theorem partsA_get {z : Nat} : ∀ {ps : List (Nat × Operand)} {qs : List (Nat × Nat × DO)}, partsA z ps qs = true → ps.length = qs.length ∧
    ∀ (i : Nat) (p : Nat × Operand) (q : Nat × Nat × DO), ps[i]? = some p → qs[i]? = some q → (q.1 = p.1 * z ∧ q.2.1 = z) ∧ okO p.2 q.2.2 = true
  | [], [], _ => ⟨rfl, fun i p q h => by simp at h⟩
  | (i, x) :: ps, (off, k, y) :: qs, h => by
    simp only [partsA, Bool.and_eq_true, nbeq, decide_eq_true_eq] at h
    obtain ⟨⟨⟨h1, h2⟩, h3⟩, h4⟩ := h
    obtain ⟨hl, hg⟩ := partsA_get h4
    refine ⟨by simp [hl], fun j p q hp hq => ?_⟩
    cases j with
    | zero => simp at hp hq; subst hp hq; exact ⟨⟨h1, h2⟩, h3⟩
    | succ j => exact hg j p q (by simpa using hp) (by simpa using hq)
  | [], _ :: _, h => by simp [partsA] at h
  | _ :: _, [], h => by simp [partsA] at h

theorem partsL_get : ∀ {ps : List (Nat × Operand)} {qs : List (Nat × DO)}, partsL ps qs = true → ps.length = qs.length ∧
    ∀ (i : Nat) (p : Nat × Operand) (q : Nat × DO), ps[i]? = some p → qs[i]? = some q → q.1 = p.1 ∧ okO p.2 q.2 = true
  | [], [], _ => ⟨rfl, fun i p q h => by simp at h⟩
  | (i, x) :: ps, (j, y) :: qs, h => by
    simp only [partsL, Bool.and_eq_true, nbeq, decide_eq_true_eq] at h
    obtain ⟨⟨h1, h2⟩, h4⟩ := h
    obtain ⟨hl, hg⟩ := partsL_get h4
    refine ⟨by simp [hl], fun j p q hp hq => ?_⟩
    cases j with
    | zero => simp at hp hq; subst hp hq; exact ⟨h1.symm, h2⟩
    | succ j => exact hg j p q (by simpa using hp) (by simpa using hq)
  | [], _ :: _, h => by simp [partsL] at h
  | _ :: _, [], h => by simp [partsL] at h

theorem ok_build (r : Rel P K m h w) (he : REnv K m n e a) {z : List AV} {qs : List (Nat × Nat × DO)} (ho : okIns P o.op (.build z qs) = true) (hs : step call e h (.build z qs) = .ok v h') :
    StepOk P (execOp a.eval o) K m h w v h' := by
  obtain ⟨dst, op, ty, pos, after, guard⟩ := o
  simp only [okIns] at ho
  split at ho
  · rename_i t ps
    simp only [Bool.and_eq_true] at ho
    obtain ⟨hzc, hparts⟩ := ho
    obtain ⟨inf, zv, hi, hzv, hzok, hsz⟩ := ckZeroC_info hzc
    have hz0 : ∀ w : World, (zeroValue t).run P w = .ok zv w := fun w => run_zero hi hzv
    have hzr : RvL K m z zv.cells.toList := okVals_rv _ _ hzok
    simp only [step] at hs
    split at hs
    · rename_i cs hcs
      simp only [Res.ok.injEq] at hs
      obtain ⟨rfl, rfl⟩ := hs
      have hmap : ∀ {sz : Nat → Option (Nat × Nat)}, (∀ (i : Nat) (p : Nat × Operand) (q : Nat × Nat × DO), ps.toList[i]? = some p → qs[i]? = some q → sz p.1 = some (q.1, q.2.1)) →
          ps.toList.length = qs.length → (∀ (i : Nat) (p : Nat × Operand) (q : Nat × Nat × DO), ps.toList[i]? = some p → qs[i]? = some q → okO p.2 q.2.2 = true) →
          ∃ out, Instr.fill sz zv.cells (ps.toList.map fun p => (p.1, a.eval p.2)) = some out ∧ RvL K m cs out.toList := by
        intro sz h1 h2 h3
        refine fill_ok hzr (by simpa using h2) ?_ hcs
        intro i p q hp hq
        simp only [List.getElem?_map, Option.map_eq_some_iff] at hp hq
        obtain ⟨p0, hp0, rfl⟩ := hp
        obtain ⟨q0, hq0, rfl⟩ := hq
        exact ⟨h1 i p0 q0 hp0 hq0, fun hone => (he.eval (h3 i p0 q0 hp0 hq0)).cells hone⟩
      split at hparts
      · rename_i fs hu
        simp only [Bool.and_eq_true] at hparts
        obtain ⟨hall, hps⟩ := hparts
        obtain ⟨hl, hg⟩ := partsS_get hps
        obtain ⟨out, hfill, hout⟩ := hmap (sz := fun i => (fs.map fun f => (f.offset, P.cellsOf f.type))[i]?) (fun i p q hp hq => by
          obtain ⟨⟨f, hf, h1, h2⟩, _⟩ := hg i p q hp hq
          simp [hf, h1, h2]) hl (fun i p q hp hq => (hg i p q hp hq).2)
        refine .val r (x := .agg out) ?_ (.agg hout)
        simp only [execOp, Instr.build, Sem.run_bind, hz0, Result.andThen_ok, run_und hu, run_places fs (allInfo_get hall), Array.toList_map]
        rw [hfill]
        simp
      · rename_i l0 el hu
        split at hparts
        · rename_i ei hei
          obtain ⟨hl, hg⟩ := partsA_get hparts
          obtain ⟨out, hfill, hout⟩ := hmap (sz := fun i => some (i * ei.size, ei.size)) (fun i p q hp hq => by
            obtain ⟨⟨h1, h2⟩, _⟩ := hg i p q hp hq
            rw [h1, h2]) hl (fun i p q hp hq => (hg i p q hp hq).2)
          refine .val r (x := .agg out) ?_ (.agg hout)
          simp only [execOp, Instr.build, Sem.run_bind, hz0, Result.andThen_ok, run_und hu, run_size hei, Array.toList_map]
          rw [hfill]
          simp
        · cases hparts
      · cases hparts
    · cases hs
  · simp at ho
end
end Go.D
