/-
  The abstract evaluator 'D': instructions that call nobody, one by one (sixth part): new objects.
-/
import Derived.Test.YtgdenjkiblpnpaaGreatDL
namespace Go.D
section
variable {P : Program} {K : Km} {m : Mm} {h h' : Heap} {w : World} {v : AV} {n : Nat} {e : Env} {a : Act} {o : Oper} {call : Caller}

theorem flat_set {z : Nat} : ∀ {es : List (List AV)} {i : Nat} {x : List AV}, (∀ c ∈ es, c.length = z) → x.length = z → i < es.length →
    (es.set i x).flatten = es.flatten.take (i * z) ++ x ++ es.flatten.drop (i * z + z)
  | [], i, x, _, _, h => by simp at h
  | c :: es, 0, x, hl, hx, _ => by
    have hc : c.length = z := hl c (by simp)
    simp [← hc]
  | c :: es, i + 1, x, hl, hx, h => by
    have hc : c.length = z := hl c (by simp)
    have ih := flat_set (es := es) (i := i) (x := x) (fun y hy => hl y (by simp [hy])) hx (by simpa using h)
    have e1 : (i + 1) * z = c.length + i * z := by rw [Nat.succ_mul, hc]; omega
    rw [List.set_cons_succ, List.flatten_cons, ih, List.flatten_cons, e1, List.take_length_add_append, Nat.add_assoc, List.drop_length_add_append]
    simp

theorem fillS_fillC {z : Nat} : ∀ {ps : List (Nat × List AV)} {es es' : List (List AV)}, (∀ c ∈ es, c.length = z) → fillS z es ps = some es' →
    fillC es.flatten (ps.map fun p => (p.1 * z, z, p.2)) = some es'.flatten ∧ (∀ c ∈ es', c.length = z) ∧ es'.length = es.length
  | [], es, es', hl, h => by simp only [fillS, Option.some.injEq] at h; subst h; exact ⟨rfl, hl, rfl⟩
  | (i, x) :: ps, es, es', hl, h => by
    simp only [fillS] at h
    cases hc : (Nat.beq x.length z && Nat.blt i es.length && x.all AV.one) with
    | false => simp [hc] at h
    | true =>
      simp only [hc, cond_true] at h
      simp only [Bool.and_eq_true, nbeq, nblt, decide_eq_true_eq] at hc
      obtain ⟨⟨hx, hi⟩, hone⟩ := hc
      have hl' : ∀ c ∈ es.set i x, c.length = z := fun c hc => by
        rcases List.mem_or_eq_of_mem_set hc with h1 | h1
        · exact hl c h1
        · rw [h1]; exact hx
      obtain ⟨h1, h2, h3⟩ := fillS_fillC hl' h
      refine ⟨?_, h2, by simpa using h3⟩
      simp only [List.map_cons, fillC]
      have hle : i * z + z ≤ es.flatten.length := by
        rw [flat_length hl, ← Nat.succ_mul]; exact Nat.mul_le_mul_right z hi
      have hcond : (Nat.beq x.length z && Nat.ble (i * z + z) es.flatten.length && x.all AV.one) = true := by
        simp only [Bool.and_eq_true, nbeq, nble, decide_eq_true_eq]; exact ⟨⟨hx, hle⟩, hone⟩
      rw [hcond, cond_true, ← flat_set hl hx hi]
      exact h1

theorem replicate_flat (k : Nat) (z : List AV) : ∀ c ∈ List.replicate k z, c.length = z.length := fun c hc => by rw [(List.mem_replicate.1 hc).2]

/-- a row of so many zeros -/
theorem zeros_rv {z : List AV} {zs : List Value} (hz : RvL K m z zs) : ∀ k : Nat, RvL K m (List.replicate k z).flatten (List.replicate k zs).flatten
  | 0 => .nil
  | k + 1 => by rw [List.replicate_succ, List.replicate_succ, List.flatten_cons, List.flatten_cons]; exact hz.append (zeros_rv hz k)

theorem zeros_eq {zs : Array Value} (h0 : 0 < zs.size) (k : Nat) : ((Array.range (k * zs.size)).map fun i => zs[i % zs.size]!).toList = (List.replicate k zs.toList).flatten := by
  apply List.ext_getElem?
  intro i
  have hfl : ∀ (k i : Nat), (List.replicate k zs.toList).flatten[i]? = if i < k * zs.size then zs.toList[i % zs.size]? else none := by
    intro k
    induction k with
    | zero => intro i; simp
    | succ k ih =>
      intro i
      rw [List.replicate_succ, List.flatten_cons]
      by_cases hi : i < zs.size
      · have : i < (k + 1) * zs.size := by rw [Nat.succ_mul]; omega
        rw [List.getElem?_append_left (by simpa using hi), if_pos this, Nat.mod_eq_of_lt hi]
      · rw [List.getElem?_append_right (by simpa using hi), Array.length_toList, ih]
        have e1 : (i - zs.size < k * zs.size) ↔ (i < (k + 1) * zs.size) := by rw [Nat.succ_mul]; omega
        have e2 : (i - zs.size) % zs.size = i % zs.size := by
          rw [← Nat.mod_eq_sub_mod (by omega)]
        simp only [e1, e2]
  rw [hfl]
  by_cases hi : i < k * zs.size
  · have hm : i % zs.size < zs.size := Nat.mod_lt _ h0
    rw [if_pos hi]
    simp [hi, hm]
  · rw [if_neg hi]
    simp [Nat.le_of_not_lt hi]

theorem wrap_nat {q : Nat} (hq : q ≤ 17592186044416) : IntKind.i64.wrap (q : Int) = q := by
  have h1 : (q : Int) % (2 ^ 64) = q := Int.emod_eq_of_lt (by omega) (by omega)
  have h2 : ¬ ((q : Int) ≥ 2 ^ 63) := by omega
  unfold IntKind.wrap
  simp only [IntKind.signed, IntKind.bits, h1, Bool.true_and]
  rw [if_neg]
  simpa using h2

theorem rv_slice_new {m' : Mm} {b : Nat} {L : Loc} {z k : Nat} (hL : m' b = some L) (hsh : L.sh = 0) (hz : L.z = z) {len : Nat} :
    Rv K m' (.slice z b 0 len (some k)) (.slice (some ⟨L.c, 0, none⟩) len k) := .slicex hL (by rw [hsh]; simp) hz

theorem ok_bsl_row {t el : TypeId} {ps : Array (Nat × Operand)} {z : List AV} {len : Nat} {qs : List (Nat × DO)} (he : REnv K m n e a) (hel : sliceOf P t = some el) (hzc : ckZeroC P el z = true)
    (hps : partsL ps.toList qs = true) (hle : len * z.length ≤ 16777216) (h0 : 0 < z.length) {es : List (List AV)}
    (hes : fillS z.length (List.replicate len z) (qs.map fun p => (p.1, (p.2.ev e).cells)) = some es) (w : World) :
    ∃ row : Array Value, (Instr.buildSlice t len (ps.map fun (i, x) => (i, a.eval x))).run P w = .ok (.slice (some ⟨w.heap.size, 0, none⟩) len len) (w.alloc (.cells row el)) ∧
      (∀ cs ∈ es, cs.length = z.length) ∧ es.length = len ∧ RvL K m es.flatten row.toList := by
  have hu := sliceOf_und hel
  obtain ⟨inf, zv, hi, hzv, hzok, hsz⟩ := ckZeroC_info hzc
  have hz0 : ∀ w : World, (zeroValue el).run P w = .ok zv w := fun w => run_zero hi hzv
  have hzr : RvL K m z zv.cells.toList := okVals_rv _ _ hzok
  have hzs : zv.cells.size = z.length := by rw [← Array.length_toList, hzr.length]
  obtain ⟨hfc, hfl, hfn⟩ := fillS_fillC (replicate_flat len z) hes
  obtain ⟨hl, hg⟩ := partsL_get hps
  let zeros : Array Value := (Array.range (len * zv.cells.size)).map fun i => zv.cells[i % zv.cells.size]!
  have hzeros : zeros.toList = (List.replicate len zv.cells.toList).flatten := zeros_eq (by omega) len
  have hzrow : RvL K m (List.replicate len z).flatten zeros.toList := by rw [hzeros]; exact zeros_rv hzr len
  obtain ⟨out, hfill, hout⟩ := fill_ok (sz := fun i => some (i * inf.size, inf.size)) (ps := ps.toList.map fun p => (p.1, a.eval p.2)) hzrow (by simp [hl]) (fun i p q hp hq => by
    simp only [List.map_map, List.getElem?_map, Option.map_eq_some_iff, Function.comp] at hp hq
    obtain ⟨p0, hp0, rfl⟩ := hp
    obtain ⟨q0, hq0, rfl⟩ := hq
    obtain ⟨h1, h2⟩ := hg i p0 q0 hp0 hq0
    exact ⟨by simp [h1, hsz], fun hone => (he.eval h2).cells hone⟩) hfc
  refine ⟨out, ?_, hfl, by simpa using hfn, hout⟩
  have hnle : ¬ (len * inf.size > 2 ^ 24) := by rw [hsz]; omega
  by_cases hz1 : len * inf.size = 0
  · have hlen : len = 0 := by
      rcases Nat.mul_eq_zero.1 hz1 with h1 | h1
      · exact h1
      · omega
    subst hlen
    have hr0 : Array.range 0 = #[] := rfl
    have hzz : zeros = #[] := by simp [zeros, hr0]
    rw [hzz] at hfill
    simp only [Instr.buildSlice, Sem.run_bind, run_und hu, Result.andThen_ok, run_size hi]
    simp [newRow, hr0, hfill]
  · have hmap : ((Array.range (len * inf.size)).map fun x => zv.cells[x % zv.cells.size]!) = zeros := by simp [zeros, hsz, hzs]
    simp only [Instr.buildSlice, Sem.run_bind, run_und hu, Result.andThen_ok, run_size hi, if_neg hnle, if_neg hz1, Sem.run_pure, hz0, hmap, Array.toList_map]
    rw [hfill]
    simp [newRow]

/-- what an instruction lays, wherever its block is told to lie -/
theorem new_ok (he : REnv K m n e a) {ins : DIns} {ob : Ob} {f : Nat → AV} (ho : okIns P o.op ins = true) (hs : newOf e ins = some (ob, f)) :
    ∃ obj L x, (execOp a.eval o).run P w = .ok (.value x) (w.alloc obj) ∧ L.c = w.heap.size ∧ ∀ (b : Nat) (m' : Mm), m.le m' → m' b = some L → Rv K m' (f b) x ∧ RObj P K m' (w.alloc obj) L ob := by
  obtain ⟨dst, op, ty, pos, after, guard⟩ := o
  unfold newOf at hs
  split at hs
  · -- alloc
    rename_i z
    simp only [Option.some.injEq, Prod.mk.injEq] at hs
    obtain ⟨rfl, rfl⟩ := hs
    simp only [okIns] at ho
    split at ho
    · rename_i t
      obtain ⟨inf, zv, hi, hzv, hzok, hsz⟩ := ckZeroC_info ho
      have hzr : RvL K m z zv.cells.toList := okVals_rv _ _ hzok
      refine ⟨(.cells zv.cells t), ⟨w.heap.size, 0, z.length, 1⟩, .pointer (some ⟨w.heap.size, 0, none⟩), ?_, rfl, fun b m' hm hb => ⟨.ptr hb (by simp), ?_⟩⟩
      · simp [execOp, Instr.alloc, run_zero hi hzv, newVar, newRow]
      · refine .cells (fz := (0, 0)) rfl heap_alloc_new (.inl rfl) (by simp; rw [← Array.length_toList, hzr.length]) (by simp [Ct.size]) (fun _ => by simp [Ct.size]) ?_
        intro i cs hic
        simp only [Ct.get?] at hic
        cases i with
        | zero =>
          simp at hic; subst hic
          exact ⟨rfl, _, hzr.mono (.refl _) hm, fun j x hj => by rw [Array.getElem?_toList] at hj; simpa using hj⟩
        | succ i => simp at hic
    · simp at ho
  · -- box
    rename_i k y
    cases hc : (Nat.beq (y.ev e).cells.length k && (y.ev e).cells.all AV.one) with
    | false => simp [hc] at hs
    | true =>
      simp only [hc, cond_true, Option.some.injEq, Prod.mk.injEq] at hs
      obtain ⟨rfl, rfl⟩ := hs
      simp only [Bool.and_eq_true, nbeq, decide_eq_true_eq] at hc
      simp only [okIns] at ho
      split at ho
      · rename_i t x
        simp only [Bool.and_eq_true] at ho
        obtain ⟨hcells, hcs⟩ := ok_box_rel (he.eval ho.2) hc.1 hc.2
        refine ⟨(.cells (a.eval x).cells t), ⟨w.heap.size, 0, k, 1⟩, .pointer (some ⟨w.heap.size, 0, none⟩), ?_, rfl, fun b m' hm hb => ⟨.ptr hb (by simp), ?_⟩⟩
        · simp [execOp, Instr.box, newVar, newRow]
        · refine .cells (fz := (0, 0)) rfl heap_alloc_new (.inl rfl) (by simp [hcs]) (by simp [Ct.size]) (fun _ => by simp [Ct.size]) ?_
          intro i cs hic
          simp only [Ct.get?] at hic
          cases i with
          | zero =>
            simp at hic; subst hic
            exact ⟨hc.1, _, hcells.mono (.refl _) hm, fun j x hj => by rw [Array.getElem?_toList] at hj; simpa using hj⟩
          | succ i => simp at hic
      · simp at ho
  · -- bsl
    rename_i z len qs
    split at hs
    · rename_i es hes
      simp only [Option.some.injEq, Prod.mk.injEq] at hs
      obtain ⟨rfl, rfl⟩ := hs
      simp only [okIns] at ho
      split at ho
      · rename_i t len' ps
        simp only [Bool.and_eq_true, nbeq, nble, nblt, decide_eq_true_eq] at ho
        obtain ⟨⟨⟨rfl, hle⟩, h0⟩, h4⟩ := ho
        split at h4
        · rename_i el hel
          simp only [Bool.and_eq_true] at h4
          obtain ⟨row, hrun, hl1, hl2, hrv⟩ := ok_bsl_row (P := P) he hel h4.1 h4.2 hle h0 hes w
          have hrow : row.size = len' * z.length := by rw [← Array.length_toList, hrv.length, flat_length hl1, hl2]
          refine ⟨(.cells row el), ⟨w.heap.size, 0, z.length, len'⟩, _, ?_, rfl, fun b m' hm hb => ⟨rv_slice_new hb rfl rfl, ?_⟩⟩
          · simp only [execOp, Sem.run_bind, hrun]; rfl
          · refine .cells (fz := (0, 0)) rfl heap_alloc_new (.inl rfl) hrow (by simp [Ct.size, hl2]) (fun _ => by simp [Ct.size, hl2]) ?_
            intro i cs hic
            have hic' : es[i]? = some cs := hic
            refine ⟨hl1 cs (List.mem_of_getElem? hic'), (row.toList.drop (i * z.length)).take z.length, ?_, ?_⟩
            · have := (hrv.drop (i * z.length)).take z.length
              rw [flat_get hl1 hic'] at this
              exact this.mono (.refl _) hm
            · have h1 : RowAt row 0 row.toList := fun j x hj => by rw [Array.getElem?_toList] at hj; simpa using hj
              simpa using (h1.drop (i * z.length)).take z.length
        · cases h4
      · simp at ho
    · cases hs
  · -- mkmap
    simp only [Option.some.injEq, Prod.mk.injEq] at hs
    obtain ⟨rfl, rfl⟩ := hs
    have hrun : (execOp a.eval ⟨dst, op, ty, pos, after, guard⟩).run P w = .ok (.value (.map (some w.heap.size))) (w.alloc (.map #[] 0)) := by
      simp only [okIns] at ho
      split at ho
      · simp [execOp, Instr.makeMap]
      · rename_i t k q
        obtain ⟨kk, ee, hu⟩ := isMap_und ho
        simp [execOp, Instr.makeMap, run_und hu, Act.eval, asInt, asIntOf]
      · simp at ho
    refine ⟨_, ⟨w.heap.size, 0, 0, 0⟩, _, hrun, rfl, fun b m' hm hb => ⟨.map hb, ?_⟩⟩
    exact .map heap_alloc_new .nil .nil
  · -- mksl
    rename_i z bytes l c
    split at hs
    · rename_i ln cp hln hcp
      cases hc : (Nat.ble ln cp && roomy cp bytes && Nat.blt 0 z.length) with
      | false => simp [hc] at hs
      | true =>
        simp only [hc, cond_true, Option.some.injEq, Prod.mk.injEq] at hs
        obtain ⟨rfl, rfl⟩ := hs
        simp only [Bool.and_eq_true, nble, nblt, decide_eq_true_eq, roomy] at hc
        obtain ⟨⟨hle, hroom⟩, h0⟩ := hc
        simp only [okIns] at ho
        split at ho
        · rename_i t l' c'
          simp only [Bool.and_eq_true] at ho
          obtain ⟨⟨h1, h2⟩, h3⟩ := ho
          split at h1
          · rename_i el hel
            simp only [Bool.and_eq_true] at h1
            have hu := sliceOf_und hel
            obtain ⟨inf, zv, hi, hzv, hzok, hsz⟩ := ckZeroC_info h1.1
            obtain ⟨inf', hi', hby⟩ := ckBytes_info h1.2
            rw [hi] at hi'; cases hi'
            obtain ⟨kl, hkl⟩ := natOf_rv (he.eval h2) hln
            obtain ⟨kc, hkc⟩ := natOf_rv (he.eval h3) hcp
            have hzr : RvL K m z zv.cells.toList := okVals_rv _ _ hzok
            have hzs : zv.cells.size = z.length := by rw [← Array.length_toList, hzr.length]
            have hcp1 : cp ≤ 17592186044416 := by
              have : cp * 1 ≤ cp * (bytes + 1) := Nat.mul_le_mul_left cp (by omega)
              omega
            have hby1 : cp * inf.bytes ≤ 17592186044416 := by
              have : cp * inf.bytes ≤ cp * (bytes + 1) := Nat.mul_le_mul_left cp (by omega)
              omega
            let row : Array Value := (Array.range (cp * zv.cells.size)).map fun i => zv.cells[i % zv.cells.size]!
            have hrowl : row.toList = (List.replicate cp zv.cells.toList).flatten := zeros_eq (by omega) cp
            have hrows : row.size = cp * z.length := by simp [row, hzs]
            have hrun : (execOp a.eval ⟨dst, .makeSlice t l' c', ty, pos, after, guard⟩).run P w = .ok (.value (.slice (some ⟨w.heap.size, 0, none⟩) ln cp)) (w.alloc (.cells row el)) := by
              have w1 : IntKind.i64.wrap (ln : Int) = ln := wrap_nat (by omega)
              have w2 : IntKind.i64.wrap (cp : Int) = cp := wrap_nat (by omega)
              have hbig : ¬ (inf.bytes * (cp : Int) > 2 ^ 48) := by
                have e1 : (inf.bytes : Int) * (cp : Int) = ((cp * inf.bytes : Nat) : Int) := by rw [Nat.mul_comm]; simp
                rw [e1]; omega
              have hc0 : ¬ ((cp : Int) < 0) := by omega
              have hl0 : ¬ ((ln : Int) < 0) := by omega
              have hlc : ¬ ((ln : Int) > (cp : Int)) := by omega
              have hmap : ((Array.range (cp * inf.size)).map fun x => zv.cells[x % zv.cells.size]!) = row := by simp [row, hsz, hzs]
              simp only [execOp, hkl, hkc, Instr.makeSlice, Sem.run_bind, run_und hu, Result.andThen_ok, asInt, asIntOf, Sem.run_pure, run_info hi, w1, w2, hc0, hbig, hl0, hlc, decide_false, Bool.or_self,
                Bool.false_eq_true, if_false, run_askRoom, Int.toNat_natCast, run_size hi]
              by_cases hz1 : cp * inf.size = 0
              · have hcp0 : cp = 0 := by
                  rcases Nat.mul_eq_zero.1 hz1 with h5 | h5
                  · exact h5
                  · omega
                subst hcp0
                have hr0 : Array.range 0 = #[] := rfl
                simp [newRow, hr0, row]
              · simp only [if_neg hz1, run_zero hi hzv, Result.andThen_ok, Sem.run_bind, Sem.run_pure, hmap]
                simp [newRow]
            refine ⟨(.cells row el), ⟨w.heap.size, 0, z.length, cp⟩, _, hrun, rfl, fun b m' hm hb => ⟨rv_slice_new hb rfl rfl, ?_⟩⟩
            have hsize : (bif Nat.ble 1024 cp then Ct.tree cp z .lf else .list (List.replicate cp z)).size = cp := by
              cases Nat.ble 1024 cp <;> simp [Ct.size]
            refine .cells (fz := (0, 0)) rfl heap_alloc_new (.inl rfl) hrows (by rw [hsize]; simp) (fun _ => by rw [hsize]; simp) ?_
            intro i cs hic
            have hi2 : i < cp ∧ cs = z := by
              cases hb : Nat.ble 1024 cp with
              | true =>
                rw [hb] at hic
                simp only [cond_true, Ct.get?, Tr.get?_lf, Option.getD_none] at hic
                cases hb2 : Nat.ble cp i with
                | true => simp [hb2] at hic
                | false => simp [hb2] at hic; rw [nble, decide_eq_false_iff_not] at hb2; exact ⟨by omega, hic.symm⟩
              | false =>
                rw [hb] at hic
                simp only [cond_false, Ct.get?, List.getElem?_replicate] at hic
                split at hic
                · rename_i hlt; simp at hic; exact ⟨hlt, hic.symm⟩
                · cases hic
            obtain ⟨hi3, rfl⟩ := hi2
            refine ⟨rfl, zv.cells.toList, hzr.mono (.refl _) hm, fun j x hj => ?_⟩
            have hj2 : j < cs.length := by
              have := (List.getElem?_eq_some_iff.1 hj).1
              simpa [hzs] using this
            rw [← Array.getElem?_toList, hrowl]
            have hfl : (List.replicate cp zv.cells.toList).flatten[(0 + i) * cs.length + j]? = zv.cells.toList[j]? := by
              have hlt2 : (0 + i) * cs.length + j < cp * zv.cells.size := by
                rw [Nat.zero_add, hzs]
                calc i * cs.length + j < i * cs.length + cs.length := by omega
                  _ = (i + 1) * cs.length := by rw [Nat.succ_mul]
                  _ ≤ cp * cs.length := Nat.mul_le_mul_right _ hi3
              have hmod : ((0 + i) * cs.length + j) % zv.cells.size = j := by
                rw [Nat.zero_add, hzs, Nat.mul_comm, Nat.mul_add_mod]
                exact Nat.mod_eq_of_lt hj2
              rw [← zeros_eq (by omega) cp, Array.getElem?_toList, Array.getElem?_map, Array.getElem?_eq_getElem (by simpa using hlt2), Array.getElem_range, Option.map_some, hmod]
              have : j < zv.cells.size := by omega
              simp [this]
            rw [hfl]
            exact hj
          · cases h1
        · simp at ho
    · cases hs
  · -- rngs
    rename_i y
    split at hs
    · rename_i s0 hv
      simp only [Option.some.injEq, Prod.mk.injEq] at hs
      obtain ⟨rfl, rfl⟩ := hs
      simp only [okIns] at ho
      split at ho
      · rename_i t x
        simp only [Bool.and_eq_true] at ho
        have hu := isStr_und ho.2
        have hx := he.eval ho.1
        rw [hv] at hx
        generalize hz : a.eval x = z at hx
        cases hx with
        | str hx =>
          rename_i S
          refine ⟨(.stringIter S 0), ⟨w.heap.size, 0, 0, 0⟩, .pointer (some ⟨w.heap.size, 0, none⟩), ?_, rfl, fun b m' hm hb => ⟨.ptr hb (by simp), ?_⟩⟩
          · simp [execOp, hz, Instr.range, run_und hu]
          · exact .siter rfl heap_alloc_new hx
      · simp at ho
    · cases hs
  · cases hs

theorem ok_new (r : Rel P K m h w) (he : REnv K m n e a) {ins : DIns} {ob : Ob} {f : Nat → AV} (ho : okIns P o.op ins = true) (hs : newOf e ins = some (ob, f)) :
    ∃ m' w' x, (execOp a.eval o).run P w = .ok (.value x) w' ∧ m'.le m' ∧ Rv K m' (f h.next) x ∧ Rel P K m' (h.new ob) w' ∧ Ext K m h w K m' (h.new ob) w' ∧ (∀ b, b ≠ h.next → m' b = m b) := by
  obtain ⟨obj, L, x, h1, h2, h3⟩ := new_ok he ho hs
  obtain ⟨h4, h5⟩ := h3 h.next (m.put h.next L) (Mm.put_le m r.none_next) (Mm.put_self _ _ _)
  exact ⟨m.put h.next L, _, x, h1, .refl _, h4, r.new h2 h5, Ext.newB r h2, fun b hb => by simp [Mm.put, hb]⟩
end
end Go.D
