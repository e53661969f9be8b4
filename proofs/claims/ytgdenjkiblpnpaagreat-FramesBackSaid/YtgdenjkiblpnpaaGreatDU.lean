/-
  The abstract evaluator 'D': instructions that call nobody, one by one (twelfth part): copy, clear, text and bytes.
-/
import Derived.Test.YtgdenjkiblpnpaaGreatDS
import Derived.Laws.BytesString
namespace Go.D
section
variable {P : Program} {K : Km} {m : Mm} {h h' : Heap} {w : World} {v : AV} {n : Nat} {e : Env} {a : Act} {o : Oper} {call : Caller}

theorem rv_slice {z b i len : Nat} {cap : Option Nat} {X : Value} (hx : Rv K m (.slice z b i len cap) X) :
    ∃ L k, m b = some L ∧ X = .slice (some ⟨L.c, (L.sh + i) * L.z, none⟩) len k := by
  cases hx with
  | slicex hL hoo hz => subst hoo; exact ⟨_, _, hL, rfl⟩
  | sliceo hL hoo hn hz => subst hoo; exact ⟨_, _, hL, rfl⟩

theorem ElemsAt.uniform {es : List (List AV)} {X : Value} (hE : ElemsAt K m w es X) {c1 c2 : List AV} (h1 : c1 ∈ es) (h2 : c2 ∈ es) : c1.length = c2.length := by
  cases hE with
  | none h => subst h; cases h1
  | void h => subst h; cases h1
  | row hw hr hv hl hz => rw [hz _ h1, hz _ h2]
  | str h he =>
    subst he
    obtain ⟨b1, _, rfl⟩ := List.mem_map.1 h1
    obtain ⟨b2, _, rfl⟩ := List.mem_map.1 h2
    rfl

theorem ElemsAt.first0 {es : List (List AV)} {X : Value} (hE : ElemsAt K m w es X) (z : Nat) : (Builtin.firstCells z 0 X).run P w = .ok #[] w := by
  cases hE with
  | none h => simp [Builtin.firstCells]
  | void h => simp [Builtin.firstCells, loadCells, loadCellsFrom]
  | row hw hr hv hl hz => simp [Builtin.firstCells, loadCells, loadCellsFrom]
  | str h he =>
    simp [Builtin.firstCells]

theorem ok_cpy (r : Rel P K m h w) (he : REnv K m n e a) {z : Nat} {y1 y2 : DO} (ho : okIns P o.op (.cpy z y1 y2) = true) (hs : step call e h (.cpy z y1 y2) = .ok v h') :
    StepOk P (execOp a.eval o) K m h w v h' := by
  obtain ⟨dst, op, ty, pos, after, guard⟩ := o
  simp only [okIns] at ho
  split at ho
  · rename_i c
    obtain ⟨callee, args, argTypes⟩ := c
    simp only at ho
    split at ho
    · simp only [Bool.and_eq_true] at ho
      obtain ⟨h1, h2⟩ := ho
      obtain ⟨x1, x2, rfl, h3, h4⟩ := args2 h1
      split at h2
      · rename_i t ht
        split at h2
        · rename_i el hel
          have hu := sliceOf_und hel
          obtain ⟨inf, hi, hsz⟩ := ckSize_info h2
          have hx := he.eval h3
          have hy := he.eval h4
          simp only [step] at hs
          split at hs
          · rename_i es hes
            have hE := elemsOf_ok r hy hes
            have hlen := hE.len (P := P)
            split at hs
            · rename_i hm
              simp only [Res.ok.injEq] at hs
              obtain ⟨rfl, rfl⟩ := hs
              rw [hm] at hx
              generalize hmz : a.eval x1 = S at hx
              cases hx
              refine .val r (x := .int .i64 0) ?_ .int
              rw [run_builtin]
              simp [Go.builtin, Builtin.copy_, ht, hmz, run_und hu, hlen, run_size hi, hE.first0 (P := P), goInt]
            · rename_i hm
              simp only [Res.ok.injEq] at hs
              obtain ⟨rfl, rfl⟩ := hs
              rw [hm] at hx
              generalize hmz : a.eval x1 = S at hx
              cases hx
              refine .val r (x := .int .i64 0) ?_ .int
              rw [run_builtin]
              simp [Go.builtin, Builtin.copy_, ht, hmz, run_und hu, hlen, run_size hi, hE.first0 (P := P), goInt, storeCells]
            · rename_i z' b i len cap hm
              split at hs
              · rename_i z2 op ct hb
                cases hc : (Nat.beq z z2 && Nat.beq z z' && okElems z (es.take len) && Nat.ble (i + len) ct.size) with
                | false => simp [hc] at hs
                | true =>
                  simp only [hc, cond_true, Res.ok.injEq] at hs
                  obtain ⟨rfl, rfl⟩ := hs
                  simp only [Bool.and_eq_true, nbeq, nble, decide_eq_true_eq] at hc
                  obtain ⟨⟨⟨rfl, rfl⟩, hel2⟩, hfit⟩ := hc
                  obtain ⟨hnz, hone⟩ := okElems_spec hel2
                  rw [hm] at hx
                  obtain ⟨L, k, hL, hmz⟩ := rv_slice hx
                  obtain ⟨row, t2, fz, hz, hwr, hf, hn, hsh, hop, hcc⟩ := r.row hb hL
                  have hnl : (es.take len).length = Nat.min es.length len := by rw [List.length_take]; exact Nat.min_comm _ _
                  have hfirst : ∃ vs : List Value, (Builtin.firstCells z (Nat.min es.length len) (a.eval x2)).run P w = .ok vs.toArray w ∧ RvL K m (es.take len).flatten vs := by
                    cases hne : es.take len with
                    | nil =>
                      have h0 : Nat.min es.length len = 0 := by rw [← hnl, hne]; rfl
                      exact ⟨[], by rw [h0]; exact hE.first0 z, .nil⟩
                    | cons c1 cs =>
                      have hall : ∀ cs ∈ es, cs.length = z := fun cs hcs => by
                        have hc1 : c1 ∈ es.take len := by rw [hne]; simp
                        rw [hE.uniform hcs (List.mem_of_mem_take hc1)]
                        exact hnz c1 hc1
                      obtain ⟨vs, q1, q2⟩ := hE.first (P := P) hall (k := Nat.min es.length len) (Nat.min_le_left _ _)
                      refine ⟨vs, q1, ?_⟩
                      rw [← hne]
                      have : es.take (Nat.min es.length len) = es.take len := by
                        have e1 : Nat.min es.length len = min len es.length := Nat.min_comm _ _
                        rw [e1, ← List.take_eq_take_min]
                      rwa [this] at q2
                  obtain ⟨vs, hvs, hnv⟩ := hfirst
                  have hvl := hnv.length
                  rw [flat_length hnz] at hvl
                  have hle3 : (es.take len).length ≤ len := by simp; omega
                  obtain ⟨w', hrun, hrel, hext⟩ := r.write (ct' := ct.sets i (es.take len)) (o := (L.sh + i) * L.z) (xs := vs) hb hL (by simp)
                    (by rw [hvl, ← hz, ← Nat.add_mul]; exact Nat.mul_le_mul_right _ (by omega))
                    (hnv.oneCells hone) (fun row hc hle => hc.many (by rw [hz]; exact hnz) hnv (by omega) hle)
                  refine ⟨K, m, w', .int .i64 ((es.take len).length : Int), .inl ?_, .int, hrel, hext⟩
                  rw [run_builtin]
                  rw [← hsz] at hvs
                  simp [Go.builtin, Builtin.copy_, ht, hmz, run_und hu, hlen, run_size hi, hvs, hrun, goInt, hnl]
              · cases hs
            · cases hs
          · cases hs
        · cases h2
      · cases h2
    · cases ho
  · simp at ho

theorem ok_clr (r : Rel P K m h w) (he : REnv K m n e a) {z : List AV} {y : DO} (ho : okIns P o.op (.clr z y) = true) (hs : step call e h (.clr z y) = .ok v h') :
    StepOk P (execOp a.eval o) K m h w v h' := by
  obtain ⟨dst, op, ty, pos, after, guard⟩ := o
  simp only [okIns] at ho
  split at ho
  · rename_i c
    obtain ⟨callee, args, argTypes⟩ := c
    simp only at ho
    split at ho
    · simp only [Bool.and_eq_true] at ho
      obtain ⟨h1, h2⟩ := ho
      obtain ⟨x1, rfl, h3⟩ := args1 h1
      split at h2
      · rename_i t ht
        split at h2
        · rename_i el hel
          have hu := sliceOf_und hel
          obtain ⟨inf, zv, hi, hz, hzok, hsz⟩ := ckZeroC_info h2
          have hx := he.eval h3
          have hzr : RvL K m z zv.cells.toList := okVals_rv _ _ hzok
          have hzs : zv.cells.size = z.length := by rw [← Array.length_toList, hzr.length]
          simp only [step] at hs
          split at hs
          · rename_i hm
            simp only [Res.ok.injEq] at hs
            obtain ⟨rfl, rfl⟩ := hs
            rw [hm] at hx
            generalize hmz : a.eval x1 = S at hx
            cases hx
            refine .val r (x := .tuple #[]) ?_ (.tup .nil)
            rw [run_builtin]
            simp [Go.builtin, Builtin.clear_, ht, hmz, run_und hu]
          · rename_i hm
            simp only [Res.ok.injEq] at hs
            obtain ⟨rfl, rfl⟩ := hs
            rw [hm] at hx
            generalize hmz : a.eval x1 = S at hx
            cases hx
            refine .val r (x := .tuple #[]) ?_ (.tup .nil)
            rw [run_builtin]
            simp [Go.builtin, Builtin.clear_, ht, hmz, run_und hu]
          · rename_i z' b i len cap hm
            split at hs
            · rename_i z2 op ct hb
              cases hc : (Nat.beq z2 z.length && Nat.beq z2 z' && z.all AV.one && Nat.ble (i + len) ct.size) with
              | false => simp [hc] at hs
              | true =>
                simp only [hc, cond_true, Res.ok.injEq] at hs
                obtain ⟨rfl, rfl⟩ := hs
                simp only [Bool.and_eq_true, nbeq, nble, decide_eq_true_eq] at hc
                obtain ⟨⟨⟨rfl, rfl⟩, hone⟩, hfit⟩ := hc
                rw [hm] at hx
                obtain ⟨L, k, hL, hmz⟩ := rv_slice hx
                obtain ⟨row, t2, fz, hLz, hwr, hf, hn, hsh, hop, hcc⟩ := r.row hb hL
                have hnz := replicate_flat len z
                have hnv : RvL K m (List.replicate len z).flatten (List.replicate len zv.cells.toList).flatten := zeros_rv hzr len
                have hvl := hnv.length
                rw [flat_length hnz, List.length_replicate] at hvl
                have hone2 : (List.replicate len z).flatten.all AV.one = true := by
                  rw [List.all_eq_true] at hone ⊢
                  intro x hx
                  obtain ⟨l, hl, hxl⟩ := List.mem_flatten.1 hx
                  rw [(List.mem_replicate.1 hl).2] at hxl
                  exact hone x hxl
                obtain ⟨w', hrun, hrel, hext⟩ := r.write (ct' := ct.sets i (List.replicate len z)) (o := (L.sh + i) * L.z) (xs := (List.replicate len zv.cells.toList).flatten) hb hL (by simp)
                  (by rw [hvl, ← hLz, ← Nat.add_mul]; exact Nat.mul_le_mul_right _ (by omega))
                  (hnv.oneCells hone2) (fun row hc hle => hc.many (by rw [hLz]; exact hnz) hnv (by simpa using hfit) hle)
                refine ⟨K, m, w', .tuple #[], .inl ?_, .tup .nil, hrel, hext⟩
                rw [run_builtin]
                cases len with
                | zero =>
                  simp only [List.replicate_zero, List.flatten_nil, storeCells, Sem.run_pure, Result.ok.injEq, true_and] at hrun
                  simp [Go.builtin, Builtin.clear_, ht, hmz, run_und hu, hrun]
                | succ len =>
                  have hzc : (Builtin.zeroCells zv.cells (len + 1)).toList = (List.replicate (len + 1) zv.cells.toList).flatten := by
                    by_cases h0 : 0 < zv.cells.size
                    · exact zeros_eq h0 (len + 1)
                    · have h00 : zv.cells.toList = [] := List.length_eq_zero_iff.1 (by rw [Array.length_toList]; omega)
                      have : (Builtin.zeroCells zv.cells (len + 1)).toList.length = 0 := by rw [Array.length_toList, zeroCells_size]; simp [show zv.cells.size = 0 by omega]
                      rw [List.length_eq_zero_iff.1 this, h00]
                      simp
                  rw [← hzc] at hrun
                  simp [Go.builtin, Builtin.clear_, ht, hmz, run_und hu, run_zero hi hz, hrun]
            · cases hs
          · cases hs
        · cases h2
      · cases h2
    · cases ho
  · simp at ho

theorem bytesOf_spec : ∀ {es : List (List AV)} {ns : List Nat}, bytesOf es = some ns → (∀ x ∈ ns, x < 256) ∧ (es.flatten = ns.map fun x : Nat => AV.int .u8 (x : Int)) ∧ ns.length = es.length
  | [], ns, h => by simp only [bytesOf, Option.some.injEq] at h; subst h; simp
  | c :: es, ns, h => by
    unfold bytesOf at h
    split at h
    · rename_i heq; cases heq
    · rename_i x xs heq
      cases heq
      cases hx : Nat.blt x 256 with
      | false => simp [hx] at h
      | true =>
        simp only [hx, cond_true, Option.map_eq_some_iff] at h
        obtain ⟨ns', h1, rfl⟩ := h
        obtain ⟨h2, h3, h4⟩ := bytesOf_spec h1
        rw [nblt, decide_eq_true_eq] at hx
        refine ⟨fun y hy => ?_, by rw [List.flatten_cons, h3]; rfl, by simp [h4]⟩
        rcases List.mem_cons.1 hy with rfl | hy
        · exact hx
        · exact h2 y hy
    · cases h

theorem rvl_bytes : ∀ {ns : List Nat} {vs : List Value}, RvL K m (ns.map fun x : Nat => AV.int .u8 (x : Int)) vs → vs = ns.map fun x : Nat => Value.int .u8 (x : Int)
  | [], vs, h => by cases h; rfl
  | x :: ns, vs, h => by
    simp only [List.map_cons] at h
    cases h with
    | cons h t => rw [rvl_bytes t, rv_int h]; rfl

theorem push_bytes : ∀ (ns : List Nat) (acc : ByteArray) (s : List Nat), (∀ x ∈ ns, x < 256) → acc.data.toList.map UInt8.toNat = s →
    (((ns.map fun x : Nat => (x : Int)).foldl (fun r x => r.push (UInt8.ofNat x.toNat)) acc).data.toList.map UInt8.toNat) = s ++ ns
  | [], acc, s, _, h => by simpa using h
  | x :: ns, acc, s, hx, h => by
    rw [List.map_cons, List.foldl_cons, push_bytes ns (acc.push (UInt8.ofNat (x : Int).toNat)) (s ++ [x]) (fun y hy => hx y (by simp [hy])) ?_]
    · simp
    · have : x < 256 := hx x (by simp)
      simp only [ByteArray.push, Array.toList_push, List.map_append, h, List.map_cons, List.map_nil, Int.toNat_natCast]
      congr 2
      simp [UInt8.toNat_ofNat']
      omega

theorem ok_cvbs (r : Rel P K m h w) (he : REnv K m n e a) {y : DO} (ho : okIns P o.op (.cvbs y) = true) (hs : step call e h (.cvbs y) = .ok v h') :
    StepOk P (execOp a.eval o) K m h w v h' := by
  obtain ⟨dst, op, ty, pos, after, guard⟩ := o
  simp only [okIns] at ho
  split at ho
  · rename_i src d x
    simp only [Bool.and_eq_true] at ho
    obtain ⟨⟨h1, h2⟩, h3⟩ := ho
    split at h1
    · rename_i el hel
      have hu := sliceOf_und hel
      have hu8 := isIntK_und h1
      have hd := isStr_und h2
      have hx := he.eval h3
      simp only [step] at hs
      split at hs
      · cases hs
      · rename_i hns
        split at hs
        · rename_i es hes
          cases hb : bytesOf es with
          | none => simp [hb, Res.of] at hs
          | some ns =>
            simp only [hb, Option.map_some, Res.of, Res.ok.injEq] at hs
            obtain ⟨rfl, rfl⟩ := hs
            obtain ⟨h4, h5, h6⟩ := bytesOf_spec hb
            have hE := elemsOf_ok r hx hes
            have hrun : ∃ S, (Conv.bytesToString (a.eval x)).run P w = .ok (.string S) w ∧ S.data.toList.map UInt8.toNat = ns := by
              generalize hX : a.eval x = X at hE hx
              cases hE with
              | none h =>
                subst h
                simp only [bytesOf, Option.some.injEq] at hb; subst hb
                exact ⟨_, by simp [Conv.bytesToString]; rfl, by simp⟩
              | void h =>
                rename_i A k
                subst h
                simp only [bytesOf, Option.some.injEq] at hb; subst hb
                have := run_bytesToString (P := P) w A 0 k [] (by simp [loadCells, loadCellsFrom])
                exact ⟨_, this, by simp⟩
              | row hw hr hv hl hz =>
                rename_i c o0 len k z row t fz vs
                rw [h5] at hv
                have hvs := rvl_bytes hv
                have hlen : len = vs.length := by
                  rw [hvs, hl]; simp [h6]
                have hl2 := run_loadCells_row P hw hlen hr
                rw [hvs] at hl2
                have := run_bytesToString (P := P) w ⟨c, o0, none⟩ len k (ns.map fun x : Nat => (x : Int)) (by rw [hl2, List.map_map]; rfl)
                refine ⟨_, this, ?_⟩
                have := push_bytes ns ByteArray.empty [] h4 rfl
                simpa using this
              | str h he =>
                cases hy : y.ev e <;> rw [hy] at hx <;> cases hx
                · rw [hy] at hes; cases hes
                · exact absurd hy (hns _)
            obtain ⟨S, hS, hSn⟩ := hrun
            refine .val r (x := .string S) ?_ (.str hSn)
            have hsl : ∃ A l k, a.eval x = .slice A l k := by
              generalize hX : a.eval x = X at hE hx
              cases hE with
              | none h => exact ⟨_, _, _, rfl⟩
              | void h => exact ⟨_, _, _, rfl⟩
              | row hw hr hv hl hz => exact ⟨_, _, _, rfl⟩
              | str h he =>
                cases hy : y.ev e <;> rw [hy] at hx <;> cases hx
                · rw [hy] at hes; cases hes
                · exact absurd hy (hns _)
            obtain ⟨A, l, k, hsl⟩ := hsl
            rw [hsl] at hS
            cases A <;> simp [execOp, hsl, convert, run_und hu, run_und hd, run_und hu8, hS]
        · cases hs
    · cases h1
  · simp at ho

theorem ok_cvsl (r : Rel P K m h w) (he : REnv K m n e a) {y : DO} (ho : okIns P o.op (.cvsl y) = true) (hs : step call e h (.cvsl y) = .ok v h') :
    StepOk P (execOp a.eval o) K m h w v h' := by
  obtain ⟨dst, op, ty, pos, after, guard⟩ := o
  simp only [okIns] at ho
  split at ho
  · rename_i src d x
    simp only [Bool.and_eq_true, nbeq, decide_eq_true_eq] at ho
    obtain ⟨⟨h1, rfl⟩, h3⟩ := ho
    split at h1
    · rename_i el hel
      have hu := sliceOf_und hel
      have hu8 := isIntK_und h1
      have hx := he.eval h3
      simp only [step] at hs
      split at hs
      · rename_i z b i len cap hm
        split at hs
        · rename_i esz op ct hb
          simp only [Res.ok.injEq] at hs
          obtain ⟨rfl, rfl⟩ := hs
          rw [hm] at hx
          obtain ⟨L, k, hL, hX⟩ := rv_slice hx
          obtain ⟨row, t2, fz, hLz, hwr, hf, hn, hsh, hop, hcc⟩ := r.row hb hL
          let fz' : Nat × Nat := if fz.1 == fz.2 then (row.size, row.size + 1) else (min fz.1 row.size, max fz.2 (row.size + 1))
          have hw' : ∀ c, (w.freeze ⟨L.c, row.size, none⟩ 1).heap[c]? = if c = L.c then some (.cells row t2 fz') else w.heap[c]? := by
            intro c
            unfold World.freeze
            simp only [Nat.one_ne_zero, if_false]
            rw [Array.getElem?_modify]
            by_cases e1 : L.c = c
            · subst e1
              rw [if_pos rfl, if_pos rfl, hwr]
              rfl
            · rw [if_neg e1, if_neg (Ne.symm e1)]
          have hf' : fz'.2 = fz'.1 ∨ row.size ≤ fz'.1 := by
            right
            show row.size ≤ (if fz.1 == fz.2 then (row.size, row.size + 1) else (min fz.1 row.size, max fz.2 (row.size + 1))).1
            split
            · exact Nat.le_refl _
            · rename_i hne
              rcases hf with h1 | h1
              · exact absurd (by simp [h1]) hne
              · simp; omega
          have hoth : ∀ c, c ≠ L.c → (w.freeze ⟨L.c, row.size, none⟩ 1).heap[c]? = w.heap[c]? := fun c hc => by rw [hw', if_neg hc]
          refine ⟨K, m, w.freeze ⟨L.c, row.size, none⟩ 1, a.eval x, .inl ?_, hx, r.set hb hL hoth ?_, Ext.setB hb hL hoth ?_ rfl rfl rfl⟩
          · have hsh : (shape L.c).run P w = .ok (some (t2, row.size)) w := by simp [shape, Sem.run, World.shape?, hwr]
            have hfr : (freeze ⟨L.c, row.size, none⟩ 1).run P w = .ok () (w.freeze ⟨L.c, row.size, none⟩ 1) := by simp [freeze, Sem.run]
            simp [execOp, hX, convert, run_und hu, run_und hu8, markStringish, hsh, hfr]
          · exact .cells hLz (by rw [hw', if_pos rfl]) hf' hn hsh hop hcc
          · simp [World.freeze]
        · cases hs
      · cases hs
    · cases h1
  · simp at ho

theorem ok_nxts (r : Rel P K m h w) (he : REnv K m n e a) {y : DO} (ho : okIns P o.op (.nxts y) = true) (hs : step call e h (.nxts y) = .ok v h') :
    StepOk P (execOp a.eval o) K m h w v h' := by
  obtain ⟨dst, op, ty, pos, after, guard⟩ := o
  simp only [okIns] at ho
  split at ho
  · rename_i x
    have hx := he.eval ho
    simp only [step] at hs
    split at hs
    · rename_i b hm
      rw [hm] at hx
      split at hs
      · rename_i s p hb
        generalize hX : a.eval x = X at hx
        cases hx with
        | ptr hL hoo =>
          rename_i o0 L
          cases r.ob _ _ hb _ hL with
          | siter hsh hw hxs =>
            rename_i S
            have ho0 : o0 = 0 := by rw [hoo, hsh]; simp
            subst ho0
            have hg : (getObj L.c).run P w = .ok (.stringIter S p) w := by simp [getObj, Sem.run, hw]
            have hsz : S.size = s.length := by rw [← hxs, List.length_map, Array.length_toList]; rfl
            split at hs
            · rename_i hp
              simp only [Res.ok.injEq] at hs
              obtain ⟨rfl, rfl⟩ := hs
              have hge : ¬ (p < S.size) := by
                rw [List.getElem?_eq_none_iff] at hp
                omega
              refine .val r (x := .tuple #[.bool false]) ?_ (.tup (.one .bool))
              simp [execOp, hX, Instr.next, hg, hge]
            · rename_i c hp
              cases hc : Nat.blt c 128 with
              | false => simp [hc] at hs
              | true =>
                simp only [hc, cond_true, Res.ok.injEq] at hs
                obtain ⟨rfl, rfl⟩ := hs
                rw [nblt, decide_eq_true_eq] at hc
                have hlt0 := (List.getElem?_eq_some_iff.1 hp).1
                have hlt : p < S.size := by omega
                have hget : (S.get! p).toNat = c := by
                  have e1 : (S.data.toList.map UInt8.toNat)[p]? = some c := by rw [hxs]; exact hp
                  rw [List.getElem?_map, Option.map_eq_some_iff] at e1
                  obtain ⟨y, e2, e3⟩ := e1
                  rw [← e3]
                  congr 1
                  rw [Array.getElem?_toList] at e2
                  show S.data[p]! = y
                  rw [getElem!_def, e2]
                have hdec : Utf8.decode S p = (c, 1) := by
                  unfold Utf8.decode
                  simp only [Nat.add_zero, hget]
                  rw [if_pos hc]
                have hoth : ∀ q, q ≠ L.c → (w.heap.setIfInBounds L.c (.stringIter S (p + 1)))[q]? = w.heap[q]? := fun q hq => Array.getElem?_setIfInBounds_ne (Ne.symm hq)
                have hltc : L.c < w.heap.size := r.lt hb hL
                refine ⟨K, m, { w with heap := w.heap.setIfInBounds L.c (.stringIter S (p + 1)) }, .tuple #[.bool true, .int .i64 (p : Int), .int .i32 (c : Int)], .inl ?_,
                  .tup (.cons .bool (.cons .int (.cons .int .nil))), r.set hb hL hoth (.siter hsh ?_ hxs), Ext.setB hb hL hoth ?_ rfl rfl rfl⟩
                · have hst : (setObj L.c (.stringIter S (p + 1))).run P w = .ok () { w with heap := w.heap.setIfInBounds L.c (.stringIter S (p + 1)) } := by simp [setObj, Sem.run, hw]
                  simp [execOp, hX, Instr.next, hg, hlt, hdec, hst, goInt]
                · simp [hltc]
                · simp
      · cases hs
    · cases hs
  · simp at ho
end
end Go.D
