/-
  The abstract evaluator 'D': instructions that call nobody, one by one (ninth part): stores, maps, append.
-/
import Derived.Test.YtgdenjkiblpnpaaGreatDP
namespace Go.D
section
variable {P : Program} {K : Km} {m : Mm} {h h' : Heap} {w : World} {v : AV} {n : Nat} {e : Env} {a : Act} {o : Oper} {call : Caller}

theorem row_apart {s i j z : Nat} (h : j < i) : (s + j) * z + z ≤ (s + i) * z := by
  rw [← Nat.succ_mul]; exact Nat.mul_le_mul_right z (by omega)

/-- cells of a live block are written -/
theorem Rel.write (r : Rel P K m h w) {b z : Nat} {op : Bool} {ct ct' : Ct} (hb : h.get b = some (.cells z op ct)) {L : Loc} (hL : m b = some L) (hsz : ct'.size = ct.size) {o : Nat}
    {xs : List Value} (hle : o + xs.length ≤ (L.sh + ct.size) * L.z) (hone : ∀ x ∈ xs, x.oneCell' = true)
    (hc' : ∀ row, CellsAt K m row L ct → o + xs.length ≤ row.size → CellsAt K m (writeRow row o xs) L ct') :
    ∃ w', (storeCells ⟨L.c, o, none⟩ xs 0).run P w = .ok () w' ∧ Rel P K m (h.set b (.cells z op ct')) w' ∧ Ext K m h w K m (h.set b (.cells z op ct')) w' := by
  obtain ⟨row, t, fz, hz, hw, hf, hn, hsh, hop, hc⟩ := r.row hb hL
  have hle2 : o + xs.length ≤ row.size := by
    rw [hn]; exact Nat.le_trans hle (Nat.mul_le_mul_right _ hsh)
  obtain ⟨w', hrun, hset⟩ := run_storeCells_row P L.c o t fz xs 0 w row hw hf (by omega) hone
  refine ⟨w', hrun, r.set hb hL hset.other ?_, Ext.setB hb hL hset.other hset.size hset.os hset.output hset.tape⟩
  refine .cells hz hset.at_ (by simpa using hf) (by simpa using hn) (by rw [hsz]; exact hsh) (by rw [hsz]; exact hop) ?_
  exact hc' row hc hle2

theorem CellsAt.one {row : Array Value} {L : Loc} {ct : Ct} (hc : CellsAt K m row L ct) {i off k : Nat} {y x : List AV} {xs : List Value} (hy : ct.get? i = some y) (hxk : x.length = k)
    (hok : off + k ≤ y.length) (hx : RvL K m x xs) (hle : (L.sh + i) * L.z + off + xs.length ≤ row.size) :
    CellsAt K m (writeRow row ((L.sh + i) * L.z + off) xs) L (ct.set i (y.take off ++ x ++ y.drop (off + k))) := by
  have hi := Ct.lt_of_get? hy
  have hxl : xs.length = k := hx.length.trans hxk
  intro j cs hj
  rw [Ct.get?_set _ _ _ _ hi] at hj
  by_cases e : j = i
  · subst e
    rw [if_pos rfl, Option.some.injEq] at hj; subst hj
    obtain ⟨hyl, vs, hvs, hr⟩ := hc j y hy
    have hvl := hvs.length
    refine ⟨by simp; omega, vs.take off ++ xs ++ vs.drop (off + k), ((hvs.take off).append hx).append (hvs.drop (off + k)), fun q u hq => ?_⟩
    rw [get_writeRow _ _ _ _ hle]
    by_cases h1 : q < off
    · rw [List.append_assoc, List.getElem?_append_left (by simp; omega), List.getElem?_take_of_lt h1] at hq
      rw [if_neg (by omega)]
      exact hr q u hq
    · by_cases h2 : q < off + k
      · rw [List.append_assoc, List.getElem?_append_right (by simp; omega), List.getElem?_append_left (by simp; omega)] at hq
        rw [if_pos ⟨by omega, by omega⟩, ← hq]
        congr 1; simp; omega
      · rw [List.append_assoc, List.getElem?_append_right (by simp; omega), List.getElem?_append_right (by simp; omega), List.getElem?_drop] at hq
        rw [if_neg (by omega)]
        refine hr q u ?_
        rw [← hq]
        congr 1; simp; omega
  · rw [if_neg e] at hj
    obtain ⟨hcl, vs, hvs, hr⟩ := hc j cs hj
    obtain ⟨hyl, _⟩ := hc i y hy
    refine ⟨hcl, vs, hvs, fun q u hq => ?_⟩
    have hq2 : q < L.z := by
      have := (List.getElem?_eq_some_iff.1 hq).1
      rw [hvs.length, hcl] at this; exact this
    rw [get_writeRow _ _ _ _ hle, if_neg]
    · exact hr q u hq
    · rcases Nat.lt_or_gt_of_ne e with h1 | h1
      · have := row_apart (s := L.sh) (z := L.z) h1; omega
      · have := row_apart (s := L.sh) (z := L.z) h1; omega

theorem CellsAt.many {row : Array Value} {L : Loc} {ct : Ct} (hc : CellsAt K m row L ct) {i : Nat} {new : List (List AV)} {xs : List Value} (hz : ∀ cs ∈ new, cs.length = L.z)
    (hx : RvL K m new.flatten xs) (hfit : i + new.length ≤ ct.size) (hle : (L.sh + i) * L.z + xs.length ≤ row.size) :
    CellsAt K m (writeRow row ((L.sh + i) * L.z) xs) L (ct.sets i new) := by
  have hxl : xs.length = new.length * L.z := by rw [hx.length, flat_length hz]
  intro j cs hj
  rw [Ct.get?_sets _ _ _ _ hfit] at hj
  by_cases e : i ≤ j ∧ j < i + new.length
  · rw [if_pos e] at hj
    have hmem := List.mem_of_getElem? hj
    refine ⟨hz cs hmem, (xs.drop ((j - i) * L.z)).take L.z, ?_, fun q u hq => ?_⟩
    · have := (hx.drop ((j - i) * L.z)).take L.z
      rw [flat_get hz hj] at this; exact this
    · rw [List.getElem?_take] at hq
      split at hq
      · rename_i hqz
        rw [List.getElem?_drop] at hq
        have e1 : (L.sh + j) * L.z = (L.sh + i) * L.z + (j - i) * L.z := by rw [← Nat.add_mul]; congr 1; omega
        have hlt := (List.getElem?_eq_some_iff.1 hq).1
        rw [get_writeRow _ _ _ _ hle, if_pos ⟨by omega, by omega⟩, ← hq]
        congr 1; omega
      · cases hq
  · rw [if_neg e] at hj
    obtain ⟨hcl, vs, hvs, hr⟩ := hc j cs hj
    refine ⟨hcl, vs, hvs, fun q u hq => ?_⟩
    have hq2 : q < L.z := by
      have := (List.getElem?_eq_some_iff.1 hq).1
      rw [hvs.length, hcl] at this; exact this
    rw [get_writeRow _ _ _ _ hle, if_neg]
    · exact hr q u hq
    · rw [hxl]
      have e1 : (L.sh + i) * L.z + new.length * L.z = (L.sh + (i + new.length)) * L.z := by rw [← Nat.add_mul]; congr 1; omega
      rcases Nat.lt_or_ge j i with h1 | h1
      · have := row_apart (s := L.sh) (z := L.z) h1; omega
      · have h2 : i + new.length ≤ j := by omega
        have : (L.sh + (i + new.length)) * L.z ≤ (L.sh + j) * L.z := Nat.mul_le_mul_right _ (by omega)
        omega

theorem writeC_spec {k off : Nat} {x cs cs' : List AV} (hw : writeC k off x cs = some cs') : x.length = k ∧ off + k ≤ cs.length ∧ x.all AV.one = true ∧ cs' = cs.take off ++ x ++ cs.drop (off + k) := by
  unfold writeC at hw
  cases hc : (Nat.beq x.length k && Nat.ble (off + k) cs.length && x.all AV.one) with
  | false => simp [hc] at hw
  | true =>
    simp only [hc, cond_true, Option.some.injEq] at hw
    simp only [Bool.and_eq_true, nbeq, nble, decide_eq_true_eq] at hc
    exact ⟨hc.1.1, hc.1.2, hc.2, hw.symm⟩

theorem ok_st (r : Rel P K m h w) (he : REnv K m n e a) {k : Nat} {x y : DO} (ho : okIns P o.op (.st k x y) = true) (hs : step call e h (.st k x y) = .ok v h') :
    StepOk P (execOp a.eval o) K m h w v h' := by
  obtain ⟨dst, op, ty, pos, after, guard⟩ := o
  simp only [okIns] at ho
  split at ho
  · rename_i t bX X
    simp only [Bool.and_eq_true] at ho
    obtain ⟨⟨h1, h2⟩, h3⟩ := ho
    obtain ⟨inf, hi, hsz⟩ := ckSize_info h1
    have hx := he.eval h2
    have hy := he.eval h3
    simp only [step, storeD] at hs
    split at hs
    · rename_i b i off hv
      rw [hv] at hx
      split at hs
      · rename_i z op ct hb
        split at hs
        · rename_i cs hcs
          split at hs
          · rename_i cs' hw
            simp only [Res.ok.injEq] at hs
            obtain ⟨rfl, rfl⟩ := hs
            obtain ⟨hxk, hok, hone, rfl⟩ := writeC_spec hw
            generalize hzz : a.eval bX = q at hx
            cases hx with
            | ptr hL hoo =>
              rename_i o0 L
              have hyc := hy.cells hone
              have hsize : (a.eval X).cells.size = k := by rw [← Array.length_toList, hyc.length, hxk]
              have hi2 := Ct.lt_of_get? hcs
              obtain ⟨row, t2, fz, hz, hwr, hf, hn, hsh, hop, hc⟩ := r.row hb hL
              obtain ⟨hcl, _⟩ := hc i cs hcs
              have hle : o0 + (a.eval X).cells.toList.length ≤ (L.sh + ct.size) * L.z := by
                have := row_apart (s := L.sh) (z := L.z) hi2
                simp [hsize]; omega
              obtain ⟨w', hrun, hrel, hext⟩ := r.write (ct' := ct.set i (cs.take off ++ (y.ev e).cells ++ cs.drop (off + k))) (o := o0) (xs := (a.eval X).cells.toList) hb hL (by simp) hle
                (hyc.oneCells hone) (fun row hc hle => by rw [hoo] at hle ⊢; exact hc.one hcs hxk hok hyc hle)
              refine ⟨K, m, w', undef, .inr ⟨?_, rfl⟩, .tup .nil, hrel, hext⟩
              simp only [execOp, hzz, Instr.storeAt, Instr.sureAddr, Sem.run_bind, Sem.run_pure, Result.andThen_ok, storeVar, run_size hi]
              rw [if_neg (by rw [hsize, hsz]; simp)]
              rw [hrun]
              simp
          · cases hs
        · cases hs
      · cases hs
    · cases hs
  · simp at ho
end
end Go.D
