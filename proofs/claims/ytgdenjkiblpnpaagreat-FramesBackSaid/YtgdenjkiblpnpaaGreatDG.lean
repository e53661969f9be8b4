/-
  The abstract evaluator 'D': instructions that call nobody, one by one (first part).
-/
import Derived.Test.YtgdenjkiblpnpaaGreatDF
namespace Go.D

/-- what an operation comes to in the model is what the evaluator tells -/
def StepOk (P : Program) (s : Sem Next) (K : Km) (m : Mm) (h : Heap) (w : World) (v : AV) (h' : Heap) : Prop :=
  ∃ K' m' w' x, (s.run P w = .ok (.value x) w' ∨ (s.run P w = .ok .skip w' ∧ x = undef)) ∧ Rv K' m' v x ∧ Rel P K' m' h' w' ∧ Ext K m h w K' m' h' w'

section
variable {P : Program} {K : Km} {m : Mm} {h h' : Heap} {w : World} {v : AV} {n : Nat} {e : Env} {a : Act} {o : Oper} {call : Caller}

theorem StepOk.val (r : Rel P K m h w) {s : Sem Next} {x : Value} (hrun : s.run P w = .ok (.value x) w) (hv : Rv K m v x) : StepOk P s K m h w v h :=
  ⟨K, m, w, x, .inl hrun, hv, r, .refl ..⟩

theorem StepOk.val' (r : Rel P K m h w) {s : Sem Next} {w' : World} {x : Value} (hrun : s.run P w = .ok (.value x) w') (hs : SameHeap w w') (hv : Rv K m v x) :
    StepOk P s K m h w v h :=
  ⟨K, m, w', x, .inl hrun, hv, r.same hs, .same hs⟩

theorem run_und {t : TypeId} {d : TypeDesc} (hd : P.underlying t = some d) : (underlying t).run P w = .ok d w := by simp [underlying, hd]
theorem run_info {t : TypeId} {i : TypeInfo} (hi : P.info? t = some i) : (typeInfo t).run P w = .ok i w := by simp [typeInfo, hi]
theorem run_size {t : TypeId} {i : TypeInfo} (hi : P.info? t = some i) : (sizeOf t).run P w = .ok i.size w := by simp [sizeOf, run_info hi]
theorem run_zero {t : TypeId} {i : TypeInfo} {z : Value} (hi : P.info? t = some i) (hz : i.zero = some z) : (zeroValue t).run P w = .ok z w := by simp [zeroValue, run_info hi, hz]

theorem ckSize_info {t : TypeId} {k : Nat} (hk : ckSize P t k = true) : ∃ i, P.info? t = some i ∧ i.size = k := by
  unfold ckSize at hk
  split at hk
  · rename_i i hi; exact ⟨i, hi, by simpa [nbeq] using hk⟩
  · simp at hk
theorem ckBytes_info {t : TypeId} {k : Nat} (hk : ckBytes P t k = true) : ∃ i, P.info? t = some i ∧ i.bytes = k := by
  unfold ckBytes at hk
  split at hk
  · rename_i i hi; exact ⟨i, hi, by simpa [nbeq] using hk⟩
  · simp at hk
theorem natO_eq {x y : Option Nat} (hk : natO x y = true) : x = y := by
  cases x <;> cases y <;> simp [natO, nbeq] at hk
  · rfl
  · rw [hk]
theorem sliceOf_und {t e : TypeId} (hs : sliceOf P t = some e) : P.underlying t = some (.slice e) := by
  unfold sliceOf at hs
  split at hs
  · rename_i e' he; cases hs; exact he
  · simp at hs
theorem isStr_und {t : TypeId} (hs : isStr P t = true) : P.underlying t = some .string := by
  unfold isStr at hs
  split at hs
  · assumption
  · simp at hs
theorem isMap_und {t : TypeId} (hs : isMap P t = true) : ∃ k e, P.underlying t = some (.map k e) := by
  unfold isMap at hs
  split at hs
  · rename_i k e hk; exact ⟨k, e, hk⟩
  · simp at hs
theorem isIntK_und {t : TypeId} {k : IntKind} (hs : isIntK P t k = true) : P.underlying t = some (.int k) := by
  unfold isIntK at hs
  split at hs
  · rename_i k' hk; rw [kindEq_eq hs]; exact hk
  · simp at hs
theorem isInt_und {t : TypeId} (hs : isInt P t = true) : ∃ k, P.underlying t = some (.int k) := by
  unfold isInt at hs
  split at hs
  · rename_i k hk; exact ⟨k, hk⟩
  · simp at hs
theorem ckZeroC_info {t : TypeId} {z : List AV} (hz : ckZeroC P t z = true) : ∃ i v, P.info? t = some i ∧ i.zero = some v ∧ okVals z v.cells.toList = true ∧ i.size = z.length := by
  unfold ckZeroC at hz
  split at hz
  · rename_i i hi
    split at hz
    · rename_i v hv
      simp only [Bool.and_eq_true, nbeq, decide_eq_true_eq] at hz
      exact ⟨i, v, hi, hv, hz.1, hz.2⟩
    · simp at hz
  · simp at hz
theorem ckZero_info {t : TypeId} {z : AV} (hz : ckZero P t z = true) : ∃ i v, P.info? t = some i ∧ i.zero = some v ∧ okVal z v = true := by
  unfold ckZero at hz
  split at hz
  · rename_i i hi
    split at hz
    · rename_i v hv; exact ⟨i, v, hi, hv, hz⟩
    · simp at hz
  · simp at hz

/-- a type whose values are told by many cells, or one whose values are one cell -/
theorem ckKind_cases {t : TypeId} {k : Option Nat} (hk : ckKind P t k = true) : ∃ i d, P.info? t = some i ∧ P.underlying t = some d ∧
    ((k = some i.size ∧ ∀ w : World, (isAgg t).run P w = .ok true w) ∨ (k = none ∧ ∀ w : World, (isAgg t).run P w = .ok false w)) := by
  unfold ckKind at hk
  split at hk
  · rename_i i fs hi hd
    exact ⟨i, _, hi, hd, .inl ⟨natO_eq hk, fun w => by simp [isAgg, run_und hd]⟩⟩
  · rename_i i l e hi hd
    exact ⟨i, _, hi, hd, .inl ⟨natO_eq hk, fun w => by simp [isAgg, run_und hd]⟩⟩
  · rename_i i d hns hna hi hd
    refine ⟨i, d, hi, hd, .inr ⟨natO_eq hk, fun w => ?_⟩⟩
    simp [isAgg, run_und hd]
  · simp at hk

theorem readC_none {off : Nat} {cs : List AV} {v : AV} (hr : readC none off cs = some v) : cs[off]? = some v := hr
theorem readC_some {z off : Nat} {cs : List AV} {v : AV} (hr : readC (some z) off cs = some v) : off + z ≤ cs.length ∧ v = .agg ((cs.drop off).take z) := by
  unfold readC at hr
  simp only at hr
  cases hb : Nat.ble (off + z) cs.length with
  | false => simp [hb] at hr
  | true => simp [hb] at hr; exact ⟨Nat.le_of_ble_eq_true hb, hr.symm⟩

/-- a value is read out of a row -/
theorem loadVar_row {t : TypeId} {k : Option Nat} (hk : ckKind P t k = true) {c : Nat} {row : Array Value} {ty : TypeId} {fz : Nat × Nat}
    (hw : w.heap[c]? = some (.cells row ty fz)) {cs : List AV} {vs : List Value} (hvs : RvL K m cs vs) {base off : Nat} (hr : RowAt row base vs) (hv : readC k off cs = some v) :
    ∃ x, (loadVar t ⟨c, base + off, none⟩).run P w = .ok x w ∧ Rv K m v x := by
  obtain ⟨i, d, hi, hd, hc⟩ := ckKind_cases hk
  rcases hc with ⟨rfl, hagg⟩ | ⟨rfl, hagg⟩
  · obtain ⟨hle, rfl⟩ := readC_some hv
    have hlen := hvs.length
    have hr' : RowAt row (base + off) ((vs.drop off).take i.size) := fun j x hj => by
      rw [List.getElem?_take] at hj
      split at hj
      · rw [List.getElem?_drop] at hj
        have := hr _ _ hj
        rw [show base + off + j = base + (off + j) from by omega]; exact this
      · simp at hj
    refine ⟨.agg ((vs.drop off).take i.size).toArray, ?_, .agg (by simpa using (hvs.drop off).take i.size)⟩
    simp only [loadVar, Sem.run_bind, hagg, Result.andThen_ok, if_true, run_size hi]
    rw [run_loadCells_row P hw (by simp; omega) hr']
    simp
  · obtain ⟨x, hx, hrx⟩ := hvs.get (readC_none hv)
    refine ⟨x, ?_, hrx⟩
    simp only [loadVar, Sem.run_bind, hagg, Result.andThen_ok, Bool.false_eq_true, if_false]
    exact run_load_row P hw (hr _ _ hx)

/-- what is loaded is what the evaluator loads -/
theorem loadD_ok (r : Rel P K m h w) {t : TypeId} {k : Option Nat} (hk : ckKind P t k = true) {p : AV} {x : Value} (hp : Rv K m p x) (hl : loadD h k p = some v) :
    ∃ A y, x = .pointer (some A) ∧ (loadVar t A).run P w = .ok y w ∧ Rv K m v y := by
  unfold loadD at hl
  split at hl
  · rename_i b i off
    split at hl
    · rename_i z op ct hb
      split at hl
      · rename_i cs hcs
        cases hp with
        | ptr hL ho =>
          obtain ⟨row, ty, fz, hz, hw, hf, hn, hs, hop, hc⟩ := r.row hb hL
          obtain ⟨hcl, vs, hvs, hrow⟩ := hc i cs hcs
          obtain ⟨y, hy, hvy⟩ := loadVar_row hk hw hvs hrow hl
          exact ⟨_, y, rfl, by rw [ho]; exact hy, hvy⟩
      · simp at hl
    · simp at hl
  · rename_i cs off
    cases hp with
    | iptr hkk hcs hr ho =>
      obtain ⟨ty, fz, hw⟩ := r.imm _ _ hkk
      obtain ⟨y, hy, hvy⟩ := loadVar_row hk hw hcs hr hl
      exact ⟨_, y, rfl, by rw [ho]; exact hy, hvy.mono (.refl _) (Mm.nil_le _)⟩
  · simp at hl

theorem ok_mv (r : Rel P K m h w) (he : REnv K m n e a) {y : DO} (ho : okIns P o.op (.mv y) = true) (hs : step call e h (.mv y) = .ok v h') :
    StepOk P (execOp a.eval o) K m h w v h' := by
  simp only [step, Res.ok.injEq] at hs
  obtain ⟨rfl, rfl⟩ := hs
  obtain ⟨dst, op, ty, pos, after, guard⟩ := o
  simp only [okIns] at ho
  split at ho
  · exact .val r (by simp [execOp]) (he.eval ho)
  · exact .val r (by simp [execOp]) (he.eval ho)
  · simp at ho

theorem ok_pick (r : Rel P K m h w) (he : REnv K m n e a) {c x y : DO} (ho : okIns P o.op (.pick c x y) = true) (hs : step call e h (.pick c x y) = .ok v h') :
    StepOk P (execOp a.eval o) K m h w v h' := by
  obtain ⟨dst, op, ty, pos, after, guard⟩ := o
  simp only [okIns] at ho
  split at ho
  · simp only [Bool.and_eq_true] at ho
    have hc := he.eval ho.1.1
    simp only [step] at hs
    split at hs
    · rename_i hb
      rw [hb] at hc
      simp only [Res.ok.injEq] at hs
      obtain ⟨rfl, rfl⟩ := hs
      generalize hx : a.eval _ = z at hc
      cases hc
      exact .val r (by simp [execOp, hx, asBool]) (he.eval ho.1.2)
    · rename_i hb
      rw [hb] at hc
      simp only [Res.ok.injEq] at hs
      obtain ⟨rfl, rfl⟩ := hs
      generalize hx : a.eval _ = z at hc
      cases hc
      exact .val r (by simp [execOp, hx, asBool]) (he.eval ho.2)
    · cases hs
  · simp at ho

theorem ok_ld (r : Rel P K m h w) (he : REnv K m n e a) {k : Option Nat} {y : DO} (ho : okIns P o.op (.ld k y) = true) (hs : step call e h (.ld k y) = .ok v h') :
    StepOk P (execOp a.eval o) K m h w v h' := by
  obtain ⟨dst, op, ty, pos, after, guard⟩ := o
  simp only [okIns] at ho
  split at ho
  · rename_i t x
    simp only [Bool.and_eq_true] at ho
    simp only [step] at hs
    cases hl : loadD h k (y.ev e) with
    | none => simp [hl, Res.of] at hs
    | some u =>
      simp only [hl, Res.of, Res.ok.injEq] at hs
      obtain ⟨rfl, rfl⟩ := hs
      obtain ⟨A, z, hx, hrun, hv⟩ := loadD_ok r ho.1 (he.eval ho.2) hl
      exact .val r (by simp [execOp, Instr.loadAt, Instr.sureAddr, hx, hrun]) hv
  · simp at ho

theorem ok_nck (r : Rel P K m h w) (he : REnv K m n e a) {y : DO} (ho : okIns P o.op (.nck y) = true) (hs : step call e h (.nck y) = .ok v h') :
    StepOk P (execOp a.eval o) K m h w v h' := by
  obtain ⟨dst, op, ty, pos, after, guard⟩ := o
  simp only [okIns] at ho
  split at ho
  · rename_i x
    have hx := he.eval ho
    simp only [step] at hs
    split at hs <;> (try cases hs) <;> rename_i hv <;> rw [hv] at hx <;> generalize hz : a.eval x = z at hx <;> have hx2 := hx <;> cases hx <;>
      exact .val r (by simp [execOp, hz]) hx2
  · simp at ho

theorem ok_un (r : Rel P K m h w) (he : REnv K m n e a) {u : UnOp} {y : DO} (ho : okIns P o.op (.un u y) = true) (hs : step call e h (.un u y) = .ok v h') :
    StepOk P (execOp a.eval o) K m h w v h' := by
  obtain ⟨dst, op, ty, pos, after, guard⟩ := o
  simp only [okIns] at ho
  split at ho
  · rename_i u' t x
    simp only [Bool.and_eq_true, beq_iff_eq] at ho
    obtain ⟨rfl, ho⟩ := ho
    have hx := he.eval ho
    simp only [step] at hs
    cases hu : unary u (y.ev e) with
    | none => simp [hu, Res.of] at hs
    | some q =>
      simp only [hu, Res.of, Res.ok.injEq] at hs
      obtain ⟨rfl, rfl⟩ := hs
      generalize hyv : y.ev e = yv at hu hx
      generalize hz : a.eval x = z at hx
      unfold unary at hu
      split at hu
      · cases hx
        split at hu
        · simp only [Option.some.injEq] at hu; subst hu
          exact .val r (by simp [execOp, hz, Op.unary, Op.intArith]) .int
        · simp only [intBits, Option.map_some, Option.some.injEq] at hu; subst hu
          exact .val r (by simp [execOp, hz, Op.unary, Op.intBits]) .int
        · simp at hu
      · cases hx
        split at hu
        · simp only [Option.some.injEq] at hu; subst hu
          exact .val r (by simp [execOp, hz, Op.unary]) .bool
        · simp at hu
      · simp at hu
  · simp at ho
end

end Go.D
