/-
  The abstract evaluator 'D': instructions that call nobody, one by one (fourth part).
-/
import Derived.Test.YtgdenjkiblpnpaaGreatDJ
import Derived.Laws.Append
import Derived.Laws.BytesString
namespace Go.D
section
variable {P : Program} {K : Km} {m : Mm} {h h' : Heap} {w : World} {v : AV} {n : Nat} {e : Env} {a : Act} {o : Oper} {call : Caller}

theorem ok_cvi (r : Rel P K m h w) (he : REnv K m n e a) {k : IntKind} {y : DO} (ho : okIns P o.op (.cvi k y) = true) (hs : step call e h (.cvi k y) = .ok v h') :
    StepOk P (execOp a.eval o) K m h w v h' := by
  obtain ⟨dst, op, ty, pos, after, guard⟩ := o
  simp only [okIns] at ho
  split at ho
  · rename_i s d x
    simp only [Bool.and_eq_true] at ho
    obtain ⟨⟨h1, h2⟩, h3⟩ := ho
    obtain ⟨k0, hu⟩ := isInt_und h1
    have hd := isIntK_und h2
    have hx := he.eval h3
    simp only [step] at hs
    split at hs
    · rename_i k1 p hv
      rw [hv] at hx
      simp only [Res.ok.injEq] at hs
      obtain ⟨rfl, rfl⟩ := hs
      generalize hz : a.eval x = z at hx
      cases hx
      exact .val r (by simp [execOp, hz, convert, run_und hu, run_und hd, Conv.intToInt]) .int
    · cases hs
  · simp at ho

theorem ok_mkif (r : Rel P K m h w) (he : REnv K m n e a) {t : Nat} {y : DO} (ho : okIns P o.op (.mkif t y) = true) (hs : step call e h (.mkif t y) = .ok v h') :
    StepOk P (execOp a.eval o) K m h w v h' := by
  obtain ⟨dst, op, ty, pos, after, guard⟩ := o
  simp only [okIns] at ho
  split at ho
  · rename_i t' x
    simp only [Bool.and_eq_true, nbeq, decide_eq_true_eq] at ho
    obtain ⟨⟨rfl, h2⟩, h3⟩ := ho
    simp only [step, Res.ok.injEq] at hs
    obtain ⟨rfl, rfl⟩ := hs
    split at h3
    · cases h3
    · rename_i d hni hu
      refine .val r (x := .iface t (a.eval x)) ?_ (.iface (he.eval h2))
      simp only [execOp, Instr.makeInterface, Sem.run_bind, run_und hu, Result.andThen_ok]
      cases d <;> first | (simp; done) | (exact absurd rfl (hni _))
    · cases h3
  · simp at ho

theorem ok_mkfn (r : Rel P K m h w) (he : REnv K m n e a) {f : Nat} {x y : List DO} (ho : okIns P o.op (.mkfn f x y) = true) (hs : step call e h (.mkfn f x y) = .ok v h') :
    StepOk P (execOp a.eval o) K m h w v h' := by
  obtain ⟨dst, op, ty, pos, after, guard⟩ := o
  simp only [okIns] at ho
  split at ho
  · rename_i g a' b'
    simp only [Bool.and_eq_true, nbeq, decide_eq_true_eq] at ho
    obtain ⟨⟨rfl, h2⟩, h3⟩ := ho
    simp only [step, Res.ok.injEq] at hs
    obtain ⟨rfl, rfl⟩ := hs
    exact .val r (x := .func (.func f) (a'.map a.eval) (b'.map a.eval)) (by simp [execOp, Instr.makeFunc]) (.fn (by simpa using he.evals h2) (by simpa using he.evals h3))
  · simp at ho

theorem ok_ext (r : Rel P K m h w) (he : REnv K m n e a) {i : Nat} {y : DO} (ho : okIns P o.op (.ext y i) = true) (hs : step call e h (.ext y i) = .ok v h') :
    StepOk P (execOp a.eval o) K m h w v h' := by
  obtain ⟨dst, op, ty, pos, after, guard⟩ := o
  simp only [okIns] at ho
  split at ho
  · rename_i x j
    simp only [Bool.and_eq_true, nbeq, decide_eq_true_eq] at ho
    obtain ⟨h2, rfl⟩ := ho
    have hx := he.eval h2
    simp only [step] at hs
    split at hs
    · rename_i vs hv
      rw [hv] at hx
      generalize hz : a.eval x = z at hx
      cases hx with
      | tup hx =>
        cases hg : vs[i]? with
        | none => simp [hg, Res.of] at hs
        | some u =>
          simp only [hg, Res.of, Res.ok.injEq] at hs
          obtain ⟨rfl, rfl⟩ := hs
          obtain ⟨q, hq, hr⟩ := hx.get hg
          refine .val r (x := q) ?_ hr
          simp only [execOp, hz, Instr.extract]
          rw [Array.getElem?_toList] at hq
          simp [hq]
    · cases hs
  · simp at ho

theorem ok_fad (r : Rel P K m h w) (he : REnv K m n e a) {off : Nat} {y : DO} (ho : okIns P o.op (.fad off y) = true) (hs : step call e h (.fad off y) = .ok v h') :
    StepOk P (execOp a.eval o) K m h w v h' := by
  obtain ⟨dst, op, ty, pos, after, guard⟩ := o
  simp only [okIns] at ho
  split at ho
  · rename_i t x i
    simp only [Bool.and_eq_true] at ho
    obtain ⟨h2, h3⟩ := ho
    have hx := he.eval h2
    split at h3
    · rename_i fs hu
      split at h3
      · rename_i f hf
        simp only [Bool.and_eq_true, nbeq, decide_eq_true_eq] at h3
        obtain ⟨rfl, h4⟩ := h3
        split at h4
        · rename_i inf hi
          rw [nblt, decide_eq_true_eq] at h4
          have hrun : ∀ A : Addr, (Instr.fieldAt t (.pointer (some A)) i).run P w = .ok (.pointer (some (A.add f.offset))) w := by
            intro A
            simp only [Instr.fieldAt, Sem.run_bind, run_und hu, Result.andThen_ok, hf, Instr.sureAddr, Sem.run_pure, fieldPlace, run_size hi]
            have : ¬ (inf.size = 0) := by omega
            simp [this]
          simp only [step] at hs
          split at hs
          · rename_i b j o0 hv
            rw [hv] at hx
            simp only [Res.ok.injEq] at hs
            obtain ⟨rfl, rfl⟩ := hs
            generalize hz : a.eval x = z at hx
            cases hx with
            | ptr hL hoo =>
              subst hoo
              exact .val r (by simp only [execOp, hz, Sem.run_bind, hrun, addr_add]; rfl) (.ptr hL (by omega))
          · rename_i cs o0 hv
            rw [hv] at hx
            simp only [Res.ok.injEq] at hs
            obtain ⟨rfl, rfl⟩ := hs
            generalize hz : a.eval x = z at hx
            cases hx with
            | iptr hk hc hr hoo =>
              subst hoo
              exact .val r (by simp only [execOp, hz, Sem.run_bind, hrun, addr_add]; rfl) (.iptr hk hc hr (by omega))
          · cases hs
        · cases h4
      · cases h3
    · cases h3
  · simp at ho

theorem natOf_rv {x : AV} {X : Value} {i : Nat} (hx : Rv K m x X) (hi : natOf x = some i) : ∃ k, X = .int k (i : Int) := by
  unfold natOf at hi
  split at hi
  · cases hi; cases hx; exact ⟨_, rfl⟩
  · cases hi

theorem flat_get {z : Nat} : ∀ {es : List (List AV)} {q : Nat} {cs : List AV}, (∀ c ∈ es, c.length = z) → es[q]? = some cs → (es.flatten.drop (q * z)).take z = cs
  | [], q, cs, _, h => by simp at h
  | c :: es, 0, cs, hl, h => by
    simp at h; subst h
    have : c.length = z := hl c (by simp)
    simp [← this]
  | c :: es, q + 1, cs, hl, h => by
    have hc : c.length = z := hl c (by simp)
    have := flat_get (es := es) (q := q) (cs := cs) (fun x hx => hl x (by simp [hx])) (by simpa using h)
    rw [← this, List.flatten_cons, Nat.succ_mul, Nat.add_comm (q * z) z, ← hc, ← List.drop_drop, List.drop_left]

theorem flat_length {z : Nat} : ∀ {es : List (List AV)}, (∀ c ∈ es, c.length = z) → es.flatten.length = es.length * z
  | [], _ => by simp
  | c :: es, hl => by
    have hc : c.length = z := hl c (by simp)
    have := flat_length (es := es) fun x hx => hl x (by simp [hx])
    simp [this, hc, Nat.succ_mul]; omega

theorem RowAt.drop {row : Array Value} {o : Nat} {vs : List Value} (h : RowAt row o vs) (k : Nat) : RowAt row (o + k) (vs.drop k) := fun j v hj => by
  rw [List.getElem?_drop] at hj
  have := h _ _ hj
  rw [show o + k + j = o + (k + j) from by omega]; exact this
theorem RowAt.take {row : Array Value} {o : Nat} {vs : List Value} (h : RowAt row o vs) (k : Nat) : RowAt row o (vs.take k) := fun j v hj => by
  rw [List.getElem?_take] at hj
  split at hj
  · exact h _ _ hj
  · cases hj

/-- the address of a slice's element -/
theorem run_indexAt_slice {t el : TypeId} (hu : P.underlying t = some (.slice el)) {inf : TypeInfo} (hi : P.info? el = some inf) (A : Addr) (len cap i : Nat) (k : IntKind) (hlt : i < len) (w : World) :
    (Instr.indexAt t (.slice (some A) len cap) (.int k (i : Int))).run P w = .ok (.pointer (some (A.add (i * inf.size)))) w := by
  have h1 : (0 : Int) ≤ (i : Int) ∧ (i : Int) < (len : Int) := by omega
  simp only [Instr.indexAt, asIntOf, Sem.run_bind, Sem.run_pure, Result.andThen_ok, run_und hu]
  rw [if_pos h1]
  simp [run_size hi]

theorem ok_iad (r : Rel P K m h w) (he : REnv K m n e a) {z0 : Nat} {y i : DO} (ho : okIns P o.op (.iad z0 y i) = true) (hs : step call e h (.iad z0 y i) = .ok v h') :
    StepOk P (execOp a.eval o) K m h w v h' := by
  obtain ⟨dst, op, ty, pos, after, guard⟩ := o
  simp only [okIns] at ho
  split at ho
  · rename_i t x ix
    simp only [Bool.and_eq_true] at ho
    obtain ⟨⟨h1, h2⟩, h3⟩ := ho
    have hx := he.eval h1
    have hi := he.eval h2
    split at h3
    · rename_i el hel
      have hu := sliceOf_und hel
      obtain ⟨inf, hinf, hsz⟩ := ckSize_info h3
      simp only [step] at hs
      split at hs
      · rename_i q z1 b s0 len cap hq hv
        obtain ⟨k, hk⟩ := natOf_rv hi hq
        rw [hv] at hx
        cases hlt : Nat.beq z1 z0 && Nat.blt q len with
        | false => simp [hlt] at hs
        | true =>
          simp only [hlt, cond_true, Res.ok.injEq] at hs
          obtain ⟨rfl, rfl⟩ := hs
          rw [nblt, nbeq, Bool.and_eq_true, decide_eq_true_eq, decide_eq_true_eq] at hlt
          obtain ⟨rfl, hlt⟩ := hlt
          generalize hz : a.eval x = z at hx
          have key : ∀ (L : Loc) (o0 cap' : Nat), m b = some L → o0 = (L.sh + s0) * L.z → L.z = z1 → z = .slice (some ⟨L.c, o0, none⟩) len cap' →
              StepOk P (execOp a.eval ⟨dst, .indexAddr t x ix, ty, pos, after, guard⟩) K m h w (.ptr b (s0 + q) 0) h := by
            intro L o0 cap' hL ho0 hLz hzz
            refine .val r (x := .pointer (some ⟨L.c, o0 + q * inf.size, none⟩)) ?_ (.ptr hL ?_)
            · simp only [execOp, hz, hzz, hk, Sem.run_bind, run_indexAt_slice hu hinf _ _ _ _ _ hlt, addr_add]
              rfl
            · rw [ho0, hsz, ← hLz, ← Nat.add_assoc, Nat.add_mul (L.sh + s0)]; omega
          cases hx with
          | slicex hL ho0 hLz => exact key _ _ _ hL ho0 hLz rfl
          | sliceo hL ho0 _ hLz => exact key _ _ _ hL ho0 hLz rfl
      · rename_i q z1 es hq hv
        obtain ⟨k, hk⟩ := natOf_rv hi hq
        rw [hv] at hx
        cases hz1 : Nat.beq z0 z1 with
        | false => simp [hz1] at hs
        | true =>
          simp only [hz1, cond_true] at hs
          rw [nbeq, decide_eq_true_eq] at hz1
          subst hz1
          split at hs
          · rename_i cs hcs
            simp only [Res.ok.injEq] at hs
            obtain ⟨rfl, rfl⟩ := hs
            generalize hz : a.eval x = z at hx
            cases hx with
            | isl hl hkk hzl hvv ha =>
              rename_i A cap len vs
              have hlt : q < es.length := (List.getElem?_eq_some_iff.1 hcs).1
              obtain ⟨hsp, row, hK, hrow⟩ := ha (by intro h0; subst h0; simp at hcs)
              obtain ⟨c, o0, sp⟩ := A
              simp only at hsp; subst hsp
              have hcs' := flat_get hzl hcs
              refine .val r (x := .pointer (some ⟨c, o0 + q * inf.size, none⟩)) ?_ (.iptr hK (vs := (vs.drop (q * z0)).take z0) ?_ ((hrow.drop _).take _) ?_)
              · simp only [execOp, hz, hk, Sem.run_bind, run_indexAt_slice hu hinf _ _ _ _ _ (by omega : q < len), addr_add]
                rfl
              · rw [← hcs']; exact (hvv.drop _).take _
              · rw [hsz]; rfl
          · cases hs
      · cases hs
    · cases h3
  · simp at ho

theorem ok_iada (r : Rel P K m h w) (he : REnv K m n e a) {l0 z0 : Nat} {y i : DO} (ho : okIns P o.op (.iada l0 z0 y i) = true) (hs : step call e h (.iada l0 z0 y i) = .ok v h') :
    StepOk P (execOp a.eval o) K m h w v h' := by
  obtain ⟨dst, op, ty, pos, after, guard⟩ := o
  simp only [okIns] at ho
  split at ho
  · rename_i t x ix
    simp only [Bool.and_eq_true] at ho
    obtain ⟨⟨h1, h2⟩, h3⟩ := ho
    have hx := he.eval h1
    have hi := he.eval h2
    split at h3
    · rename_i n' el hu
      simp only [Bool.and_eq_true, nbeq, decide_eq_true_eq] at h3
      obtain ⟨rfl, h4⟩ := h3
      obtain ⟨inf, hinf, hsz⟩ := ckSize_info h4
      have hrun : ∀ (A : Addr) (q : Nat) (k : IntKind), q < l0 → (Instr.indexAt t (.pointer (some A)) (.int k (q : Int))).run P w = .ok (.pointer (some (A.add (q * inf.size)))) w := by
        intro A q k hlt
        have hb : (0 : Int) ≤ (q : Int) ∧ (q : Int) < (l0 : Int) := by omega
        simp only [Instr.indexAt, asIntOf, Sem.run_bind, Sem.run_pure, Result.andThen_ok, run_und hu, Instr.sureAddr]
        rw [if_pos hb]
        simp [run_size hinf]
      simp only [step] at hs
      split at hs
      · rename_i q b j o0 hq hv
        obtain ⟨k, hk⟩ := natOf_rv hi hq
        rw [hv] at hx
        cases hlt : Nat.blt q l0 with
        | false => simp [hlt] at hs
        | true =>
          simp only [hlt, cond_true, Res.ok.injEq] at hs
          obtain ⟨rfl, rfl⟩ := hs
          rw [nblt, decide_eq_true_eq] at hlt
          generalize hz : a.eval x = z at hx
          cases hx with
          | ptr hL hoo =>
            subst hoo
            exact .val r (by simp only [execOp, hz, hk, Sem.run_bind, hrun _ _ _ hlt, addr_add]; rfl) (.ptr hL (by rw [hsz]; omega))
      · rename_i q cs o0 hq hv
        obtain ⟨k, hk⟩ := natOf_rv hi hq
        rw [hv] at hx
        cases hlt : Nat.blt q l0 with
        | false => simp [hlt] at hs
        | true =>
          simp only [hlt, cond_true, Res.ok.injEq] at hs
          obtain ⟨rfl, rfl⟩ := hs
          rw [nblt, decide_eq_true_eq] at hlt
          generalize hz : a.eval x = z at hx
          cases hx with
          | iptr hK hc hr hoo =>
            subst hoo
            exact .val r (by simp only [execOp, hz, hk, Sem.run_bind, hrun _ _ _ hlt, addr_add]; rfl) (.iptr hK hc hr (by rw [hsz]; omega))
      · cases hs
    · cases h3
  · simp at ho

/-- a part of an aggregate's value -/
theorem run_part_kind {t : TypeId} {k : Option Nat} (hk : ckKind P t k = true) {cs : List AV} {xs : Array Value} (hx : RvL K m cs xs.toList) {off : Nat} (hr : readC k off cs = some v) (w : World) :
    ∃ x, (part t xs off).run P w = .ok x w ∧ Rv K m v x := by
  obtain ⟨i, d, hi, hd, hc⟩ := ckKind_cases hk
  have hlen := hx.length
  rcases hc with ⟨rfl, hagg⟩ | ⟨rfl, hagg⟩
  · obtain ⟨hle, rfl⟩ := readC_some hr
    refine ⟨.agg (xs.extract off (off + i.size)), ?_, .agg ?_⟩
    · simp only [part, Sem.run_bind, hagg, Result.andThen_ok, if_true, run_size hi, Sem.run_pure]
    · have : (xs.extract off (off + i.size)).toList = (xs.toList.drop off).take i.size := by
        rw [Array.toList_extract]; simp [List.extract]
      rw [this]
      exact (hx.drop off).take i.size
  · obtain ⟨x, hx1, hrx⟩ := hx.get (readC_none hr)
    refine ⟨x, ?_, hrx⟩
    simp only [part, Sem.run_bind, hagg, Result.andThen_ok, Bool.false_eq_true, if_false]
    rw [Array.getElem?_toList] at hx1
    rw [hx1]; rfl

theorem ok_fld (r : Rel P K m h w) (he : REnv K m n e a) {k : Option Nat} {off : Nat} {y : DO} (ho : okIns P o.op (.fld k off y) = true) (hs : step call e h (.fld k off y) = .ok v h') :
    StepOk P (execOp a.eval o) K m h w v h' := by
  obtain ⟨dst, op, ty, pos, after, guard⟩ := o
  simp only [okIns] at ho
  split at ho
  · rename_i t x i
    simp only [Bool.and_eq_true] at ho
    obtain ⟨h2, h3⟩ := ho
    have hx := he.eval h2
    split at h3
    · rename_i fs hu
      split at h3
      · rename_i f hf
        simp only [Bool.and_eq_true, nbeq, decide_eq_true_eq] at h3
        obtain ⟨rfl, h4⟩ := h3
        simp only [step] at hs
        split at hs
        · rename_i cs hv
          rw [hv] at hx
          generalize hz : a.eval x = z at hx
          cases hx with
          | agg hx =>
            cases hr : readC k f.offset cs with
            | none => simp [hr, Res.of] at hs
            | some u =>
              simp only [hr, Res.of, Res.ok.injEq] at hs
              obtain ⟨rfl, rfl⟩ := hs
              obtain ⟨q, hq, hrv⟩ := run_part_kind (P := P) h4 hx hr w
              refine .val r (x := q) ?_ hrv
              simp only [execOp, hz, Instr.field, Sem.run_bind, run_und hu, Result.andThen_ok, hf, asAgg, Sem.run_pure, hq]
        · cases hs
      · cases h3
    · cases h3
  · simp at ho

theorem ok_ixa (r : Rel P K m h w) (he : REnv K m n e a) {l0 : Nat} {k : Option Nat} {z0 : Nat} {y i : DO} (ho : okIns P o.op (.ixa l0 k z0 y i) = true)
    (hs : step call e h (.ixa l0 k z0 y i) = .ok v h') : StepOk P (execOp a.eval o) K m h w v h' := by
  obtain ⟨dst, op, ty, pos, after, guard⟩ := o
  simp only [okIns] at ho
  split at ho
  · rename_i t x ix
    simp only [Bool.and_eq_true] at ho
    obtain ⟨⟨h1, h2⟩, h3⟩ := ho
    have hx := he.eval h1
    have hi := he.eval h2
    split at h3
    · rename_i n' el hu
      simp only [Bool.and_eq_true, nbeq, decide_eq_true_eq] at h3
      obtain ⟨⟨rfl, h4⟩, h5⟩ := h3
      obtain ⟨inf, hinf, hsz⟩ := ckSize_info h4
      simp only [step] at hs
      split at hs
      · rename_i q cs hq hv
        obtain ⟨k1, hk⟩ := natOf_rv hi hq
        rw [hv] at hx
        cases hlt : Nat.blt q l0 with
        | false => simp [hlt] at hs
        | true =>
          simp only [hlt, cond_true] at hs
          rw [nblt, decide_eq_true_eq] at hlt
          generalize hz : a.eval x = z at hx
          cases hx with
          | agg hx =>
            rename_i xs
            cases hr : readC k (q * z0) cs with
            | none => simp [hr, Res.of] at hs
            | some u =>
              simp only [hr, Res.of, Res.ok.injEq] at hs
              obtain ⟨rfl, rfl⟩ := hs
              obtain ⟨q1, hq1, hrv⟩ := run_part_kind (P := P) h5 hx hr w
              have hb : (0 : Int) ≤ (q : Int) ∧ (q : Int) < (l0 : Int) := by omega
              refine .val r (x := q1) ?_ hrv
              simp only [execOp, hz, hk, Instr.index, asIntOf, Sem.run_bind, run_und hu, Result.andThen_ok, Sem.run_pure]
              rw [if_pos hb]
              simp only [Sem.run_bind, run_size hinf, Result.andThen_ok, Int.toNat_natCast, hsz, hq1]
      · cases hs
    · cases h3
  · simp at ho

theorem ok_ixs (r : Rel P K m h w) (he : REnv K m n e a) {y i : DO} (ho : okIns P o.op (.ixs y i) = true) (hs : step call e h (.ixs y i) = .ok v h') :
    StepOk P (execOp a.eval o) K m h w v h' := by
  obtain ⟨dst, op, ty, pos, after, guard⟩ := o
  simp only [okIns] at ho
  split at ho
  · rename_i t x ix
    simp only [Bool.and_eq_true] at ho
    obtain ⟨⟨h1, h2⟩, h3⟩ := ho
    have hx := he.eval h1
    have hi := he.eval h2
    have hu := isStr_und h3
    simp only [step] at hs
    split at hs
    · rename_i q s0 hq hv
      obtain ⟨k1, hk⟩ := natOf_rv hi hq
      rw [hv] at hx
      generalize hz : a.eval x = z at hx
      cases hx with
      | str hx =>
        rename_i S
        split at hs
        · rename_i b hb
          simp only [Res.ok.injEq] at hs
          obtain ⟨rfl, rfl⟩ := hs
          rw [← hx, List.getElem?_map, Option.map_eq_some_iff] at hb
          obtain ⟨u, hu1, rfl⟩ := hb
          rw [Array.getElem?_toList] at hu1
          have hS : S[q]? = some u := by
            obtain ⟨d⟩ := S
            simp only at hu1
            obtain ⟨hlt, hget⟩ := Array.getElem?_eq_some_iff.1 hu1
            have : q < (ByteArray.mk d).size := hlt
            rw [getElem?_pos (ByteArray.mk d) q this]
            exact congrArg some hget
          refine .val r (x := .int .u8 (u.toNat : Int)) ?_ .int
          have h0 : (0 : Int) ≤ (q : Int) := by omega
          simp only [execOp, hz, hk, Instr.index, asIntOf, Sem.run_bind, run_und hu, Result.andThen_ok, Sem.run_pure]
          rw [if_pos h0, Int.toNat_natCast, hS]
          rfl
        · cases hs
    · cases hs
  · simp at ho

theorem ok_ta (r : Rel P K m h w) (he : REnv K m n e a) {t : Nat} {z : AV} {ok : Bool} {y : DO} (ho : okIns P o.op (.ta t z ok y) = true) (hs : step call e h (.ta t z ok y) = .ok v h') :
    StepOk P (execOp a.eval o) K m h w v h' := by
  obtain ⟨dst, op, ty, pos, after, guard⟩ := o
  simp only [okIns] at ho
  split at ho
  · rename_i x xt t' ok'
    simp only [Bool.and_eq_true, nbeq, decide_eq_true_eq, beq_iff_eq] at ho
    obtain ⟨⟨⟨⟨h1, rfl⟩, rfl⟩, h4⟩, h5⟩ := ho
    have hx := he.eval h1
    obtain ⟨inf, zv, hi, hzv, hzok⟩ := ckZero_info h4
    split at h5
    · cases h5
    · rename_i d hni hu
      have hz0 : ∀ w : World, (zeroValue t).run P w = .ok zv w := fun w => run_zero hi hzv
      simp only [step] at hs
      split at hs
      · rename_i hv
        rw [hv] at hx
        generalize hz : a.eval x = q at hx
        cases hx
        cases ok with
        | false => simp at hs
        | true =>
          simp only [cond_true, Res.ok.injEq] at hs
          obtain ⟨rfl, rfl⟩ := hs
          refine .val r (x := .tuple #[zv, .bool false]) ?_ (.tup (.cons (okVal_rv _ _ hzok) (.cons .bool .nil)))
          simp only [execOp, hz, Instr.typeAssert, Sem.run_bind, run_und hu, Result.andThen_ok]
          cases d <;> first | (simp [hz0]; done) | (exact absurd rfl (hni _))
      · rename_i t1 u hv
        rw [hv] at hx
        generalize hz : a.eval x = q at hx
        cases hx with
        | iface hx =>
          cases hb : Nat.beq t t1 with
          | true =>
            rw [nbeq, decide_eq_true_eq] at hb
            subst hb
            have hbt : Nat.beq t t = true := by simp
            simp only [hbt, cond_true, Res.ok.injEq] at hs
            obtain ⟨rfl, rfl⟩ := hs
            cases ok with
            | true =>
              refine .val r (x := .tuple #[_, .bool true]) ?_ (.tup (.cons hx (.cons .bool .nil)))
              simp only [execOp, hz, Instr.typeAssert, Sem.run_bind, run_und hu, Result.andThen_ok]
              cases d <;> first | (simp; done) | (exact absurd rfl (hni _))
            | false =>
              refine .val r (x := _) ?_ hx
              simp only [execOp, hz, Instr.typeAssert, Sem.run_bind, run_und hu, Result.andThen_ok]
              cases d <;> first | (simp; done) | (exact absurd rfl (hni _))
          | false =>
            simp only [hb, cond_false] at hs
            rw [nbeq, decide_eq_false_iff_not] at hb
            cases ok with
            | false => simp at hs
            | true =>
              simp only [cond_true, Res.ok.injEq] at hs
              obtain ⟨rfl, rfl⟩ := hs
              refine .val r (x := .tuple #[zv, .bool false]) ?_ (.tup (.cons (okVal_rv _ _ hzok) (.cons .bool .nil)))
              simp only [execOp, hz, Instr.typeAssert, Sem.run_bind, run_und hu, Result.andThen_ok]
              cases d <;> first | (simp [hz0, Ne.symm hb]; done) | (exact absurd rfl (hni _))
      · cases hs
    · cases h5
  · simp at ho
end
end Go.D
