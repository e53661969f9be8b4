/-
  The abstract evaluator 'D': deferred calls; functions that are left; calls at whatever depth.
-/
import Derived.Test.YtgdenjkiblpnpaaGreatDZ
namespace Go.D
section
variable {P : Program} {K : Km} {m : Mm} {h h' : Heap} {w : World} {v : AV} {n : Nat} {e : Env} {a : Act} {o : Oper} {call : Caller}

/-- how a result is read -/
def resSem (tmps : Array Value) : ResultVar → Sem Value
  | .tmp t => pure (tmps.getD t undef)
  | .cell a t => do loadVar t (← asAddr (tmps.getD a undef))

theorem resD_ok (r : Rel P K m h w) (he : REnv K m n e a) : ∀ {rs : List ResultVar} {qs : List DRes} {vs : List AV}, okResults P rs qs = true → resAll h e qs = some vs →
    ∃ xs, (rs.mapM (resSem a.tmps)).run P w = .ok xs w ∧ RvL K m vs xs
  | [], [], vs, _, hr => by
    simp only [resAll, Option.some.injEq] at hr; subst hr
    exact ⟨[], by simp, .nil⟩
  | .tmp t :: rs, .tmp u :: qs, vs, ho, hr => by
    simp only [okResults, Bool.and_eq_true, nbeq, decide_eq_true_eq] at ho
    obtain ⟨rfl, ho⟩ := ho
    simp only [resAll, resD, Option.bind_some, Option.map_eq_some_iff] at hr
    obtain ⟨l, h1, rfl⟩ := hr
    obtain ⟨xs, h2, h3⟩ := resD_ok r he ho h1
    exact ⟨a.tmps.getD t undef :: xs, by simp [List.mapM_cons, resSem, h2], .cons (he.get t) h3⟩
  | .cell t ty :: rs, .cell u k :: qs, vs, ho, hr => by
    simp only [okResults, Bool.and_eq_true, nbeq, decide_eq_true_eq] at ho
    obtain ⟨⟨rfl, hk⟩, ho⟩ := ho
    simp only [resAll, resD, Option.bind_eq_some_iff, Option.map_eq_some_iff] at hr
    obtain ⟨v, hv, l, h1, rfl⟩ := hr
    obtain ⟨xs, h2, h3⟩ := resD_ok r he ho h1
    obtain ⟨A, y, hA, hl, hy⟩ := loadD_ok r hk (he.get t) hv
    refine ⟨y :: xs, ?_, .cons hy h3⟩
    simp only [List.mapM_cons, resSem, Sem.run_bind, hA, asAddr, Sem.run_pure, Result.andThen_ok, hl, h2]
  | [], _ :: _, _, ho, _ => by simp [okResults] at ho
  | .tmp _ :: _, [], _, ho, _ => by simp [okResults] at ho
  | .cell _ _ :: _, [], _, ho, _ => by simp [okResults] at ho
  | .tmp _ :: _, .cell _ _ :: _, _, ho, _ => by simp [okResults] at ho
  | .cell _ _ :: _, .tmp _ :: _, _, ho, _ => by simp [okResults] at ho

theorem results_ok (r : Rel P K m h w) (he : REnv K m n e a) {fn : Func} {qs : List DRes} (ho : okResults P fn.results.toList qs = true) (hr : resultsD h e qs = some v) :
    ∃ x, (results fn a.tmps).run P w = .ok x w ∧ Rv K m v x := by
  unfold resultsD at hr
  have hm : ∀ xs : List Value, (fn.results.toList.mapM (resSem a.tmps)).run P w = .ok xs w → (results fn a.tmps).run P w = .ok (if h : xs.toArray.size = 1 then xs.toArray[0] else .tuple xs.toArray) w := by
    intro xs hxs
    have h1 : (fn.results.mapM (resSem a.tmps)).run P w = .ok xs.toArray w := by
      rw [Array.mapM_eq_mapM_toList, Sem.run_map, hxs]; rfl
    have h2 : results fn a.tmps = (do
        let vs ← fn.results.mapM (resSem a.tmps)
        pure (if h : vs.size = 1 then vs[0] else .tuple vs)) := by
      unfold results
      congr 1
    rw [h2, Sem.run_bind, h1, Result.andThen_ok, Sem.run_pure]
  cases hra : resAll h e qs with
  | none => rw [hra] at hr; cases hr
  | some vs =>
    obtain ⟨xs, h1, h2⟩ := resD_ok r he ho hra
    refine ⟨_, hm xs h1, ?_⟩
    rw [hra] at hr
    split at hr
    · rename_i hvs
      cases hvs
      simp only [Option.some.injEq] at hr; subst hr
      cases h2 with
      | cons hx tx => cases tx; exact hx
    · rename_i vs' hne hvs
      cases hvs
      simp only [Option.some.injEq] at hr; subst hr
      have hl := h2.length
      rw [dif_neg]
      · exact .tup h2
      · simp only [List.size_toArray]
        intro h1
        rw [hl] at h1
        cases vs with
        | nil => cases h1
        | cons q l => cases l with
          | nil => exact hne q rfl
          | cons _ _ => simp at h1
    · rename_i h; cases h

/-- the mode of the frame below -/
def modeOf (X : Value) : Option AV × Bool → FrameMode
  | (none, _) => .returning
  | (some _, b) => .panicking [{ v := X, recovered := b }]

def OutSOk (P : Program) (K : Km) (m : Mm) (h : Heap) (w : World) (n : Nat) (X : Value) (pv : Option AV) (c₀ : Frame) (cs : List Frame) (Q : Exit → Act → List Frame → World → Prop) : OutS → Prop
  | .go x e' p' h' => p'.1 = pv ∧ ∀ K' m' w' a', Rel P K' m' h' w' → REnv K' m' n e' a' → Ext K m h w K' m' h' w' → Q (exitOf x) a' ({ c₀ with mode := modeOf X p' } :: cs) w'
  | .err => False

theorem OutSOk.trans {K' : Km} {m' : Mm} {w' : World} {X : Value} {pv : Option AV} {c₀ : Frame} {cs : List Frame} {Q : Exit → Act → List Frame → World → Prop} {out : OutS}
    (hx : Ext K m h w K' m' h' w') (ho : OutSOk P K m h w n X pv c₀ cs Q out) : OutSOk P K' m' h' w' n X pv c₀ cs Q out := by
  cases out with
  | go x e' p' h' => exact ⟨ho.1, fun K2 m2 w2 a2 q1 q2 q3 => ho.2 K2 m2 w2 a2 q1 q2 (hx.trans q3)⟩
  | err => exact ho

theorem noCall_ok : CallOk P noCall := ⟨fun _ _ h => absurd rfl h, fun _ _ _ h => absurd rfl h⟩

theorem noCall_plain {i : DIns} (hs : step noCall e h i = .ok v h') : i.plain = true := by
  cases i <;> first | rfl | skip
  · cases hs
  · rename_i f args
    simp only [step, pureCall, noCall] at hs
    cases ht : AV.trees (args.map (DO.ev e)) with
    | true => rw [ht] at hs; cases hs
    | false =>
      rw [ht, cond_false] at hs
      split at hs <;> cases hs
  · simp only [step, noCall] at hs
    split at hs <;> cases hs
  · simp only [step, noCall] at hs
    split at hs
    · split at hs
      · cases hs
      · split at hs <;> cases hs
      · cases hs
    · cases hs
  · simp only [step] at hs
    split at hs <;> cases hs
  · cases hs
  · cases hs

theorem opsS_ok {ops : Array Oper} {X : Value} {pv : Option AV} {c₀ : Frame} {cs : List Frame} {Q : Exit → Act → List Frame → World → Prop} : ∀ (l : List DOp) (i : Nat) {K : Km} {m : Mm} {h : Heap} {w : World} {e : Env} {a : Act} {p : Option AV × Bool},
    Rel P K m h w → REnv K m n e a → (∀ v, pv = some v → Rv K m v X) → p.1 = pv → okOps P n ops (ops.toList.drop i) l = true → i ≤ ops.size → OutSOk P K m h w n X pv c₀ cs Q (opsS noCall l e p h) →
    wpOpsSIn Fence.wide 0 P ops Q (List.range' i (ops.size - i)) a ({ c₀ with mode := modeOf X p } :: cs) w
  | [], i, K, m, h, w, e, a, p, r, he, hX, hp, ho, hi, hq => by
    have hnil : ops.toList.drop i = [] := by
      cases hd : ops.toList.drop i with
      | nil => rfl
      | cons x xs => rw [hd] at ho; cases ho
    have hsz : ops.size - i = 0 := by
      have := congrArg List.length hnil
      simpa using this
    rw [hsz]
    exact hq.2 K m w a r he (.refl ..)
  | d :: l, i, K, m, h, w, e, a, p, r, he, hX, hp, ho, hi, hq => by
    cases hd : ops.toList.drop i with
    | nil => rw [hd] at ho; cases ho
    | cons o os =>
      rw [hd] at ho
      simp only [okOps, Bool.and_eq_true] at ho
      have hlt : i < ops.size := by
        have := congrArg List.length hd
        simp at this
        omega
      have hoi : ops[i]? = some o := by
        have : (ops.toList.drop i)[0]? = some o := by rw [hd]; rfl
        rw [List.getElem?_drop] at this
        simpa using this
      have hos : ops.toList.drop (i + 1) = os := by
        rw [← List.drop_drop, hd]; rfl
      have hsz : ops.size - i = (ops.size - (i + 1)) + 1 := by omega
      obtain ⟨hdst, hlt2⟩ := okOp_dst ho.1
      have hins : okIns P o.op d.ins = true := by have := ho.1; simp only [okOp, Bool.and_eq_true] at this; exact this.2
      rw [hsz, List.range'_succ]
      unfold wpOpsSIn
      rw [hoi]
      simp only
      refine ⟨fun _ _ => trivial, ?_⟩
      unfold opsS at hq
      split at hq
      · -- recover
        rename_i hi1 hg1
        rw [hi1] at hins
        obtain ⟨dst, op, ty, pos, after, guard⟩ := o
        have hwant : Region.wanted ⟨dst, op, ty, pos, after, guard⟩ (yielded ops a.tmps) = true := wanted_ok he ho.1 (by rw [hg1]; rfl)
        rw [hwant]
        simp only [if_true]
        have hrun : (execOp a.eval ⟨dst, op, ty, pos, after, guard⟩).run P w = .ok .recover w := by
          simp only [okIns] at hins
          split at hins
          · rename_i c
            obtain ⟨callee, args, argTypes⟩ := c
            simp only at hins
            split at hins
            · simp [execOp, resolve, invoke, Go.builtin]
            · cases hins
          · cases hins
        rw [hrun]
        simp only
        simp only at hdst
        subst hdst
        split at hq
        · rename_i vv
          have hrec : recoverD ({ c₀ with mode := modeOf X (some vv, false) } :: cs) = some (X, { c₀ with mode := modeOf X (some vv, true) } :: cs) := rfl
          rw [hrec]
          exact opsS_ok l (i + 1) r (he.put (hX vv hp.symm) hlt2) hX hp (by rw [hos]; exact ho.2) hlt hq
        · rename_i hne
          have hrec : recoverD ({ c₀ with mode := modeOf X p } :: cs) = none := by
            obtain ⟨q, b⟩ := p
            cases q with
            | none => rfl
            | some vv => cases b with
              | true => rfl
              | false => exact absurd rfl (hne vv)
          rw [hrec]
          exact opsS_ok l (i + 1) r (he.put .nili hlt2) hX hp (by rw [hos]; exact ho.2) hlt hq
      · rename_i hnr
        cases hwd : wanted e d.grd with
        | none => rw [hwd] at hq; exact hq.elim
        | some b =>
          rw [wanted_ok he ho.1 hwd]
          rw [hwd] at hq
          cases b with
          | false =>
            simp only [Bool.false_eq_true, if_false] at hq ⊢
            rw [hdst]
            exact opsS_ok l (i + 1) r (he.put (x := undef) (.tup .nil) hlt2) hX hp (by rw [hos]; exact ho.2) hlt hq
          | true =>
            simp only [if_true] at hq ⊢
            cases hs : step noCall e h d.ins with
            | panic _ _ => rw [hs] at hq; exact hq.elim
            | err => rw [hs] at hq; exact hq.elim
            | ok v h1 =>
              rw [hs] at hq
              simp only at hq
              obtain ⟨K', m', w', x, hrun, hv, hr, hx⟩ := ok_step r he (noCall_plain hs) hins hs
              have fin := opsS_ok (X := X) (pv := pv) (c₀ := c₀) (cs := cs) (Q := Q) l (i + 1) (p := p) hr ((he.mono hx.kmono hx.mono).put hv hlt2) (fun v hh => (hX v hh).mono hx.kmono hx.mono) hp (by rw [hos]; exact ho.2) hlt (OutSOk.trans hx hq)
              rcases hrun with hrun | ⟨hrun, rfl⟩
              · rw [hrun, hdst]; exact fin
              · rw [hrun, hdst]; exact fin

theorem opsS_fst : ∀ (l : List DOp) {e : Env} {p : Option AV × Bool} {h : Heap} {x : Ex} {e' : Env} {p' : Option AV × Bool} {h' : Heap}, opsS call l e p h = .go x e' p' h' → p'.1 = p.1
  | [], e, p, h, x, e', p', h', hh => by simp only [opsS, OutS.go.injEq] at hh; rw [hh.2.2.1]
  | d :: l, e, p, h, x, e', p', h', hh => by
    unfold opsS at hh
    split at hh
    · split at hh
      · have := opsS_fst l hh; exact this
      · exact opsS_fst l hh
    · split at hh
      · cases hh
      · exact opsS_fst l hh
      · split at hh
        · exact opsS_fst l hh
        · cases hh

theorem evS_fst {L : Nat} : ∀ (d : DCode) {e : Env} {p : Option AV × Bool} {h : Heap} {x : Ex} {e' : Env} {p' : Option AV × Bool} {h' : Heap}, evS call L d e p h = .go x e' p' h' → p'.1 = p.1 := by
  intro d
  have other : ∀ {out : Out} {p : Option AV × Bool} {x : Ex} {e' : Env} {p' : Option AV × Bool} {h' : Heap}, (match out with
        | .go x e h => OutS.go x e p h
        | _ => .err) = .go x e' p' h' → p'.1 = p.1 := by
    intro out p x e' p' h' hh
    cases out with
    | go x e h => simp only [OutS.go.injEq] at hh; rw [hh.2.2.1]
    | panic v e h => cases hh
    | err => cases hh
  induction d with
  | ops l =>
    intro e p h x e' p' h' hh
    simp only [evS] at hh
    cases hrc : l.any (fun o => o.ins.isRecov) with
    | true => rw [hrc, cond_true] at hh; exact opsS_fst l hh
    | false => rw [hrc, cond_false] at hh; exact other hh
  | seq a b iha ihb =>
    intro e p h x e' p' h' hh
    simp only [evS] at hh
    cases ha : evS call L a e p h with
    | err => rw [ha] at hh; cases hh
    | go y e1 p1 h1 =>
      rw [ha] at hh
      have h2 := iha ha
      cases y with
      | norm => exact (ihb hh).trans h2
      | exit id => simp only [OutS.go.injEq] at hh; rw [← hh.2.2.1]; exact h2
      | ret => simp only [OutS.go.injEq] at hh; rw [← hh.2.2.1]; exact h2
  | cond c a b iha ihb =>
    intro e p h x e' p' h' hh
    simp only [evS] at hh
    split at hh
    · exact iha hh
    · exact ihb hh
    · cases hh
  | skip => intro e p h x e' p' h' hh; simp only [evS, evd, OutS.go.injEq] at hh; rw [hh.2.2.1]
  | exit id => intro e p h x e' p' h' hh; simp only [evS, evd, OutS.go.injEq] at hh; rw [hh.2.2.1]
  | ret => intro e p h x e' p' h' hh; simp only [evS, evd, OutS.go.injEq] at hh; rw [hh.2.2.1]
  | _ =>
    intro e p h x e' p' h' hh
    exact other hh

theorem outS_of {X : Value} {pv : Option AV} {p : Option AV × Bool} {c₀ : Frame} {cs : List Frame} {Q : Exit → Act → List Frame → World → Prop} {out : Out} (_hp : p.1 = pv)
    (hq : OutSOk P K m h w n X pv c₀ cs Q (match out with
      | .go x e h => .go x e p h
      | _ => .err)) : OutOk P K m h w n (fun e a' w' => Q e a' ({ c₀ with mode := modeOf X p } :: cs) w') out := by
  cases out with
  | go x e h => exact hq.2
  | panic v e h => exact hq.elim
  | err => exact hq.elim

theorem evS_ok (cok : CallOk P call) (dok : DrawnOk P call) {L : Nat} {X : Value} {pv : Option AV} {c₀ : Frame} {cs : List Frame} :
    ∀ (c : Code) (d : DCode) {K : Km} {m : Mm} {h : Heap} {w : World} {e : Env} {a : Act} {p : Option AV × Bool} {Q : Exit → Act → List Frame → World → Prop}, Rel P K m h w → REnv K m n e a →
      (∀ v, pv = some v → Rv K m v X) → p.1 = pv → okCode P n c d = true →
      OutSOk P K m h w n X pv c₀ cs Q (evS call L d e p h) → c.wpSIn Fence.wide 0 P Q a ({ c₀ with mode := modeOf X p } :: cs) w := by
  intro c
  have other : ∀ (c : Code) (d : DCode) {K : Km} {m : Mm} {h : Heap} {w : World} {e : Env} {a : Act} {p : Option AV × Bool} {Q : Exit → Act → List Frame → World → Prop}, Rel P K m h w → REnv K m n e a →
      p.1 = pv → okCode P n c d = true → OutSOk P K m h w n X pv c₀ cs Q (match evd call L false d e h with
        | .go x e h => .go x e p h
        | _ => .err) → c.wpSIn Fence.wide 0 P Q a ({ c₀ with mode := modeOf X p } :: cs) w := by
    intro c d K m h w e a p Q r he hp ho hq
    refine wpSIn_of_wpIn rfl ?_
    exact code_ok (ro := none) cok dok c d r he ho (outS_of hp hq)
  induction c with
  | region id ops dr =>
    intro d K m h w e a p Q r he hX hp ho hq
    cases d with
    | ops l =>
      cases dr with
      | true => simp [okCode] at ho
      | false =>
        have ho' : okOps P n ops ops.toList l = true := by simpa only [okCode] using ho
        simp only [evS] at hq
        cases hrc : l.any (fun o => o.ins.isRecov) with
        | true =>
          rw [hrc, cond_true] at hq
          refine wpSIn_region ?_
          have := opsS_ok (X := X) (pv := pv) (c₀ := c₀) (cs := cs) (Q := Q) (ops := ops) l 0 r he hX hp (by simpa using ho') (Nat.zero_le _) hq
          simpa [List.range_eq_range'] using this
        | false =>
          rw [hrc, cond_false] at hq
          refine other _ (.ops l) r he hp ho ?_
          simp only [evd, Bool.false_and, cond_false]
          exact hq
    | drawn l => exact other _ _ r he hp ho hq
    | _ => cases dr <;> simp [okCode] at ho
  | seq x y ihx ihy =>
    intro d K m h w e a p Q r he hX hp ho hq
    cases d <;> simp only [okCode, Bool.false_eq_true] at ho
    rename_i x' y'
    simp only [Bool.and_eq_true] at ho
    refine wpSIn_seq (ihx x' r he hX hp ho.1 ?_)
    simp only [evS] at hq
    cases hx : evS call L x' e p h with
    | go ex e' p' h' =>
      rw [hx] at hq
      cases ex with
      | norm =>
        have hp' : p'.1 = pv := (evS_fst x' hx).trans hp
        exact ⟨hp', fun K' m' w' a' q1 q2 q3 => ihy y' q1 q2 (fun v hh => (hX v hh).mono q3.kmono q3.mono) hp' ho.2 (OutSOk.trans q3 hq)⟩
      | exit id => exact hq
      | ret => exact hq
    | err => rw [hx] at hq; exact hq.elim
  | cond c x y ihx ihy =>
    intro d K m h w e a p Q r he hX hp ho hq
    cases d <;> simp only [okCode, Bool.false_eq_true] at ho
    rename_i c' x' y'
    simp only [Bool.and_eq_true] at ho
    have hc := he.eval ho.1.1
    simp only [evS] at hq
    split at hq
    · rename_i hb
      rw [hb] at hc
      refine wpSIn_cond (t := true) (rv_bool hc) ?_
      simp only [if_true]
      exact ihx x' r he hX hp ho.1.2 hq
    · rename_i hb
      rw [hb] at hc
      refine wpSIn_cond (t := false) (rv_bool hc) ?_
      simp only [Bool.false_eq_true, if_false]
      exact ihy y' r he hX hp ho.2 hq
    · exact hq.elim
  | _ =>
    intro d K m h w e a p Q r he hX hp ho hq
    cases d <;> first | (simp [okCode] at ho; done) | exact other _ _ r he hp ho hq

/-- the mode in which a function is left -/
def modeP (X : Value) : Option AV → FrameMode
  | none => .returning
  | some _ => .panicking [{ v := X, recovered := false }]

def nextP : Option AV × Bool → Option AV
  | (some _, true) => none
  | (q, _) => q

theorem settle_mode (X : Value) (q : Option AV × Bool) : settle (modeOf X q) = modeP X (nextP q) := by
  obtain ⟨q, b⟩ := q
  cases q with
  | none => rfl
  | some v => cases b <;> rfl

/-- a function is left -/
theorem leave_ok {tab : Nat → Option DFunc} (tok : TabOk P tab) (cok : CallOk P call) (dok : DrawnOk P call) {L : Nat} {fn : Func} {rs : List DRes} (hrs : okResults P fn.results.toList rs = true)
    {K0 : Km} {m0 : Mm} {h0 : Heap} {w0 : World} {tmps : Array Value} {e : Env} {X : Value} :
    ∀ (ds : List Dfr) (es : List Deferred) {K : Km} {m : Mm} {h : Heap} {w : World} {p : Option AV} {R : Res AV}, Rel P K m h w → Ext K0 m0 h0 w0 K m h w → (∀ t, Rv K m (e.get t) (tmps.getD t undef)) → RDs K m ds es →
      (∀ v, p = some v → Rv K m v X) → leave call tab L rs e ds p h = R → R ≠ .err →
      LeavesInM Fence.wide 0 P fn tmps (Post P K0 m0 h0 w0 R) es (modeP X p) w
  | [], es, K, m, h, w, p, R, r, hx, he, hd, hX, hl, hne => by
    cases es with
    | cons d es => exact hd.elim
    | nil =>
      cases p with
      | none =>
        simp only [leave] at hl
        cases hres : resultsD h e rs with
        | none => rw [hres] at hl; exact absurd hl.symm hne
        | some v =>
          rw [hres] at hl
          have he2 : REnv K m tmps.size { e with ds := [] } { tmps := tmps, defers := [] } := ⟨he, rfl, trivial⟩
          have hres2 : resultsD h { e with ds := [] } rs = some v := by
            rw [← hres]
            have : ∀ q, resD h { e with ds := [] } q = resD h e q := fun q => by cases q <;> rfl
            have h3 : ∀ qs, resAll h { e with ds := [] } qs = resAll h e qs := by
              intro qs
              induction qs with
              | nil => rfl
              | cons q qs ih => simp only [resAll, this, ih]
            unfold resultsD
            rw [h3]
          obtain ⟨x, h1, h2⟩ := results_ok r he2 hrs hres2
          exact ⟨x, h1, v, h, K, m, hl.symm, h2, r, hx⟩
      | some v =>
        simp only [leave] at hl
        exact ⟨v, h, K, m, X, hl.symm, rfl, hX v rfl, r, hx⟩
  | .mark q :: ds, es, K, m, h, w, p, R, r, hx, he, hd, hX, hl, hne => by
    cases es with
    | nil => exact hd.elim
    | cons d es =>
      obtain ⟨⟨Lq, hq, htar⟩, hd⟩ := hd
      simp only [leave] at hl
      split at hl
      · rename_i hg
        cases r.ob _ _ hg _ hq with
        | mark hw =>
          refine ⟨by cases p <;> simp [modeP], .inl ⟨Lq.c, _, htar, run_takeDeferred hw, ?_⟩⟩
          exact leave_ok tok cok dok hrs ds es (r.dropW hg hq fun c hc => World.putObj_heap_other hc) (hx.trans (Ext.dropW hg hq (fun c hc => World.putObj_heap_other hc) (by simp) rfl rfl rfl)) he hd hX hl hne
      · exact absurd hl.symm hne
  | .fn f args :: ds, es, K, m, h, w, p, R, r, hx, he, hd, hX, hl, hne => by
    cases es with
    | nil => exact hd.elim
    | cons d es =>
      obtain ⟨⟨cap, as, htar, has, hargs⟩, hd⟩ := hd
      simp only [leave] at hl
      cases htab : tab f with
      | none => rw [htab] at hl; exact absurd hl.symm hne
      | some dfn =>
        rw [htab] at hl
        simp only at hl
        cases hna : Nat.beq args.length dfn.nargs with
        | false => rw [hna] at hl; exact absurd hl.symm hne
        | true =>
          rw [hna] at hl
          simp only [Bool.not_true, cond_false] at hl
          obtain ⟨fn2, c2, hf, hb, hok, hname⟩ := tok f dfn htab
          rw [nbeq, decide_eq_true_eq] at hna
          unfold okFunc at hok
          rw [hb] at hok
          simp only [Bool.and_eq_true, nbeq, nble, decide_eq_true_eq] at hok
          obtain ⟨⟨⟨hnt, hnar⟩, hres2⟩, hcode⟩ := hok
          refine ⟨by cases p <;> simp [modeP], .inr ⟨fun hh => by simp [Fence.wide] at hh, .func f, cap, f, as ++ cap, htar, ?_, fun _ _ => trivial, ?_⟩⟩
          · rw [htar, has]
            exact callFunc_enter hf hb hname _ _
          · refine callsDIn_of_wpSIn hf hb trivial fun c₀ cs hc₀ => ?_
            have hmode : (c₀ : Frame) = { c₀ with mode := modeOf X (p, false) } := by
              have : modeP X p = modeOf X (p, false) := by cases p <;> rfl
              rw [← this, ← hc₀]
            have hs := start_env (nt := fn2.ntmps) hargs (by omega)
            cases hev : evS call L dfn.body (startEnv args) (p, false) h with
            | err => rw [hev] at hl; exact absurd hl.symm hne
            | go x e' p' h' =>
              rw [hev] at hl
              rw [hmode]
              refine evS_ok cok dok (L := L) (pv := p) (p := (p, false)) c2 dfn.body r hs hX rfl hcode ?_
              rw [hev]
              have hp' := evS_fst _ hev
              refine ⟨hp', fun K' m' w' a' q1 q2 q3 => ?_⟩
              have hX' : ∀ v, p'.1 = some v → Rv K' m' v X := fun v hv => (hX v (by rw [← hv, hp'])).mono q3.kmono q3.mono
              have key : ∀ (vr : AV), (∀ id, x ≠ .exit id) → e'.ds = [] → resultsD h' e' dfn.results = some vr →
                  leave call tab L rs e ds (nextP p') h' = R →
                  a'.defers = [] ∧ ∃ u', ({ c₀ with mode := modeOf X p' } :: cs) = { c₀ with mode := u' } :: cs ∧ ∃ v, (results fn2 a'.tmps).run P w' = .ok v w' ∧
                    LeavesInM Fence.wide 0 P fn tmps (Post P K0 m0 h0 w0 R) es (settle u') w' := by
                intro vr _ hds hres hl
                refine ⟨?_, modeOf X p', rfl, ?_⟩
                · have hd2 := q2.ds
                  rw [hds] at hd2
                  cases had : a'.defers with
                  | nil => rfl
                  | cons _ _ => rw [had] at hd2; exact hd2.elim
                · obtain ⟨xx, h1, _⟩ := results_ok q1 q2 hres2 hres
                  refine ⟨xx, h1, ?_⟩
                  rw [settle_mode]
                  refine leave_ok tok cok dok hrs ds es q1 (hx.trans q3) (fun t => (he t).mono q3.kmono q3.mono) (hd.mono q3.kmono q3.mono) ?_ hl hne
                  intro v hv
                  obtain ⟨pq, pb⟩ := p'
                  cases pq with
                  | none => cases pb <;> cases hv
                  | some u => cases pb with
                    | false => cases hv; exact hX' _ rfl
                    | true => cases hv
              cases x with
              | exit id => exact absurd hl.symm hne
              | norm =>
                cases hds : e'.ds with
                | cons _ _ => simp only [hds] at hl; exact absurd hl.symm hne
                | nil =>
                  cases hres : resultsD h' e' dfn.results with
                  | none => simp only [hds, hres] at hl; exact absurd hl.symm hne
                  | some vr =>
                    simp only [hds, hres] at hl
                    refine key vr (fun id hh => by cases hh) hds hres ?_
                    obtain ⟨pq, pb⟩ := p'
                    cases pq with
                    | none => exact hl
                    | some u => cases pb <;> exact hl
              | ret =>
                cases hds : e'.ds with
                | cons _ _ => simp only [hds] at hl; exact absurd hl.symm hne
                | nil =>
                  cases hres : resultsD h' e' dfn.results with
                  | none => simp only [hds, hres] at hl; exact absurd hl.symm hne
                  | some vr =>
                    simp only [hds, hres] at hl
                    refine key vr (fun id hh => by cases hh) hds hres ?_
                    obtain ⟨pq, pb⟩ := p'
                    cases pq with
                    | none => exact hl
                    | some u => cases pb <;> exact hl

theorem fn_ok {tab : Nat → Option DFunc} (tok : TabOk P tab) {L d : Nat} (cok : CallOk P (callF tab L d)) (dok : DrawnOk P (callF tab L d)) {f : Nat} {args : List AV} {vals : Array Value} (r : Rel P K m h w)
    (hv : RvL K m args vals.toList) (hne : callF tab L (d + 1) (.fn f) args h ≠ .err) :
    (callFunc f vals).run P w = .ok (.enter f vals) w ∧ CallsIn Fence.wide 0 P f vals w (Post P K m h w (callF tab L (d + 1) (.fn f) args h)) := by
  unfold callF at hne ⊢
  cases htab : tab f with
  | none => rw [htab] at hne; exact absurd rfl hne
  | some dfn =>
    rw [htab] at hne
    simp only at hne ⊢
    cases hna : Nat.beq args.length dfn.nargs with
    | false => rw [hna] at hne; exact absurd rfl hne
    | true =>
      rw [hna] at hne
      simp only [Bool.not_true, cond_false] at hne ⊢
      obtain ⟨fn2, c2, hf, hb, hok, hname⟩ := tok f dfn htab
      rw [nbeq, decide_eq_true_eq] at hna
      unfold okFunc at hok
      rw [hb] at hok
      simp only [Bool.and_eq_true, nbeq, nble, decide_eq_true_eq] at hok
      obtain ⟨⟨⟨hnt, hnar⟩, hres2⟩, hcode⟩ := hok
      refine ⟨callFunc_enter hf hb hname vals w, callsIn_of_wp_marks hf hb trivial ?_⟩
      have hs := start_env (nt := fn2.ntmps) hv (by omega)
      refine code_ok (ro := none) cok dok (L := L) c2 dfn.body r hs hcode ?_
      show OutOk P K m h w fn2.ntmps _ (evd (callF tab L d) L false dfn.body (startEnv args) h)
      cases hev : evd (callF tab L d) L false dfn.body (startEnv args) h with
      | err => rw [hev] at hne; exact absurd rfl hne
      | panic v e1 h1 =>
        rw [hev] at hne
        simp only at hne ⊢
        intro K' m' w' a' x q1 q2 q3 q4
        exact leave_ok (X := x) (p := some v) tok cok dok hres2 e1.ds a'.defers q1 q4 q2.get q2.ds (fun v hh => by cases hh; exact q3) rfl hne
      | go x e1 h1 =>
        rw [hev] at hne
        cases x with
        | exit id => exact absurd rfl hne
        | norm =>
          intro K' m' w' a' q1 q2 q4
          exact leave_ok (X := undef) (p := none) tok cok dok hres2 e1.ds a'.defers q1 q4 q2.get q2.ds (fun v hh => by cases hh) rfl hne
        | ret =>
          intro K' m' w' a' q1 q2 q4
          exact leave_ok (X := undef) (p := none) tok cok dok hres2 e1.ds a'.defers q1 q4 q2.get q2.ds (fun v hh => by cases hh) rfl hne

/-- calls at whatever depth -/
theorem callF_ok {tab : Nat → Option DFunc} (tok : TabOk P tab) (hdr : ∀ call, CallOk P call → DrawnOk P call) {L : Nat} : ∀ d, CallOk P (callF tab L d)
  | 0 => ⟨fun _ _ hne => absurd rfl hne, fun _ _ _ hne => absurd rfl hne⟩
  | d + 1 => ⟨fun r hv hne => fn_ok tok (callF_ok tok hdr d) (hdr _ (callF_ok tok hdr d)) r hv hne,
              fun r hL hv hne => yld_ok (callF_ok tok hdr d) (hdr _ (callF_ok tok hdr d)) r hL hv hne⟩
end
end Go.D
