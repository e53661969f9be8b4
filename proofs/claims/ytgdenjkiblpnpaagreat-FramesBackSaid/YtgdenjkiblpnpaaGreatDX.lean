/-
  The abstract evaluator 'D': calls of methods; every instruction; regions in the order of the text.
-/
import Derived.Test.YtgdenjkiblpnpaaGreatDW
namespace Go.D
section
variable {P : Program} {K : Km} {m : Mm} {h h' : Heap} {w : World} {v : AV} {n : Nat} {e : Env} {a : Act} {o : Oper} {call : Caller}

theorem run_method_ptr {t el : TypeId} {i : TypeInfo} {name : String} {ms : Method} {g : Nat} {X : Value} {fuel : Nat} (hi : P.info? t = some i) (hm : i.methods.find? (·.name == name) = some ms)
    (hu : P.underlying t = some (.pointer el)) (hp : ms.path.isEmpty = true) (hf : ms.func = some (g, true)) : (method (fuel + 1) t X name).run P w = .ok (g, X) w := by
  have hp' : ms.path.toList = [] := by simpa using hp
  simp [method, run_info hi, hm, hp', follow, hf, receiverAt, run_und hu, Place.get]

theorem run_wrapChk {t : TypeId} {A : Addr} {s1 s2 : String} : (Builtin.ssaWrapNilChk_ #[t] t #[.pointer (some A), strVal s1, strVal s2]).run P w = .ok (.pointer (some A)) w := rfl

theorem run_method_val {t el : TypeId} {i : TypeInfo} {name : String} {ms : Method} {g : Nat} {A : Addr} {Y : Value} {fuel : Nat} (hi : P.info? t = some i) (hm : i.methods.find? (·.name == name) = some ms)
    (hu : P.underlying t = some (.pointer el)) (hp : ms.path.isEmpty = true) (hf : ms.func = some (g, false)) (hl : (loadVar el A).run P w = .ok Y w) :
    (method (fuel + 1) t (.pointer (some A)) name).run P w = .ok (g, Y) w := by
  have hp2 : ms.path = #[] := by simpa using hp
  simp [method, run_info hi, hm, follow, hf, receiverAt, run_und hu, Place.get, run_wrapChk, hl, asAddr, hp2]

theorem findM_ok {name : String} {t : Nat} : ∀ {tbl : List (Nat × Nat × Option (Option Nat))} {f : Nat} {k : Option (Option Nat)}, okInv P name tbl = true → findM t tbl = some (f, k) →
    ∃ i el ms, P.info? t = some i ∧ i.methods.find? (·.name == name) = some ms ∧ P.underlying t = some (.pointer el) ∧ ms.path.isEmpty = true ∧
      ((ms.func = some (f, true) ∧ k = none) ∨ (∃ q, ms.func = some (f, false) ∧ k = some q ∧ ckKind P el q = true))
  | [], _, _, _, h => by cases h
  | (u, g, d) :: tbl, f, k, ho, h => by
    simp only [okInv, Bool.and_eq_true] at ho
    simp only [findM] at h
    cases hb : Nat.beq t u with
    | false => rw [hb, cond_false] at h; exact findM_ok ho.2 h
    | true =>
      rw [hb, cond_true, Option.some.injEq, Prod.mk.injEq] at h
      obtain ⟨rfl, rfl⟩ := h
      rw [nbeq, decide_eq_true_eq] at hb
      subst hb
      have h1 := ho.1
      split at h1
      · rename_i i hi
        split at h1
        · rename_i ms el hm hu
          simp only [Bool.and_eq_true] at h1
          refine ⟨i, el, ms, hi, hm, hu, h1.1, ?_⟩
          have h2 := h1.2
          split at h2
          · rename_i g' hf
            rw [nbeq, decide_eq_true_eq] at h2
            subst h2
            exact .inl ⟨hf, rfl⟩
          · rename_i g' q hf
            simp only [Bool.and_eq_true, nbeq, decide_eq_true_eq] at h2
            obtain ⟨rfl, h3⟩ := h2
            exact .inr ⟨q, hf, rfl, h3⟩
          · cases h2
        · cases h1
      · cases h1

theorem upon_inv {ro : Option Nat} (cok : CallOk P call) (r : Rel P K m h w) (he : REnv K m n e a) {x : DO} {tbl : List (Nat × Nat × Option (Option Nat))} {ys : List DO}
    (ho : okIns P o.op (.inv x tbl ys) = true) (hs : step call e h (.inv x tbl ys) ≠ .err) : Upon P ro o a K m h w (step call e h (.inv x tbl ys)) := by
  obtain ⟨dst, op, ty, pos, after, guard⟩ := o
  simp only [okIns] at ho
  split at ho
  · rename_i c
    obtain ⟨callee, args, argTypes⟩ := c
    simp only at ho
    split at ho
    · rename_i X name
      simp only [Bool.and_eq_true] at ho
      obtain ⟨⟨h1, h2⟩, h3⟩ := ho
      have hx := he.eval h1
      have hv : RvL K m (ys.map (DO.ev e)) (args.map a.eval).toList := by
        rw [Array.toList_map]; exact he.evals h2
      cases hm : x.ev e with
      | iface t u =>
        simp only [step, hm] at hs ⊢
        rw [hm] at hx
        generalize hX : a.eval X = VX at hx
        cases hx with
        | iface hu =>
          rename_i U
          have hfin : ∀ f u' U' R, (∀ fuel, (method (fuel + 1) t U name).run P w = .ok (f, U') w) → Rv K m u' U' → call (.fn f) (u' :: ys.map (DO.ev e)) h = R → R ≠ .err →
              Upon P ro ⟨dst, .call ⟨.invoke X name, args, argTypes⟩, ty, pos, after, guard⟩ a K m h w R := by
            intro f u' U' R hmet hu' hR hne
            subst hR
            have hall : RvL K m (u' :: ys.map (DO.ev e)) (#[U'] ++ args.map a.eval).toList := by
              rw [Array.toList_append]; exact RvL.append (.one hu') hv
            obtain ⟨h4, h5⟩ := cok.fn r hall hne
            refine Upon.of_call ?_ h5
            have h6 := hmet (P.types.size + 99)
            have h7 : (#[Value.iface t U] ++ args.map a.eval).extract 1 (#[Value.iface t U] ++ args.map a.eval).size = args.map a.eval := by
              apply Array.ext'
              rw [Array.toList_extract, Array.toList_append]
              simp [List.extract, List.take_of_length_le]
            have h8 : P.types.size + Made.depth = P.types.size + 99 + 1 := rfl
            rw [← h8] at h6
            have h9 : (callMethod (.iface t U) name (args.map a.eval)).run P w = .ok (.enter f (#[U'] ++ args.map a.eval)) w := by
              simp only [callMethod, Sem.run_bind, run_program, Result.andThen_ok, h6, h4]
            have h10 : (#[Value.iface t U] ++ args.map a.eval)[0]? = some (.iface t U) := by rw [Array.getElem?_append_left (by simp)]; rfl
            simp only [execOp, resolve, hX, invoke, Sem.run_bind, Sem.run_pure, Result.andThen_ok, h10, h7, h9]
          split at hs <;> rename_i hfm
          · rename_i f
            obtain ⟨i, el, ms, q1, q2, q3, q4, q5⟩ := findM_ok h3 hfm
            rcases q5 with ⟨q6, _⟩ | ⟨_, _, q6, _⟩
            · exact hfin _ _ _ _ (fun fuel => run_method_ptr q1 q2 q3 q4 q6) hu rfl hs
            · cases q6
          · rename_i f k
            obtain ⟨i, el, ms, q1, q2, q3, q4, q5⟩ := findM_ok h3 hfm
            rcases q5 with ⟨_, q6⟩ | ⟨q, q6, q7, q8⟩
            · cases q6
            · cases q7
              cases hl : loadD h k u with
              | none => rw [hl] at hs; exact absurd rfl hs
              | some u' =>
                rw [hl] at hs
                obtain ⟨A, Y, rfl, hlv, hyv⟩ := loadD_ok r q8 hu hl
                exact hfin _ _ _ _ (fun fuel => run_method_val q1 q2 q3 q4 q6 hlv) hyv rfl hs
          · exact absurd rfl hs
      | _ => simp only [step, hm] at hs; exact absurd rfl hs
    · cases ho
  · simp at ho

theorem plain_calm {i : DIns} (hp : i.plain = true) : ∀ v h', step call e h i ≠ .panic v h' := by
  intro v h' hs
  cases i <;> first | cases hp | skip
  all_goals simp only [step, Res.of, storeD, appendD, newOpen, Bool.cond_eq_ite] at hs
  all_goals repeat' (first | (cases hs; done) | split at hs)

def exitOf : Ex → Exit
  | .norm => .normal
  | .exit id => .exit id
  | .ret => .ret

/-- how code is left, and what is asked then -/
def OutOk (P : Program) (K : Km) (m : Mm) (h : Heap) (w : World) (n : Nat) (Q : Exit → Act → World → Prop) : Out → Prop
  | .go x e' h' => ∀ K' m' w' a', Rel P K' m' h' w' → REnv K' m' n e' a' → Ext K m h w K' m' h' w' → Q (exitOf x) a' w'
  | .panic v e' h' => ∀ K' m' w' a' x, Rel P K' m' h' w' → REnv K' m' n e' a' → Rv K' m' v x → Ext K m h w K' m' h' w' → Q (.panic [{ v := x, recovered := false }]) a' w'
  | .err => False

theorem OutOk.trans {K' : Km} {m' : Mm} {w' : World} {Q : Exit → Act → World → Prop} {out : Out} (hx : Ext K m h w K' m' h' w') (ho : OutOk P K m h w n Q out) : OutOk P K' m' h' w' n Q out := by
  cases out with
  | go x e' h' => exact fun K2 m2 w2 a2 q1 q2 q3 => ho K2 m2 w2 a2 q1 q2 (hx.trans q3)
  | panic v e' h' => exact fun K2 m2 w2 a2 x q1 q2 q3 q4 => ho K2 m2 w2 a2 x q1 q2 q3 (hx.trans q4)
  | err => exact ho

theorem OutOk.mono {Q Q' : Exit → Act → World → Prop} {out : Out} (hq : ∀ x a w, Q x a w → Q' x a w) (ho : OutOk P K m h w n Q out) : OutOk P K m h w n Q' out := by
  cases out with
  | go x e' h' => exact fun K2 m2 w2 a2 q1 q2 q3 => hq _ _ _ (ho K2 m2 w2 a2 q1 q2 q3)
  | panic v e' h' => exact fun K2 m2 w2 a2 x q1 q2 q3 q4 => hq _ _ _ (ho K2 m2 w2 a2 x q1 q2 q3 q4)
  | err => exact ho

theorem upon_step {ro : Option Nat} (cok : CallOk P call) (r : Rel P K m h w) (he : REnv K m n e a) {i : DIns} (hd : i.isDfr = false) (ho : okIns P o.op i = true) (hs : step call e h i ≠ .err) :
    Upon P ro o a K m h w (step call e h i) := by
  by_cases hp : i.plain = true
  · cases hr : step call e h i with
    | ok v h' => exact Upon.of_step (ok_step r he hp ho hr)
    | panic v h' => exact absurd hr (plain_calm hp v h')
    | err => exact absurd hr hs
  · cases i with
    | call => exact upon_call cok r he ho hs
    | pcall => exact upon_pcall cok r he ho hs
    | callv => exact upon_callv cok r he ho hs
    | inv => exact upon_inv cok r he ho hs
    | panic => exact upon_panic r he ho hs
    | recov => exact absurd rfl hs
    | dfr => cases hd
    | _ => exact absurd rfl hp

/-- the operation is done, or is not, as the evaluator says -/
theorem wanted_ok {ops : Array Oper} {d : DOp} (he : REnv K m n e a) (ho : okOp P n ops o d = true) {b : Bool} (hw : wanted e d.grd = some b) : Region.wanted o (yielded ops a.tmps) = b := by
  simp only [okOp, Bool.and_eq_true] at ho
  have hg := ho.1.2
  unfold Region.wanted
  split at hg
  · rename_i h1 h2
    rw [h2] at hw
    simp only [wanted, Option.some.injEq] at hw
    rw [h1]; exact hw
  · rename_i j b1 t b2 h1 h2
    rw [h1]
    simp only [Bool.and_eq_true, beq_iff_eq] at hg
    obtain ⟨rfl, hg⟩ := hg
    split at hg
    · rename_i oj hoj
      have hdst := natO_eq hg
      have ht := he.get t
      have hb : (ops[j]?).bind (·.dst) = some t := by simp [hoj, hdst]
      have hy1 : ∀ x, a.tmps[t]? = some (.bool x) → yielded ops a.tmps j = some x := fun x hx => by simp only [yielded, hb, Option.bind_some, hx]
      have hy2 : (∀ x, a.tmps[t]? ≠ some (.bool x)) → yielded ops a.tmps j = none := fun hx => by
        simp only [yielded, hb, Option.bind_some]
      rw [h2] at hw
      simp only [wanted] at hw
      rw [Array.getD_eq_getD_getElem?] at ht
      split at hw
      · rename_i x hx
        rw [hx] at ht
        simp only [Option.some.injEq] at hw; subst hw
        cases hv : a.tmps[t]? with
        | none => rw [hv] at ht; cases ht
        | some V =>
          rw [hv] at ht
          simp only [Option.getD_some] at ht
          cases ht
          simp only [hy1 x hv]
          cases x <;> cases b1 <;> rfl
      · rename_i hx
        rw [hx] at ht
        simp only [Option.some.injEq] at hw; subst hw
        cases hv : a.tmps[t]? with
        | none => simp only [hy2 (fun x hx => by rw [hv] at hx; cases hx)]; rfl
        | some V =>
          rw [hv] at ht
          simp only [Option.getD_some] at ht
          cases ht
          simp only [hy2 (fun x hx => by rw [hv] at hx; cases hx)]; rfl
      · cases hw
    · cases hg
  · cases hg

theorem okOp_dst {ops : Array Oper} {d : DOp} (ho : okOp P n ops o d = true) : o.dst = d.dst ∧ ∀ u, d.dst = some u → u < n := by
  simp only [okOp, Bool.and_eq_true] at ho
  refine ⟨natO_eq ho.1.1.1, fun u hu => ?_⟩
  have := ho.1.1.2
  rw [hu] at this
  simpa [nblt] using this

/-- one operation -/
theorem op_ok {ro : Option Nat} (cok : CallOk P call) (r : Rel P K m h w) (he : REnv K m n e a) {ops : Array Oper} {d : DOp} {i : Nat} (hi : ops[i]? = some o) (ho : okOp P n ops o d = true)
    (hd : ro ≠ none → d.ins.isDfr = false) {next : Act → World → Prop} {Q : Exit → Act → World → Prop} (hq : OutOk P K m h w n (Exit.then next Q) (opD call d e h)) :
    wpOpIn (Wide ro) 0 P ops Q i next a w := by
  obtain ⟨hdst, hlt⟩ := okOp_dst ho
  have hins : okIns P o.op d.ins = true := by simp only [okOp, Bool.and_eq_true] at ho; exact ho.2
  unfold Go.wpOpIn
  rw [hi]
  simp only
  unfold opD at hq
  cases hw : wanted e d.grd with
  | none => rw [hw] at hq; exact hq.elim
  | some b =>
    rw [wanted_ok he ho hw]
    rw [hw] at hq
    cases b with
    | false =>
      simp only at hq
      refine ⟨fun _ _ => trivial, ?_⟩
      rw [hdst]
      exact hq K m w _ r (he.put (x := undef) (.tup .nil) hlt) (.refl ..)
    | true =>
      simp only at hq
      refine ⟨fun _ _ => trivial, ?_⟩
      by_cases hdf : d.ins.isDfr = true
      · have hro : ro = none := by
          cases ro with
          | none => rfl
          | some l => rw [hd (by simp)] at hdf; cases hdf
        subst hro
        obtain ⟨ddst, dgrd, ins⟩ := d
        cases ins with
        | dfr x args =>
          simp only at hq hins hdst hlt
          obtain ⟨dst, op, ty, pos, after, guard⟩ := o
          simp only [okIns] at hins
          split at hins
          · rename_i c
            obtain ⟨callee, cargs, argTypes⟩ := c
            simp only at hins
            split at hins
            · rename_i X
              simp only [Bool.and_eq_true] at hins
              have hx := he.eval hins.1
              have hv : RvL K m (args.map (DO.ev e)) (cargs.map a.eval).toList := by
                rw [Array.toList_map]; exact he.evals hins.2
              split at hq
              · rename_i f p q hm
                rw [hm] at hx
                generalize hX : a.eval X = VX at hx
                cases hx with
                | fn hp hqq =>
                  rename_i ps qs
                  have hrun : (Oper.semAt none a.eval ⟨dst, .defer ⟨.value X, cargs, argTypes⟩, ty, pos, after, guard⟩).run P w =
                      .ok (.defer { target := .fn (.func f) qs, args := ps ++ cargs.map a.eval }) w := by
                    simp [Oper.semAt_none, execOp, resolve, hX, Deferred.ofValue]
                  show Oper.uponIn _ _ _ _ _ _ _ ((Oper.semAt none a.eval ⟨dst, .defer ⟨.value X, cargs, argTypes⟩, ty, pos, after, guard⟩).run P w)
                  rw [hrun]
                  simp only at hdst
                  subst hdst
                  have hrv : RvL K m (p ++ args.map (DO.ev e) ++ q) (ps ++ cargs.map a.eval ++ qs).toList := by
                    rw [Array.toList_append, Array.toList_append]
                    exact (hp.append hv).append hqq
                  have he2 : REnv K m n { e with ds := .fn f (p ++ args.map (DO.ev e) ++ q) :: e.ds } { a with defers := { target := .fn (.func f) qs, args := ps ++ cargs.map a.eval } :: a.defers } :=
                    ⟨he.get, he.size, ⟨⟨qs, _, rfl, rfl, hrv⟩, he.ds⟩⟩
                  exact hq K m w _ r (he2.put (x := undef) (.tup .nil) hlt) (.refl ..)
              · exact hq.elim
            · cases hins
          · cases hins
        | _ => cases hdf
      · have hdf' : d.ins.isDfr = false := by simpa using hdf
        have hq' : OutOk P K m h w n (Exit.then next Q) (match step call e h d.ins with
            | .ok v h => .go .norm (e.putO d.dst v) h
            | .panic v h => .panic v e h
            | .err => .err) := by
          cases hdi : d.ins with
          | dfr x args => rw [hdi] at hdf'; cases hdf'
          | _ => rw [hdi] at hq; exact hq
        have hne : step call e h d.ins ≠ .err := fun hc => by rw [hc] at hq'; exact hq'
        have hsem : o.semAt ro a.eval = execOp a.eval o := by
          refine Oper.semAt_eq ro a.eval o fun c hc => ?_
          rw [hc] at hins
          cases hdi : d.ins <;> rw [hdi] at hins hdf' <;> first | (simp [okIns] at hins; done) | cases hdf'
        show Oper.uponIn _ _ _ _ _ _ _ ((o.semAt ro a.eval).run P w)
        rw [hsem]
        refine upon_step (ro := ro) cok r he hdf' hins hne next Q ?_ ?_
        · intro v h' K' m' w' x hr hv hrel hx
          rw [hr] at hq'
          rw [hdst]
          exact hq' K' m' w' _ hrel ((he.mono hx.kmono hx.mono).put hv hlt) hx
        · intro v h' K' m' w' x hr hv hrel hx
          rw [hr] at hq'
          exact hq' K' m' w' _ x hrel (he.mono hx.kmono hx.mono) hv hx

theorem opD_go {d : DOp} {x : Ex} {e' : Env} (hg : opD call d e h = .go x e' h') : x = .norm := by
  unfold opD at hg
  split at hg
  · cases hg
  · cases hg; rfl
  · split at hg
    · split at hg
      · cases hg; rfl
      · cases hg
    · split at hg
      · cases hg; rfl
      · cases hg
      · cases hg

/-- a region in the order of the text -/
theorem ops_ok {ro : Option Nat} (cok : CallOk P call) {ops : Array Oper} {Q : Exit → Act → World → Prop} : ∀ (l : List DOp) (i : Nat) {K : Km} {m : Mm} {h : Heap} {w : World} {e : Env} {a : Act},
    Rel P K m h w → REnv K m n e a → okOps P n ops (ops.toList.drop i) l = true → (ro ≠ none → l.any (fun o => o.ins.isDfr) = false) → i ≤ ops.size → OutOk P K m h w n Q (opsD call l e h) →
    wpOpsIn (Wide ro) 0 P ops Q (List.range' i (ops.size - i)) a w
  | [], i, K, m, h, w, e, a, r, he, ho, _, hi, hq => by
    have hnil : ops.toList.drop i = [] := by
      cases hd : ops.toList.drop i with
      | nil => rfl
      | cons x xs => rw [hd] at ho; cases ho
    have hsz : ops.size - i = 0 := by
      have := congrArg List.length hnil
      simpa using this
    rw [hsz]
    exact hq K m w a r he (.refl ..)
  | d :: l, i, K, m, h, w, e, a, r, he, ho, hdf, hi, hq => by
    cases hd : ops.toList.drop i with
    | nil => rw [hd] at ho; cases ho
    | cons o os =>
      rw [hd] at ho
      simp only [okOps, Bool.and_eq_true] at ho
      have hlt : i < ops.size := by
        have := congrArg List.length hd
        simp at this
        omega
      have hoi : ops[i]? = some o := by
        have : (ops.toList.drop i)[0]? = some o := by rw [hd]; rfl
        rw [List.getElem?_drop] at this
        simpa using this
      have hos : ops.toList.drop (i + 1) = os := by
        rw [← List.drop_drop, hd]; rfl
      have hsz : ops.size - i = (ops.size - (i + 1)) + 1 := by omega
      rw [hsz, List.range'_succ, wpOpsIn_cons]
      refine op_ok cok r he hoi ho.1 (fun hh => ?_) ?_
      · have := hdf hh
        simp only [List.any_cons, Bool.or_eq_false_iff] at this
        exact this.1
      · simp only [opsD] at hq
        cases hop : opD call d e h with
        | go x e' h' =>
          rw [hop] at hq
          simp only at hq
          have := opD_go hop
          subst this
          intro K' m' w' a' q1 q2 q3
          refine ops_ok cok l (i + 1) q1 q2 (by rw [hos]; exact ho.2) (fun hh => ?_) hlt (OutOk.trans q3 hq)
          have := hdf hh
          simp only [List.any_cons, Bool.or_eq_false_iff] at this
          exact this.2
        | panic v e' h' =>
          rw [hop] at hq
          exact hq
        | err => rw [hop] at hq; exact hq
end
end Go.D
