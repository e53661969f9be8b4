/-
  The abstract evaluator 'D': every instruction that calls nobody; what a call is to come to; values that are copied out of the heap.
-/
import Derived.Test.YtgdenjkiblpnpaaGreatDU
import Derived.RangeFuncLeaves
import Derived.RangeFuncRecord
import Derived.RecoverIn
import Derived.OrdersIn
namespace Go.D
section
variable {P : Program} {K : Km} {m : Mm} {h h' : Heap} {w : World} {v : AV} {n : Nat} {e : Env} {a : Act} {o : Oper} {call : Caller}

/-- the instructions that call nobody -/
def DIns.plain : DIns → Bool
  | .call _ _ | .pcall _ _ | .callv _ _ | .inv _ _ _ | .dfr _ _ | .recov | .panic _ => false
  | _ => true

theorem ok_newStep (r : Rel P K m h w) (he : REnv K m n e a) {i : DIns} (ho : okIns P o.op i = true) (hs : (match newOf e i with
    | some (o, f) => Res.ok (f h.next) (h.new o)
    | none => .err) = .ok v h') : StepOk P (execOp a.eval o) K m h w v h' := by
  cases hn : newOf e i with
  | none => rw [hn] at hs; cases hs
  | some p =>
    obtain ⟨ob, f⟩ := p
    rw [hn] at hs
    simp only [Res.ok.injEq] at hs
    obtain ⟨rfl, rfl⟩ := hs
    obtain ⟨m', w', x, h1, _, h3, h4, h5, _⟩ := ok_new r he ho hn
    exact ⟨K, m', w', x, .inl h1, h3, h4, h5⟩

theorem ok_step (r : Rel P K m h w) (he : REnv K m n e a) {i : DIns} (hp : i.plain = true) (ho : okIns P o.op i = true) (hs : step call e h i = .ok v h') : StepOk P (execOp a.eval o) K m h w v h' := by
  cases i with
  | mv => exact ok_mv r he ho hs
  | pick => exact ok_pick r he ho hs
  | alloc => exact ok_newStep r he ho hs
  | box => exact ok_newStep r he ho hs
  | ibox => exact ok_ibox r he ho hs
  | build => exact ok_build r he ho hs
  | bsl => exact ok_newStep r he ho hs
  | ibsl => exact ok_ibsl r he ho hs
  | ld => exact ok_ld r he ho hs
  | st => exact ok_st r he ho hs
  | nck => exact ok_nck r he ho hs
  | ar => exact ok_ar r he ho hs
  | eqc => exact ok_eqc r he ho hs
  | un => exact ok_un r he ho hs
  | cvi => exact ok_cvi r he ho hs
  | cvbs => exact ok_cvbs r he ho hs
  | cvsl => exact ok_cvsl r he ho hs
  | mkif => exact ok_mkif r he ho hs
  | mkfn => exact ok_mkfn r he ho hs
  | mkmap => exact ok_newStep r he ho hs
  | mksl => exact ok_newStep r he ho hs
  | slstr => exact ok_slstr r he ho hs
  | slsl => exact ok_slsl r he ho hs
  | fad => exact ok_fad r he ho hs
  | fld => exact ok_fld r he ho hs
  | iad => exact ok_iad r he ho hs
  | iada => exact ok_iada r he ho hs
  | ixa => exact ok_ixa r he ho hs
  | ixs => exact ok_ixs r he ho hs
  | look => exact ok_look r he ho hs
  | mup => exact ok_mup r he ho hs
  | ext => exact ok_ext r he ho hs
  | app => exact ok_app r he ho hs
  | appz => exact ok_appz r he ho hs
  | len => exact ok_len r he ho hs
  | cap => exact ok_cap r he ho hs
  | cpy => exact ok_cpy r he ho hs
  | clr => exact ok_clr r he ho hs
  | mm => exact ok_mm r he ho hs
  | ta => exact ok_ta r he ho hs
  | rngs => exact ok_newStep r he ho hs
  | nxts => exact ok_nxts r he ho hs
  | _ => cases hp

/-- fences without walls: of an activation, or of a round -/
abbrev Wide (ro : Option Nat) : Fence := { Fence.wide with round := ro }

/-- what a call comes to -/
def Post (P : Program) (K : Km) (m : Mm) (h : Heap) (w : World) (r : Res AV) : Ending → World → Prop
  | .returned x, w' => ∃ v h' K' m', r = .ok v h' ∧ Rv K' m' v x ∧ Rel P K' m' h' w' ∧ Ext K m h w K' m' h' w'
  | .panicked chain, w' => ∃ v h' K' m' x, r = .panic v h' ∧ chain = [{ v := x, recovered := false }] ∧ Rv K' m' v x ∧ Rel P K' m' h' w' ∧ Ext K m h w K' m' h' w'
  | .outgrown, _ => False

/-- a caller's calls are what the model's are -/
structure CallOk (P : Program) (call : Caller) : Prop where
  fn : ∀ {f : Nat} {args : List AV} {h : Heap} {K : Km} {m : Mm} {w : World} {vals : Array Value}, Rel P K m h w → RvL K m args vals.toList → call (.fn f) args h ≠ .err →
    (callFunc f vals).run P w = .ok (.enter f vals) w ∧ CallsIn Fence.wide 0 P f vals w (Post P K m h w (call (.fn f) args h))
  yld : ∀ {l : Nat} {L : Loc} {args : List AV} {h : Heap} {K : Km} {m : Mm} {w : World} {vals : Array Value}, Rel P K m h w → m l = some L → RvL K m args vals.toList → call (.yld l) args h ≠ .err →
    ∃ f tmps asg body, (Instr.yield L.c vals).run P w = .ok (.round L.c f tmps asg body) w ∧ RoundIn Fence.wide 0 P L.c f tmps asg body w (Post P K m h w (call (.yld l) args h))

/-- what an operation comes to -/
def Upon (P : Program) (ro : Option Nat) (o : Oper) (a : Act) (K : Km) (m : Mm) (h : Heap) (w : World) (R : Res AV) : Prop :=
  ∀ (next : Act → World → Prop) (Q : Exit → Act → World → Prop),
    (∀ v h' K' m' w' x, R = .ok v h' → Rv K' m' v x → Rel P K' m' h' w' → Ext K m h w K' m' h' w' → next (a.put o.dst x) w') →
    (∀ v h' K' m' w' x, R = .panic v h' → Rv K' m' v x → Rel P K' m' h' w' → Ext K m h w K' m' h' w' → Q (.panic [{ v := x, recovered := false }]) a w') →
    o.uponIn (Wide ro) 0 P a next Q ((execOp a.eval o).run P w)

theorem Upon.of_step {ro : Option Nat} (hs : StepOk P (execOp a.eval o) K m h w v h') : Upon P ro o a K m h w (.ok v h') := by
  intro next Q hn _
  obtain ⟨K', m', w', x, hrun, hv, hr, hx⟩ := hs
  rcases hrun with hrun | ⟨hrun, rfl⟩
  · rw [hrun]; exact hn v h' K' m' w' x rfl hv hr hx
  · rw [hrun]; exact hn v h' K' m' w' _ rfl hv hr hx

theorem Upon.of_call {ro : Option Nat} {R : Res AV} {f : Nat} {vals : Array Value} (hrun : (execOp a.eval o).run P w = .ok (.enter f vals) w)
    (hc : CallsIn Fence.wide 0 P f vals w (Post P K m h w R)) : Upon P ro o a K m h w R := by
  intro next Q hn hp
  rw [hrun]
  refine ⟨fun hh => by simp [Fence.wide] at hh, ?_⟩
  refine CallsIn.mono (F := Wide ro) hc fun en w' hq => ?_
  cases en with
  | returned x =>
    obtain ⟨v, h', K', m', e1, e2, e3, e4⟩ := hq
    exact hn v h' K' m' w' x e1 e2 e3 e4
  | panicked chain =>
    obtain ⟨v, h', K', m', x, e1, rfl, e2, e3, e4⟩ := hq
    exact hp v h' K' m' w' x e1 e2 e3 e4
  | outgrown => exact hq.elim

theorem Upon.of_round {ro : Option Nat} {R : Res AV} {l f : Nat} {tmps : Array Value} {asg body : Code} (hrun : (execOp a.eval o).run P w = .ok (.round l f tmps asg body) w)
    (hc : RoundIn Fence.wide 0 P l f tmps asg body w (Post P K m h w R)) : Upon P ro o a K m h w R := by
  intro next Q hn hp
  rw [hrun]
  refine ⟨fun hh => by simp [Fence.wide] at hh, ?_⟩
  refine RoundIn.mono (F := Wide ro) hc fun en w' hq => ?_
  cases en with
  | returned x =>
    obtain ⟨v, h', K', m', e1, e2, e3, e4⟩ := hq
    exact hn v h' K' m' w' x e1 e2 e3 e4
  | panicked chain =>
    obtain ⟨v, h', K', m', x, e1, rfl, e2, e3, e4⟩ := hq
    exact hp v h' K' m' w' x e1 e2 e3 e4
  | outgrown => exact hq.elim

theorem upon_call {ro : Option Nat} (cok : CallOk P call) (r : Rel P K m h w) (he : REnv K m n e a) {f : Nat} {ys : List DO} (ho : okIns P o.op (.call f ys) = true)
    (hs : step call e h (.call f ys) ≠ .err) : Upon P ro o a K m h w (step call e h (.call f ys)) := by
  obtain ⟨dst, op, ty, pos, after, guard⟩ := o
  simp only [okIns] at ho
  split at ho
  · rename_i c
    obtain ⟨callee, args, argTypes⟩ := c
    simp only at ho
    split at ho
    · simp only [Bool.and_eq_true, nbeq, decide_eq_true_eq] at ho
      obtain ⟨rfl, h1⟩ := ho
      have hv : RvL K m (ys.map (DO.ev e)) (args.map a.eval).toList := by
        rw [Array.toList_map]; exact he.evals h1
      obtain ⟨h2, h3⟩ := cok.fn r hv hs
      refine Upon.of_call ?_ h3
      simp [execOp, resolve, Act.eval, Deferred.ofValue, invoke, h2]
    · cases ho
  · simp at ho

theorem upon_callv {ro : Option Nat} (cok : CallOk P call) (r : Rel P K m h w) (he : REnv K m n e a) {x : DO} {ys : List DO} (ho : okIns P o.op (.callv x ys) = true)
    (hs : step call e h (.callv x ys) ≠ .err) : Upon P ro o a K m h w (step call e h (.callv x ys)) := by
  obtain ⟨dst, op, ty, pos, after, guard⟩ := o
  simp only [okIns] at ho
  split at ho
  · rename_i c
    obtain ⟨callee, args, argTypes⟩ := c
    simp only at ho
    split at ho
    · rename_i X
      simp only [Bool.and_eq_true] at ho
      have hx := he.eval ho.1
      have hv : RvL K m (ys.map (DO.ev e)) (args.map a.eval).toList := by
        rw [Array.toList_map]; exact he.evals ho.2
      simp only [step] at hs ⊢
      split
      · rename_i f p q hm
        rw [hm] at hx hs
        generalize hX : a.eval X = VX at hx
        cases hx with
        | fn hp hq =>
          rename_i ps qs
          have hall : RvL K m (p ++ ys.map (DO.ev e) ++ q) (ps ++ args.map a.eval ++ qs).toList := by
            rw [Array.toList_append, Array.toList_append]; exact (hp.append hv).append hq
          obtain ⟨h2, h3⟩ := cok.fn r hall hs
          refine Upon.of_call ?_ h3
          simp only [execOp, resolve, hX, Deferred.ofValue, invoke, Sem.run_bind, Sem.run_pure, Result.andThen_ok, h2]
      · rename_i l hm
        rw [hm] at hx hs
        generalize hX : a.eval X = VX at hx
        cases hx with
        | yld hL =>
          rename_i L
          obtain ⟨f, tmps, asg, body, h2, h3⟩ := cok.yld r hL hv hs
          refine Upon.of_round ?_ h3
          simp [execOp, resolve, hX, Deferred.ofValue, invoke, h2]
      · rename_i h4 h5
        split at hs
        · rename_i hm; exact absurd hm (h4 _ _ _)
        · rename_i hm; exact absurd hm (h5 _)
        · exact absurd rfl hs
    · cases ho
  · simp at ho

theorem upon_panic {ro : Option Nat} (r : Rel P K m h w) (he : REnv K m n e a) {x : DO} (ho : okIns P o.op (.panic x) = true)
    (hs : step call e h (.panic x) ≠ .err) : Upon P ro o a K m h w (step call e h (.panic x)) := by
  obtain ⟨dst, op, ty, pos, after, guard⟩ := o
  have key : ∀ X, okO X x = true → (∃ t V u, x.ev e = .iface t u ∧ a.eval X = .iface t V ∧ Rv K m (.iface t u) (.iface t V)) := by
    intro X h1
    have hx := he.eval h1
    simp only [step] at hs
    split at hs
    · rename_i t u hm
      rw [hm] at hx
      generalize hX : a.eval X = VX at hx
      cases hx with
      | iface hu => exact ⟨t, _, u, hm, rfl, .iface hu⟩
    · exact absurd rfl hs
  simp only [okIns] at ho
  split at ho
  · rename_i X
    obtain ⟨t, V, u, h1, h2, h3⟩ := key X ho
    intro next Q _ hp
    simp only [step, h1] at hp
    have : (execOp a.eval ⟨dst, .panic X, ty, pos, after, guard⟩).run P w = .halt (.panic (.iface t V)) w := by simp [execOp, h2, Instr.panic, goPanic]
    rw [this]
    exact hp _ _ _ _ _ _ rfl h3 r (.refl ..)
  · rename_i c
    obtain ⟨callee, args, argTypes⟩ := c
    simp only at ho
    split at ho
    · obtain ⟨X, rfl, h4⟩ := args1 ho
      obtain ⟨t, V, u, h1, h2, h3⟩ := key X h4
      intro next Q _ hp
      simp only [step, h1] at hp
      rw [run_builtin]
      have : ∀ cs, (Go.builtin .panic argTypes ty cs (#[X].map a.eval)).run P w = .halt (.panic (.iface t V)) w := fun cs => by simp [Go.builtin, h2, Instr.panic, goPanic]
      rw [this]
      exact hp _ _ _ _ _ _ rfl h3 r (.refl ..)
    · cases ho
  · simp at ho
end
end Go.D
