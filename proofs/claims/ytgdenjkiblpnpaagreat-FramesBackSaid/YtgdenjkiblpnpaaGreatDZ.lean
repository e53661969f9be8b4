/-
  The abstract evaluator 'D': rounds; how functions begin and how they are left; calls at whatever depth.
-/
import Derived.Test.YtgdenjkiblpnpaaGreatDY
namespace Go.D
section
variable {P : Program} {K : Km} {m : Mm} {h h' : Heap} {w : World} {v : AV} {n : Nat} {e : Env} {a : Act} {o : Oper} {call : Caller}

/-- the table tells the program's functions -/
def TabOk (P : Program) (tab : Nat → Option DFunc) : Prop :=
  ∀ f d, tab f = some d → ∃ fn c, P.funcs[f]? = some fn ∧ fn.body = some c ∧ okFunc P fn d = true ∧ (fn.name == "runtime.NumGoroutine") = false

theorem callFunc_enter {f : Nat} {fn : Func} {c : Code} (hf : P.funcs[f]? = some fn) (hb : fn.body = some c) (hn : (fn.name == "runtime.NumGoroutine") = false) (vals : Array Value) (w : World) :
    (callFunc f vals).run P w = .ok (.enter f vals) w := by
  have hn' : ¬ fn.name = "runtime.NumGoroutine" := by simpa using hn
  simp [callFunc, hf, hn', hb]

theorem envOf_get : ∀ (vs : List AV) (k : Nat) (s : Tr AV) (t : Nat), (envOf k vs s).get? t = if k ≤ t ∧ t < k + vs.length then vs[t - k]? else s.get? t
  | [], k, s, t => by simp [envOf]; omega
  | v :: vs, k, s, t => by
    simp only [envOf]
    rw [envOf_get vs (k + 1) _ t, Tr.get?_put]
    by_cases h1 : t = k
    · subst h1
      rw [if_neg (by omega), if_pos rfl, if_pos ⟨Nat.le_refl _, by simp⟩]
      simp
    · by_cases h2 : k ≤ t ∧ t < k + (v :: vs).length
      · have h3 : k + 1 ≤ t ∧ t < k + 1 + vs.length := by simp at h2; omega
        rw [if_pos h2, if_pos h3]
        have : t - k = (t - (k + 1)) + 1 := by omega
        rw [this]; simp
      · have h3 : ¬ (k + 1 ≤ t ∧ t < k + 1 + vs.length) := by simp at h2; omega
        rw [if_neg h2, if_neg h3, if_neg h1]

theorem start_env {args : List AV} {vals : Array Value} {nt : Nat} (hv : RvL K m args vals.toList) (hle : args.length ≤ nt) :
    REnv K m nt (startEnv args) { tmps := vals ++ Array.replicate (nt - vals.size) undef, defers := [] } := by
  have hl : vals.size = args.length := by rw [← Array.length_toList, hv.length]
  refine ⟨fun t => ?_, ?_, trivial⟩
  · show Rv K m (((envOf 0 args .lf).get? t).getD .bot) ((vals ++ Array.replicate (nt - vals.size) undef).getD t undef)
    rw [envOf_get]
    by_cases ht : t < args.length
    · rw [if_pos ⟨Nat.zero_le _, by omega⟩, Nat.sub_zero, Array.getD_eq_getD_getElem?, Array.getElem?_append_left (by omega)]
      have h1 : args[t]? = some args[t] := by simp [ht]
      obtain ⟨x, h2, h3⟩ := hv.get h1
      rw [h1]
      rw [Array.getElem?_toList] at h2
      rw [h2]
      exact h3
    · rw [if_neg (by omega)]
      simp only [Tr.get?_lf, Option.getD_none]
      exact .bot
  · simp; omega

theorem putMany_spec : ∀ {ps : List Nat} {vs : List AV} {s s' : Tr AV} {xs : List Value} {tmps : Array Value}, putMany s ps vs = some s' → RvL K m vs xs → (∀ t ∈ ps, t < tmps.size) →
    (∀ t, Rv K m ((s.get? t).getD .bot) (tmps.getD t undef)) →
    xs.length = ps.length ∧ ((ps.zip xs).foldl (fun tmps (x : Nat × Value) => tmps.setIfInBounds x.1 x.2) tmps).size = tmps.size ∧
      ∀ t, Rv K m ((s'.get? t).getD .bot) (((ps.zip xs).foldl (fun tmps (x : Nat × Value) => tmps.setIfInBounds x.1 x.2) tmps).getD t undef)
  | [], [], s, s', xs, tmps, h, hv, _, hs => by
    simp only [putMany, Option.some.injEq] at h; subst h
    cases hv
    exact ⟨rfl, rfl, hs⟩
  | p :: ps, v :: vs, s, s', xs, tmps, h, hv, hp, hs => by
    simp only [putMany] at h
    cases hv with
    | cons hv tv =>
      rename_i x xs
      have hlt : p < tmps.size := hp p (by simp)
      obtain ⟨h1, h2, h3⟩ := putMany_spec (tmps := tmps.setIfInBounds p x) h tv (fun t ht => by simpa using hp t (by simp [ht])) (fun t => by
        rw [Tr.get?_put]
        by_cases e1 : t = p
        · subst e1
          simpa [Array.getD_eq_getD_getElem?, hlt] using hv
        · rw [if_neg e1]
          have := hs t
          simpa [Array.getD_eq_getD_getElem?, Array.getElem?_setIfInBounds_ne (Ne.symm e1)] using this)
      refine ⟨by simp [h1], by simpa using h2, h3⟩
  | [], _ :: _, _, _, _, _, h, _, _, _ => by cases h
  | _ :: _, [], _, _, _, _, h, _, _, _ => by cases h

/-- a block is another one on both sides -/
theorem Rel.loopSet (r : Rel P K m h w) {l : Nat} {L : Loc} (hL : m l = some L) {s : Tr AV} {ps : List Nat} {asg body : DCode} {st st' : LoopSt} (hl : h.get l = some (.loop s ps asg body st)) {rr rr' : Loop}
    (hw : w.heap[L.c]? = some (.loop rr)) (hob : RObj P K m w L (.loop s ps asg body st)) (e1 : rr'.tmps = rr.tmps) (e2 : rr'.params = rr.params) (e3 : rr'.assign = rr.assign) (e4 : rr'.body = rr.body) (hst : RSt rr' st') :
    Rel P K m (h.set l (.loop s ps asg body st')) (w.putObj L.c (.loop rr')) ∧ Ext K m h w K m (h.set l (.loop s ps asg body st')) (w.putObj L.c (.loop rr')) := by
  have hlt : L.c < w.heap.size := r.lt hl hL
  refine ⟨r.set hl hL (fun c hc => World.putObj_heap_other hc) ?_, Ext.setB hl hL (fun c hc => World.putObj_heap_other hc) (by simp) rfl rfl rfl⟩
  cases hob with
  | loop hw2 hs hp hps ha hb _ =>
    rw [hw] at hw2
    simp only [Option.some.injEq, Obj.loop.injEq] at hw2
    subst hw2
    exact .loop (World.putObj_heap_same hlt) (by rw [e1]; exact hs) (by rw [e2]; exact hp) (by rw [e1]; exact hps) (by rw [e1, e3]; exact ha) (by rw [e1, e4]; exact hb) hst

theorem RObj.loopEx {L : Loc} {s : Tr AV} {ps : List Nat} {asg body : DCode} {st : LoopSt} (ho : RObj P K m w L (.loop s ps asg body st)) : ∃ rr, w.heap[L.c]? = some (.loop rr) ∧ RSt rr st ∧
    (∀ t, Rv K m ((s.get? t).getD .bot) (rr.tmps.getD t undef)) ∧ rr.params.toList = ps ∧ (∀ t ∈ ps, t < rr.tmps.size) ∧ okCode P rr.tmps.size rr.assign asg = true ∧ okCode P rr.tmps.size rr.body body = true := by
  cases ho with
  | loop hw hs hp hps ha hb hst => exact ⟨_, hw, hst, hs, hp, hps, ha, hb⟩

theorem yld_ok {tab : Nat → Option DFunc} {L d : Nat} (cok : CallOk P (callF tab L d)) (dok : DrawnOk P (callF tab L d)) {l : Nat} {Lc : Loc} {args : List AV} {vals : Array Value} (r : Rel P K m h w) (hL : m l = some Lc)
    (hv : RvL K m args vals.toList) (hne : callF tab L (d + 1) (.yld l) args h ≠ .err) :
    ∃ f tmps asg body, (Instr.yield Lc.c vals).run P w = .ok (.round Lc.c f tmps asg body) w ∧ RoundIn Fence.wide 0 P Lc.c f tmps asg body w (Post P K m h w (callF tab L (d + 1) (.yld l) args h)) := by
  unfold callF at hne ⊢
  simp only at hne ⊢
  split at hne
  · rename_i s ps asg body hl
    obtain ⟨rr, hw, hst, hs, hp, hps, ha, hb⟩ := (r.ob _ _ hl _ hL).loopEx
    cases hpm : putMany s ps args with
    | none => rw [hpm] at hne; exact absurd rfl hne
    | some s' =>
      rw [hpm] at hne
      simp only at hne ⊢
      obtain ⟨h1, h2, h3⟩ := putMany_spec hpm hv hps hs
      have hasz : vals.size = rr.params.size := by
        rw [← Array.length_toList, ← Array.length_toList, hp]; exact h1
      refine ⟨_, _, _, _, run_yield hw hasz, ?_⟩
      have hzip : (rr.params.zip vals).foldl (fun tmps (x : Nat × Value) => tmps.setIfInBounds x.1 x.2) rr.tmps = (ps.zip vals.toList).foldl (fun tmps (x : Nat × Value) => tmps.setIfInBounds x.1 x.2) rr.tmps := by
        rw [← hp, ← Array.foldl_toList, Array.toList_zip]
      have he0 : REnv K m rr.tmps.size ⟨s', []⟩ { tmps := (rr.params.zip vals).foldl (fun tmps (x : Nat × Value) => tmps.setIfInBounds x.1 x.2) rr.tmps, defers := [] } := by
        rw [hzip]
        exact ⟨h3, h2, trivial⟩
      refine roundIn_of_wpIn (F := Fence.wide) trivial ?_
      refine code_ok (ro := some Lc.c) cok dok (L := L) _ _ r he0 ha ?_
      show OutOk P K m h w rr.tmps.size _ (evd (callF tab L d) L true asg ⟨s', []⟩ h)
      cases hea : evd (callF tab L d) L true asg ⟨s', []⟩ h with
      | panic v e1 h1 => rw [hea] at hne; exact absurd rfl hne
      | err => rw [hea] at hne; exact absurd rfl hne
      | go x e1 h1 =>
        rw [hea] at hne
        cases x with
        | exit id => exact absurd rfl hne
        | ret => exact absurd rfl hne
        | norm =>
          simp only at hne ⊢
          intro K1 m1 w1 a1 r1 he1 hx1
          split at hne
          · rename_i s1 ps1 asg2 body2 hl1
            have hL1 := hx1.mono _ _ hL
            have hob1 := r1.ob _ _ hl1 _ hL1
            obtain ⟨rr1, hw1, hst1, _⟩ := hob1.loopEx
            obtain ⟨r2, hx2⟩ := r1.loopSet (st' := .busy) (rr' := { rr1 with state := .busy }) hL1 hl1 hw1 hob1 rfl rfl rfl rfl rfl
            refine ⟨_, run_beginRound hw1 hst1.1, ?_⟩
            refine code_ok (ro := some Lc.c) cok dok (L := L) _ _ r2 (he1.mono hx2.kmono hx2.mono) hb ?_
            show OutOk P K1 m1 _ _ rr.tmps.size _ (evd (callF tab L d) L true body e1 _)
            have fin : ∀ (e3 : Ex) (h3 : Heap) (K3 : Km) (m3 : Mm) (w3 : World), Rel P K3 m3 h3 w3 → Ext K1 m1 (h1.set l (.loop s1 ps1 asg2 body2 .busy)) (w1.putObj Lc.c (.loop { rr1 with state := .busy })) K3 m3 h3 w3 →
                ∀ s3 ps3 asg3 body3, h3.get l = some (.loop s3 ps3 asg3 body3 .busy) →
                ∃ w4, (Instr.endRound Lc.c (codeOf e3)).run P w3 = .ok (.bool (codeOf e3).isNone) w4 ∧
                  Rel P K3 m3 (h3.set l (.loop s3 ps3 asg3 body3 (match e3 with | .norm => .ready | x => .done x))) w4 ∧
                  Ext K m h w K3 m3 (h3.set l (.loop s3 ps3 asg3 body3 (match e3 with | .norm => .ready | x => .done x))) w4 := by
              intro e3 h3 K3 m3 w3 r3 hx3 s3 ps3 asg3 body3 hl3
              have hL3 := hx3.mono _ _ hL1
              have hob3 := r3.ob _ _ hl3 _ hL3
              obtain ⟨rr3, hw3, hst3, _⟩ := hob3.loopEx
              obtain ⟨r4, hx4⟩ := r3.loopSet (st' := match e3 with | .norm => .ready | x => .done x) (rr' := { rr3 with state := if (codeOf e3).isNone then .ready else .done, pending := codeOf e3 }) hL3 hl3 hw3 hob3 rfl rfl rfl rfl (by
                cases e3 <;> simp [RSt, codeOf])
              exact ⟨_, run_endRound _ hw3, r4, ((hx1.trans hx2).trans hx3).trans hx4⟩
            cases heb : evd (callF tab L d) L true body e1 (h1.set l (.loop s1 ps1 asg2 body2 .busy)) with
            | panic v e3 h3 => rw [heb] at hne; exact absurd rfl hne
            | err => rw [heb] at hne; exact absurd rfl hne
            | go x e3 h3 =>
              rw [heb] at hne
              intro K3 m3 w3 a3 r3 he3 hx3
              cases x with
              | norm =>
                simp only at hne ⊢
                split at hne
                · rename_i s3 ps3 asg3 body3 hl3
                  obtain ⟨w4, q1, q2, q3⟩ := fin .norm h3 K3 m3 w3 r3 hx3 s3 ps3 asg3 body3 hl3
                  refine ⟨_, w4, q1, ?_⟩
                  exact ⟨_, _, K3, m3, rfl, .bool, q2, q3⟩
                · exact absurd rfl hne
              | exit id =>
                simp only at hne ⊢
                split at hne
                · rename_i s3 ps3 asg3 body3 hl3
                  obtain ⟨w4, q1, q2, q3⟩ := fin (.exit id) h3 K3 m3 w3 r3 hx3 s3 ps3 asg3 body3 hl3
                  refine ⟨_, w4, q1, ?_⟩
                  exact ⟨_, _, K3, m3, rfl, .bool, q2, q3⟩
                · exact absurd rfl hne
              | ret =>
                simp only at hne ⊢
                split at hne
                · rename_i s3 ps3 asg3 body3 hl3
                  obtain ⟨w4, q1, q2, q3⟩ := fin .ret h3 K3 m3 w3 r3 hx3 s3 ps3 asg3 body3 hl3
                  refine ⟨_, w4, q1, ?_⟩
                  exact ⟨_, _, K3, m3, rfl, .bool, q2, q3⟩
                · exact absurd rfl hne
          · exact absurd rfl hne
  · exact absurd rfl hne
end
end Go.D
