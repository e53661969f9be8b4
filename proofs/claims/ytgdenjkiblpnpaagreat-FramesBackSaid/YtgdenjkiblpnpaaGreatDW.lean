/-
  The abstract evaluator 'D': values that are copied out of the heap; calls of what has no part in it.
-/
import Derived.Test.YtgdenjkiblpnpaaGreatDV
namespace Go.D
section
variable {P : Program} {K : Km} {m : Mm} {h h' : Heap} {w : World} {v : AV} {n : Nat} {e : Env} {a : Act} {o : Oper} {call : Caller}

open Classical in
/-- what is known of rows, for as long as nobody writes: the rows of live blocks too -/
noncomputable def snap (K : Km) (m : Mm) (h : Heap) (w : World) : Km := fun c => match K c with
  | some row => some row
  | none => if ∃ b L, m b = some L ∧ L.c = c ∧ (h.get b).isSome = true then (match w.heap[c]? with
    | some (.cells row _ _) => some row
    | _ => none) else none

theorem snap_le : K.le (snap K m h w) := fun c row hc => by unfold snap; rw [hc]

theorem snap_live (r : Rel P K m h w) {b : Nat} {o : Ob} {L : Loc} (hb : h.get b = some o) (hL : m b = some L) {row : Array Value} {t : TypeId} {fz : Nat × Nat}
    (hw : w.heap[L.c]? = some (.cells row t fz)) : snap K m h w L.c = some row := by
  unfold snap
  rw [r.dis b L hL (by simp [hb])]
  simp only
  rw [if_pos ⟨b, L, hL, rfl, by simp [hb]⟩, hw]

theorem snap_imm (r : Rel P K m h w) {c : Nat} {row : Array Value} (hs : snap K m h w c = some row) : ∃ t fz, w.heap[c]? = some (.cells row t fz) := by
  unfold snap at hs
  split at hs
  · rename_i q hk
    cases hs
    exact r.imm c _ hk
  · split at hs
    · split at hs
      · rename_i hw
        cases hs
        exact ⟨_, _, hw⟩
      · cases hs
    · cases hs

theorem snap_new {c : Nat} {row : Array Value} (hs : snap K m h w c = some row) : K c = some row ∨ ∃ b L, m b = some L ∧ L.c = c ∧ (h.get b).isSome = true := by
  unfold snap at hs
  split at hs
  · rename_i q hk; cases hs; exact .inl hk
  · split at hs
    · rename_i hh; exact .inr hh
    · cases hs

def frzMany (h : Heap) (d : Nat) (vs : List AV) : Option (List AV) := vs.foldr (fun v acc => acc.bind fun l => (frz h d v).map (· :: l)) (some [])
def frzRows (h : Heap) (d : Nat) (xs : List (List AV)) : Option (List (List AV)) := xs.foldr (fun x acc => acc.bind fun l => (frzMany h d x).map (· :: l)) (some [])

theorem frzMany_cons {d : Nat} {v : AV} {vs vs' : List AV} (hf : frzMany h d (v :: vs) = some vs') : ∃ x l, frz h d v = some x ∧ frzMany h d vs = some l ∧ vs' = x :: l := by
  unfold frzMany at hf
  rw [List.foldr_cons] at hf
  cases hl : frzMany h d vs with
  | none => unfold frzMany at hl; rw [hl] at hf; cases hf
  | some l =>
    unfold frzMany at hl
    rw [hl] at hf
    simp only [Option.bind_some, Option.map_eq_some_iff] at hf
    obtain ⟨x, h1, rfl⟩ := hf
    exact ⟨x, l, h1, rfl, rfl⟩

theorem frzRows_cons {d : Nat} {v : List AV} {vs vs' : List (List AV)} (hf : frzRows h d (v :: vs) = some vs') : ∃ x l, frzMany h d v = some x ∧ frzRows h d vs = some l ∧ vs' = x :: l := by
  unfold frzRows at hf
  rw [List.foldr_cons] at hf
  cases hl : frzRows h d vs with
  | none => unfold frzRows at hl; rw [hl] at hf; cases hf
  | some l =>
    unfold frzRows at hl
    rw [hl] at hf
    simp only [Option.bind_some, Option.map_eq_some_iff] at hf
    obtain ⟨x, h1, rfl⟩ := hf
    exact ⟨x, l, h1, rfl, rfl⟩

theorem frz_spec (r : Rel P K m h w) (d : Nat) : ∀ {v v' : AV} {x : Value}, frz h d v = some v' → Rv K m v x → v'.tree = true ∧ Rv (snap K m h w) Mm.nil v' x := by
  induction d with
  | zero => intro v v' x hf; cases hf
  | succ d ih =>
    have many : ∀ {vs vs' : List AV} {xs : List Value}, frzMany h d vs = some vs' → RvL K m vs xs → AV.trees vs' = true ∧ RvL (snap K m h w) Mm.nil vs' xs ∧ vs'.length = vs.length := by
      intro vs
      induction vs with
      | nil =>
        intro vs' xs hf hx
        simp only [frzMany, List.foldr_nil, Option.some.injEq] at hf; subst hf
        cases hx
        exact ⟨rfl, .nil, rfl⟩
      | cons v vs ihv =>
        intro vs' xs hf hx
        obtain ⟨y, l, h1, h2, rfl⟩ := frzMany_cons hf
        cases hx with
        | cons hx tx =>
          obtain ⟨h3, h4⟩ := ih h1 hx
          obtain ⟨h5, h6, h7⟩ := ihv h2 tx
          exact ⟨by simp [AV.trees, h3, h5], .cons h4 h6, by simp [h7]⟩
    have rows : ∀ {es es' : List (List AV)} {xs : List Value}, frzRows h d es = some es' → RvL K m es.flatten xs →
        RvL (snap K m h w) Mm.nil es'.flatten xs ∧ es'.length = es.length ∧ ∀ z, (∀ cs ∈ es, cs.length = z) → ∀ cs ∈ es', cs.length = z := by
      intro es
      induction es with
      | nil =>
        intro es' xs hf hx
        simp only [frzRows, List.foldr_nil, Option.some.injEq] at hf; subst hf
        cases hx
        exact ⟨.nil, rfl, fun _ _ cs hcs => by cases hcs⟩
      | cons c es ihe =>
        intro es' xs hf hx
        obtain ⟨y, l, h1, h2, rfl⟩ := frzRows_cons hf
        rw [List.flatten_cons] at hx
        obtain ⟨h3, h4⟩ := hx.split
        obtain ⟨_, h5, h6⟩ := many h1 h3
        obtain ⟨h7, h8, h9⟩ := ihe h2 h4
        refine ⟨?_, by simp [h8], fun z hz cs hcs => ?_⟩
        · rw [List.flatten_cons]
          have := h5.append h7
          rwa [List.take_append_drop] at this
        · rcases List.mem_cons.1 hcs with rfl | hcs
          · rw [h6]; exact hz c (by simp)
          · exact h9 z (fun q hq => hz q (by simp [hq])) cs hcs
    intro v v' x hf hx
    unfold frz at hf
    simp only at hf
    split at hf
    · -- ptr
      rename_i b i off
      split at hf
      · rename_i zz op ct hb
        split at hf
        · rename_i cs hcs
          simp only [Option.map_eq_some_iff] at hf
          obtain ⟨cs', h1, rfl⟩ := hf
          cases hx with
          | ptr hL hoo =>
            rename_i o0 L
            obtain ⟨row, t, fz, hz, hw, _, hn, hsh, _, hc⟩ := r.row hb hL
            obtain ⟨hcl, vs, hvs, hr⟩ := hc i cs hcs
            obtain ⟨h2, h3, _⟩ := many h1 hvs
            exact ⟨rfl, .iptr (snap_live r hb hL hw) h3 hr hoo⟩
        · cases hf
      · cases hf
    · -- slices
      rename_i z b i len cap
      split at hf
      · rename_i zz op ct hb
        cases hcap : capOk len cap with
        | false => rw [hcap] at hf; cases hf
        | true =>
          rw [hcap, cond_true] at hf
          split at hf
          · rename_i es hes
            simp only [Option.map_eq_some_iff] at hf
            obtain ⟨es', h1, rfl⟩ := hf
            obtain ⟨hol, hfit, hog⟩ := Ct.sub_spec hes
            have fin : ∀ L k, m b = some L → L.z = z → len ≤ k → Rv (snap K m h w) Mm.nil (.isl z es') (.slice (some ⟨L.c, (L.sh + i) * L.z, none⟩) len k) := by
              intro L k hL hLz hk
              obtain ⟨row, t, fz, hz, hw, _, hn, hsh, _, hc⟩ := r.row hb hL
              obtain ⟨hoz, olds, hov, hosz, hor⟩ := hc.sub len i es hol hog
              obtain ⟨h3, h4, h5⟩ := rows h1 hov
              refine .isl (by rw [h4, hol]) hk (h5 z (by rw [← hLz]; exact hoz)) h3 fun _ => ⟨rfl, row, snap_live r hb hL hw, hor⟩
            cases hx with
            | slicex hL hoo hz =>
              subst hoo
              exact ⟨rfl, fin _ _ hL hz (by simpa [capOk, nble] using hcap)⟩
            | sliceo hL hoo hn hz =>
              subst hoo
              rename_i k L
              obtain ⟨_, _, _, _, _, _, _, hsh, _, _⟩ := r.row hb hL
              exact ⟨rfl, fin _ _ hL hz (by omega)⟩
          · cases hf
      · cases hf
    · cases hf
    · cases hf
    · cases hf
    · -- fn
      rename_i f p q
      simp only [Option.bind_eq_some_iff, Option.map_eq_some_iff] at hf
      obtain ⟨p', h1, q', h2, rfl⟩ := hf
      cases hx with
      | fn hp hq =>
        obtain ⟨h3, h4, _⟩ := many h1 hp
        obtain ⟨h5, h6, _⟩ := many h2 hq
        exact ⟨by simp [AV.tree, h3, h5], .fn h4 h6⟩
    · rename_i t u
      simp only [Option.map_eq_some_iff] at hf
      obtain ⟨u', h1, rfl⟩ := hf
      cases hx with
      | iface hu =>
        obtain ⟨h3, h4⟩ := ih h1 hu
        exact ⟨by simpa [AV.tree] using h3, .iface h4⟩
    · rename_i cs
      simp only [Option.map_eq_some_iff] at hf
      obtain ⟨cs', h1, rfl⟩ := hf
      cases hx with
      | agg hu =>
        obtain ⟨h3, h4, _⟩ := many h1 hu
        exact ⟨by simpa [AV.tree] using h3, .agg h4⟩
    · rename_i cs
      simp only [Option.map_eq_some_iff] at hf
      obtain ⟨cs', h1, rfl⟩ := hf
      cases hx with
      | tup hu =>
        obtain ⟨h3, h4, _⟩ := many h1 hu
        exact ⟨by simpa [AV.tree] using h3, .tup h4⟩
    · simp only [Option.some.injEq] at hf; subst hf
      have ht : v.tree = true := by
        cases v <;> first | rfl | (simp_all; done) | (exfalso; rename_i hh; exact hh _ _ _ _ _ rfl rfl rfl rfl rfl) | (exfalso; simp_all; rename_i hh; exact hh _ _ _ _ _ rfl rfl rfl rfl rfl)
      exact ⟨ht, (hx.mono snap_le (.refl _)).tree ht⟩

theorem frzAll_spec (r : Rel P K m h w) {d : Nat} : ∀ {vs vs' : List AV} {xs : List Value}, frzAll h d vs = some vs' → RvL K m vs xs → AV.trees vs' = true ∧ RvL (snap K m h w) Mm.nil vs' xs
  | [], vs', xs, hf, hx => by simp only [frzAll, Option.some.injEq] at hf; subst hf; cases hx; exact ⟨rfl, .nil⟩
  | v :: vs, vs', xs, hf, hx => by
    simp only [frzAll, Option.bind_eq_some_iff, Option.map_eq_some_iff] at hf
    obtain ⟨y, h1, l, h2, rfl⟩ := hf
    cases hx with
    | cons hx tx =>
      obtain ⟨h3, h4⟩ := frz_spec r d h1 hx
      obtain ⟨h5, h6⟩ := frzAll_spec r h2 tx
      exact ⟨by simp [AV.trees, h3, h5], .cons h4 h6⟩

/-- the memory, with nobody's eyes on it -/
theorem Rel.bare (hi : ∀ c row, K c = some row → ∃ t fz, w.heap[c]? = some (.cells row t fz)) : Rel P K Mm.nil .empty w where
  ob := fun _ _ h => by simp [Heap.empty, Heap.get, Tr.get?_lf] at h
  inj := fun _ _ _ _ h => by cases h
  dom := fun _ _ h => by cases h
  fresh := fun _ _ => by simp [Heap.empty, Heap.get, Tr.get?_lf]
  imm := hi
  dis := fun _ _ h => by cases h

/-- what ran beside us left us as we were -/
theorem Rel.beside {K0 K' : Km} {m' : Mm} {h0 : Heap} {w' : World} (r : Rel P K m h w) (hx : Ext K0 Mm.nil .empty w K' m' h0 w') {K'' : Km} (hk : K.le K'')
    (hi : ∀ c row, K'' c = some row → ∃ t fz, w'.heap[c]? = some (.cells row t fz)) (hn : ∀ c row, K'' c = some row → K c = some row ∨ w.heap.size ≤ c) :
    Rel P K'' m h w' ∧ Ext K m h w K'' m h w' := by
  have hfr : ∀ c, c < w.heap.size → w'.heap[c]? = w.heap[c]? := fun c hc => hx.frame c hc fun _ _ hh => by cases hh
  refine ⟨{ ob := fun b o hb L hL => (r.ob b o hb L hL).mono hk (.refl _) (hfr _ (r.lt hb hL)), inj := r.inj, dom := r.dom, fresh := r.fresh, imm := hi, dis := fun b L hL hg => ?_ }, ?_⟩
  · cases hk2 : K'' L.c with
    | none => rfl
    | some row =>
      obtain ⟨o, ho⟩ := Option.isSome_iff_exists.1 hg
      have := r.lt ho hL
      rcases hn _ _ hk2 with h1 | h1
      · rw [r.dis b L hL hg] at h1; cases h1
      · omega
  · exact { mono := .refl _, kmono := hk, next := Nat.le_refl _, size := hx.size, frame := fun c hc _ => hfr c hc, new := fun b L h1 h2 => .inr ⟨b, L, h1, rfl, h2⟩,
            knew := fun c row hc => (hn c row hc).elim .inl fun h1 => .inr (.inl h1), ghost := fun _ _ h1 => ⟨h1, rfl⟩, os := hx.os, output := hx.output, tape := hx.tape }

/-- a call of what has no part in the heap -/
theorem pure_call (cok : CallOk P call) (r : Rel P K m h w) {f : Nat} {args : List AV} {vals : Array Value} (hv : RvL K m args vals.toList) (hs : pureCall call f args h ≠ .err) :
    (callFunc f vals).run P w = .ok (.enter f vals) w ∧ CallsIn Fence.wide 0 P f vals w (Post P K m h w (pureCall call f args h)) := by
  unfold pureCall at hs ⊢
  cases ht : AV.trees args with
  | true =>
    simp only [ht, cond_true] at hs ⊢
    have r0 : Rel P K Mm.nil .empty w := Rel.bare r.imm
    have hv0 : RvL K Mm.nil args vals.toList := hv.tree ht
    have hne : call (.fn f) args .empty ≠ .err := by
      intro hc; rw [hc] at hs; exact hs rfl
    obtain ⟨h1, h2⟩ := cok.fn r0 hv0 hne
    refine ⟨h1, CallsIn.mono h2 fun en w' hq => ?_⟩
    have fin : ∀ (h0 : Heap) (K' : Km) (m' : Mm) (u u' : AV) (x : Value), Rel P K' m' h0 w' → Ext K Mm.nil .empty w K' m' h0 w' → Rv K' m' u x → frz h0 16 u = some u' →
        ∃ K'', Rv K'' m u' x ∧ Rel P K'' m h w' ∧ Ext K m h w K'' m h w' := by
      intro h0 K' m' u u' x hr hx hu hf
      obtain ⟨h3, h4⟩ := frz_spec hr 16 hf hu
      have hk : K.le (snap K' m' h0 w') := hx.kmono.trans snap_le
      obtain ⟨h5, h6⟩ := r.beside hx hk (fun c row hc => snap_imm hr hc) (fun c row hc => by
        rcases snap_new hc with h7 | ⟨b, L, h7, rfl, h8⟩
        · rcases hx.knew c row h7 with h9 | h9 | ⟨_, _, h9, _⟩
          · exact .inl h9
          · exact .inr h9
          · cases h9
        · rcases hx.new b L h7 h8 with h9 | ⟨_, _, h9, _⟩
          · exact .inr h9
          · cases h9)
      exact ⟨_, h4.tree h3, h5, h6⟩
    cases en with
    | returned x =>
      obtain ⟨u, h0, K', m', e1, e2, e3, e4⟩ := hq
      rw [e1] at hs ⊢
      simp only at hs ⊢
      cases hf : frz h0 16 u with
      | none => rw [hf] at hs; exact absurd rfl hs
      | some u' =>
        obtain ⟨K'', q1, q2, q3⟩ := fin h0 K' m' u u' x e3 e4 e2 hf
        exact ⟨u', h, K'', m, rfl, q1, q2, q3⟩
    | panicked chain =>
      obtain ⟨u, h0, K', m', x, e1, rfl, e2, e3, e4⟩ := hq
      rw [e1] at hs ⊢
      simp only at hs ⊢
      cases hf : frz h0 16 u with
      | none => rw [hf] at hs; exact absurd rfl hs
      | some u' =>
        obtain ⟨K'', q1, q2, q3⟩ := fin h0 K' m' u u' x e3 e4 e2 hf
        exact ⟨u', h, K'', m, x, rfl, rfl, q1, q2, q3⟩
    | outgrown => exact hq.elim
  | false =>
    simp only [ht, cond_false] at hs ⊢
    cases hfa : frzAll h 16 args with
    | none => rw [hfa] at hs; exact absurd rfl hs
    | some args' =>
      rw [hfa] at hs
      simp only at hs ⊢
      obtain ⟨_, hv0⟩ := frzAll_spec r hfa hv
      have r0 : Rel P (snap K m h w) Mm.nil .empty w := Rel.bare fun c row hc => snap_imm r hc
      have hne : call (.fn f) args' .empty ≠ .err := by
        intro hc; rw [hc] at hs; exact hs rfl
      obtain ⟨h1, h2⟩ := cok.fn r0 hv0 hne
      refine ⟨h1, CallsIn.mono h2 fun en w' hq => ?_⟩
      cases en with
      | returned x =>
        obtain ⟨u, h0, K', m', e1, e2, e3, e4⟩ := hq
        rw [e1] at hs ⊢
        simp only at hs ⊢
        cases hsc : u.scalar with
        | false => rw [hsc] at hs; exact absurd rfl hs
        | true =>
          have hfr : ∀ c, c < w.heap.size → w'.heap[c]? = w.heap[c]? := fun c hc => e4.frame c hc fun _ _ hh => by cases hh
          obtain ⟨q1, q2⟩ := r.beside e4 (Km.le.refl K) (fun c row hc => by rw [hfr c (r.klt hc)]; exact r.imm c row hc) (fun c row hc => .inl hc)
          exact ⟨u, h, K, m, rfl, e2.scalar hsc, q1, q2⟩
      | panicked chain =>
        obtain ⟨u, h0, K', m', x, e1, rfl, e2, e3, e4⟩ := hq
        rw [e1] at hs
        exact absurd rfl hs
      | outgrown => exact hq.elim

theorem upon_pcall {ro : Option Nat} (cok : CallOk P call) (r : Rel P K m h w) (he : REnv K m n e a) {f : Nat} {ys : List DO} (ho : okIns P o.op (.pcall f ys) = true)
    (hs : step call e h (.pcall f ys) ≠ .err) : Upon P ro o a K m h w (step call e h (.pcall f ys)) := by
  obtain ⟨dst, op, ty, pos, after, guard⟩ := o
  simp only [okIns] at ho
  split at ho
  · rename_i c
    obtain ⟨callee, args, argTypes⟩ := c
    simp only at ho
    split at ho
    · simp only [Bool.and_eq_true, nbeq, decide_eq_true_eq] at ho
      obtain ⟨rfl, h1⟩ := ho
      have hv : RvL K m (ys.map (DO.ev e)) (args.map a.eval).toList := by
        rw [Array.toList_map]; exact he.evals h1
      obtain ⟨h2, h3⟩ := pure_call cok r hv hs
      refine Upon.of_call ?_ h3
      simp [execOp, resolve, Act.eval, Deferred.ofValue, invoke, h2]
    · cases ho
  · simp at ho
end
end Go.D
