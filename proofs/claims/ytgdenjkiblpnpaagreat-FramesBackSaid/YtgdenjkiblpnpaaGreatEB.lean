/-
  The abstract evaluator 'D': regions that draw their order: what instructions look at; blocks that nobody in the model has laid yet.
-/
import Derived.Test.YtgdenjkiblpnpaaGreatEA
namespace Go.D
section
variable {P : Program} {K : Km} {m : Mm} {h h' : Heap} {w : World} {v : AV} {n : Nat} {e e' : Env} {a : Act} {o : Oper} {call : Caller}

/-- a block that nobody stands for yet is laid in the model -/
theorem Rel.adopt (r : Rel P K m h w) {b : Nat} {ob : Ob} {obj : Obj} {L : Loc} (hb : h.get b = some ob) (hm : m b = none) (hL : L.c = w.heap.size) (ho : RObj P K (m.put b L) (w.alloc obj) L ob) :
    Rel P K (m.put b L) h (w.alloc obj) where
  ob := fun x ox hx Lx hLx => by
    by_cases e : x = b
    · subst e
      rw [Mm.put_self] at hLx; cases hLx
      rw [hb] at hx; cases hx
      exact ho
    · simp only [Mm.put, if_neg e] at hLx
      exact (r.ob x ox hx Lx hLx).mono (.refl _) (Mm.put_le m hm) (heap_alloc_old (r.lt hx hLx))
  inj := fun x y Lx Ly hx hy hc gx gy => by
    by_cases e1 : x = b <;> by_cases e2 : y = b
    · rw [e1, e2]
    · subst e1
      rw [Mm.put_self] at hx; cases hx
      simp only [Mm.put, if_neg e2] at hy
      obtain ⟨o2, ho2⟩ := Option.isSome_iff_exists.1 gy
      have := r.lt ho2 hy
      omega
    · subst e2
      rw [Mm.put_self] at hy; cases hy
      simp only [Mm.put, if_neg e1] at hx
      obtain ⟨o1, ho1⟩ := Option.isSome_iff_exists.1 gx
      have := r.lt ho1 hx
      omega
    · simp only [Mm.put, if_neg e1] at hx
      simp only [Mm.put, if_neg e2] at hy
      exact r.inj _ _ _ _ hx hy hc gx gy
  dom := fun x Lx hx => by
    by_cases e : x = b
    · subst e
      rcases Nat.lt_or_ge x h.next with h1 | h1
      · exact h1
      · rw [r.fresh x h1] at hb; cases hb
    · simp only [Mm.put, if_neg e] at hx
      exact r.dom _ _ hx
  fresh := r.fresh
  imm := fun c row hk => by rw [heap_alloc_old (r.klt hk)]; exact r.imm c row hk
  dis := fun x Lx hx gx => by
    by_cases e : x = b
    · subst e
      rw [Mm.put_self] at hx; cases hx
      cases hk : K L.c with
      | none => rfl
      | some row => have := r.klt hk; omega
    · simp only [Mm.put, if_neg e] at hx
      exact r.dis x Lx hx gx

theorem Ext.adopt {K0 : Km} {m0 : Mm} {h0 : Heap} {w0 : World} (hx : Ext K0 m0 h0 w0 K m h w) {b : Nat} {obj : Obj} {L : Loc} (hm : m b = none) (hb : h0.next ≤ b) (hL : L.c = w.heap.size) :
    Ext K0 m0 h0 w0 K (m.put b L) h (w.alloc obj) where
  mono := hx.mono.trans (Mm.put_le m hm)
  kmono := hx.kmono
  next := hx.next
  size := by have := hx.size; simp; omega
  frame := fun c hc hn => by
    rw [heap_alloc_old (Nat.lt_of_lt_of_le hc hx.size)]
    exact hx.frame c hc hn
  new := fun x Lx hx2 gx => by
    by_cases e : x = b
    · subst e
      rw [Mm.put_self] at hx2; cases hx2
      exact .inl (by have := hx.size; omega)
    · simp only [Mm.put, if_neg e] at hx2
      exact hx.new x Lx hx2 gx
  knew := hx.knew
  ghost := fun x hx2 hm2 => by
    obtain ⟨h1, h2⟩ := hx.ghost x hx2 hm2
    have e : x ≠ b := by omega
    exact ⟨by simp [Mm.put, e, h1], h2⟩
  os := hx.os
  output := hx.output
  tape := hx.tape

/-- a block that nobody in the model has laid yet -/
theorem Rel.ghost (r : Rel P K m h w) (ob : Ob) : Rel P K m (h.new ob) w where
  ob := fun x ox hx Lx hLx => by
    have := r.dom _ _ hLx
    rw [Heap.get_new, if_neg (by omega)] at hx
    exact r.ob x ox hx Lx hLx
  inj := fun x y Lx Ly hx hy hc gx gy => by
    have h1 := r.dom _ _ hx
    have h2 := r.dom _ _ hy
    rw [Heap.get_new, if_neg (by omega)] at gx gy
    exact r.inj _ _ _ _ hx hy hc gx gy
  dom := fun x Lx hx => by have := r.dom _ _ hx; simp only [Heap.next_new]; omega
  fresh := fun x hx => by
    simp only [Heap.next_new] at hx
    rw [Heap.get_new, if_neg (by omega)]
    exact r.fresh x (by omega)
  imm := r.imm
  dis := fun x Lx hx gx => by
    have h1 := r.dom _ _ hx
    rw [Heap.get_new, if_neg (by omega)] at gx
    exact r.dis x Lx hx gx

theorem Ext.ghostB {K0 : Km} {m0 : Mm} {h0 : Heap} {w0 : World} (r : Rel P K m h w) (hx : Ext K0 m0 h0 w0 K m h w) (ob : Ob) : Ext K0 m0 h0 w0 K m (h.new ob) w :=
  { hx with
    next := by have := hx.next; simp only [Heap.next_new]; omega
    new := fun x Lx hx2 gx => by
      have h1 := r.dom _ _ hx2
      rw [Heap.get_new, if_neg (by omega)] at gx
      exact hx.new x Lx hx2 gx
    ghost := fun x hx2 hm2 => by
      obtain ⟨h1, h2⟩ := hx.ghost x hx2 hm2
      have := hx.next
      exact ⟨h1, by rw [Heap.get_new, if_neg (by omega)]; exact h2⟩ }

/-! ### What instructions look at -/
/-- two environments are the same in slots -/
def Same (l : List Nat) (e e' : Env) : Prop := ∀ t ∈ l, e.get t = e'.get t

theorem Same.left {l l' : List Nat} (h : Same (l ++ l') e e') : Same l e e' := fun t ht => h t (by simp [ht])
theorem Same.right {l l' : List Nat} (h : Same (l ++ l') e e') : Same l' e e' := fun t ht => h t (by simp [ht])

theorem DO.ev_same {x : DO} (h : Same x.slots e e') : x.ev e = x.ev e' := by
  cases x with
  | t n => exact h n (by simp [DO.slots])
  | c v => rfl

theorem evs_same : ∀ {l : List DO}, Same (slotsL l) e e' → l.map (DO.ev e) = l.map (DO.ev e')
  | [], _ => rfl
  | x :: l, h => by
    have h' : Same (x.slots ++ slotsL l) e e' := by simpa [slotsL, List.flatMap_cons] using h
    rw [List.map_cons, List.map_cons, DO.ev_same h'.left, evs_same h'.right]

theorem bnd_same {x : Option DO} {d : Nat} (h : Same (slotsO x) e e') : bnd e x d = bnd e' x d := by
  cases x with
  | none => rfl
  | some x => simp only [bnd]; rw [DO.ev_same h]

theorem parts_same : ∀ {l : List (Nat × DO)}, Same (l.flatMap fun p => p.2.slots) e e' → (l.map fun p => (p.1, (p.2.ev e).cells)) = l.map fun p => (p.1, (p.2.ev e').cells)
  | [], _ => rfl
  | x :: l, h => by
    have h' : Same (x.2.slots ++ l.flatMap fun p => p.2.slots) e e' := by simpa [List.flatMap_cons] using h
    rw [List.map_cons, List.map_cons, DO.ev_same h'.left, parts_same h'.right]

theorem parts3_same : ∀ {l : List (Nat × Nat × DO)}, Same (l.flatMap fun p => p.2.2.slots) e e' → (l.map fun p => (p.1, p.2.1, (p.2.2.ev e).cells)) = l.map fun p => (p.1, p.2.1, (p.2.2.ev e').cells)
  | [], _ => rfl
  | x :: l, h => by
    have h' : Same (x.2.2.slots ++ l.flatMap fun p => p.2.2.slots) e e' := by simpa [List.flatMap_cons] using h
    rw [List.map_cons, List.map_cons, DO.ev_same h'.left, parts3_same h'.right]

theorem slsl_same {z : Nat} {x : AV} {lo hi mx : Option DO} (h1 : Same (slotsO lo) e e') (h2 : Same (slotsO hi) e e') (h3 : Same (slotsO mx) e e') : sliceD z e h x lo hi mx = sliceD z e' h x lo hi mx := by
  have hb1 : ∀ d, bnd e lo d = bnd e' lo d := fun d => bnd_same h1
  have hb2 : ∀ d, bnd e hi d = bnd e' hi d := fun d => bnd_same h2
  have hb3 : ∀ d, bnd e mx d = bnd e' mx d := fun d => bnd_same h3
  have hb4 : ∀ m, mx = some m → m.ev e = m.ev e' := fun m hm => by subst hm; exact DO.ev_same h3
  unfold sliceD
  cases x <;> simp only [hb1, hb2, hb3] <;> cases mx <;> first | rfl | simp only [hb4 _ rfl]

theorem newOf_same {i : DIns} (hs : Same i.slots e e') : newOf e i = newOf e' i := by
  cases i <;> simp only [newOf]
  · rw [DO.ev_same hs]
  · rw [parts_same hs]
  · rename_i z bytes l c
    have hs' : Same (l.slots ++ c.slots) e e' := hs
    rw [DO.ev_same hs'.left, DO.ev_same hs'.right]
  · rw [DO.ev_same hs]

theorem step_same {i : DIns} (hs : Same i.slots e e') : step call e h i = step call e' h i := by
  cases i
  case mv x => simp only [step]; rw [DO.ev_same hs]
  case pick a b c =>
    have hs' : Same (a.slots ++ b.slots ++ c.slots) e e' := hs
    simp only [step]; rw [DO.ev_same hs'.left.left, DO.ev_same hs'.left.right, DO.ev_same hs'.right]
  case alloc => rfl
  case box => simp only [step, newOf_same hs]
  case ibox => simp only [step]; rw [DO.ev_same hs]
  case build => simp only [step]; rw [parts3_same hs]
  case bsl => simp only [step, newOf_same hs]
  case ibsl => simp only [step]; rw [parts_same hs]
  case ld => simp only [step]; rw [DO.ev_same hs]
  case st k a b =>
    have hs' : Same (a.slots ++ b.slots) e e' := hs
    simp only [step]; rw [DO.ev_same hs'.left, DO.ev_same hs'.right]
  case nck => simp only [step]; rw [DO.ev_same hs]
  case ar k a b =>
    have hs' : Same (a.slots ++ b.slots) e e' := hs
    simp only [step]; rw [DO.ev_same hs'.left, DO.ev_same hs'.right]
  case eqc k k2 a b =>
    have hs' : Same (a.slots ++ b.slots) e e' := hs
    simp only [step]; rw [DO.ev_same hs'.left, DO.ev_same hs'.right]
  case un => simp only [step]; rw [DO.ev_same hs]
  case cvi => simp only [step]; rw [DO.ev_same hs]
  case cvbs => simp only [step]; rw [DO.ev_same hs]
  case cvsl => simp only [step]; rw [DO.ev_same hs]
  case mkif => simp only [step]; rw [DO.ev_same hs]
  case mkfn f a b =>
    have hs' : Same (slotsL a ++ slotsL b) e e' := hs
    simp only [step]; rw [evs_same hs'.left, evs_same hs'.right]
  case mkmap => rfl
  case mksl => simp only [step, newOf_same hs]
  case slstr a lo hi =>
    have hs' : Same (a.slots ++ slotsO lo ++ slotsO hi) e e' := hs
    have hb1 : ∀ d, bnd e lo d = bnd e' lo d := fun d => bnd_same hs'.left.right
    have hb2 : ∀ d, bnd e hi d = bnd e' hi d := fun d => bnd_same hs'.right
    simp only [step]; rw [DO.ev_same hs'.left.left]
    simp only [strSlice, hb1, hb2]
  case slsl z a lo hi mx =>
    have hs' : Same (a.slots ++ slotsO lo ++ slotsO hi ++ slotsO mx) e e' := hs
    simp only [step]; rw [DO.ev_same hs'.left.left.left, slsl_same hs'.left.left.right hs'.left.right hs'.right]
  case fad => simp only [step]; rw [DO.ev_same hs]
  case fld => simp only [step]; rw [DO.ev_same hs]
  case iad k a b =>
    have hs' : Same (a.slots ++ b.slots) e e' := hs
    simp only [step]; rw [DO.ev_same hs'.left, DO.ev_same hs'.right]
  case iada k k2 a b =>
    have hs' : Same (a.slots ++ b.slots) e e' := hs
    simp only [step]; rw [DO.ev_same hs'.left, DO.ev_same hs'.right]
  case ixa k k2 k3 a b =>
    have hs' : Same (a.slots ++ b.slots) e e' := hs
    simp only [step]; rw [DO.ev_same hs'.left, DO.ev_same hs'.right]
  case ixs a b =>
    have hs' : Same (a.slots ++ b.slots) e e' := hs
    simp only [step]; rw [DO.ev_same hs'.left, DO.ev_same hs'.right]
  case look k k2 k3 a b =>
    have hs' : Same (a.slots ++ b.slots) e e' := hs
    simp only [step]; rw [DO.ev_same hs'.left, DO.ev_same hs'.right]
  case mup k a b c =>
    have hs' : Same (a.slots ++ b.slots ++ c.slots) e e' := hs
    simp only [step]; rw [DO.ev_same hs'.left.left, DO.ev_same hs'.left.right, DO.ev_same hs'.right]
  case ext => simp only [step]; rw [DO.ev_same hs]
  case call f as => simp only [step]; rw [evs_same hs]
  case pcall f as => simp only [step]; rw [evs_same hs]
  case callv x as =>
    have hs' : Same (x.slots ++ slotsL as) e e' := hs
    simp only [step]; rw [DO.ev_same hs'.left, evs_same hs'.right]
  case inv x tbl as =>
    have hs' : Same (x.slots ++ slotsL as) e e' := hs
    simp only [step]; rw [DO.ev_same hs'.left, evs_same hs'.right]
  case app k k2 a b =>
    have hs' : Same (a.slots ++ b.slots) e e' := hs
    simp only [step]; rw [DO.ev_same hs'.left, DO.ev_same hs'.right]
  case appz k k2 a b =>
    have hs' : Same (a.slots ++ b.slots) e e' := hs
    simp only [step]; rw [DO.ev_same hs'.left, DO.ev_same hs'.right]
  case len => simp only [step]; rw [DO.ev_same hs]
  case cap => simp only [step]; rw [DO.ev_same hs]
  case cpy k a b =>
    have hs' : Same (a.slots ++ b.slots) e e' := hs
    simp only [step]; rw [DO.ev_same hs'.left, DO.ev_same hs'.right]
  case clr => simp only [step]; rw [DO.ev_same hs]
  case mm k as => simp only [step]; rw [evs_same hs]
  case panic => simp only [step]; rw [DO.ev_same hs]
  case recov => rfl
  case dfr => rfl
  case ta => simp only [step]; rw [DO.ev_same hs]
  case rngs => simp only [step, newOf_same hs]
  case nxts => simp only [step]; rw [DO.ev_same hs]

/-- an instruction of which nobody's memory is a part -/
theorem pure_step {op : Op} {i : DIns} (hk : kindOf op i = .pure) (hs : step call e h i = .ok v h') : h' = h ∧ ∀ h2, step call e h2 i = .ok v h2 := by
  have hk' : (match i with
    | .mv _ | .pick _ _ _ | .build _ _ | .nck _ | .ar _ _ _ | .eqc _ _ _ _ | .un _ _ | .cvi _ _ | .mkif _ _ | .mkfn _ _ _ | .slstr _ _ _ | .fad _ _ | .fld _ _ _
    | .iad _ _ _ | .iada _ _ _ _ | .ixa _ _ _ _ _ | .ixs _ _ | .ext _ _ | .mm _ _ | .ta _ _ _ _ | .ibox _ _ | .ibsl _ _ _ | .cap _ => true
    | _ => false) = true := by
    unfold kindOf at hk
    split at hk
    · cases hk
    · split at hk <;> first | rfl | cases hk
  cases i <;> first | cases hk' | skip
  all_goals simp only [step, Res.of, Bool.cond_eq_ite] at hs ⊢
  all_goals repeat' (first | (cases hs; done) | split at hs)
  all_goals (first | (cases hs; exact ⟨rfl, fun _ => by simp_all⟩) | (simp only [Res.ok.injEq] at hs; obtain ⟨rfl, rfl⟩ := hs; exact ⟨rfl, fun _ => by simp_all⟩))

/-- a heap with more blocks -/
def More (h h2 : Heap) : Prop := ∀ b o, h.get b = some o → h2.get b = some o

theorem loadD_more {h2 : Heap} (hm : More h h2) {k : Option Nat} {x v : AV} (hl : loadD h k x = some v) : loadD h2 k x = some v := by
  unfold loadD at hl ⊢
  split at hl
  · split at hl
    · rename_i hb
      rw [hm _ _ hb]
      exact hl
    · cases hl
  · exact hl
  · cases hl

theorem elemsOf_more {h2 : Heap} (hm : More h h2) {x : AV} {es : List (List AV)} (hl : elemsOf h x = some es) : elemsOf h2 x = some es := by
  unfold elemsOf at hl ⊢
  split at hl
  · exact hl
  · exact hl
  · split at hl
    · rename_i hb
      rw [hm _ _ hb]
      exact hl
    · cases hl
  · exact hl
  · exact hl
  · cases hl

theorem lenD_more {h2 : Heap} (hm : More h h2) {s : LenSh} {x : AV} {q : Nat} (hl : lenD h s x = some q) : lenD h2 s x = some q := by
  unfold lenD at hl ⊢
  split at hl <;> first | exact hl | skip
  · split at hl
    · rename_i hb
      rw [hm _ _ hb]
      exact hl
    · cases hl

theorem sliceD_more {h2 : Heap} (hm : More h h2) {z : Nat} {x v : AV} {lo hi mx : Option DO} (hl : sliceD z e h x lo hi mx = some v) : sliceD z e h2 x lo hi mx = some v := by
  unfold sliceD at hl ⊢
  split at hl <;> first | exact hl | skip
  · rename_i z' b i len cap
    cases hc : Nat.beq z' z with
    | false => rw [hc] at hl; cases hl
    | true =>
      rw [hc] at hl
      simp only [Bool.not_true, cond_false] at hl ⊢
      cases hb : h.get b with
      | none => rw [hb] at hl; cases hl
      | some ob =>
        rw [hb] at hl
        rw [hm _ _ hb]
        exact hl

theorem rd_step {op : Op} {i : DIns} (hk : kindOf op i = .rd) (hs : step call e h i = .ok v h') : h' = h ∧ ∀ h2, More h h2 → step call e h2 i = .ok v h2 := by
  have hk' : (match i with
    | .ld _ _ | .look _ _ _ _ _ | .len _ _ | .cvbs _ | .slsl _ _ _ _ _ => true
    | _ => false) = true := by
    unfold kindOf at hk
    split at hk
    · cases hk
    · split at hk <;> first | rfl | cases hk
  cases i <;> first | cases hk' | skip
  · rename_i k x
    simp only [step] at hs ⊢
    cases hl : loadD h k (x.ev e) with
    | none => rw [hl] at hs; cases hs
    | some u =>
      rw [hl] at hs
      simp only [Res.of, Res.ok.injEq] at hs
      obtain ⟨rfl, rfl⟩ := hs
      exact ⟨rfl, fun h2 hm => by rw [loadD_more hm hl]; rfl⟩
  · rename_i x
    simp only [step] at hs ⊢
    split at hs
    · cases hs
    · rename_i hns
      split at hs
      · rename_i es hes
        cases hb : bytesOf es with
        | none => rw [hb] at hs; cases hs
        | some ns =>
          rw [hb] at hs
          simp only [Option.map_some, Res.of, Res.ok.injEq] at hs
          obtain ⟨rfl, rfl⟩ := hs
          refine ⟨rfl, fun h2 hm => ?_⟩
          simp only [elemsOf_more hm hes, hb]
          rfl
      · cases hs
  · rename_i z x lo hi mx
    simp only [step] at hs ⊢
    cases hl : sliceD z e h (x.ev e) lo hi mx with
    | none => rw [hl] at hs; cases hs
    | some u =>
      rw [hl] at hs
      simp only [Res.of, Res.ok.injEq] at hs
      obtain ⟨rfl, rfl⟩ := hs
      exact ⟨rfl, fun h2 hm => by rw [sliceD_more hm hl]; rfl⟩
  · rename_i sh z ok x k
    simp only [step] at hs ⊢
    cases hko : keyOk sh (k.ev e) with
    | false => rw [hko] at hs; cases hs
    | true =>
      rw [hko] at hs
      simp only [Bool.not_true, cond_false] at hs ⊢
      split at hs
      · rename_i hx
        simp only [Res.ok.injEq] at hs
        obtain ⟨rfl, rfl⟩ := hs
        exact ⟨rfl, fun h2 _ => rfl⟩
      · rename_i b hx
        split at hs
        · rename_i es hb
          split at hs
          · rename_i u hf
            simp only [Res.ok.injEq] at hs
            obtain ⟨rfl, rfl⟩ := hs
            exact ⟨rfl, fun h2 hm => by simp only [hm _ _ hb, hf]⟩
          · rename_i hf
            simp only [Res.ok.injEq] at hs
            obtain ⟨rfl, rfl⟩ := hs
            exact ⟨rfl, fun h2 hm => by simp only [hm _ _ hb, hf]⟩
          · cases hs
        · cases hs
      · cases hs
  · rename_i sh x
    simp only [step] at hs ⊢
    cases hl : lenD h sh (x.ev e) with
    | none => rw [hl] at hs; cases hs
    | some u =>
      rw [hl] at hs
      simp only [Res.ok.injEq] at hs
      obtain ⟨rfl, rfl⟩ := hs
      exact ⟨rfl, fun h2 hm => by rw [lenD_more hm hl]⟩
end
end Go.D
