/-
  The abstract evaluator 'D': when a heap stands for the model's memory, and what may change between two of them.
-/
import Derived.Test.YtgdenjkiblpnpaaGreatDD
import Derived.Laws.World
import Derived.Laws.Sem
namespace Go.D

def CellsAt (K : Km) (m : Mm) (row : Array Value) (L : Loc) (ct : Ct) : Prop :=
  ∀ i cs, ct.get? i = some cs → cs.length = L.z ∧ ∃ vs, RvL K m cs vs ∧ RowAt row ((L.sh + i) * L.z) vs

def codeOf : Ex → Option Code
  | .norm => none
  | .exit id => some (.exit id)
  | .ret => some .ret

def RSt (r : Loop) : LoopSt → Prop
  | .ready => r.state = .ready ∧ r.pending = none
  | .busy => r.state = .busy
  | .done x => r.state = .done ∧ x ≠ .norm ∧ r.pending = codeOf x

inductive RObj (P : Program) (K : Km) (m : Mm) (w : World) (L : Loc) : Ob → Prop
  | cells {z : Nat} {op : Bool} {ct : Ct} {row : Array Value} {t : TypeId} {fz : Nat × Nat} (hz : L.z = z) (hw : w.heap[L.c]? = some (.cells row t fz))
      (hf : fz.2 = fz.1 ∨ row.size ≤ fz.1) (hn : row.size = L.n * L.z) (hs : L.sh + ct.size ≤ L.n) (ho : op = false → L.sh + ct.size = L.n)
      (hc : CellsAt K m row L ct) : RObj P K m w L (.cells z op ct)
  | map {es : List (AV × AV)} {ents : Array MapEntry} {clock : Nat} (hw : w.heap[L.c]? = some (.map ents clock))
      (hk : RvL K m (es.map (·.1)) (ents.toList.map (·.key))) (hv : RvL K m (es.map (·.2)) (ents.toList.map (·.val))) : RObj P K m w L (.map es)
  | siter {s : List Nat} {pos : Nat} {x : ByteArray} (hsh : L.sh = 0) (hw : w.heap[L.c]? = some (.stringIter x pos)) (hx : x.data.toList.map UInt8.toNat = s) :
      RObj P K m w L (.siter s pos)
  | loop {s : Tr AV} {ps : List Nat} {asg body : DCode} {st : LoopSt} {r : Loop} (hw : w.heap[L.c]? = some (.loop r))
      (hs : ∀ t, Rv K m ((s.get? t).getD .bot) (r.tmps.getD t undef)) (hp : r.params.toList = ps) (hps : ∀ t ∈ ps, t < r.tmps.size)
      (ha : okCode P r.tmps.size r.assign asg = true) (hb : okCode P r.tmps.size r.body body = true) (hst : RSt r st) : RObj P K m w L (.loop s ps asg body st)
  | mark (hw : w.heap[L.c]? = some (.deferred (some []))) : RObj P K m w L .mark

theorem CellsAt.mono {K K' : Km} {m m' : Mm} (hK : K.le K') (hm : m.le m') {row : Array Value} {L : Loc} {ct : Ct} (h : CellsAt K m row L ct) : CellsAt K' m' row L ct :=
  fun i cs hi => let ⟨a, vs, b, c⟩ := h i cs hi; ⟨a, vs, b.mono hK hm, c⟩

theorem RObj.mono {P : Program} {K K' : Km} {m m' : Mm} {w w' : World} {L : Loc} {o : Ob} (hK : K.le K') (hm : m.le m') (hw' : w'.heap[L.c]? = w.heap[L.c]?)
    (h : RObj P K m w L o) : RObj P K' m' w' L o := by
  cases h with
  | cells hz hw hf hn hs ho hc => exact .cells hz (hw'.trans hw) hf hn hs ho (hc.mono hK hm)
  | map hw hk hv => exact .map (hw'.trans hw) (hk.mono hK hm) (hv.mono hK hm)
  | siter hsh hw hx => exact .siter hsh (hw'.trans hw) hx
  | loop hw hs hp hps ha hb hst => exact .loop (hw'.trans hw) (fun t => (hs t).mono hK hm) hp hps ha hb hst
  | mark hw => exact .mark (hw'.trans hw)

structure Rel (P : Program) (K : Km) (m : Mm) (h : Heap) (w : World) : Prop where
  ob : ∀ b o, h.get b = some o → ∀ L, m b = some L → RObj P K m w L o
  inj : ∀ b b' L L', m b = some L → m b' = some L' → L.c = L'.c → (h.get b).isSome = true → (h.get b').isSome = true → b = b'
  dom : ∀ b L, m b = some L → b < h.next
  fresh : ∀ b, h.next ≤ b → h.get b = none
  imm : ∀ c row, K c = some row → ∃ t fz, w.heap[c]? = some (.cells row t fz)
  dis : ∀ b L, m b = some L → (h.get b).isSome = true → K L.c = none

/-- what became of memory: what was known is known; what nobody alive stood for is as it was -/
structure Ext (K : Km) (m : Mm) (h : Heap) (w : World) (K' : Km) (m' : Mm) (h' : Heap) (w' : World) : Prop where
  mono : m.le m'
  kmono : K.le K'
  next : h.next ≤ h'.next
  size : w.heap.size ≤ w'.heap.size
  frame : ∀ c, c < w.heap.size → (∀ b L, m b = some L → L.c = c → h.get b = none) → w'.heap[c]? = w.heap[c]?
  new : ∀ b L, m' b = some L → (h'.get b).isSome = true → w.heap.size ≤ L.c ∨ ∃ b0 L0, m b0 = some L0 ∧ L0.c = L.c ∧ (h.get b0).isSome = true
  knew : ∀ c row, K' c = some row → K c = some row ∨ w.heap.size ≤ c ∨ ∃ b0 L0, m b0 = some L0 ∧ L0.c = c ∧ (h.get b0).isSome = true
  ghost : ∀ b, b < h.next → m b = none → m' b = none ∧ h'.get b = h.get b
  os : w'.os = w.os
  output : w'.output = w.output
  tape : w'.tape = w.tape

theorem Ext.refl (K : Km) (m : Mm) (h : Heap) (w : World) : Ext K m h w K m h w where
  mono := .refl _
  kmono := .refl _
  next := Nat.le_refl _
  size := Nat.le_refl _
  frame := fun _ _ _ => rfl
  new := fun b L h1 h2 => .inr ⟨b, L, h1, rfl, h2⟩
  knew := fun _ _ h => .inl h
  ghost := fun _ _ h => ⟨h, rfl⟩
  os := rfl
  output := rfl
  tape := rfl

theorem Ext.trans {K K' K'' : Km} {m m' m'' : Mm} {h h' h'' : Heap} {w w' w'' : World} (a : Ext K m h w K' m' h' w') (b : Ext K' m' h' w' K'' m'' h'' w'') :
    Ext K m h w K'' m'' h'' w'' where
  mono := a.mono.trans b.mono
  kmono := a.kmono.trans b.kmono
  next := Nat.le_trans a.next b.next
  size := Nat.le_trans a.size b.size
  frame := fun c hc hn => by
    rw [b.frame c (Nat.lt_of_lt_of_le hc a.size) ?_, a.frame c hc hn]
    intro x L hx hL
    cases hg : h'.get x with
    | none => rfl
    | some o =>
      rcases a.new x L hx (by simp [hg]) with h1 | ⟨b0, L0, h1, h2, h3⟩
      · omega
      · rw [hn b0 L0 h1 (h2.trans hL)] at h3; simp at h3
  new := fun x L hx hg => by
    rcases b.new x L hx hg with h1 | ⟨b0, L0, h1, h2, h3⟩
    · exact .inl (Nat.le_trans a.size h1)
    · rcases a.new b0 L0 h1 h3 with h4 | ⟨b1, L1, h4, h5, h6⟩
      · exact .inl (h2 ▸ h4)
      · exact .inr ⟨b1, L1, h4, h5.trans h2, h6⟩
  knew := fun c row hk => by
    rcases b.knew c row hk with h1 | h1 | ⟨b0, L0, h1, h2, h3⟩
    · exact a.knew c row h1
    · exact .inr (.inl (Nat.le_trans a.size h1))
    · rcases a.new b0 L0 h1 h3 with h4 | ⟨b1, L1, h4, h5, h6⟩
      · exact .inr (.inl (h2 ▸ h4))
      · exact .inr (.inr ⟨b1, L1, h4, h5.trans h2, h6⟩)
  ghost := fun x hx hm => by
    obtain ⟨h1, h2⟩ := a.ghost x hx hm
    obtain ⟨h3, h4⟩ := b.ghost x (Nat.lt_of_lt_of_le hx a.next) h1
    exact ⟨h3, h4.trans h2⟩
  os := b.os.trans a.os
  output := b.output.trans a.output
  tape := b.tape.trans a.tape

section
variable {P : Program} {K : Km} {m : Mm} {h : Heap} {w : World}

theorem Rel.lt (r : Rel P K m h w) {b : Nat} {o : Ob} (hb : h.get b = some o) {L : Loc} (hL : m b = some L) : L.c < w.heap.size := by
  have aux : ∀ x, w.heap[L.c]? = some x → L.c < w.heap.size := fun x hx => by
    rcases Nat.lt_or_ge L.c w.heap.size with hlt | hge
    · exact hlt
    · simp [Array.getElem?_eq_none hge] at hx
  cases r.ob b o hb L hL with
  | cells hz hw => exact aux _ hw
  | map hw => exact aux _ hw
  | siter _ hw => exact aux _ hw
  | loop hw => exact aux _ hw
  | mark hw => exact aux _ hw

theorem Rel.klt (r : Rel P K m h w) {c : Nat} {row : Array Value} (hk : K c = some row) : c < w.heap.size := by
  obtain ⟨t, fz, hw⟩ := r.imm c row hk
  rcases Nat.lt_or_ge c w.heap.size with hlt | hge
  · exact hlt
  · simp [Array.getElem?_eq_none hge] at hw

/-- the world but for its draws -/
def SameHeap (w w' : World) : Prop := w'.heap = w.heap ∧ w'.os = w.os ∧ w'.output = w.output ∧ w'.tape = w.tape

theorem SameHeap.refl (w : World) : SameHeap w w := ⟨rfl, rfl, rfl, rfl⟩

theorem Rel.same (r : Rel P K m h w) {w' : World} (hw : SameHeap w w') : Rel P K m h w' where
  ob := fun b o hb L hL => (r.ob b o hb L hL).mono (.refl _) (.refl _) (by rw [hw.1])
  inj := r.inj
  dom := r.dom
  fresh := r.fresh
  imm := fun c row hk => by rw [hw.1]; exact r.imm c row hk
  dis := r.dis

theorem Ext.same {w' : World} (hw : SameHeap w w') : Ext K m h w K m h w' where
  mono := .refl _
  kmono := .refl _
  next := Nat.le_refl _
  size := by rw [hw.1]; exact Nat.le_refl _
  frame := fun _ _ _ => by rw [hw.1]
  new := fun b L h1 h2 => .inr ⟨b, L, h1, rfl, h2⟩
  knew := fun _ _ h => .inl h
  ghost := fun _ _ h => ⟨h, rfl⟩
  os := hw.2.1
  output := hw.2.2.1
  tape := hw.2.2.2

def Mm.put (m : Mm) (b : Nat) (L : Loc) : Mm := fun x => if x = b then some L else m x

theorem Mm.put_le (m : Mm) {b : Nat} {L : Loc} (hb : m b = none) : m.le (m.put b L) := fun x L' hx => by
  unfold Mm.put
  split
  · rename_i e; subst e; rw [hb] at hx; cases hx
  · exact hx
theorem Mm.put_self (m : Mm) (b : Nat) (L : Loc) : m.put b L b = some L := by simp [Mm.put]

theorem Rel.none_next (r : Rel P K m h w) : m h.next = none := by
  cases hm : m h.next with
  | none => rfl
  | some L => exact absurd (r.dom _ _ hm) (Nat.lt_irrefl _)

theorem heap_alloc_old {w : World} {o : Obj} {c : Nat} (hc : c < w.heap.size) : (w.alloc o).heap[c]? = w.heap[c]? := by
  unfold World.alloc; simp only [Array.getElem?_push]; rw [if_neg (Nat.ne_of_lt hc)]
theorem heap_alloc_new {w : World} {o : Obj} : (w.alloc o).heap[w.heap.size]? = some o := by
  unfold World.alloc; simp only [Array.getElem?_push]; rw [if_pos trivial]

/-- a new block on both sides -/
theorem Rel.new (r : Rel P K m h w) {o : Ob} {obj : Obj} {L : Loc} (hL : L.c = w.heap.size)
    (ho : RObj P K (m.put h.next L) (w.alloc obj) L o) : Rel P K (m.put h.next L) (h.new o) (w.alloc obj) where
  ob := fun b o' hb L' hL' => by
    rw [Heap.get_new] at hb
    by_cases e : b = h.next
    · subst e
      rw [if_pos rfl] at hb
      rw [Mm.put_self] at hL'
      cases hb; cases hL'
      exact ho
    · rw [if_neg e] at hb
      simp only [Mm.put, if_neg e] at hL'
      exact (r.ob b o' hb L' hL').mono (.refl _) (Mm.put_le m r.none_next) (heap_alloc_old (r.lt hb hL'))
  inj := fun b b' L1 L2 h1 h2 hc g1 g2 => by
    rw [Heap.get_new] at g1 g2
    by_cases e1 : b = h.next <;> by_cases e2 : b' = h.next
    · rw [e1, e2]
    · subst e1
      rw [Mm.put_self] at h1; cases h1
      simp only [Mm.put, if_neg e2] at h2
      rw [if_neg e2] at g2
      obtain ⟨o2, ho2⟩ := Option.isSome_iff_exists.1 g2
      have := r.lt ho2 h2
      omega
    · subst e2
      rw [Mm.put_self] at h2; cases h2
      simp only [Mm.put, if_neg e1] at h1
      rw [if_neg e1] at g1
      obtain ⟨o1, ho1⟩ := Option.isSome_iff_exists.1 g1
      have := r.lt ho1 h1
      omega
    · simp only [Mm.put, if_neg e1] at h1
      simp only [Mm.put, if_neg e2] at h2
      rw [if_neg e1] at g1
      rw [if_neg e2] at g2
      exact r.inj _ _ _ _ h1 h2 hc g1 g2
  dom := fun b L' hb => by
    simp only [Heap.next_new]
    by_cases e : b = h.next
    · omega
    · simp only [Mm.put, if_neg e] at hb
      have := r.dom _ _ hb
      omega
  fresh := fun b hb => by
    simp only [Heap.next_new] at hb
    rw [Heap.get_new, if_neg (by omega)]
    exact r.fresh b (by omega)
  imm := fun c row hk => by rw [heap_alloc_old (r.klt hk)]; exact r.imm c row hk
  dis := fun b L' hb hg => by
    by_cases e : b = h.next
    · subst e
      rw [Mm.put_self] at hb; cases hb
      cases hk : K L.c with
      | none => rfl
      | some row => have := r.klt hk; omega
    · simp only [Mm.put, if_neg e] at hb
      rw [Heap.get_new, if_neg e] at hg
      exact r.dis b L' hb hg

theorem Ext.newB (r : Rel P K m h w) {o : Ob} {obj : Obj} {L : Loc} (hL : L.c = w.heap.size) : Ext K m h w K (m.put h.next L) (h.new o) (w.alloc obj) where
  mono := Mm.put_le m r.none_next
  kmono := .refl _
  next := by simp
  size := by simp
  frame := fun c hc _ => heap_alloc_old hc
  new := fun b L' hb hg => by
    by_cases e : b = h.next
    · subst e
      rw [Mm.put_self] at hb; cases hb
      exact .inl (by omega)
    · simp only [Mm.put, if_neg e] at hb
      rw [Heap.get_new, if_neg e] at hg
      exact .inr ⟨b, L', hb, rfl, hg⟩
  knew := fun _ _ h => .inl h
  ghost := fun b hb hm => by
    have : b ≠ h.next := by omega
    simp [Mm.put, Heap.get_new, this, hm]
  os := rfl
  output := rfl
  tape := rfl

/-- one block's object is another one on both sides -/
theorem Rel.set (r : Rel P K m h w) {w' : World} {b : Nat} {o o' : Ob} {L : Loc} (hb : h.get b = some o) (hL : m b = some L)
    (hw : ∀ c, c ≠ L.c → w'.heap[c]? = w.heap[c]?) (ho : RObj P K m w' L o') : Rel P K m (h.set b o') w' where
  ob := fun x ox hx Lx hLx => by
    rw [Heap.get_set] at hx
    by_cases e : x = b
    · subst e
      rw [if_pos rfl] at hx; cases hx
      rw [hL] at hLx; cases hLx
      exact ho
    · rw [if_neg e] at hx
      refine (r.ob x ox hx Lx hLx).mono (.refl _) (.refl _) (hw _ fun hc => e ?_)
      exact r.inj _ _ _ _ hLx hL hc (by simp [hx]) (by simp [hb])
  inj := fun x y Lx Ly hx hy hc gx gy => by
    rw [Heap.get_set] at gx gy
    refine r.inj _ _ _ _ hx hy hc ?_ ?_
    · by_cases e : x = b
      · subst e; simp [hb]
      · rwa [if_neg e] at gx
    · by_cases e : y = b
      · subst e; simp [hb]
      · rwa [if_neg e] at gy
  dom := r.dom
  fresh := fun x hx => by
    rw [Heap.get_set, if_neg]
    · exact r.fresh x hx
    · intro e; subst e
      have := r.fresh x hx
      rw [hb] at this; cases this
  imm := fun c row hk => by
    rw [hw c fun e => ?_]
    · exact r.imm c row hk
    · have := r.dis b L hL (by simp [hb])
      rw [← e, hk] at this; cases this
  dis := fun x Lx hx gx => by
    rw [Heap.get_set] at gx
    refine r.dis x Lx hx ?_
    by_cases e : x = b
    · subst e; simp [hb]
    · rwa [if_neg e] at gx

theorem Ext.setB {w' : World} {b : Nat} {o o' : Ob} {L : Loc} (hb : h.get b = some o) (hL : m b = some L)
    (hw : ∀ c, c ≠ L.c → w'.heap[c]? = w.heap[c]?) (hs : w'.heap.size = w.heap.size) (h1 : w'.os = w.os) (h2 : w'.output = w.output) (h3 : w'.tape = w.tape) :
    Ext K m h w K m (h.set b o') w' where
  mono := .refl _
  kmono := .refl _
  next := Nat.le_refl _
  size := by rw [hs]; exact Nat.le_refl _
  frame := fun c _ hn => hw c fun e => by
    have := hn b L hL e.symm
    rw [hb] at this; cases this
  new := fun x Lx hx gx => by
    refine .inr ⟨x, Lx, hx, rfl, ?_⟩
    rw [Heap.get_set] at gx
    by_cases e : x = b
    · subst e; simp [hb]
    · rwa [if_neg e] at gx
  knew := fun _ _ h => .inl h
  ghost := fun x _ hm => by
    refine ⟨hm, ?_⟩
    rw [Heap.get_set, if_neg]
    intro e; subst e; rw [hL] at hm; cases hm
  os := h1
  output := h2
  tape := h3

/-- a block is given up -/
theorem Rel.drop (r : Rel P K m h w) (b : Nat) : Rel P K m (h.drop b) w where
  ob := fun x ox hx Lx hLx => by
    rw [Heap.get_drop] at hx
    by_cases e : x = b
    · rw [if_pos e] at hx; cases hx
    · rw [if_neg e] at hx; exact r.ob x ox hx Lx hLx
  inj := fun x y Lx Ly hx hy hc gx gy => by
    rw [Heap.get_drop] at gx gy
    refine r.inj _ _ _ _ hx hy hc ?_ ?_
    · by_cases e : x = b
      · rw [if_pos e] at gx; cases gx
      · rwa [if_neg e] at gx
    · by_cases e : y = b
      · rw [if_pos e] at gy; cases gy
      · rwa [if_neg e] at gy
  dom := r.dom
  fresh := fun x hx => by
    rw [Heap.get_drop]
    split
    · rfl
    · exact r.fresh x hx
  imm := r.imm
  dis := fun x Lx hx gx => by
    rw [Heap.get_drop] at gx
    refine r.dis x Lx hx ?_
    by_cases e : x = b
    · rw [if_pos e] at gx; cases gx
    · rwa [if_neg e] at gx

theorem Ext.dropB {b : Nat} {L : Loc} (hL : m b = some L) : Ext K m h w K m (h.drop b) w where
  mono := .refl _
  kmono := .refl _
  next := Nat.le_refl _
  size := Nat.le_refl _
  frame := fun _ _ _ => rfl
  new := fun x Lx hx gx => by
    refine .inr ⟨x, Lx, hx, rfl, ?_⟩
    rw [Heap.get_drop] at gx
    by_cases e : x = b
    · rw [if_pos e] at gx; cases gx
    · rwa [if_neg e] at gx
  knew := fun _ _ h => .inl h
  ghost := fun x _ hm => by
    refine ⟨hm, ?_⟩
    rw [Heap.get_drop, if_neg]
    intro e; subst e; rw [hL] at hm; cases hm
  os := rfl
  output := rfl
  tape := rfl

/-- a row that is never written again -/
theorem Rel.immB (r : Rel P K m h w) {row : Array Value} {t : TypeId} :
    Rel P (fun c => if c = w.heap.size then some row else K c) m h (w.alloc (.cells row t)) where
  ob := fun b o hb L hL => (r.ob b o hb L hL).mono (fun c rw' hc => by
      have := r.klt hc
      simp [Nat.ne_of_lt this, hc]) (.refl _) (heap_alloc_old (r.lt hb hL))
  inj := r.inj
  dom := r.dom
  fresh := r.fresh
  imm := fun c rw' hk => by
    by_cases e : c = w.heap.size
    · subst e
      simp at hk; subst hk
      exact ⟨t, _, heap_alloc_new⟩
    · simp only [if_neg e] at hk
      rw [heap_alloc_old (r.klt hk)]
      exact r.imm c rw' hk
  dis := fun b L hL hg => by
    obtain ⟨o, ho⟩ := Option.isSome_iff_exists.1 hg
    have := r.lt ho hL
    simp [Nat.ne_of_lt this, r.dis b L hL hg]

theorem Km.imm_le (r : Rel P K m h w) (row : Array Value) : K.le (fun c => if c = w.heap.size then some row else K c) := fun c rw' hc => by
  have := r.klt hc
  simp [Nat.ne_of_lt this, hc]

theorem Ext.immB (r : Rel P K m h w) {row : Array Value} {t : TypeId} : Ext K m h w (fun c => if c = w.heap.size then some row else K c) m h (w.alloc (.cells row t)) where
  mono := .refl _
  kmono := Km.imm_le r row
  next := Nat.le_refl _
  size := by simp
  frame := fun c hc _ => heap_alloc_old hc
  new := fun b L h1 h2 => .inr ⟨b, L, h1, rfl, h2⟩
  knew := fun c rw' hk => by
    by_cases e : c = w.heap.size
    · exact .inr (.inl (by omega))
    · simp only [if_neg e] at hk; exact .inl hk
  ghost := fun _ _ h => ⟨h, rfl⟩
  os := rfl
  output := rfl
  tape := rfl
end

/-- what an operation of the evaluator, and the environment, stands for -/
def RDs (K : Km) (m : Mm) : List Dfr → List Deferred → Prop
  | [], [] => True
  | .mark r :: ds, d :: es => (∃ L, m r = some L ∧ d.target = .collected L.c) ∧ RDs K m ds es
  | .fn f args :: ds, d :: es => (∃ cap as, d.target = .fn (.func f) cap ∧ d.args = as ∧ RvL K m args (as ++ cap).toList) ∧ RDs K m ds es
  | _, _ => False

structure REnv (K : Km) (m : Mm) (n : Nat) (e : Env) (a : Act) : Prop where
  get : ∀ t, Rv K m (e.get t) (a.tmps.getD t undef)
  size : a.tmps.size = n
  ds : RDs K m e.ds a.defers

theorem RDs.mono {K K' : Km} {m m' : Mm} (hK : K.le K') (hm : m.le m') : ∀ {ds : List Dfr} {es : List Deferred}, RDs K m ds es → RDs K' m' ds es
  | [], [], _ => trivial
  | .mark _ :: _, _ :: _, ⟨⟨L, h1, h2⟩, h⟩ => ⟨⟨L, hm _ _ h1, h2⟩, h.mono hK hm⟩
  | .fn _ _ :: _, _ :: _, ⟨⟨cap, as, h1, h2, h3⟩, h⟩ => ⟨⟨cap, as, h1, h2, h3.mono hK hm⟩, h.mono hK hm⟩

theorem REnv.mono {K K' : Km} {m m' : Mm} (hK : K.le K') (hm : m.le m') {n : Nat} {e : Env} {a : Act} (h : REnv K m n e a) : REnv K' m' n e a :=
  ⟨fun t => (h.get t).mono hK hm, h.size, h.ds.mono hK hm⟩

theorem REnv.put {K : Km} {m : Mm} {n : Nat} {e : Env} {a : Act} (h : REnv K m n e a) {v : AV} {x : Value} (hv : Rv K m v x) {t : Option Nat} (ht : ∀ u, t = some u → u < n) :
    REnv K m n (e.putO t v) (a.put t x) := by
  cases t with
  | none => exact h
  | some t =>
    refine ⟨fun u => ?_, ?_, ?_⟩
    · have hlt : t < a.tmps.size := by have := ht t rfl; have := h.size; omega
      show Rv K m ((e.put t v).get u) ((a.tmps.setIfInBounds t x).getD u undef)
      rw [Env.get_put]
      by_cases e1 : u = t
      · subst e1
        rw [if_pos rfl]
        simpa [Array.getD_eq_getD_getElem?, hlt] using hv
      · rw [if_neg e1]
        have := h.get u
        simpa [Array.getD_eq_getD_getElem?, Array.getElem?_setIfInBounds_ne (Ne.symm e1)] using this
    · simpa [Act.put] using h.size
    · exact h.ds

theorem REnv.eval {K : Km} {m : Mm} {n : Nat} {e : Env} {a : Act} (h : REnv K m n e a) {x : Operand} {y : DO} (ho : okO x y = true) : Rv K m (y.ev e) (a.eval x) := by
  cases x with
  | tmp t => cases y with
    | t n => simp [okO, nbeq] at ho; subst ho; exact h.get t
    | c v => simp [okO] at ho
  | const v => cases y with
    | t n => simp [okO] at ho
    | c w => exact okVal_rv w v ho
  | global g => cases y <;> simp [okO] at ho
  | func f => cases y with
    | t n => simp [okO] at ho
    | c w =>
      cases w with
      | fn g a b =>
        cases a <;> cases b <;> simp [okO, nbeq] at ho
        subst ho
        exact .fn .nil .nil
      | _ => simp [okO] at ho

theorem REnv.evals {K : Km} {m : Mm} {n : Nat} {e : Env} {a : Act} (h : REnv K m n e a) : ∀ {xs : List Operand} {ys : List DO}, okOs xs ys = true →
    RvL K m (ys.map (DO.ev e)) (xs.map a.eval)
  | [], [], _ => .nil
  | x :: xs, y :: ys, ho => by
    simp [okOs] at ho
    exact .cons (h.eval ho.1) (h.evals ho.2)
  | [], _ :: _, ho => by simp [okOs] at ho
  | _ :: _, [], ho => by simp [okOs] at ho

end Go.D
