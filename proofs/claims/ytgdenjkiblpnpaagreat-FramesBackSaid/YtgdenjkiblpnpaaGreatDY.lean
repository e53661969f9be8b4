/-
  The abstract evaluator 'D': code; functions that are left; calls.
-/
import Derived.Test.YtgdenjkiblpnpaaGreatDX
import Derived.LoopNIn
namespace Go.D
section
variable {P : Program} {K : Km} {m : Mm} {h h' : Heap} {w : World} {v : AV} {n : Nat} {e : Env} {a : Act} {o : Oper} {call : Caller}

/-- what is asked of a region that draws its order -/
def DrawnOk (P : Program) (call : Caller) : Prop :=
  ∀ {ro : Option Nat} {n : Nat} {id : Nat} {ops : Array Oper} {l : List (Nat × DOp × List Nat)} {K : Km} {m : Mm} {h : Heap} {w : World} {e : Env} {a : Act} {Q : Exit → Act → World → Prop},
    Rel P K m h w → REnv K m n e a → okDrawn P n ops l = true → (ro ≠ none → l.any (fun o => o.2.1.ins.isDfr) = false) → OutOk P K m h w n Q (drawnD call l l e h) →
    (Code.region id ops true).wpIn (Wide ro) 0 P Q a w

theorem exitOf_eq_norm {x : Ex} (hx : exitOf x = .normal) : x = .norm := by cases x <;> cases hx <;> rfl

theorem natsArr {ps : Array Nat} {qs : List Nat} (hh : natsEq ps.toList qs = true) : ps.toList = qs := natsEq_eq hh

/-- a block is given up, and what becomes of its memory is nobody's matter -/
theorem Rel.dropW (r : Rel P K m h w) {w' : World} {b : Nat} {o : Ob} {L : Loc} (hb : h.get b = some o) (hL : m b = some L) (hw : ∀ c, c ≠ L.c → w'.heap[c]? = w.heap[c]?) :
    Rel P K m (h.drop b) w' where
  ob := fun x ox hx Lx hLx => by
    rw [Heap.get_drop] at hx
    by_cases e : x = b
    · rw [if_pos e] at hx; cases hx
    · rw [if_neg e] at hx
      refine (r.ob x ox hx Lx hLx).mono (.refl _) (.refl _) (hw _ fun hc => e ?_)
      exact r.inj _ _ _ _ hLx hL hc (by simp [hx]) (by simp [hb])
  inj := (r.drop b).inj
  dom := r.dom
  fresh := (r.drop b).fresh
  imm := fun c row hk => by
    rw [hw c fun e => ?_]
    · exact r.imm c row hk
    · have := r.dis b L hL (by simp [hb])
      rw [← e, hk] at this; cases this
  dis := (r.drop b).dis

theorem Ext.dropW {w' : World} {b : Nat} {o : Ob} {L : Loc} (hb : h.get b = some o) (hL : m b = some L)
    (hw : ∀ c, c ≠ L.c → w'.heap[c]? = w.heap[c]?) (hs : w'.heap.size = w.heap.size) (h1 : w'.os = w.os) (h2 : w'.output = w.output) (h3 : w'.tape = w.tape) :
    Ext K m h w K m (h.drop b) w' :=
  { Ext.dropB (w := w) (h := h) (K := K) hL with
    size := by rw [hs]; exact Nat.le_refl _
    frame := fun c _ hn => hw c fun e => by
      have := hn b L hL e.symm
      rw [hb] at this; cases this
    os := h1
    output := h2
    tape := h3 }

theorem code_ok {ro : Option Nat} (cok : CallOk P call) (dok : DrawnOk P call) {L : Nat} :
    ∀ (c : Code) (d : DCode) {K : Km} {m : Mm} {h : Heap} {w : World} {e : Env} {a : Act} {Q : Exit → Act → World → Prop}, Rel P K m h w → REnv K m n e a → okCode P n c d = true →
      OutOk P K m h w n Q (evd call L ro.isSome d e h) → c.wpIn (Wide ro) 0 P Q a w := by
  intro c
  induction c with
  | skip =>
    intro d K m h w e a Q r he ho hq
    cases d <;> simp [okCode] at ho
    exact wpIn_skip (hq K m w a r he (.refl ..))
  | region id ops dr =>
    intro d K m h w e a Q r he ho hq
    cases d <;> cases dr <;> simp only [okCode, Bool.false_eq_true] at ho
    · rename_i l
      simp only [evd] at hq
      cases hc : (ro.isSome && l.any fun o => o.ins.isDfr) with
      | true => rw [hc] at hq; exact hq.elim
      | false =>
        rw [hc, cond_false] at hq
        refine wpIn_region ?_
        have := ops_ok (ro := ro) cok (ops := ops) (Q := Q) l 0 r he (by simpa using ho) (fun hro => by
          cases ro with
          | none => exact absurd rfl hro
          | some q => simpa using hc) (Nat.zero_le _) hq
        simpa [List.range_eq_range'] using this
    · rename_i l
      simp only [evd] at hq
      cases hc : (ro.isSome && l.any fun o => o.2.1.ins.isDfr) with
      | true => rw [hc] at hq; exact hq.elim
      | false =>
        rw [hc, cond_false] at hq
        exact dok r he ho (fun hro => by
          cases ro with
          | none => exact absurd rfl hro
          | some q => simpa using hc) hq
  | seq x y ihx ihy =>
    intro d K m h w e a Q r he ho hq
    cases d <;> simp only [okCode, Bool.false_eq_true] at ho
    rename_i x' y'
    simp only [Bool.and_eq_true] at ho
    refine wpIn_seq (ihx x' r he ho.1 ?_)
    simp only [evd] at hq
    cases hx : evd call L ro.isSome x' e h with
    | go ex e' h' =>
      rw [hx] at hq
      cases ex with
      | norm => exact fun K' m' w' a' q1 q2 q3 => ihy y' q1 q2 ho.2 (OutOk.trans q3 hq)
      | exit id => exact hq
      | ret => exact hq
    | panic v e' h' => rw [hx] at hq; exact hq
    | err => rw [hx] at hq; exact hq.elim
  | cond c x y ihx ihy =>
    intro d K m h w e a Q r he ho hq
    cases d <;> simp only [okCode, Bool.false_eq_true] at ho
    rename_i c' x' y'
    simp only [Bool.and_eq_true] at ho
    have hc := he.eval ho.1.1
    simp only [evd] at hq
    split at hq
    · rename_i hb
      rw [hb] at hc
      refine wpIn_cond_true (rv_bool hc) (ihx x' r he ho.1.2 hq)
    · rename_i hb
      rw [hb] at hc
      refine wpIn_cond_false (rv_bool hc) (ihy y' r he ho.2 hq)
    · exact hq.elim
  | block id b ih =>
    intro d K m h w e a Q r he ho hq
    cases d <;> simp only [okCode, Bool.false_eq_true] at ho
    rename_i id' b'
    simp only [Bool.and_eq_true, nbeq, decide_eq_true_eq] at ho
    obtain ⟨rfl, ho⟩ := ho
    refine wpIn_block (ih b' r he ho ?_)
    simp only [evd] at hq
    cases hx : evd call L ro.isSome b' e h with
    | go ex e' h' =>
      rw [hx] at hq
      cases ex with
      | norm => exact hq
      | ret => exact hq
      | exit id' =>
        simp only at hq
        intro K' m' w' a' q1 q2 q3
        show (if id' = id then Q .normal a' w' else Q (.exit id') a' w')
        cases hb : Nat.beq id id' with
        | true =>
          rw [hb, cond_true] at hq
          rw [nbeq, decide_eq_true_eq] at hb
          rw [if_pos hb.symm]
          exact hq K' m' w' a' q1 q2 q3
        | false =>
          rw [hb, cond_false] at hq
          rw [nbeq, decide_eq_false_iff_not] at hb
          rw [if_neg (fun hh => hb hh.symm)]
          exact hq K' m' w' a' q1 q2 q3
    | panic v e' h' => rw [hx] at hq; exact hq
    | err => rw [hx] at hq; exact hq.elim
  | loop b ih =>
    intro d K m h w e a Q r he ho hq
    cases d <;> simp only [okCode, Bool.false_eq_true] at ho
    rename_i b'
    simp only [evd] at hq
    refine wpIn_loop_rounds L ?_
    have key : ∀ (k : Nat) {K : Km} {m : Mm} {h : Heap} {w : World} {e : Env} {a : Act}, Rel P K m h w → REnv K m n e a → OutOk P K m h w n Q (rounds (evd call L ro.isSome b') k e h) →
        Code.roundsIn (Wide ro) 0 P b Q k a w := by
      intro k
      induction k with
      | zero => intro K m h w e a _ _ hq; exact hq
      | succ k ihk =>
        intro K m h w e a r he hq
        refine ih b' r he ho ?_
        simp only [rounds] at hq
        cases hx : evd call L ro.isSome b' e h with
        | go ex e' h' =>
          rw [hx] at hq
          cases ex with
          | norm => exact fun K' m' w' a' q1 q2 q3 => ihk q1 q2 (OutOk.trans q3 hq)
          | exit id => exact hq
          | ret => exact hq
        | panic v e' h' => rw [hx] at hq; exact hq
        | err => rw [hx] at hq; exact hq.elim
    exact key L r he hq
  | exit id =>
    intro d K m h w e a Q r he ho hq
    cases d <;> simp only [okCode, Bool.false_eq_true] at ho
    rename_i id'
    rw [nbeq, decide_eq_true_eq] at ho; subst ho
    exact wpIn_exit (hq K m w a r he (.refl ..))
  | ret =>
    intro d K m h w e a Q r he ho hq
    cases d <;> simp only [okCode, Bool.false_eq_true] at ho
    exact wpIn_ret (hq K m w a r he (.refl ..))
  | rangeFunc g ps x y ihx ihy =>
    intro d K m h w e a Q r he ho hq
    cases d <;> simp only [okCode, Bool.false_eq_true] at ho
    rename_i g' ps' x' y'
    simp only [Bool.and_eq_true] at ho
    obtain ⟨⟨⟨⟨ho1, ho2⟩, ho3⟩, ho4⟩, ho5⟩ := ho
    simp only [evd] at hq
    cases ro with
    | some l => exact hq.elim
    | none =>
      simp only [Option.isSome_none, cond_false] at hq
      have hps := natsArr ho2
      have hg := he.eval ho1
      unfold rfuncD at hq
      split at hq
      · rename_i f p q hm
        rw [hm] at hg
        generalize hG : a.eval g = VG at hg
        cases hg with
        | fn hp hqq =>
          rename_i ps1 qs1
          simp only at hq
          -- the two blocks
          let L1 : Loc := ⟨w.heap.size, 0, 0, 0⟩
          have hrel1 : Rel P K (m.put h.next L1) (h.new .mark) (w.alloc (.deferred (some []))) := r.new rfl (.mark heap_alloc_new)
          have hext1 : Ext K m h w K (m.put h.next L1) (h.new .mark) (w.alloc (.deferred (some []))) := Ext.newB r rfl
          refine wpIn_rangeFunc fun fn _ => ?_
          have henter := run_enterLoop_outer (P := P) (w := w) fn a.tmps ps x y
          let w1 := (w.alloc (.deferred (some []))).alloc (.loop { state := .ready, pending := none, fn, tmps := a.tmps, params := ps, assign := x, body := y, defers := w.heap.size })
          let L2 : Loc := ⟨w.heap.size + 1, 0, 0, 0⟩
          have hsz1 : (w.alloc (.deferred (some []))).heap.size = w.heap.size + 1 := by simp
          have hm1 : m.le (m.put h.next L1) := Mm.put_le m r.none_next
          have hm2 : (m.put h.next L1).le ((m.put h.next L1).put (h.new .mark).next L2) := Mm.put_le _ hrel1.none_next
          have hm12 := hm1.trans hm2
          have hrel2 : Rel P K ((m.put h.next L1).put (h.new .mark).next L2) ((h.new .mark).new (.loop e.s ps' x' y' .ready)) w1 := by
            refine hrel1.new hsz1.symm (.loop (r := { state := .ready, pending := none, fn, tmps := a.tmps, params := ps, assign := x, body := y, defers := w.heap.size }) ?_ ?_ hps ?_ ?_ ?_ ⟨rfl, rfl⟩)
            · show w1.heap[w.heap.size + 1]? = _
              rw [← hsz1]
              exact heap_alloc_new
            · intro t
              exact (he.get t).mono (.refl _) hm12
            · intro t ht
              rw [List.all_eq_true] at ho3
              have := ho3 t ht
              rw [nblt, decide_eq_true_eq] at this
              show t < a.tmps.size
              rw [he.size]; exact this
            · show okCode P a.tmps.size x x' = true
              rw [he.size]; exact ho4
            · show okCode P a.tmps.size y y' = true
              rw [he.size]; exact ho5
          have hext2 : Ext K m h w K ((m.put h.next L1).put (h.new .mark).next L2) ((h.new .mark).new (.loop e.s ps' x' y' .ready)) w1 := hext1.trans (Ext.newB hrel1 hsz1.symm)
          have hyl : Rv K ((m.put h.next L1).put (h.new .mark).next L2) (.yld (h.new .mark).next) (.func (.yield (w.heap.size + 1)) #[] #[]) := .yld (L := L2) (Mm.put_self _ _ _)
          have hargs : RvL K ((m.put h.next L1).put (h.new .mark).next L2) (p ++ [.yld (h.new .mark).next] ++ q) (ps1 ++ #[Value.func (.yield (w.heap.size + 1)) #[] #[]] ++ qs1).toList := by
            rw [Array.toList_append, Array.toList_append]
            exact ((hp.mono (.refl _) hm12).append (.one hyl)).append (hqq.mono (.refl _) hm12)
          have hne : call (.fn f) (p ++ [.yld (h.new .mark).next] ++ q) ((h.new .mark).new (.loop e.s ps' x' y' .ready)) ≠ .err := fun hc => by rw [hc] at hq; exact hq
          obtain ⟨hcf, hci⟩ := cok.fn hrel2 hargs hne
          refine ⟨w.heap.size + 1, [{ target := .collected w.heap.size, args := #[] }], w1, { target := .fn (.func f) qs1, args := ps1 ++ #[Value.func (.yield (w.heap.size + 1)) #[] #[]] }, w1, f,
            ps1 ++ #[Value.func (.yield (w.heap.size + 1)) #[] #[]] ++ qs1, w1, henter, ?_, fun _ _ => trivial, ?_, fun hh => by simp [Fence.wide] at hh, ?_⟩
          · show (Deferred.ofValue (a.eval g) (#[Operand.const (.func (.yield (w.heap.size + 1)) #[] #[])].map a.eval)).run P w1 = _
            have hmap : (#[Operand.const (.func (.yield (w.heap.size + 1)) #[] #[])].map a.eval) = #[Value.func (.yield (w.heap.size + 1)) #[] #[]] := by
              apply Array.ext'; simp [Act.eval]
            rw [hG, hmap]; rfl
          · simp only [invoke, hcf]
          · refine CallsIn.mono (F := Wide none) hci fun en w3 hpost => ?_
            have henv : ∀ {K' : Km} {m' : Mm}, K.le K' → ((m.put h.next L1).put (h.new .mark).next L2).le m' →
                REnv K' m' n { e with ds := .mark h.next :: e.ds } { a with defers := [{ target := .collected w.heap.size, args := #[] }] ++ a.defers } := by
              intro K' m' hk hmm
              have h2 := he.mono hk (hm12.trans hmm)
              exact ⟨h2.get, h2.size, ⟨⟨L1, hmm _ _ (hm2 _ _ (Mm.put_self _ _ _)), rfl⟩, h2.ds⟩⟩
            cases en with
            | returned xx =>
              obtain ⟨vv, h3, K', m', e1, e2, e3, e4⟩ := hpost
              rw [e1] at hq
              simp only at hq
              have hL : m' (h.new .mark).next = some L2 := e4.mono _ _ (Mm.put_self _ _ _)
              have fin : ∀ (s : Tr AV) (pp : List Nat) (aa bb : DCode) (st : LoopSt), h3.get (h.new .mark).next = some (.loop s pp aa bb st) → ∃ rr : Loop, w3.heap[w.heap.size + 1]? = some (.loop rr) ∧ RSt rr st ∧
                  (rr.state ≠ .busy → ∃ w4, (Instr.endLoop (w.heap.size + 1)).run P w3 = .ok rr.pending w4 ∧
                    Rel P K' m' (h3.drop (h.new .mark).next) w4 ∧ Ext K m h w K' m' (h3.drop (h.new .mark).next) w4) := by
                intro s pp aa bb st hgl
                cases e3.ob _ _ hgl _ hL with
                | loop hw hs hpp hps2 ha hb hst =>
                  rename_i rr
                  refine ⟨rr, hw, hst, fun hbusy => ⟨_, run_endLoop hw hbusy, ?_, ?_⟩⟩
                  · exact e3.dropW hgl hL fun c hc => World.putObj_heap_other hc
                  · exact (hext2.trans e4).trans (Ext.dropW hgl hL (fun c hc => World.putObj_heap_other hc) (by simp) rfl rfl rfl)
              split at hq
              · rename_i hgl
                obtain ⟨rr, hw, hst, hend⟩ := fin _ _ _ _ _ hgl
                obtain ⟨hs1, hs2⟩ := hst
                obtain ⟨w4, q1, q2, q3⟩ := hend (by rw [hs1]; simp)
                refine ⟨_, _, q1, ?_⟩
                rw [hs2]
                exact hq K' m' _ _ q2 (henv (e4.kmono) e4.mono) q3
              · rename_i ex hgl
                obtain ⟨rr, hw, hst, hend⟩ := fin _ _ _ _ _ hgl
                obtain ⟨hs1, hs2, hs3⟩ := hst
                obtain ⟨w4, q1, q2, q3⟩ := hend (by rw [hs1]; simp)
                refine ⟨_, _, q1, ?_⟩
                rw [hs3]
                have := hq K' m' _ _ q2 (henv (e4.kmono) e4.mono) q3
                cases ex with
                | norm => exact absurd rfl hs2
                | exit id => exact wpIn_exit this
                | ret => exact wpIn_ret this
              · exact hq.elim
            | panicked chain =>
              obtain ⟨vv, h3, K', m', xx, e1, rfl, e2, e3, e4⟩ := hpost
              rw [e1] at hq
              exact hq K' m' w3 _ xx e3 (henv e4.kmono e4.mono) e2 (hext2.trans e4)
            | outgrown => exact hpost.elim
      · exact hq.elim
  | _ =>
    intro d K m h w e a Q r he ho hq
    cases d <;> simp only [okCode, Bool.false_eq_true] at ho
end
end Go.D
