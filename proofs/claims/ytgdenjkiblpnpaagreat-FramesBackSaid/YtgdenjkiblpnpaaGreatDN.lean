/-
  The abstract evaluator 'D': instructions that call nobody, one by one (seventh part): slices, lengths.
-/
import Derived.Test.YtgdenjkiblpnpaaGreatDM
namespace Go.D
section
variable {P : Program} {K : Km} {m : Mm} {h h' : Heap} {w : World} {v : AV} {n : Nat} {e : Env} {a : Act} {o : Oper} {call : Caller}

theorem ok_ibsl (r : Rel P K m h w) (he : REnv K m n e a) {z : List AV} {len : Nat} {qs : List (Nat × DO)} (ho : okIns P o.op (.ibsl z len qs) = true)
    (hs : step call e h (.ibsl z len qs) = .ok v h') : StepOk P (execOp a.eval o) K m h w v h' := by
  obtain ⟨dst, op, ty, pos, after, guard⟩ := o
  simp only [step] at hs
  split at hs
  · rename_i es hes
    cases hall : es.all AV.trees with
    | false => simp [hall] at hs
    | true =>
      simp only [hall, cond_true, Res.ok.injEq] at hs
      obtain ⟨rfl, rfl⟩ := hs
      simp only [okIns] at ho
      split at ho
      · rename_i t len' ps
        simp only [Bool.and_eq_true, nbeq, nble, nblt, decide_eq_true_eq] at ho
        obtain ⟨⟨⟨rfl, hle⟩, h0⟩, h4⟩ := ho
        split at h4
        · rename_i el hel
          simp only [Bool.and_eq_true] at h4
          obtain ⟨row, hrun, hl1, hl2, hrv⟩ := ok_bsl_row (P := P) he hel h4.1 h4.2 hle h0 hes w
          have htr : AV.trees es.flatten = true := by
            clear hes hl1 hl2 hrv
            have aux : ∀ (l k : List AV), AV.trees l = true → AV.trees k = true → AV.trees (l ++ k) = true := by
              intro l
              induction l with
              | nil => intro k _ hk; exact hk
              | cons x l ih =>
                intro k hx hk
                simp only [AV.trees, Bool.and_eq_true] at hx
                simp only [List.cons_append, AV.trees, Bool.and_eq_true]
                exact ⟨hx.1, ih k hx.2 hk⟩
            induction es with
            | nil => rfl
            | cons x es ih =>
              simp only [List.all_cons, Bool.and_eq_true] at hall
              exact aux _ _ hall.1 (ih hall.2)
          refine ⟨_, m, w.alloc (.cells row el), .slice (some ⟨w.heap.size, 0, none⟩) len' len', .inl ?_, .isl hl2.symm (Nat.le_refl _) hl1 ((hrv.tree htr).mono (Km.imm_le r row) (.refl _)) ?_,
            Rel.immB (t := el) r (row := row), Ext.immB r⟩
          · simp only [execOp, Sem.run_bind, hrun]; rfl
          · intro _
            refine ⟨rfl, row, by simp, fun j u hj => ?_⟩
            rw [Array.getElem?_toList] at hj
            simpa using hj
        · cases h4
      · simp at ho
  · cases hs

theorem bnd_rv (he : REnv K m n e a) {x' : Option Operand} {x : Option DO} (hx : okOpt x' x = true) {d q : Nat} (hb : bnd e x d = some q) :
    (x' = none ∧ q = d) ∨ ∃ k, x'.map a.eval = some (.int k (q : Int)) := by
  cases x' <;> cases x <;> simp [okOpt] at hx
  · simp only [bnd, Option.some.injEq] at hb; exact .inl ⟨rfl, hb.symm⟩
  · obtain ⟨k, hk⟩ := natOf_rv (he.eval hx) hb
    exact .inr ⟨k, by simp [hk]⟩

theorem run_sliceBound {k : IntKind} {q y : Nat} (hq : q ≤ y) (c : BoundsCode) : (Instr.sliceBound (.int k (q : Int)) y c).run P w = .ok q w := by
  have : (0 : Int) ≤ (q : Int) ∧ (q : Int) ≤ (y : Int) := by omega
  simp only [Instr.sliceBound, asIntOf, Sem.run_bind, Sem.run_pure, Result.andThen_ok]
  rw [if_pos this]; simp

theorem run_bounds (sl : Bool) {len cap l r mm : Nat} {lo hi mx : Option Value} (hl : (lo = none ∧ l = 0) ∨ ∃ k, lo = some (.int k (l : Int)))
    (hh : (hi = none ∧ mx = none ∧ r = len) ∨ ∃ k, hi = some (.int k (r : Int))) (hm : (mx = none ∧ mm = cap) ∨ ∃ k, mx = some (.int k (mm : Int))) (h1 : l ≤ r) (h2 : r ≤ mm) (h3 : mm ≤ cap) :
    (Instr.sliceBounds sl len cap lo hi mx).run P w = .ok (l, r, mm) w := by
  have q1 : ∀ k c, (Instr.sliceBound (.int k (l : Int)) r c).run P w = .ok l w := fun k c => run_sliceBound h1 c
  have q2 : ∀ k c, (Instr.sliceBound (.int k (r : Int)) mm c).run P w = .ok r w := fun k c => run_sliceBound h2 c
  have q3 : ∀ k c, (Instr.sliceBound (.int k (mm : Int)) cap c).run P w = .ok mm w := fun k c => run_sliceBound h3 c
  rcases hm with ⟨rfl, rfl⟩ | ⟨k1, rfl⟩
  · rcases hh with ⟨rfl, _, rfl⟩ | ⟨k2, rfl⟩ <;> rcases hl with ⟨rfl, rfl⟩ | ⟨k3, rfl⟩ <;> simp [Instr.sliceBounds, q1, q2]
  · rcases hh with ⟨rfl, h0, rfl⟩ | ⟨k2, rfl⟩
    · cases h0
    · rcases hl with ⟨rfl, rfl⟩ | ⟨k3, rfl⟩ <;> simp [Instr.sliceBounds, q1, q2, q3]

theorem run_slice_sl {t el : TypeId} (hu : P.underlying t = some (.slice el)) {inf : TypeInfo} (hi : P.info? el = some inf) {A : Option Addr} {len cap l r mm : Nat} {lo hh mx : Option Value}
    (hb : (Instr.sliceBounds true len cap lo hh mx).run P w = .ok (l, r, mm) w) :
    (Instr.sliceAt t (.slice A len cap) lo hh mx).run P w = .ok (.slice (if mm = l then A else A.map (·.add (l * inf.size))) (r - l) (mm - l)) w := by
  simp only [Instr.sliceAt, Instr.slice, Sem.run_bind, run_und hu, Result.andThen_ok, hb, run_size hi, Sem.run_pure]

theorem flat_take {z : Nat} : ∀ {es : List (List AV)} (k : Nat), (∀ c ∈ es, c.length = z) → (es.take k).flatten = es.flatten.take (k * z)
  | [], k, _ => by simp
  | c :: es, 0, _ => by simp
  | c :: es, k + 1, hl => by
    have hc : c.length = z := hl c (by simp)
    have ih := flat_take (es := es) k fun x hx => hl x (by simp [hx])
    have e1 : (k + 1) * z = c.length + k * z := by rw [Nat.succ_mul, hc]; omega
    rw [List.take_succ_cons, List.flatten_cons, ih, List.flatten_cons, e1, List.take_length_add_append]

theorem flat_drop {z : Nat} : ∀ {es : List (List AV)} (k : Nat), (∀ c ∈ es, c.length = z) → (es.drop k).flatten = es.flatten.drop (k * z)
  | [], k, _ => by simp
  | c :: es, 0, _ => by simp
  | c :: es, k + 1, hl => by
    have hc : c.length = z := hl c (by simp)
    have ih := flat_drop (es := es) k fun x hx => hl x (by simp [hx])
    have e1 : (k + 1) * z = c.length + k * z := by rw [Nat.succ_mul, hc]; omega
    rw [List.drop_succ_cons, ih, List.flatten_cons, e1, List.drop_length_add_append]

/-- a piece of a slice that is never written -/
theorem isl_piece {z : Nat} {es : List (List AV)} {A : Addr} {len l r mm : Nat} {vs : List Value} (hl : len = es.length) (hz : ∀ cs ∈ es, cs.length = z)
    (hv : RvL K Mm.nil es.flatten vs) (ha : es ≠ [] → A.spot = none ∧ ∃ row, K A.block = some row ∧ RowAt row A.off vs) (h1 : l ≤ r) (h2 : r ≤ len) (h3 : r ≤ mm) :
    Rv K m (.isl z ((es.drop l).take (r - l))) (.slice (if mm = l then some A else (some A).map (·.add (l * z))) (r - l) (mm - l)) := by
  have hlen : ((es.drop l).take (r - l)).length = r - l := by simp; omega
  have hz' : ∀ cs ∈ (es.drop l).take (r - l), cs.length = z := fun cs hc => hz cs (List.mem_of_mem_drop (List.mem_of_mem_take hc))
  have hv' : RvL K Mm.nil ((es.drop l).take (r - l)).flatten ((vs.drop (l * z)).take ((r - l) * z)) := by
    rw [flat_take (z := z) _ fun cs hc => hz cs (List.mem_of_mem_drop hc), flat_drop _ hz]
    exact (hv.drop _).take _
  by_cases hml : mm = l
  · have : r = l := by omega
    subst this
    rw [if_pos hml]
    refine .isl (by simp) (by omega) (by simp) (vs := []) (by simpa using .nil) (by simp)
  · rw [if_neg hml]
    refine .isl hlen.symm (by omega) hz' hv' fun hne => ?_
    have hne' : es ≠ [] := by intro h0; subst h0; simp at hne
    obtain ⟨hsp, row, hk, hr⟩ := ha hne'
    obtain ⟨c, o0, sp⟩ := A
    simp only at hsp; subst hsp
    simp only [addr_add]
    exact ⟨trivial, row, hk, (hr.drop _).take _⟩

theorem ok_slsl (r : Rel P K m h w) (he : REnv K m n e a) {z0 : Nat} {y : DO} {lo hi mx : Option DO} (ho : okIns P o.op (.slsl z0 y lo hi mx) = true)
    (hs : step call e h (.slsl z0 y lo hi mx) = .ok v h') : StepOk P (execOp a.eval o) K m h w v h' := by
  obtain ⟨dst, op, ty, pos, after, guard⟩ := o
  simp only [okIns] at ho
  split at ho
  · rename_i t x lo' hi' mx'
    simp only [Bool.and_eq_true] at ho
    obtain ⟨⟨⟨⟨⟨h1, h2⟩, h3⟩, h4⟩, h5⟩, h6⟩ := ho
    split at h1
    · rename_i el hel
      have hu := sliceOf_und hel
      obtain ⟨inf, hinf, hsz⟩ := ckSize_info h1
      have hx := he.eval h2
      simp only [step] at hs
      cases hsl : sliceD z0 e h (y.ev e) lo hi mx with
      | none => simp [hsl, Res.of] at hs
      | some u =>
        simp only [hsl, Res.of, Res.ok.injEq] at hs
        obtain ⟨rfl, rfl⟩ := hs
        have fin : ∀ (A : Option Addr) (len cap l q mm : Nat), a.eval x = .slice A len cap → ((lo'.map a.eval = none ∧ l = 0) ∨ ∃ k, lo'.map a.eval = some (.int k (l : Int))) →
            ((hi'.map a.eval = none ∧ mx'.map a.eval = none ∧ q = len) ∨ ∃ k, hi'.map a.eval = some (.int k (q : Int))) →
            ((mx'.map a.eval = none ∧ mm = cap) ∨ ∃ k, mx'.map a.eval = some (.int k (mm : Int))) → l ≤ q → q ≤ mm → mm ≤ cap →
            Rv K m u (.slice (if mm = l then A else A.map (·.add (l * z0))) (q - l) (mm - l)) → StepOk P (execOp a.eval ⟨dst, .slice t x lo' hi' mx', ty, pos, after, guard⟩) K m h w u h := by
          intro A len cap l q mm hX b1 b2 b3 c1 c2 c3 hr
          refine .val r ?_ hr
          simp only [execOp, hX, Sem.run_bind, run_slice_sl hu hinf (run_bounds true b1 b2 b3 c1 c2 c3), hsz]
          rfl
        have hiNone : hi'.map a.eval = none → mx'.map a.eval = none := by
          cases hi' <;> cases mx' <;> simp at h6 ⊢
        have lo_of : ∀ q, bnd e lo 0 = some q → ((lo'.map a.eval = none ∧ q = 0) ∨ ∃ k, lo'.map a.eval = some (.int k (q : Int))) := fun q hq => by
          rcases bnd_rv he h3 hq with ⟨hn, h0⟩ | hk
          · exact .inl ⟨by simp [hn], h0⟩
          · exact .inr hk
        have hi_of : ∀ d q, bnd e hi d = some q → ((hi'.map a.eval = none ∧ mx'.map a.eval = none ∧ q = d) ∨ ∃ k, hi'.map a.eval = some (.int k (q : Int))) := fun d q hq => by
          rcases bnd_rv he h4 hq with ⟨hn, h0⟩ | hk
          · exact .inl ⟨by simp [hn], hiNone (by simp [hn]), h0⟩
          · exact .inr hk
        have mx_of : ∀ d q, bnd e mx d = some q → ((mx'.map a.eval = none ∧ q = d) ∨ ∃ k, mx'.map a.eval = some (.int k (q : Int))) := fun d q hq => by
          rcases bnd_rv he h5 hq with ⟨hn, h0⟩ | hk
          · exact .inl ⟨by simp [hn], h0⟩
          · exact .inr hk
        unfold sliceD at hsl
        split at hsl
        · -- nils
          rename_i hv
          rw [hv] at hx
          split at hsl
          · rename_i b1 b2 b3
            simp only [Option.some.injEq] at hsl; subst hsl
            generalize hz : a.eval x = q at hx
            cases hx
            exact fin none 0 0 0 0 0 hz (lo_of _ b1) (hi_of _ _ b2) (mx_of _ _ b3) (Nat.le_refl _) (Nat.le_refl _) (Nat.le_refl _) (by simpa using .nils)
          · cases hsl
        · -- emps
          rename_i hv
          rw [hv] at hx
          split at hsl
          · rename_i b1 b2 b3
            simp only [Option.some.injEq] at hsl; subst hsl
            generalize hz : a.eval x = q at hx
            cases hx
            exact fin _ 0 0 0 0 0 hz (lo_of _ b1) (hi_of _ _ b2) (mx_of _ _ b3) (Nat.le_refl _) (Nat.le_refl _) (Nat.le_refl _) (by simpa using .emps)
          · cases hsl
        · -- isl
          rename_i k0 es hv
          rw [hv] at hx
          split at hsl
          · rename_i l q b1 b2
            cases hc : (Nat.beq k0 z0 && Nat.ble l q && Nat.ble q es.length) with
            | false => simp [hc] at hsl
            | true =>
              simp only [hc, cond_true] at hsl
              simp only [Bool.and_eq_true, nbeq, nble, decide_eq_true_eq] at hc
              obtain ⟨⟨rfl, c1⟩, c2⟩ := hc
              generalize hz : a.eval x = X at hx
              cases hx with
              | isl hl hkk hzl hvv ha =>
                rename_i A cap len vs
                split at hsl
                · rename_i hmx
                  simp only [Option.some.injEq] at hsl; subst hsl
                  have hmn : mx' = none := by cases mx' <;> simp [okOpt] at h5 ⊢
                  exact fin _ len cap l q cap hz (lo_of _ b1) (hl ▸ hi_of _ _ b2) (.inl ⟨by simp [hmn], rfl⟩) c1 (by omega) (Nat.le_refl _) (isl_piece hl hzl hvv ha c1 (by omega) (by omega))
                · rename_i mo
                  split at hsl
                  · rename_i q2 hq2
                    have b3 : bnd e (some mo) 0 = some q2 := hq2
                    have hm2 := mx_of _ _ b3
                    have hm3 : ∃ k, mx'.map a.eval = some (.int k (q2 : Int)) := by
                      rcases bnd_rv he h5 b3 with ⟨hn, _⟩ | hk
                      · subst hn; simp [okOpt] at h5
                      · exact hk
                    cases hq0 : Nat.beq q2 0 with
                    | true =>
                      simp only [hq0, cond_true] at hsl
                      rw [nbeq, decide_eq_true_eq] at hq0
                      cases hr0 : Nat.beq q 0 with
                      | false => simp [hr0] at hsl
                      | true =>
                        simp only [hr0, cond_true, Option.some.injEq] at hsl; subst hsl
                        rw [nbeq, decide_eq_true_eq] at hr0
                        subst hq0 hr0
                        have hl0 : l = 0 := by omega
                        subst hl0
                        exact fin _ len cap 0 0 0 hz (lo_of _ b1) (hl ▸ hi_of _ _ b2) (.inr hm3) (Nat.le_refl _) (Nat.le_refl _) (Nat.zero_le _) (by simpa using .emps)
                    | false =>
                      simp only [hq0, cond_false] at hsl
                      cases hc2 : (Nat.ble q q2 && Nat.ble q2 es.length) with
                      | false => simp [hc2] at hsl
                      | true =>
                        simp only [hc2, cond_true, Option.some.injEq] at hsl; subst hsl
                        simp only [Bool.and_eq_true, nble, decide_eq_true_eq] at hc2
                        exact fin _ len cap l q q2 hz (lo_of _ b1) (hl ▸ hi_of _ _ b2) (.inr hm3) c1 hc2.1 (by omega) (isl_piece hl hzl hvv ha c1 (by omega) hc2.1)
                  · cases hsl
          · cases hsl
        · -- slice
          rename_i z1 b i len cap hv
          rw [hv] at hx
          cases hz1 : Nat.beq z1 z0 with
          | false => simp [hz1] at hsl
          | true =>
            simp only [hz1, Bool.not_true, cond_false] at hsl
            rw [nbeq, decide_eq_true_eq] at hz1
            subst hz1
            split at hsl
            · rename_i zz opn ct hb
              split at hsl
              · rename_i l q b1 b2
                generalize hz : a.eval x = X at hx
                -- the block, and the least that the capacity is
                have base : ∃ (L : Loc) (cap' : Nat), m b = some L ∧ L.z = z1 ∧ X = .slice (some ⟨L.c, (L.sh + i) * L.z, none⟩) len cap' ∧ capLow ct i cap ≤ cap' ∧
                    (∀ k, cap = some k → cap' = k) ∧ (cap = none → L.sh + i + cap' = L.n) := by
                  cases hx with
                  | slicex hL hoo hLz => exact ⟨_, _, hL, hLz, by rw [hoo], (by simp [capLow]), (fun k hk => by cases hk; rfl), fun hk => by cases hk⟩
                  | sliceo hL hoo hn hLz =>
                    rename_i cap' o0 L
                    obtain ⟨row, ty2, fz, _, _, _, _, hsh, _, _⟩ := r.row hb hL
                    exact ⟨L, cap', hL, hLz, by rw [hoo], (by simp only [capLow]; omega), (fun k hk => by cases hk), fun _ => hn⟩
                obtain ⟨L, cap', hL, hLz, rfl, hlow, hex, hop⟩ := base
                have addr : ∀ mm, (if mm = l then (some ⟨L.c, (L.sh + i) * L.z, none⟩ : Option Addr) else (some ⟨L.c, (L.sh + i) * L.z, none⟩ : Option Addr).map (·.add (l * z1))) =
                    some ⟨L.c, (L.sh + (if mm = l then i else i + l)) * L.z, none⟩ := by
                  intro mm
                  split
                  · rfl
                  · simp only [Option.map_some, addr_add, ← hLz, ← Nat.add_assoc, Nat.add_mul (L.sh + i)]
                split at hsl
                · rename_i mo
                  split at hsl
                  · rename_i q2 hq2
                    have b3 : bnd e (some mo) 0 = some q2 := hq2
                    have hm3 : ∃ k, mx'.map a.eval = some (.int k (q2 : Int)) := by
                      rcases bnd_rv he h5 b3 with ⟨hn, _⟩ | hk
                      · subst hn; simp [okOpt] at h5
                      · exact hk
                    cases hc2 : (Nat.ble l q && Nat.ble q q2 && Nat.ble q2 (capLow ct i cap)) with
                    | false => simp [hc2] at hsl
                    | true =>
                      simp only [hc2, cond_true, Option.some.injEq] at hsl; subst hsl
                      simp only [Bool.and_eq_true, nble, decide_eq_true_eq] at hc2
                      obtain ⟨⟨c1, c2⟩, c3⟩ := hc2
                      refine fin _ len cap' l q q2 hz (lo_of _ b1) (hi_of _ _ b2) (.inr hm3) c1 c2 (by omega) ?_
                      rw [addr]
                      refine .slicex hL ?_ hLz
                      by_cases hq : q2 = l <;> simp [hq, nbeq]
                  · cases hsl
                · have hmn : mx' = none := by cases mx' <;> simp [okOpt] at h5 ⊢
                  cases hc2 : (Nat.ble l q && Nat.ble q (capLow ct i cap)) with
                  | false => simp [hc2] at hsl
                  | true =>
                    simp only [hc2, cond_true] at hsl
                    simp only [Bool.and_eq_true, nble, decide_eq_true_eq] at hc2
                    obtain ⟨c1, c2⟩ := hc2
                    have fin2 := fin _ len cap' l q cap' hz (lo_of _ b1) (hi_of _ _ b2) (.inl ⟨by simp [hmn], rfl⟩) c1 (by omega) (Nat.le_refl _)
                    split at hsl
                    · rename_i k
                      simp only [Option.some.injEq] at hsl; subst hsl
                      have := hex k rfl; subst this
                      refine fin2 ?_
                      rw [addr]
                      refine .slicex hL ?_ hLz
                      by_cases hq : cap' = l <;> simp [hq, nbeq]
                    · have hn := hop rfl
                      cases hlt : Nat.blt l (capLow ct i none) with
                      | true =>
                        simp only [hlt, cond_true, Option.some.injEq] at hsl; subst hsl
                        rw [nblt, decide_eq_true_eq] at hlt
                        refine fin2 ?_
                        rw [addr]
                        have hne : ¬ cap' = l := by omega
                        rw [if_neg hne]
                        exact .sliceo hL rfl (by omega) hLz
                      | false =>
                        simp only [hlt, cond_false, Option.some.injEq] at hsl; subst hsl
                        rw [nblt, decide_eq_false_iff_not] at hlt
                        refine fin2 ?_
                        rw [addr]
                        have : q - l = 0 := by omega
                        rw [this]
                        exact .isl (by simp) (by omega) (by simp) (vs := []) (by simpa using .nil) (by simp)
              · cases hsl
            · cases hsl
        · cases hsl
    · cases h1
  · simp at ho
end
end Go.D
