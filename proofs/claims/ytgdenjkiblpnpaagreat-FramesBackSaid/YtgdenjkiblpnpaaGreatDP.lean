/-
  The abstract evaluator 'D': instructions that call nobody, one by one (eighth part): texts, lengths, stores.
-/
import Derived.Test.YtgdenjkiblpnpaaGreatDN
namespace Go.D
section
variable {P : Program} {K : Km} {m : Mm} {h h' : Heap} {w : World} {v : AV} {n : Nat} {e : Env} {a : Act} {o : Oper} {call : Caller}

theorem str_size {s : List Nat} {S : ByteArray} (h : S.data.toList.map UInt8.toNat = s) : S.size = s.length := by
  rw [← h]; simp

theorem str_extract {s : List Nat} {S : ByteArray} (h : S.data.toList.map UInt8.toNat = s) (l r : Nat) : (S.extract l r).data.toList.map UInt8.toNat = (s.drop l).take (r - l) := by
  rw [← h]
  simp [List.extract]

theorem ok_slstr (r : Rel P K m h w) (he : REnv K m n e a) {y : DO} {lo hi : Option DO} (ho : okIns P o.op (.slstr y lo hi) = true)
    (hs : step call e h (.slstr y lo hi) = .ok v h') : StepOk P (execOp a.eval o) K m h w v h' := by
  obtain ⟨dst, op, ty, pos, after, guard⟩ := o
  simp only [okIns] at ho
  split at ho
  · rename_i t x lo' hi'
    simp only [Bool.and_eq_true] at ho
    obtain ⟨⟨⟨h1, h2⟩, h3⟩, h4⟩ := ho
    have hu := isStr_und h1
    have hx := he.eval h2
    simp only [step] at hs
    cases hsl : strSlice e (y.ev e) lo hi with
    | none => simp [hsl, Res.of] at hs
    | some u =>
      simp only [hsl, Res.of, Res.ok.injEq] at hs
      obtain ⟨rfl, rfl⟩ := hs
      unfold strSlice at hsl
      split at hsl
      · rename_i s0 hv
        rw [hv] at hx
        split at hsl
        · rename_i l q b1 b2
          cases hc : (Nat.ble l q && Nat.ble q s0.length) with
          | false => simp [hc] at hsl
          | true =>
            simp only [hc, cond_true, Option.some.injEq] at hsl; subst hsl
            simp only [Bool.and_eq_true, nble, decide_eq_true_eq] at hc
            generalize hz : a.eval x = X at hx
            cases hx with
            | str hx =>
              rename_i S
              have hsz := str_size hx
              have hb := run_bounds (P := P) (w := w) false (len := S.size) (cap := S.size) (l := l) (r := q) (mm := S.size) (lo := lo'.map a.eval) (hi := hi'.map a.eval) (mx := none)
                (by rcases bnd_rv he h3 b1 with ⟨hn, h0⟩ | hk
                    · exact .inl ⟨by simp [hn], h0⟩
                    · exact .inr hk)
                (by rcases bnd_rv he h4 b2 with ⟨hn, h0⟩ | hk
                    · exact .inl ⟨by simp [hn], rfl, by omega⟩
                    · exact .inr hk) (.inl ⟨rfl, rfl⟩) hc.1 (by omega) (Nat.le_refl _)
              refine .val r (x := .string (S.extract l q)) ?_ (.str (str_extract hx l q))
              simp only [execOp, hz, Instr.sliceAt, Instr.slice, Sem.run_bind, run_und hu, Result.andThen_ok, Option.map_none, Option.isSome_none, Bool.false_eq_true, if_false, hb, Sem.run_pure]
        · cases hsl
      · cases hsl
  · simp at ho

/-- what lies where a slice, or a text, leads -/
inductive ElemsAt (K : Km) (m : Mm) (w : World) (es : List (List AV)) : Value → Prop
  | none (h : es = []) : ElemsAt K m w es (.slice none 0 0)
  | void {A : Addr} {k : Nat} (h : es = []) : ElemsAt K m w es (.slice (some A) 0 k)
  | row {c o len k z : Nat} {row : Array Value} {t : TypeId} {fz : Nat × Nat} {vs : List Value} (hw : w.heap[c]? = some (.cells row t fz)) (hr : RowAt row o vs) (hv : RvL K m es.flatten vs)
      (hl : len = es.length) (hz : ∀ cs ∈ es, cs.length = z) : ElemsAt K m w es (.slice (some ⟨c, o, none⟩) len k)
  | str {S : ByteArray} {s : List Nat} (h : S.data.toList.map UInt8.toNat = s) (he : es = s.map fun b => [AV.int .u8 (Int.ofNat b)]) : ElemsAt K m w es (.string S)

theorem elemsOf_ok (r : Rel P K m h w) {x : AV} {X : Value} (hx : Rv K m x X) {es : List (List AV)} (he : elemsOf h x = some es) : ElemsAt K m w es X := by
  unfold elemsOf at he
  split at he
  · simp only [Option.some.injEq] at he; subst he; cases hx; exact .none rfl
  · simp only [Option.some.injEq] at he; subst he; cases hx; exact .void rfl
  · rename_i z b i len cap
    split at he
    · rename_i zz op ct hb
      obtain ⟨h1, h2, h3⟩ := Ct.sub_spec he
      have key : ∀ (L : Loc) (cap' : Nat), m b = some L → X = .slice (some ⟨L.c, (L.sh + i) * L.z, none⟩) len cap' → ElemsAt K m w es X := by
        intro L cap' hL hX
        obtain ⟨row, t, fz, hz, hw, hf, hn, hsh, hop, hc⟩ := r.row hb hL
        obtain ⟨hzl, vs, hvs, _, hrow⟩ := hc.sub len i es h1 h3
        rw [hX]
        exact .row hw hrow hvs h1.symm hzl
      cases hx with
      | slicex hL ho hz => exact key _ _ hL (by rw [ho])
      | sliceo hL ho hn hz => exact key _ _ hL (by rw [ho])
    · cases he
  · rename_i z es'
    simp only [Option.some.injEq] at he; subst he
    cases hx with
    | isl hl hk hz hv ha =>
      rename_i A k len vs
      by_cases hne : es' = []
      · subst hne
        simp at hl; subst hl
        exact .void rfl
      · obtain ⟨hsp, row, hK, hr⟩ := ha hne
        obtain ⟨c, o, sp⟩ := A
        simp only at hsp; subst hsp
        obtain ⟨t, fz, hw⟩ := r.imm _ _ hK
        exact .row hw hr (hv.mono (.refl _) (Mm.nil_le _)) hl hz
  · rename_i s
    simp only [Option.some.injEq] at he; subst he
    cases hx with
    | str hx => exact .str hx rfl
  · cases he

theorem ElemsAt.len {es : List (List AV)} {X : Value} (hE : ElemsAt K m w es X) : (Builtin.lenOf X).run P w = .ok es.length w := by
  cases hE with
  | none h => subst h; simp [Builtin.lenOf]
  | void h => subst h; simp [Builtin.lenOf]
  | row hw hr hv hl hz => simp [Builtin.lenOf, hl]
  | str h he => subst he; simp [Builtin.lenOf, str_size h]

theorem okElems_spec {z : Nat} : ∀ {es : List (List AV)}, okElems z es = true → (∀ cs ∈ es, cs.length = z) ∧ es.flatten.all AV.one = true
  | [], _ => by simp
  | c :: es, h => by
    simp only [okElems, Bool.and_eq_true, nbeq, decide_eq_true_eq] at h
    obtain ⟨h1, h2⟩ := okElems_spec h.2
    refine ⟨fun cs hcs => ?_, ?_⟩
    · rcases List.mem_cons.1 hcs with rfl | h3
      · exact h.1.1
      · exact h1 cs h3
    · rw [List.flatten_cons, List.all_append, h.1.2, h2]; rfl

/-- the first cells of a slice, or of a text -/
theorem ElemsAt.first {es : List (List AV)} {X : Value} (hE : ElemsAt K m w es X) {z : Nat} (hz : ∀ cs ∈ es, cs.length = z) {k : Nat} (hk : k ≤ es.length) :
    ∃ vs : List Value, (Builtin.firstCells z k X).run P w = .ok vs.toArray w ∧ RvL K m (es.take k).flatten vs := by
  cases hE with
  | none h => subst h; exact ⟨[], by simp [Builtin.firstCells], by simpa using .nil⟩
  | void h =>
    subst h
    simp at hk; subst hk
    exact ⟨[], by simp [Builtin.firstCells, loadCells, loadCellsFrom], by simpa using .nil⟩
  | row hw hr hv hl hz' =>
    rename_i c o0 len cap z' row t fz vs
    have hvl : vs.length = es.length * z := by rw [hv.length, flat_length hz]
    have hle : k * z ≤ es.length * z := Nat.mul_le_mul_right z hk
    refine ⟨vs.take (k * z), ?_, ?_⟩
    · simp only [Builtin.firstCells]
      exact run_loadCells_row P hw (by simp; omega) (hr.take _)
    · rw [flat_take _ hz]; exact hv.take _
  | str h he =>
    rename_i S s
    subst he
    refine ⟨(s.take k).map fun b : Nat => Value.int .u8 (b : Int), ?_, ?_⟩
    · simp only [Builtin.firstCells, Sem.run_pure]
      congr 1
      apply Array.ext'
      rw [Array.toList_map, List.toList_toArray, ← h, ← List.map_take, List.map_map]
      simp [List.extract, Function.comp_def]
    · have hf : ∀ l : List Nat, (l.map fun b => [AV.int .u8 (Int.ofNat b)]).flatten = l.map fun b : Nat => AV.int .u8 (b : Int) := by
        intro l
        induction l with
        | nil => rfl
        | cons b l ih => rw [List.map_cons, List.flatten_cons, ih]; rfl
      rw [← List.map_take, hf]
      exact RvL.map _ fun b _ => .int

theorem args1 {args : Array Operand} {y : DO} (h1 : okOs args.toList [y] = true) : ∃ x, args = #[x] ∧ okO x y = true := by
  cases args' : args.toList with
  | nil => simp [args', okOs] at h1
  | cons x xs =>
    cases xs with
    | cons _ _ => simp [args', okOs] at h1
    | nil =>
      simp only [args', okOs, Bool.and_true] at h1
      exact ⟨x, by apply Array.ext'; simp [args'], h1⟩

theorem args2 {args : Array Operand} {y y2 : DO} (h1 : okOs args.toList [y, y2] = true) : ∃ x x2, args = #[x, x2] ∧ okO x y = true ∧ okO x2 y2 = true := by
  cases args' : args.toList with
  | nil => simp [args', okOs] at h1
  | cons x xs =>
    cases xs with
    | nil => simp [args', okOs] at h1
    | cons x2 xs =>
      cases xs with
      | cons _ _ => simp [args', okOs] at h1
      | nil =>
        simp only [args', okOs, Bool.and_true, Bool.and_eq_true] at h1
        exact ⟨x, x2, by apply Array.ext'; simp [args'], h1⟩

theorem run_builtin {ρ : Operand → Value} {dst : Option Tmp} {b : Builtin} {args : Array Operand} {argTypes : Array TypeId} {ty : TypeId} {pos : String} {after : Array Edge} {guard : Option (Nat × Bool)} :
    (execOp ρ ⟨dst, .call ⟨.builtin b, args, argTypes⟩, ty, pos, after, guard⟩).run P w =
      (Go.builtin b argTypes ty (args.map fun | .const _ => true | _ => false) (args.map ρ)).run P w := by
  simp [execOp, resolve, invoke]
  rfl

theorem ok_len (r : Rel P K m h w) (he : REnv K m n e a) {sh : LenSh} {y : DO} (ho : okIns P o.op (.len sh y) = true) (hs : step call e h (.len sh y) = .ok v h') :
    StepOk P (execOp a.eval o) K m h w v h' := by
  obtain ⟨dst, op, ty, pos, after, guard⟩ := o
  simp only [okIns] at ho
  split at ho
  · rename_i c
    obtain ⟨callee, args, argTypes⟩ := c
    simp only at ho
    split at ho
    · simp only [Bool.and_eq_true] at ho
      obtain ⟨h1, h2⟩ := ho
      obtain ⟨x, rfl, h3⟩ := args1 h1
      have hx := he.eval h3
      simp only [step] at hs
      split at hs
      · rename_i q hq
        simp only [Res.ok.injEq] at hs
        obtain ⟨rfl, rfl⟩ := hs
        split at h2
        · rename_i t ht
          refine .val r (x := .int .i64 (q : Int)) ?_ .int
          rw [run_builtin]
          generalize hyv : y.ev e = yv at hq hx
          unfold lenD at hq
          generalize hz : a.eval x = X at hx
          split at hq
          · cases hx with
            | str hx =>
              simp only [Option.some.injEq] at hq; subst hq
              simp [Go.builtin, Builtin.len_, hz, ht, run_und (isStr_und h2), goInt, str_size hx]
          · obtain ⟨el, hel⟩ := Option.isSome_iff_exists.1 h2
            cases hx
            simp only [Option.some.injEq] at hq; subst hq
            simp [Go.builtin, Builtin.len_, hz, ht, run_und (sliceOf_und hel), goInt]
          · obtain ⟨el, hel⟩ := Option.isSome_iff_exists.1 h2
            cases hx
            simp only [Option.some.injEq] at hq; subst hq
            simp [Go.builtin, Builtin.len_, hz, ht, run_und (sliceOf_und hel), goInt]
          · obtain ⟨kk, ee, hu⟩ := isMap_und h2
            cases hx
            simp only [Option.some.injEq] at hq; subst hq
            simp [Go.builtin, Builtin.len_, hz, ht, run_und hu, goInt]
          · obtain ⟨el, hel⟩ := Option.isSome_iff_exists.1 h2
            simp only [Option.some.injEq] at hq; subst hq
            cases hx <;> simp [Go.builtin, Builtin.len_, hz, ht, run_und (sliceOf_und hel), goInt]
          · obtain ⟨el, hel⟩ := Option.isSome_iff_exists.1 h2
            simp only [Option.some.injEq] at hq; subst hq
            cases hx with
            | isl hl _ _ _ _ => simp [Go.builtin, Builtin.len_, hz, ht, run_und (sliceOf_und hel), goInt, hl]
          · obtain ⟨kk, ee, hu⟩ := isMap_und h2
            split at hq
            · rename_i b es hb
              simp only [Option.some.injEq] at hq; subst hq
              cases hx with
              | map hL =>
                cases r.ob _ _ hb _ hL with
                | map hw hkk hvv =>
                  rename_i L ents clock
                  have hlen : ents.size = es.length := by
                    have := hkk.length
                    simpa using this
                  have hg : (getObj L.c).run P w = .ok (.map ents clock) w := by simp [getObj, Sem.run, hw]
                  simp [Go.builtin, Builtin.len_, hz, ht, run_und hu, hg, goInt, hlen]
            · cases hq
          · cases hq
        · cases h2
      · cases hs
    · cases ho
  · simp at ho

theorem ok_cap (r : Rel P K m h w) (he : REnv K m n e a) {y : DO} (ho : okIns P o.op (.cap y) = true) (hs : step call e h (.cap y) = .ok v h') :
    StepOk P (execOp a.eval o) K m h w v h' := by
  obtain ⟨dst, op, ty, pos, after, guard⟩ := o
  simp only [okIns] at ho
  split at ho
  · rename_i c
    obtain ⟨callee, args, argTypes⟩ := c
    simp only at ho
    split at ho
    · simp only [Bool.and_eq_true] at ho
      obtain ⟨h1, h2⟩ := ho
      obtain ⟨x, rfl, h3⟩ := args1 h1
      have hx := he.eval h3
      split at h2
      · rename_i t ht
        obtain ⟨el, hel⟩ := Option.isSome_iff_exists.1 h2
        generalize hz : a.eval x = X at hx
        simp only [step] at hs
        split at hs <;> (try cases hs) <;> rename_i hv <;> rw [hv] at hx <;> cases hx <;>
          exact .val r (by rw [run_builtin]; simp [Go.builtin, Builtin.cap_, hz, ht, run_und (sliceOf_und hel), goInt] <;> rfl) .int
      · cases h2
    · cases ho
  · simp at ho

theorem ok_mm (r : Rel P K m h w) (he : REnv K m n e a) {isMax : Bool} {ys : List DO} (ho : okIns P o.op (.mm isMax ys) = true) (hs : step call e h (.mm isMax ys) = .ok v h') :
    StepOk P (execOp a.eval o) K m h w v h' := by
  obtain ⟨dst, op, ty, pos, after, guard⟩ := o
  simp only [step] at hs
  split at hs
  · rename_i k p rest hm
    cases hmm : mmD isMax (.int k p) rest with
    | none => simp [hmm, Res.of] at hs
    | some u =>
      simp only [hmm, Res.of, Res.ok.injEq] at hs
      obtain ⟨rfl, rfl⟩ := hs
      have key : ∀ (f : Value → Value → Sem Value), (∀ (k : IntKind) (x y : Int) (w : World), (f (.int k x) (.int k y)).run P w = .ok (.int k (bif isMax then (if y > x then y else x) else (if y < x then y else x))) w) →
          ∀ (rest : List AV) (p : Int) (u : AV) (vs : List Value), RvL K m rest vs → mmD isMax (.int k p) rest = some u → ∃ z, (vs.foldlM f (.int k p)).run P w = .ok z w ∧ Rv K m u z := by
        intro f hf rest
        induction rest with
        | nil =>
          intro p u vs hv hu
          cases hv
          simp only [mmD, Option.some.injEq] at hu; subst hu
          exact ⟨_, by simp <;> rfl, .int⟩
        | cons x rest ih =>
          intro p u vs hv hu
          cases hv with
          | cons hx hv =>
            unfold mmD at hu
            split at hu
            · rename_i heq; cases heq
            · rename_i k1 p1 k2 q1 rest1 e1 e2
              cases e1; cases e2
              cases hx
              cases hk : kindEq k k2 with
              | false => simp [hk] at hu
              | true =>
                have := kindEq_eq hk; subst this
                simp only [hk, cond_true] at hu
                obtain ⟨z, hz, hzv⟩ := ih _ u _ hv hu
                refine ⟨z, ?_, hzv⟩
                rw [List.foldlM_cons, Sem.run_bind, hf, Result.andThen_ok]
                exact hz
            · cases hu
      simp only [okIns] at ho
      split at ho
      · rename_i c
        obtain ⟨callee, args, argTypes⟩ := c
        simp only at ho
        have hargs : ∀ hok : okOs args.toList ys = true, ∃ vs, (args.map a.eval).toList = .int k p :: vs ∧ RvL K m rest vs := by
          intro hok
          have := he.evals hok
          rw [hm] at this
          cases this' : args.toList.map a.eval with
          | nil => rw [this'] at this; cases this
          | cons X Xs =>
            rw [this'] at this
            cases this with
            | cons hX hXs =>
              cases hX
              exact ⟨Xs, by simp [this'], hXs⟩
        split at ho
        · simp only [Bool.and_eq_true] at ho
          obtain ⟨h1, h2⟩ := ho
          obtain ⟨vs, hvs, hrv⟩ := hargs h2
          subst h1
          obtain ⟨z, hz, hzv⟩ := key Builtin.max2 (fun k x y w => by simp [Builtin.max2]) rest p u vs hrv hmm
          refine .val r (x := z) ?_ hzv
          rw [run_builtin]
          simp only [Go.builtin, Builtin.max_, hvs, Sem.run_bind, hz]
          simp
        · simp only [Bool.and_eq_true, Bool.not_eq_true'] at ho
          obtain ⟨h1, h2⟩ := ho
          obtain ⟨vs, hvs, hrv⟩ := hargs h2
          subst h1
          obtain ⟨z, hz, hzv⟩ := key Builtin.min2 (fun k x y w => by simp [Builtin.min2]) rest p u vs hrv hmm
          refine .val r (x := z) ?_ hzv
          rw [run_builtin]
          simp only [Go.builtin, Builtin.min_, hvs, Sem.run_bind, hz]
          simp
        · cases ho
      · simp at ho
  · cases hs
end
end Go.D
