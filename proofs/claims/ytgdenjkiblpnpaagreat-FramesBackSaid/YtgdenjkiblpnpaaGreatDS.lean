/-
  The abstract evaluator 'D': instructions that call nobody, one by one (eleventh part): maps.
-/
import Derived.Test.YtgdenjkiblpnpaaGreatDR
import Derived.MapKept
import Derived.Laws.NewFold
namespace Go.D
section
variable {P : Program} {K : Km} {m : Mm} {h h' : Heap} {w : World} {v : AV} {n : Nat} {e : Env} {a : Act} {o : Oper} {call : Caller}

theorem run_forIn_each {α : Type} {f : α → PUnit → Sem (ForInStep PUnit)} : ∀ {l : List α} {w : World}, (∀ x ∈ l, (f x PUnit.unit).run P w = .ok (.yield PUnit.unit) w) →
    (forIn l PUnit.unit f : Sem PUnit).run P w = .ok PUnit.unit w
  | [], w, _ => by simp
  | x :: l, w, hb => by
    rw [List.forIn_cons]
    have h1 := hb x (by simp)
    have h2 := run_forIn_each (l := l) (w := w) fun y hy => hb y (by simp [hy])
    rw [Sem.run_bind, h1, Result.andThen_ok]
    exact h2

structure KeyOk (P : Program) (d : Nat) (t : TypeId) (A : List Sc) : Prop where
  und : ∃ d0, P.underlying t = some d0 ∧ ((∀ fs, d0 ≠ .struct fs) → (∀ l e, d0 ≠ .array l e) → A.length = 1)
  chk : ∀ (dd : Nat) (w : World) (emp : Bool) (vs : List Value), d ≤ dd → vs.length = A.length → (Instr.checkKey emp dd t (mkV P t vs)).run P w = .ok () w

theorem part_key {d dd : Nat} {t : TypeId} {A : List Sc} (hf : KeyOk P d t A) (hs : ckSize P t A.length = true) {p : Nat} {vx : List Value} (hx : p + A.length ≤ vx.length) (hd : d ≤ dd) (emp : Bool) (w : World) :
    (do Instr.checkKey emp dd t (← part t vx.toArray p)).run P w = .ok () w := by
  obtain ⟨d0, hu, h1⟩ := hf.und
  obtain ⟨i, hi, hsz⟩ := ckSize_info hs
  rw [Sem.run_bind, run_part hi hu (by omega) (fun a b => by rw [hsz]; exact h1 a b) w, Result.andThen_ok]
  exact hf.chk dd w emp _ hd (by simp; omega)

theorem flat_key (d : Nat) :
    (∀ (t : TypeId) (l l' : List Sc), flatT P d t l = some l' → ∃ A, l = A ++ l' ∧ KeyOk P d t A) ∧
    (∀ (fs : List Field) (all : Nat) (l l' : List Sc), flatF P d fs all l = some l' → ∃ A, l = A ++ l' ∧
      ∀ (dd : Nat) (w : World) (emp : Bool) (vx : List Value), d ≤ dd → l.length ≤ all → all - l.length + A.length ≤ vx.length →
        ∀ f ∈ fs, (do Instr.checkKey emp dd f.type (← part f.type vx.toArray f.offset)).run P w = .ok () w) ∧
    (∀ (e : TypeId) (c : Nat) (l l' : List Sc), flatA P d e c l = some l' → ∃ A, l = A ++ l' ∧
      ((c = 0 ∧ A = []) ∨ ∃ i, P.info? e = some i ∧ A.length = c * i.size ∧
        ∀ (dd j : Nat) (w : World) (emp : Bool) (vx : List Value), d ≤ dd → j * i.size + i.size ≤ vx.length → (do Instr.checkKey emp dd e (← part e vx.toArray (j * i.size))).run P w = .ok () w)) := by
  induction d with
  | zero =>
    refine ⟨fun t l l' h => by simp [flatT] at h, fun fs all l l' h => ?_, fun e c l l' h => ?_⟩
    · cases fs with
      | nil => simp only [flatF, Option.some.injEq] at h; subst h; exact ⟨[], rfl, fun dd w emp vx _ _ _ f hf => by cases hf⟩
      | cons => simp [flatF] at h
    · cases c with
      | zero => simp only [flatA, Option.some.injEq] at h; subst h; exact ⟨[], rfl, .inl ⟨rfl, rfl⟩⟩
      | succ c => simp [flatA] at h
  | succ d ih =>
    obtain ⟨ihT, ihF, ihA⟩ := ih
    refine ⟨fun t l l' h => ?_, fun fs all l l' h => ?_, fun e c l l' h => ?_⟩
    · simp only [flatT] at h
      split at h
      · rename_i k hu
        have := takeSc_eq h; subst this
        refine ⟨[.i], rfl, ⟨_, hu, fun _ _ => rfl⟩, fun dd w emp vs hd hl => ?_⟩
        obtain ⟨dd, rfl⟩ : ∃ q, dd = q + 1 := ⟨dd - 1, by omega⟩
        simp [Instr.checkKey, run_und hu]
      · rename_i hu
        have := takeSc_eq h; subst this
        refine ⟨[.s], rfl, ⟨_, hu, fun _ _ => rfl⟩, fun dd w emp vs hd hl => ?_⟩
        obtain ⟨dd, rfl⟩ : ∃ q, dd = q + 1 := ⟨dd - 1, by omega⟩
        simp [Instr.checkKey, run_und hu]
      · rename_i hu
        have := takeSc_eq h; subst this
        refine ⟨[.b], rfl, ⟨_, hu, fun _ _ => rfl⟩, fun dd w emp vs hd hl => ?_⟩
        obtain ⟨dd, rfl⟩ : ∃ q, dd = q + 1 := ⟨dd - 1, by omega⟩
        simp [Instr.checkKey, run_und hu]
      · rename_i fs hu
        cases hst : P.stoodInHeld t with
        | true => simp [hst] at h
        | false =>
          simp only [hst, cond_false] at h
          obtain ⟨A, rfl, hA⟩ := ihF _ _ _ _ h
          refine ⟨A, rfl, ⟨_, hu, fun h1 _ => absurd rfl (h1 fs)⟩, fun dd w emp vs hd hl => ?_⟩
          obtain ⟨dd, rfl⟩ : ∃ q, dd = q + 1 := ⟨dd - 1, by omega⟩
          simp only [mkV, hu, Instr.checkKey, Sem.run_bind, run_und hu, Result.andThen_ok]
          have hall := hA dd w emp vs (by omega) (Nat.le_refl _) (by omega)
          rw [← Array.forIn_toList]
          rw [run_forIn_each fun f hf => ?_]
          · simp
          · have := hall f hf
            split
            · simp only [Sem.run_bind] at this ⊢
              generalize (part f.type vs.toArray f.offset).run P w = R at *
              cases R with
              | ok a w' =>
                rw [Result.andThen_ok] at this ⊢
                rw [this]; simp
              | _ => cases this
            · simp
      · rename_i c e hu
        cases hc0 : Nat.beq c 0 with
        | true => simp [hc0] at h
        | false =>
        simp only [hc0, cond_false] at h
        obtain ⟨A, rfl, hA⟩ := ihA _ _ _ _ h
        refine ⟨A, rfl, ⟨_, hu, fun _ h1 => absurd rfl (h1 c e)⟩, fun dd w emp vs hd hl => ?_⟩
        obtain ⟨dd, rfl⟩ : ∃ q, dd = q + 1 := ⟨dd - 1, by omega⟩
        simp only [mkV, hu, Instr.checkKey, Sem.run_bind, run_und hu, Result.andThen_ok]
        rcases hA with ⟨rfl, rfl⟩ | ⟨i, hi, hlen, hrun⟩
        · simp at hc0
        · simp only [Std.Legacy.Range.forIn_eq_forIn_range']
          rw [run_forIn_each fun j hj => ?_]
          · simp
          · have hj2 : j < c := by
              simp [Std.Legacy.Range.size] at hj; exact hj
            have hle : j * i.size + i.size ≤ vs.length := by
              rw [hl, hlen, ← Nat.succ_mul]; exact Nat.mul_le_mul_right _ hj2
            have := hrun dd j w emp vs (by omega) hle
            simp only [Sem.run_bind, run_size hi, Result.andThen_ok] at this ⊢
            generalize (part e vs.toArray (j * i.size)).run P w = R at *
            cases R with
            | ok a w' =>
              rw [Result.andThen_ok] at this ⊢
              rw [this]; simp
            | _ => cases this
      · cases h
    · cases fs with
      | nil => simp only [flatF, Option.some.injEq] at h; subst h; exact ⟨[], rfl, fun dd w emp vx _ _ _ f hf => by cases hf⟩
      | cons f fs =>
        simp only [flatF] at h
        cases hn : (f.name == "_" || !(Nat.beq (f.offset + l.length) all)) with
        | true => simp [hn] at h
        | false =>
          simp only [hn, cond_false] at h
          simp only [Bool.or_eq_false_iff, Bool.not_eq_false', nbeq, decide_eq_true_eq, beq_eq_false_iff_ne] at hn
          split at h
          · rename_i l1 hl1
            cases hck : ckSize P f.type (l.length - l1.length) with
            | false => simp [hck] at h
            | true =>
              simp only [hck, cond_true] at h
              obtain ⟨A1, rfl, hA1⟩ := ihT _ _ _ hl1
              obtain ⟨A2, rfl, hA2⟩ := ihF _ _ _ _ h
              have e1 : (A1 ++ (A2 ++ l')).length - (A2 ++ l').length = A1.length := by simp
              rw [e1] at hck
              refine ⟨A1 ++ A2, by simp, fun dd w emp vx hd hall hx g hg => ?_⟩
              simp only [List.length_append] at *
              rcases List.mem_cons.1 hg with rfl | hg
              · exact part_key hA1 hck (by omega) (by omega) emp w
              · exact hA2 dd w emp vx (by omega) (by omega) (by omega) g hg
          · cases h
    · cases c with
      | zero => simp only [flatA, Option.some.injEq] at h; subst h; exact ⟨[], rfl, .inl ⟨rfl, rfl⟩⟩
      | succ c =>
        simp only [flatA] at h
        split at h
        · rename_i l1 hl1
          cases hck : ckSize P e (l.length - l1.length) with
          | false => simp [hck] at h
          | true =>
            simp only [hck, cond_true] at h
            obtain ⟨A1, rfl, hA1⟩ := ihT _ _ _ hl1
            obtain ⟨A2, rfl, hA2⟩ := ihA _ _ _ _ h
            have e1 : (A1 ++ (A2 ++ l')).length - (A2 ++ l').length = A1.length := by simp
            rw [e1] at hck
            obtain ⟨i, hi, hsz⟩ := ckSize_info hck
            have hA2len : A2.length = c * i.size := by
              rcases hA2 with ⟨rfl, rfl⟩ | ⟨i', hi', hl, _⟩
              · simp
              · rw [hi] at hi'; cases hi'; exact hl
            refine ⟨A1 ++ A2, by simp, .inr ⟨i, hi, by simp [hA2len, hsz, Nat.succ_mul]; omega, fun dd j w emp vx hd hx => ?_⟩⟩
            exact part_key hA1 hck (by omega) (by omega) emp w
        · cases h

def scalarSh : EqSh → Bool
  | .int | .str | .bl | .cells _ => true
  | _ => false

theorem ckKey_spec {t : TypeId} {sh : EqSh} (hk : ckKey P t sh = true) : ∃ kt el, P.underlying t = some (.map kt el) ∧ ckSh P kt sh = true ∧ scalarSh sh = true := by
  unfold ckKey at hk
  split at hk
  · rename_i kt el hu
    simp only [Bool.and_eq_true] at hk
    refine ⟨kt, el, hu, hk.1, ?_⟩
    have := hk.2
    cases sh <;> first | rfl | (simp at this)
  · cases hk

theorem keyOk_self {sh : EqSh} {k : AV} (h : keyOk sh k = true) : eqAV sh k k = some true := by
  unfold keyOk at h
  split at h
  · assumption
  · cases h

theorem eqAV_cases {sh : EqSh} (hsc : scalarSh sh = true) {x y : AV} {b : Bool} (h : eqAV sh x y = some b) :
    (∃ k p q, sh = .int ∧ x = .int k p ∧ y = .int k q ∧ b = (p == q)) ∨ (∃ s t, sh = .str ∧ x = .str s ∧ y = .str t ∧ b = natsEq s t) ∨
      (∃ p q, sh = .bl ∧ x = .bool p ∧ y = .bool q ∧ b = (p == q)) ∨ (∃ l xs ys, sh = .cells l ∧ x = .agg xs ∧ y = .agg ys ∧ eqSs l xs ys = some b) := by
  unfold eqAV at h
  split at h
  · rename_i k p k' q
    cases hk : kindEq k k' with
    | false => simp [hk] at h
    | true =>
      have := kindEq_eq hk; subst this
      simp [hk] at h
      exact .inl ⟨_, _, _, rfl, rfl, rfl, h.symm⟩
  · simp only [Option.some.injEq] at h
    exact .inr (.inl ⟨_, _, rfl, rfl, rfl, h.symm⟩)
  · simp only [Option.some.injEq] at h
    exact .inr (.inr (.inl ⟨_, _, rfl, rfl, rfl, h.symm⟩))
  · exact .inr (.inr (.inr ⟨_, _, _, rfl, rfl, rfl, h⟩))
  all_goals first | cases hsc | cases h

theorem checkKey_int {kt : TypeId} {k0 : IntKind} (hu : P.underlying kt = some (.int k0)) (emp : Bool) (d : Nat) (X : Value) (w : World) : (Instr.checkKey emp (d + 1) kt X).run P w = .ok () w := by
  simp [Instr.checkKey, run_und hu]
theorem checkKey_str {kt : TypeId} (hu : P.underlying kt = some .string) (emp : Bool) (d : Nat) (X : Value) (w : World) : (Instr.checkKey emp (d + 1) kt X).run P w = .ok () w := by
  simp [Instr.checkKey, run_und hu]
theorem checkKey_bool {kt : TypeId} (hu : P.underlying kt = some .bool) (emp : Bool) (d : Nat) (X : Value) (w : World) : (Instr.checkKey emp (d + 1) kt X).run P w = .ok () w := by
  simp [Instr.checkKey, run_und hu]

theorem ckSh_cells {kt : TypeId} {l : List Sc} (hsh : ckSh P kt (.cells l) = true) : (∀ vs : List Value, mkV P kt vs = .agg vs.toArray) ∧ flatT P 40 kt l = some [] := by
  simp only [ckSh] at hsh
  split at hsh
  · rename_i fs hu
    simp only [Bool.and_eq_true] at hsh
    refine ⟨fun vs => by simp [mkV, hu], ?_⟩
    have := hsh.2
    split at this
    · assumption
    · cases this
  · rename_i c e hu
    simp only [Bool.and_eq_true] at hsh
    refine ⟨fun vs => by simp [mkV, hu], ?_⟩
    have := hsh.2
    split at this
    · assumption
    · cases this
  · cases hsh

theorem run_checkKey {kt : TypeId} {sh : EqSh} (hsh : ckSh P kt sh = true) (hsc : scalarSh sh = true) {k : AV} {X : Value} (hk : eqAV sh k k = some true) (hx : Rv K m k X) (emp : Bool) (w : World) :
    (Instr.checkKey emp 10000 kt X).run P w = .ok () w := by
  rcases eqAV_cases hsc hk with ⟨k0, p, q, rfl, rfl, _, _⟩ | ⟨s, t, rfl, rfl, _, _⟩ | ⟨p, q, rfl, rfl, _, _⟩ | ⟨l, xs, ys, rfl, rfl, h1, h2⟩
  · obtain ⟨k0, hu⟩ := isInt_und hsh
    exact checkKey_int hu emp 9999 X w
  · exact checkKey_str (isStr_und hsh) emp 9999 X w
  · simp only [ckSh] at hsh
    split at hsh
    · rename_i hu
      exact checkKey_bool hu emp 9999 X w
    · cases hsh
  · obtain ⟨hmk, hfl⟩ := ckSh_cells hsh
    obtain ⟨A, hA, hK⟩ := (flat_key (P := P) 40).1 kt l [] hfl
    simp only [List.append_nil] at hA; subst hA
    cases hx with
    | agg hx =>
      rename_i vs
      have hl := hx.length
      have := (eqSs_length _ _ _ _ h2).1
      have hc := hK.chk 10000 w emp vs.toList (by omega) (by omega)
      rw [hmk] at hc
      simpa using hc

theorem eqSs_cons {sc : Sc} {l : List Sc} {xs ys : List AV} {r : Bool} (h : eqSs (sc :: l) xs ys = some r) :
    ∃ x xs' y ys' r1 r2, xs = x :: xs' ∧ ys = y :: ys' ∧ eqSs [sc] [x] [y] = some r1 ∧ eqSs l xs' ys' = some r2 ∧ r = (r1 && r2) := by
  obtain ⟨h1, h2⟩ := eqSs_length _ _ _ _ h
  cases xs with
  | nil => simp at h1
  | cons x xs =>
    cases ys with
    | nil => simp at h2
    | cons y ys =>
      obtain ⟨r1, r2, q1, q2, rfl⟩ := eqSs_append [sc] l [x] xs [y] ys r (by simp) (by simp) (by simpa using h)
      exact ⟨x, xs, y, ys, r1, r2, rfl, rfl, q1, q2, rfl⟩

theorem rv_int {k : IntKind} {p : Int} {X : Value} (h : Rv K m (.int k p) X) : X = .int k p := by cases h; rfl
theorem rv_bool {p : Bool} {X : Value} (h : Rv K m (.bool p) X) : X = .bool p := by cases h; rfl
theorem rv_str {s : List Nat} {X : Value} (h : Rv K m (.str s) X) : ∃ x : ByteArray, X = .string x ∧ x.data.toList.map UInt8.toNat = s := by
  cases h with
  | str h => exact ⟨_, rfl, h⟩

theorem str_inj {s : List Nat} {x y : ByteArray} (h : x.data.toList.map UInt8.toNat = s) (h' : y.data.toList.map UInt8.toNat = s) : x = y := by
  have e1 : x.data.toList = y.data.toList := (List.map_inj_right (f := UInt8.toNat) fun a b hab => UInt8.toNat_inj.1 hab).1 (h.trans h'.symm)
  have e2 : x.data = y.data := Array.ext' e1
  cases x; cases y; cases e2; rfl

theorem eqSs_same {l : List Sc} : ∀ {xs ys : List AV} {vx vy : List Value}, eqSs l xs ys = some true → RvL K m xs vx → RvL K m ys vy → vx = vy := by
  induction l with
  | nil =>
    intro xs ys vx vy h hx hy
    obtain ⟨h1, h2⟩ := eqSs_length _ _ _ _ h
    cases xs <;> cases ys <;> simp at h1 h2
    cases hx; cases hy; rfl
  | cons c l ih =>
    intro xs ys vx vy h hx hy
    obtain ⟨x, xs, y, ys, r1, r2, rfl, rfl, q1, q2, hr⟩ := eqSs_cons h
    have hr' := hr.symm
    simp only [Bool.and_eq_true] at hr'
    obtain ⟨rfl, rfl⟩ := hr'
    cases hx with
    | cons hx tx => cases hy with
      | cons hy ty =>
        rw [ih q2 tx ty]
        congr 1
        cases c with
        | i =>
          obtain ⟨k, p, q, e1, e2, e3⟩ := eqSs_i q1
          cases e1; cases e2
          have : p = q := by simpa using e3.symm
          subst this
          rw [rv_int hx, rv_int hy]
        | s =>
          obtain ⟨p, q, e1, e2, e3⟩ := eqSs_s q1
          cases e1; cases e2
          obtain ⟨a, rfl, ha⟩ := rv_str hx
          obtain ⟨b, rfl, hb⟩ := rv_str hy
          have := natsEq_eq e3.symm
          subst this
          rw [str_inj ha hb]
        | b =>
          obtain ⟨p, q, e1, e2, e3⟩ := eqSs_b q1
          cases e1; cases e2
          have : p = q := by simpa using e3.symm
          subst this
          rw [rv_bool hx, rv_bool hy]

/-- keys that are the same stand for the same value -/
theorem eqAV_same {sh : EqSh} (hsc : scalarSh sh = true) {x y : AV} {X Y : Value} (h : eqAV sh x y = some true) (hx : Rv K m x X) (hy : Rv K m y Y) : X = Y := by
  rcases eqAV_cases hsc h with ⟨k0, p, q, rfl, rfl, rfl, e⟩ | ⟨s, t, rfl, rfl, rfl, e⟩ | ⟨p, q, rfl, rfl, rfl, e⟩ | ⟨l, xs, ys, rfl, rfl, rfl, h2⟩
  · have : p = q := by simpa using e.symm
    subst this
    rw [rv_int hx, rv_int hy]
  · obtain ⟨a, rfl, ha⟩ := rv_str hx
    obtain ⟨b, rfl, hb⟩ := rv_str hy
    have := natsEq_eq e.symm
    subst this
    rw [str_inj ha hb]
  · have : p = q := by simpa using e.symm
    subst this
    rw [rv_bool hx, rv_bool hy]
  · cases hx with
    | agg hx => cases hy with
      | agg hy =>
        have := eqSs_same h2 hx hy
        congr 1
        exact Array.ext' this

theorem sameNow_eq {sh : EqSh} (hsc : scalarSh sh = true) {kd : TypeDesc} {x y : AV} {X Y : Value} {b c : Bool} (h : eqAV sh x y = some b) (hx : Rv K m x X) (hy : Rv K m y Y)
    (hs : Instr.sameNow kd X Y = some c) : c = b := by
  rcases eqAV_cases hsc h with ⟨k0, p, q, rfl, rfl, rfl, e⟩ | ⟨s, t, rfl, rfl, rfl, e⟩ | ⟨p, q, rfl, rfl, rfl, e⟩ | ⟨l, xs, ys, rfl, rfl, rfl, h2⟩
  · rw [rv_int hx, rv_int hy] at hs
    unfold Instr.sameNow at hs
    split at hs <;> simp_all
  · obtain ⟨a, rfl, ha⟩ := rv_str hx
    obtain ⟨b, rfl, hb⟩ := rv_str hy
    have := str_eq ha hb
    unfold Instr.sameNow at hs
    split at hs <;> simp_all
  · rw [rv_bool hx, rv_bool hy] at hs
    unfold Instr.sameNow at hs
    split at hs <;> simp_all
  · cases hx; cases hy
    unfold Instr.sameNow at hs
    split at hs <;> simp_all

theorem setE_findE {sh : EqSh} {k v : AV} : ∀ {es es' : List (AV × AV)}, setE sh k v es = some es' → ∃ res, findE sh k es = some res
  | [], _, _ => ⟨none, rfl⟩
  | (x, u) :: es, es', h => by
    unfold setE at h
    unfold findE
    split at h
    · exact ⟨_, rfl⟩
    · simp only [Option.map_eq_some_iff] at h
      obtain ⟨es2, h2, _⟩ := h
      exact setE_findE h2
    · cases h

theorem find_spec {kt : TypeId} {sh : EqSh} (hsh : ckSh P kt sh = true) (hsc : scalarSh sh = true) {kd : TypeDesc} {k : AV} {X : Value} (hx : Rv K m k X) (w : World) :
    ∀ (es : List (AV × AV)) (ents : List MapEntry) (i : Nat) (res : Option AV), RvL K m (es.map (·.1)) (ents.map (·.key)) → RvL K m (es.map (·.2)) (ents.map (·.val)) → findE sh k es = some res →
    ∃ R, (Instr.findAsking kt X ents i).run P w = .ok R w ∧ (∀ R', Instr.findNow kd X ents i = some R' → R' = R) ∧
      ((res = none ∧ R = none ∧ ∀ v, setE sh k v es = some (es ++ [(k, v)])) ∨
       ∃ j x u en, res = some u ∧ R = some (i + j, en.val) ∧ ents[j]? = some en ∧ es[j]? = some (x, u) ∧ eqAV sh k x = some true ∧ ∀ v, setE sh k v es = some (es.set j (k, v))) := by
  intro es
  induction es with
  | nil =>
    intro ents i res hk hv hf
    simp only [List.map_nil] at hk
    cases ents with
    | cons en ents => simp only [List.map_cons] at hk; cases hk
    | nil =>
      simp only [findE, Option.some.injEq] at hf
      exact ⟨none, by simp [Instr.findAsking], fun R' h => by simpa [Instr.findNow] using h.symm, .inl ⟨hf.symm, rfl, fun v => rfl⟩⟩
  | cons e es ih =>
    obtain ⟨x, u⟩ := e
    intro ents i res hk hv hf
    cases ents with
    | nil => simp only [List.map_cons, List.map_nil] at hk; cases hk
    | cons en ents =>
      simp only [List.map_cons] at hk hv
      cases hk with
      | cons hk tk => cases hv with
        | cons hv tv =>
          unfold findE at hf
          split at hf
          · rename_i hq
            simp only [Option.some.injEq] at hf; subst hf
            refine ⟨some (i, en.val), ?_, ?_, .inr ⟨0, x, u, en, rfl, rfl, rfl, rfl, hq, fun v => by simp [setE, hq]⟩⟩
            · simp [Instr.findAsking, run_eqAV hsh hx hk hq]
            · intro R' h
              unfold Instr.findNow at h
              split at h
              · simpa using h.symm
              · rename_i hs
                have := sameNow_eq hsc hq hx hk hs
                cases this
              · cases h
          · rename_i hq
            obtain ⟨R, h1, h2, h3⟩ := ih ents (i + 1) res tk tv hf
            refine ⟨R, ?_, ?_, ?_⟩
            · simp only [Instr.findAsking, Sem.run_bind, run_eqAV hsh hx hk hq, Result.andThen_ok, Bool.false_eq_true, if_false]
              exact h1
            · intro R' h
              unfold Instr.findNow at h
              split at h
              · rename_i hs
                have := sameNow_eq hsc hq hx hk hs
                cases this
              · exact h2 R' h
              · cases h
            · rcases h3 with ⟨e1, e2, e3⟩ | ⟨j, x', u', en', e1, e2, e3, e4, e5, e6⟩
              · exact .inl ⟨e1, e2, fun v => by simp [setE, hq, e3]⟩
              · exact .inr ⟨j + 1, x', u', en', e1, by rw [e2]; simp; omega, by simpa using e3, by simpa using e4, e5, fun v => by simp [setE, hq, e6]⟩
          · cases hf

theorem run_findKey {kt : TypeId} {kd : TypeDesc} (hu : P.underlying kt = some kd) {X : Value} {ents : List MapEntry} {R : Option (Nat × Value)} (h1 : (Instr.findAsking kt X ents 0).run P w = .ok R w)
    (h2 : ∀ R', Instr.findNow kd X ents 0 = some R' → R' = R) : (Instr.findKey kt X ents).run P w = .ok R w := by
  unfold Instr.findKey
  rw [Sem.run_bind, run_und hu, Result.andThen_ok]
  cases hn : Instr.findNow kd X ents 0 with
  | some R' => rw [h2 R' hn]; simp
  | none => exact h1

theorem ckSh_und {t : TypeId} {sh : EqSh} (h : ckSh P t sh = true) : ∃ kd, P.underlying t = some kd := by
  cases hu : P.underlying t with
  | some kd => exact ⟨kd, rfl⟩
  | none => cases sh <;> simp [ckSh, isInt, isStr, isMap, hu] at h

theorem ok_look (r : Rel P K m h w) (he : REnv K m n e a) {sh : EqSh} {z : AV} {ok : Bool} {x k : DO} (ho : okIns P o.op (.look sh z ok x k) = true) (hs : step call e h (.look sh z ok x k) = .ok v h') :
    StepOk P (execOp a.eval o) K m h w v h' := by
  obtain ⟨dst, op, ty, pos, after, guard⟩ := o
  simp only [okIns] at ho
  split at ho
  · rename_i t mX kX ok'
    simp only [Bool.and_eq_true, beq_iff_eq] at ho
    obtain ⟨⟨⟨⟨h1, h2⟩, rfl⟩, h4⟩, h5⟩ := ho
    obtain ⟨kt, el, hu, hsh, hsc⟩ := ckKey_spec h4
    rw [hu] at h5
    simp only at h5
    obtain ⟨inf, zv, hi, hz, hzok⟩ := ckZero_info h5
    obtain ⟨kd, hkd⟩ := ckSh_und hsh
    have hx := he.eval h1
    have hk := he.eval h2
    have hzr : Rv K m z zv := okVal_rv _ _ hzok
    simp only [step] at hs
    cases hko : keyOk sh (k.ev e) with
    | false => simp [hko] at hs
    | true =>
      simp only [hko, Bool.not_true, cond_false] at hs
      have hck := fun emp => run_checkKey (P := P) hsh hsc (keyOk_self hko) hk emp w
      have hout : ∀ (u : AV) (U : Value) (b : Bool), Rv K m u U → Rv K m (bif ok then .tup [u, .bool b] else u) (if ok = true then .tuple #[U, .bool b] else U) := by
        intro u U b hU
        cases ok
        · exact hU
        · exact .tup (.cons hU (.cons .bool .nil))
      split at hs
      · rename_i hm
        simp only [Res.ok.injEq] at hs
        obtain ⟨rfl, rfl⟩ := hs
        rw [hm] at hx
        generalize hmz : a.eval mX = MX at hx
        cases hx
        refine .val r (x := if ok = true then .tuple #[zv, .bool false] else zv) ?_ (hout _ _ _ hzr)
        have hfk : (Instr.findKey kt (a.eval kX) []).run P w = .ok none w := run_findKey hkd (by simp [Instr.findAsking]) (fun R' h => by simpa [Instr.findNow] using h.symm)
        simp [execOp, hmz, Instr.lookup, run_und hu, hck, hfk, run_zero hi hz]
      · rename_i b hm
        rw [hm] at hx
        generalize hmz : a.eval mX = MX at hx
        cases hx with
        | map hL =>
          rename_i L
          split at hs
          · rename_i es hb
            cases r.ob _ _ hb _ hL with
            | map hw hkk hvv =>
              rename_i ents clock
              have hg : (getObj L.c).run P w = .ok (.map ents clock) w := by simp [getObj, Sem.run, hw]
              split at hs
              · rename_i u hf
                simp only [Res.ok.injEq] at hs
                obtain ⟨rfl, rfl⟩ := hs
                obtain ⟨R, q1, q2, q3⟩ := find_spec (P := P) hsh hsc (kd := kd) hk w es ents.toList 0 _ hkk hvv hf
                rcases q3 with ⟨e1, _⟩ | ⟨j, x', u', en, e1, e2, e3, e4, e5, e6⟩
                · cases e1
                · cases e1
                  have hev : Rv K m u en.val := by
                    obtain ⟨y, hy1, hy2⟩ := hvv.get (i := j) (v := u) (by simp [e4])
                    simp only [List.getElem?_map, e3, Option.map_some, Option.some.injEq] at hy1
                    rw [hy1]; exact hy2
                  refine .val r (x := if ok = true then .tuple #[en.val, .bool true] else en.val) ?_ (hout _ _ _ hev)
                  simp [execOp, hmz, Instr.lookup, run_und hu, hg, hck, run_findKey hkd q1 q2, e2]
              · rename_i hf
                simp only [Res.ok.injEq] at hs
                obtain ⟨rfl, rfl⟩ := hs
                obtain ⟨R, q1, q2, q3⟩ := find_spec (P := P) hsh hsc (kd := kd) hk w es ents.toList 0 _ hkk hvv hf
                rcases q3 with ⟨_, rfl, _⟩ | ⟨j, x', u', en, e1, _⟩
                · refine .val r (x := if ok = true then .tuple #[zv, .bool false] else zv) ?_ (hout _ _ _ hzr)
                  simp [execOp, hmz, Instr.lookup, run_und hu, hg, hck, run_findKey hkd q1 q2, run_zero hi hz]
                · cases e1
              · cases hs
          · cases hs
      · cases hs
  · simp at ho

theorem RvL.set {xs : List AV} {vs : List Value} (h : RvL K m xs vs) {j : Nat} {x : AV} {X : Value} (hx : Rv K m x X) : RvL K m (xs.set j x) (vs.set j X) := by
  induction xs generalizing vs j with
  | nil => cases h; exact .nil
  | cons y xs ih =>
    cases h with
    | cons h t =>
      cases j with
      | zero => exact .cons hx t
      | succ j => exact .cons h (ih t)

theorem run_keyThatStays (X : Value) : ∃ w', SameHeap w w' ∧ (Instr.keyThatStays X X).run P w = .ok X w' := by
  unfold Instr.keyThatStays
  split
  · exact ⟨w, .refl w, by simp⟩
  · simp only [Sem.run_bind, run_choose_drew]
    split
    · exact ⟨w, .refl w, by simp⟩
    · exact ⟨w.drew, ⟨rfl, rfl, rfl, rfl⟩, by simp⟩

theorem ok_mup (r : Rel P K m h w) (he : REnv K m n e a) {sh : EqSh} {x k y : DO} (ho : okIns P o.op (.mup sh x k y) = true) (hs : step call e h (.mup sh x k y) = .ok v h') :
    StepOk P (execOp a.eval o) K m h w v h' := by
  obtain ⟨dst, op, ty, pos, after, guard⟩ := o
  have key : ∀ (t : TypeId) (mX kX yX : Operand), okO mX x = true → okO kX k = true → okO yX y = true → ckKey P t sh = true →
      ∃ w', (Instr.mapUpdate t (a.eval mX) (a.eval kX) (a.eval yX)).run P w = .ok () w' ∧ v = .tup [] ∧ Rel P K m h' w' ∧ Ext K m h w K m h' w' := by
    intro t mX kX yX h1 h2 h3 h4
    obtain ⟨kt, el, hu, hsh, hsc⟩ := ckKey_spec h4
    obtain ⟨kd, hkd⟩ := ckSh_und hsh
    have hx := he.eval h1
    have hk := he.eval h2
    have hy := he.eval h3
    simp only [step] at hs
    cases hko : keyOk sh (k.ev e) with
    | false => simp [hko] at hs
    | true =>
      simp only [hko, Bool.not_true, cond_false] at hs
      have hck := fun emp => run_checkKey (P := P) hsh hsc (keyOk_self hko) hk emp w
      split at hs
      · rename_i b hm
        rw [hm] at hx
        generalize hmz : a.eval mX = MX at hx
        cases hx with
        | map hL =>
          rename_i L
          split at hs
          · rename_i es hb
            split at hs
            · rename_i es' hse
              simp only [Res.ok.injEq] at hs
              obtain ⟨rfl, rfl⟩ := hs
              cases r.ob _ _ hb _ hL with
              | map hw hkk hvv =>
                rename_i ents clock
                have hg : (getObj L.c).run P w = .ok (.map ents clock) w := by simp [getObj, Sem.run, hw]
                have hlt : L.c < w.heap.size := r.lt hb hL
                have hset : ∀ (w1 : World) (ob : Obj), SameHeap w w1 → (setObj L.c ob).run P w1 = .ok () { w1 with heap := w1.heap.setIfInBounds L.c ob } := by
                  intro w1 ob hw1
                  have : w1.heap[L.c]? = some (.map ents clock) := by rw [hw1.1]; exact hw
                  simp [setObj, Sem.run, this]
                have hfin : ∀ (w1 : World) (ents' : Array MapEntry) (clock' : Nat), SameHeap w w1 → RvL K m (es'.map (·.1)) (ents'.toList.map (·.key)) → RvL K m (es'.map (·.2)) (ents'.toList.map (·.val)) →
                    Rel P K m (h.set b (.map es')) { w1 with heap := w1.heap.setIfInBounds L.c (.map ents' clock') } ∧
                    Ext K m h w K m (h.set b (.map es')) { w1 with heap := w1.heap.setIfInBounds L.c (.map ents' clock') } := by
                  intro w1 ents' clock' hw1 e1 e2
                  have hoth : ∀ c, c ≠ L.c → (w1.heap.setIfInBounds L.c (.map ents' clock'))[c]? = w.heap[c]? := fun c hc => by
                    rw [Array.getElem?_setIfInBounds_ne (Ne.symm hc), hw1.1]
                  refine ⟨r.set hb hL hoth (.map (ents := ents') (clock := clock') ?_ e1 e2), Ext.setB hb hL hoth (by simp [hw1.1]) hw1.2.1 hw1.2.2.1 hw1.2.2.2⟩
                  show (w1.heap.setIfInBounds L.c (.map ents' clock'))[L.c]? = _
                  rw [hw1.1]
                  simp [hlt]
                obtain ⟨res, hf⟩ := setE_findE hse
                obtain ⟨R, q1, q2, q3⟩ := find_spec (P := P) hsh hsc (kd := kd) hk w es ents.toList 0 _ hkk hvv hf
                have hfk := run_findKey hkd q1 q2
                rcases q3 with ⟨_, rfl, e3⟩ | ⟨j, x', u', en, e1, e2, e3, e4, e5, e6⟩
                · rw [e3] at hse
                  simp only [Option.some.injEq] at hse; subst hse
                  obtain ⟨hr1, hr2⟩ := hfin w (ents.push { key := a.eval kX, val := a.eval yX, born := clock }) (clock + 1) (.refl w)
                    (by simpa using hkk.append (.one hk)) (by simpa using hvv.append (.one hy))
                  refine ⟨_, ?_, rfl, hr1, hr2⟩
                  simp [Instr.mapUpdate, run_und hu, hg, hck, hfk, hset w _ (.refl w)]
                · rw [e6] at hse
                  simp only [Option.some.injEq] at hse; subst hse
                  subst e2
                  have hkey : en.key = a.eval kX := by
                    obtain ⟨q, hq1, hq2⟩ := hkk.get (i := j) (v := x') (by simp [e4])
                    simp only [List.getElem?_map, e3, Option.map_some, Option.some.injEq] at hq1
                    rw [hq1]
                    exact (eqAV_same hsc e5 hk hq2).symm
                  have hj : ents[j]? = some en := by rw [← Array.getElem?_toList]; exact e3
                  have hold : ((ents[j]?).map (·.key)).getD (a.eval kX) = a.eval kX := by rw [hj]; exact hkey
                  obtain ⟨w1, hw1, hst⟩ := run_keyThatStays (P := P) (w := w) (a.eval kX)
                  have hmod : (ents.modify j fun e => { e with key := a.eval kX, val := a.eval yX }).toList = ents.toList.set j { en with key := a.eval kX, val := a.eval yX } := by
                    apply List.ext_getElem?
                    intro i
                    rw [Array.toList_modify, List.getElem?_modify, List.getElem?_set]
                    by_cases hij : j = i
                    · subst hij
                      have hlt := (List.getElem?_eq_some_iff.1 e3).1
                      rw [e3]
                      simp at hlt
                      simp [hlt]
                    · simp [hij]
                  obtain ⟨hr1, hr2⟩ := hfin w1 (ents.modify j fun e => { e with key := a.eval kX, val := a.eval yX }) clock hw1
                    (by rw [hmod, List.map_set, List.map_set]; exact hkk.set hk)
                    (by rw [hmod, List.map_set, List.map_set]; exact hvv.set hy)
                  refine ⟨_, ?_, rfl, hr1, hr2⟩
                  simp [Instr.mapUpdate, run_und hu, hg, hck, hfk, hold, hst, hset w1 _ hw1]
            · cases hs
          · cases hs
      · cases hs
  simp only [okIns] at ho
  split at ho
  · rename_i t mX kX yX
    simp only [Bool.and_eq_true] at ho
    obtain ⟨⟨⟨h1, h2⟩, h3⟩, h4⟩ := ho
    obtain ⟨w', hrun, rfl, hr1, hr2⟩ := key t mX kX yX h1 h2 h3 h4
    exact ⟨K, m, w', undef, .inr ⟨by simp [execOp, hrun], rfl⟩, .tup .nil, hr1, hr2⟩
  · rename_i t mX kX yX
    simp only [Bool.and_eq_true] at ho
    obtain ⟨⟨⟨h1, h2⟩, h3⟩, h4⟩ := ho
    obtain ⟨w', hrun, rfl, hr1, hr2⟩ := key t mX kX yX h1 h2 h3 h4
    exact ⟨K, m, w', undef, .inr ⟨by simp [execOp, hrun], rfl⟩, .tup .nil, hr1, hr2⟩
  · simp at ho
end
end Go.D
