/-
  The abstract evaluator 'D': equality of values whose cells are numbers, texts and bools.
-/
import Derived.Test.YtgdenjkiblpnpaaGreatDG
import Derived.ChangeKeysEq
namespace Go.D

theorem takeSc_eq {x : Sc} {l l' : List Sc} (h : takeSc x l = some l') : l = x :: l' := by
  cases l with
  | nil => simp [takeSc] at h
  | cons y l =>
    simp only [takeSc] at h
    cases hs : scEq x y with
    | false => simp [hs] at h
    | true =>
      simp [hs] at h
      subst h
      cases x <;> cases y <;> simp [scEq] at hs <;> rfl

theorem eqSs_append : ∀ (A B : List Sc) (x1 x2 y1 y2 : List AV) (r : Bool), x1.length = A.length → y1.length = A.length → eqSs (A ++ B) (x1 ++ x2) (y1 ++ y2) = some r →
    ∃ r1 r2, eqSs A x1 y1 = some r1 ∧ eqSs B x2 y2 = some r2 ∧ r = (r1 && r2)
  | [], B, x1, x2, y1, y2, r, hx, hy, h => by
    cases x1 <;> cases y1 <;> simp at hx hy
    exact ⟨true, r, rfl, by simpa using h, by simp⟩
  | c0 :: A, B, [], x2, y1, y2, r, hx, hy, h => by simp at hx
  | c0 :: A, B, x :: x1, x2, [], y2, r, hx, hy, h => by simp at hy
  | c0 :: A, B, x :: x1, x2, y :: y1, y2, r, hx, hy, h => by
    simp only [List.length_cons, Nat.add_right_cancel_iff] at hx hy
    simp only [List.cons_append] at h
    unfold eqSs at h
    split at h
    · rename_i heq _ _; simp at heq
    · rename_i l k a xs k' b ys e1 e2 e3
      cases e1; cases e2; cases e3
      cases hk : kindEq k k' with
      | false => simp [hk] at h
      | true =>
        simp only [hk, cond_true, Option.map_eq_some_iff] at h
        obtain ⟨q, hq, rfl⟩ := h
        obtain ⟨r1, r2, h1, h2, rfl⟩ := eqSs_append A B _ _ _ _ q hx hy hq
        exact ⟨(a == b) && r1, r2, by simp [eqSs, hk, h1], h2, by simp [Bool.and_assoc]⟩
    · rename_i l a xs b ys e1 e2 e3
      cases e1; cases e2; cases e3
      simp only [Option.map_eq_some_iff] at h
      obtain ⟨q, hq, rfl⟩ := h
      obtain ⟨r1, r2, h1, h2, rfl⟩ := eqSs_append A B _ _ _ _ q hx hy hq
      exact ⟨natsEq a b && r1, r2, by simp [eqSs, h1], h2, by simp [Bool.and_assoc]⟩
    · rename_i l a xs b ys e1 e2 e3
      cases e1; cases e2; cases e3
      simp only [Option.map_eq_some_iff] at h
      obtain ⟨q, hq, rfl⟩ := h
      obtain ⟨r1, r2, h1, h2, rfl⟩ := eqSs_append A B _ _ _ _ q hx hy hq
      exact ⟨(a == b) && r1, r2, by simp [eqSs, h1], h2, by simp [Bool.and_assoc]⟩
    · cases h

theorem eqSs_length : ∀ (A : List Sc) (x y : List AV) (r : Bool), eqSs A x y = some r → x.length = A.length ∧ y.length = A.length
  | [], [], [], _, _ => ⟨rfl, rfl⟩
  | [], _ :: _, _, _, h => by simp [eqSs] at h
  | [], [], _ :: _, _, h => by simp [eqSs] at h
  | c0 :: A, [], y, _, h => by simp [eqSs] at h
  | c0 :: A, x :: xs, [], _, h => by simp [eqSs] at h
  | c0 :: A, x :: xs, y :: ys, r, h => by
    unfold eqSs at h
    split at h
    · rename_i heq _ _; simp at heq
    · rename_i l k a xs k' b ys e1 e2 e3
      cases e1; cases e2; cases e3
      cases hk : kindEq k k' with
      | false => simp [hk] at h
      | true =>
        simp only [hk, cond_true, Option.map_eq_some_iff] at h
        obtain ⟨q, hq, _⟩ := h
        have := eqSs_length _ _ _ _ hq
        simp [this]
    · rename_i l a xs b ys e1 e2 e3
      cases e1; cases e2; cases e3
      simp only [Option.map_eq_some_iff] at h
      obtain ⟨q, hq, _⟩ := h
      have := eqSs_length _ _ _ _ hq
      simp [this]
    · rename_i l a xs b ys e1 e2 e3
      cases e1; cases e2; cases e3
      simp only [Option.map_eq_some_iff] at h
      obtain ⟨q, hq, _⟩ := h
      have := eqSs_length _ _ _ _ hq
      simp [this]
    · cases h

theorem eqSs_i {xs ys : List AV} {r : Bool} (h : eqSs [.i] xs ys = some r) : ∃ k a b, xs = [.int k a] ∧ ys = [.int k b] ∧ r = (a == b) := by
  obtain ⟨h1, h2⟩ := eqSs_length _ _ _ _ h
  rcases xs with _ | ⟨x, _ | ⟨_, _⟩⟩ <;> simp at h1
  rcases ys with _ | ⟨y, _ | ⟨_, _⟩⟩ <;> simp at h2
  cases x <;> cases y <;> simp only [eqSs, reduceCtorEq] at h
  rename_i k a k' b
  cases hk : kindEq k k' with
  | false => simp [hk] at h
  | true =>
    have := kindEq_eq hk; subst this
    simp [hk] at h
    exact ⟨k, a, b, rfl, rfl, h.symm⟩

theorem eqSs_s {xs ys : List AV} {r : Bool} (h : eqSs [.s] xs ys = some r) : ∃ a b, xs = [.str a] ∧ ys = [.str b] ∧ r = natsEq a b := by
  obtain ⟨h1, h2⟩ := eqSs_length _ _ _ _ h
  rcases xs with _ | ⟨x, _ | ⟨_, _⟩⟩ <;> simp at h1
  rcases ys with _ | ⟨y, _ | ⟨_, _⟩⟩ <;> simp at h2
  cases x <;> cases y <;> simp only [eqSs, reduceCtorEq] at h
  rename_i a b
  simp at h
  exact ⟨a, b, rfl, rfl, h.symm⟩

theorem eqSs_b {xs ys : List AV} {r : Bool} (h : eqSs [.b] xs ys = some r) : ∃ a b, xs = [.bool a] ∧ ys = [.bool b] ∧ r = (a == b) := by
  obtain ⟨h1, h2⟩ := eqSs_length _ _ _ _ h
  rcases xs with _ | ⟨x, _ | ⟨_, _⟩⟩ <;> simp at h1
  rcases ys with _ | ⟨y, _ | ⟨_, _⟩⟩ <;> simp at h2
  cases x <;> cases y <;> simp only [eqSs, reduceCtorEq] at h
  rename_i a b
  simp at h
  exact ⟨a, b, rfl, rfl, h.symm⟩

/-- a value of a type, out of its cells -/
def mkV (P : Program) (t : TypeId) (vs : List Value) : Value := match P.underlying t with
  | some (.struct _) | some (.array _ _) => .agg vs.toArray
  | _ => vs.headD undef

section
variable {P : Program} {K : Km} {m : Mm}

theorem str_eq {s s' : List Nat} {x y : ByteArray} (h : x.data.toList.map UInt8.toNat = s) (h' : y.data.toList.map UInt8.toNat = s') : (x == y) = natsEq s s' := by
  rw [natsEq_iff, ← h, ← h']
  rw [beq_toListBytes, ByteArray.toList_eq, ByteArray.toList_eq, Bool.eq_iff_iff, decide_eq_true_iff, beq_iff_eq]
  constructor
  · intro e; rw [e]
  · intro e
    exact (List.map_inj_right (f := UInt8.toNat) fun a b hab => UInt8.toNat_inj.1 hab).1 e

def FlatEq (P : Program) (d : Nat) (t : TypeId) (A : List Sc) : Prop :=
  ∀ (dd : Nat) (w : World) (K : Km) (m : Mm) (xs ys : List AV) (vx vy : List Value) (r : Bool), d ≤ dd → RvL K m xs vx → RvL K m ys vy → eqSs A xs ys = some r →
    (Op.equalIn dd t (mkV P t vx) (mkV P t vy)).run P w = .ok r w

theorem run_part {t : TypeId} {i : TypeInfo} {d : TypeDesc} (hi : P.info? t = some i) (hd : P.underlying t = some d) {vs : List Value} {off : Nat} (hl : off + i.size ≤ vs.length)
    (h1 : (∀ fs, d ≠ .struct fs) → (∀ l e, d ≠ .array l e) → i.size = 1) (w : World) :
    (part t vs.toArray off).run P w = .ok (mkV P t ((vs.drop off).take i.size)) w := by
  unfold part mkV
  rw [hd]
  cases d with
  | struct fs =>
    simp only [isAgg, Sem.run_bind, run_und hd, Result.andThen_ok, Sem.run_pure, if_true, run_size hi]
    congr 2
    apply Array.ext'
    simp [List.extract]
  | array l e =>
    simp only [isAgg, Sem.run_bind, run_und hd, Result.andThen_ok, Sem.run_pure, if_true, run_size hi]
    congr 2
    apply Array.ext'
    simp [List.extract]
  | _ =>
    have hs := h1 (fun _ h => by cases h) (fun _ _ h => by cases h)
    have hlt : off < vs.length := by omega
    simp only [isAgg, Sem.run_bind, run_und hd, Result.andThen_ok, Sem.run_pure, Bool.false_eq_true, if_false]
    rw [hs]
    have : vs.toArray[off]? = some vs[off] := by simp [hlt]
    have hd1 : (List.drop off vs).take 1 = [vs[off]] := by rw [List.drop_eq_getElem_cons hlt]; rfl
    rw [this, hd1]
    rfl

/-- the cells of which a type is told, and how two of its values are held against each other -/
structure FlatOk (P : Program) (d : Nat) (t : TypeId) (A : List Sc) : Prop where
  und : ∃ d0, P.underlying t = some d0 ∧ ((∀ fs, d0 ≠ .struct fs) → (∀ l e, d0 ≠ .array l e) → A.length = 1)
  eq : FlatEq P d t A

theorem seg (l : List Value) (p a b : Nat) : (l.drop p).take (a + b) = (l.drop p).take a ++ (l.drop (p + a)).take b := by
  rw [List.take_add, List.drop_drop]

theorem RvL.parts {xs : List AV} {a b : List Value} {k : Nat} (h : RvL K m xs (a ++ b)) (ha : a.length = k) : RvL K m (xs.take k) a ∧ RvL K m (xs.drop k) b := by
  subst ha
  exact ⟨by simpa using h.take a.length, by simpa using h.drop a.length⟩

/-- one part of two rows of cells -/
theorem part_eq {d dd : Nat} {t : TypeId} {A : List Sc} (hf : FlatOk P d t A) (hs : ckSize P t A.length = true) {p : Nat} {vx vy : List Value} (hx : p + A.length ≤ vx.length)
    (hy : p + A.length ≤ vy.length) {xs ys : List AV} (rx : RvL K m xs ((vx.drop p).take A.length)) (ry : RvL K m ys ((vy.drop p).take A.length)) {r : Bool}
    (he : eqSs A xs ys = some r) (hd : d ≤ dd) (w : World) :
    ∃ a b, (part t vx.toArray p).run P w = .ok a w ∧ (part t vy.toArray p).run P w = .ok b w ∧ (Op.equalIn dd t a b).run P w = .ok r w := by
  obtain ⟨d0, hu, h1⟩ := hf.und
  obtain ⟨i, hi, hsz⟩ := ckSize_info hs
  refine ⟨_, _, run_part hi hu (by omega) (fun a b => by rw [hsz]; exact h1 a b) w, run_part hi hu (by omega) (fun a b => by rw [hsz]; exact h1 a b) w, ?_⟩
  rw [hsz]
  exact hf.eq dd w K m xs ys _ _ r hd rx ry he

theorem flat_spec (d : Nat) :
    (∀ (t : TypeId) (l l' : List Sc), flatT P d t l = some l' → ∃ A, l = A ++ l' ∧ FlatOk P d t A) ∧
    (∀ (fs : List Field) (all : Nat) (l l' : List Sc), flatF P d fs all l = some l' → ∃ A, l = A ++ l' ∧
      ∀ (dd : Nat) (w : World) (K : Km) (m : Mm) (xs ys : List AV) (vx vy : List Value) (r : Bool), d ≤ dd → l.length ≤ all → all - l.length + A.length ≤ vx.length →
        all - l.length + A.length ≤ vy.length → RvL K m xs ((vx.drop (all - l.length)).take A.length) → RvL K m ys ((vy.drop (all - l.length)).take A.length) →
        eqSs A xs ys = some r → (Op.eqFields dd vx.toArray vy.toArray fs).run P w = .ok r w) ∧
    (∀ (e : TypeId) (c : Nat) (l l' : List Sc), flatA P d e c l = some l' → ∃ A, l = A ++ l' ∧
      ((c = 0 ∧ A = []) ∨ ∃ i, P.info? e = some i ∧ A.length = c * i.size ∧
        ∀ (dd j : Nat) (w : World) (K : Km) (m : Mm) (xs ys : List AV) (vx vy : List Value) (r : Bool), d ≤ dd → j * i.size + A.length ≤ vx.length →
        j * i.size + A.length ≤ vy.length → RvL K m xs ((vx.drop (j * i.size)).take A.length) → RvL K m ys ((vy.drop (j * i.size)).take A.length) →
        eqSs A xs ys = some r → (Op.eqItems dd e i.size vx.toArray vy.toArray (List.range' j c)).run P w = .ok r w)) := by
  induction d with
  | zero =>
    refine ⟨fun t l l' h => by simp [flatT] at h, fun fs all l l' h => ?_, fun e c l l' h => ?_⟩
    · cases fs with
      | nil =>
        simp only [flatF, Option.some.injEq] at h; subst h
        refine ⟨[], rfl, fun dd w K m xs ys vx vy r _ _ _ _ rx ry he => ?_⟩
        obtain ⟨h1, h2⟩ := eqSs_length _ _ _ _ he
        cases xs <;> cases ys <;> simp at h1 h2
        simp only [eqSs, Option.some.injEq] at he; subst he
        simp [Op.eqFields]
      | cons => simp [flatF] at h
    · cases c with
      | zero => simp only [flatA, Option.some.injEq] at h; subst h; exact ⟨[], rfl, .inl ⟨rfl, rfl⟩⟩
      | succ c => simp [flatA] at h
  | succ d ih =>
    obtain ⟨ihT, ihF, ihA⟩ := ih
    refine ⟨fun t l l' h => ?_, fun fs all l l' h => ?_, fun e c l l' h => ?_⟩
    · simp only [flatT] at h
      split at h
      · rename_i k hu
        have := takeSc_eq h; subst this
        refine ⟨[.i], rfl, ⟨_, hu, fun _ _ => rfl⟩, fun dd w K m xs ys vx vy r hd rx ry he => ?_⟩
        obtain ⟨dd, rfl⟩ : ∃ q, dd = q + 1 := ⟨dd - 1, by omega⟩
        obtain ⟨k1, x, y, rfl, rfl, rfl⟩ := eqSs_i he
        cases rx with
        | cons rx tx => cases ry with
          | cons ry ty =>
            cases rx; cases ry
            simp [mkV, hu, Op.equalIn, run_und hu]
      · rename_i hu
        have := takeSc_eq h; subst this
        refine ⟨[.s], rfl, ⟨_, hu, fun _ _ => rfl⟩, fun dd w K m xs ys vx vy r hd rx ry he => ?_⟩
        obtain ⟨dd, rfl⟩ : ∃ q, dd = q + 1 := ⟨dd - 1, by omega⟩
        obtain ⟨x, y, rfl, rfl, rfl⟩ := eqSs_s he
        cases rx with
        | cons rx tx => cases ry with
          | cons ry ty =>
            cases rx with
            | str rx => cases ry with
              | str ry => simp [mkV, hu, Op.equalIn, run_und hu, str_eq rx ry]
      · rename_i hu
        have := takeSc_eq h; subst this
        refine ⟨[.b], rfl, ⟨_, hu, fun _ _ => rfl⟩, fun dd w K m xs ys vx vy r hd rx ry he => ?_⟩
        obtain ⟨dd, rfl⟩ : ∃ q, dd = q + 1 := ⟨dd - 1, by omega⟩
        obtain ⟨x, y, rfl, rfl, rfl⟩ := eqSs_b he
        cases rx with
        | cons rx tx => cases ry with
          | cons ry ty =>
            cases rx; cases ry
            simp [mkV, hu, Op.equalIn, run_und hu]
      · rename_i fs hu
        cases hst : P.stoodInHeld t with
        | true => simp [hst] at h
        | false =>
          simp only [hst, cond_false] at h
          obtain ⟨A, rfl, hA⟩ := ihF _ _ _ _ h
          refine ⟨A, rfl, ⟨_, hu, fun h1 _ => absurd rfl (h1 fs)⟩, fun dd w K m xs ys vx vy r hd rx ry he => ?_⟩
          obtain ⟨dd, rfl⟩ : ∃ q, dd = q + 1 := ⟨dd - 1, by omega⟩
          have hfo : P.fieldsOf t = fs := by simp [Program.fieldsOf, hu]
          obtain ⟨h1, h2⟩ := eqSs_length _ _ _ _ he
          have lx := rx.length
          have ly := ry.length
          simp only [mkV, hu]
          rw [run_equalIn_struct w dd t vx.toArray vy.toArray (by rw [hfo]; exact hu) hst, hfo]
          refine hA dd w K m xs ys vx vy r (by omega) (Nat.le_refl _) (by omega) (by omega) ?_ ?_ he
          · simpa [← h1, ← lx] using rx
          · simpa [← h2, ← ly] using ry
      · rename_i c e hu
        cases hc0 : Nat.beq c 0 with
        | true => simp [hc0] at h
        | false =>
        simp only [hc0, cond_false] at h
        obtain ⟨A, rfl, hA⟩ := ihA _ _ _ _ h
        refine ⟨A, rfl, ⟨_, hu, fun _ h1 => absurd rfl (h1 c e)⟩, fun dd w K m xs ys vx vy r hd rx ry he => ?_⟩
        obtain ⟨dd, rfl⟩ : ∃ q, dd = q + 1 := ⟨dd - 1, by omega⟩
        obtain ⟨h1, h2⟩ := eqSs_length _ _ _ _ he
        have lx := rx.length
        have ly := ry.length
        simp only [mkV, hu]
        rcases hA with ⟨rfl, rfl⟩ | ⟨i, hi, hlen, hrun⟩
        · simp at hc0
        · rw [run_equalIn_array w dd vx.toArray vy.toArray hu hi]
          have hc : P.cellsOf e = i.size := by simp [Program.cellsOf, hi]
          rw [hc, List.range_eq_range']
          refine hrun dd 0 w K m xs ys vx vy r (by omega) (by omega) (by omega) ?_ ?_ he
          · simpa [← h1, ← lx] using rx
          · simpa [← h2, ← ly] using ry
      · cases h
    · cases fs with
      | nil =>
        simp only [flatF, Option.some.injEq] at h; subst h
        refine ⟨[], rfl, fun dd w K m xs ys vx vy r _ _ _ _ rx ry he => ?_⟩
        obtain ⟨h1, h2⟩ := eqSs_length _ _ _ _ he
        cases xs <;> cases ys <;> simp at h1 h2
        simp only [eqSs, Option.some.injEq] at he; subst he
        simp [Op.eqFields]
      | cons f fs =>
        simp only [flatF] at h
        cases hn : (f.name == "_" || !(Nat.beq (f.offset + l.length) all)) with
        | true => simp [hn] at h
        | false =>
          simp only [hn, cond_false] at h
          simp only [Bool.or_eq_false_iff, Bool.not_eq_false', nbeq, decide_eq_true_eq, beq_eq_false_iff_ne] at hn
          split at h
          · rename_i l1 hl1
            cases hck : ckSize P f.type (l.length - l1.length) with
            | false => simp [hck] at h
            | true =>
              simp only [hck, cond_true] at h
              obtain ⟨A1, rfl, hA1⟩ := ihT _ _ _ hl1
              obtain ⟨A2, rfl, hA2⟩ := ihF _ _ _ _ h
              refine ⟨A1 ++ A2, by simp, fun dd w K m xs ys vx vy r hd hall hx hy rx ry he => ?_⟩
              obtain ⟨h1, h2⟩ := eqSs_length _ _ _ _ he
              have e1 : (A1 ++ (A2 ++ l')).length - (A2 ++ l').length = A1.length := by simp
              rw [e1] at hck
              have hoff : f.offset = all - (A1 ++ (A2 ++ l')).length := by omega
              simp only [List.length_append] at *
              rw [seg] at rx ry
              rw [← List.take_append_drop A1.length xs, ← List.take_append_drop A1.length ys] at he
              have lx1 : (xs.take A1.length).length = A1.length := by simp; omega
              have ly1 : (ys.take A1.length).length = A1.length := by simp; omega
              obtain ⟨r1, r2, q1, q2, rfl⟩ := eqSs_append _ _ _ _ _ _ _ lx1 ly1 he
              have lvx : ((vx.drop (all - (A1.length + (A2.length + l'.length)))).take A1.length).length = A1.length := by simp; omega
              have lvy : ((vy.drop (all - (A1.length + (A2.length + l'.length)))).take A1.length).length = A1.length := by simp; omega
              have sx := rx.parts lvx
              have sy := ry.parts lvy
              obtain ⟨va, vb, p1, p2, p3⟩ := part_eq hA1 hck (p := all - (A1.length + (A2.length + l'.length))) (by omega) (by omega) sx.1 sy.1 q1 (dd := dd) (by omega) w
              simp only [Op.eqFields, ne_eq, hn.1, not_false_eq_true, if_true, Sem.run_bind]
              rw [hoff, p1, Result.andThen_ok, p2, Result.andThen_ok, p3, Result.andThen_ok]
              cases r1 with
              | false => simp
              | true =>
                simp only [Bool.not_true, Bool.false_eq_true, if_false, Bool.true_and]
                have e2 : all - (A2.length + l'.length) = all - (A1.length + (A2.length + l'.length)) + A1.length := by omega
                refine hA2 dd w K m _ _ vx vy r2 (by omega) (by omega) (by omega) (by omega) ?_ ?_ q2
                · rw [e2]; exact sx.2
                · rw [e2]; exact sy.2
          · cases h
    · cases c with
      | zero => simp only [flatA, Option.some.injEq] at h; subst h; exact ⟨[], rfl, .inl ⟨rfl, rfl⟩⟩
      | succ c =>
        simp only [flatA] at h
        split at h
        · rename_i l1 hl1
          cases hck : ckSize P e (l.length - l1.length) with
          | false => simp [hck] at h
          | true =>
            simp only [hck, cond_true] at h
            obtain ⟨A1, rfl, hA1⟩ := ihT _ _ _ hl1
            obtain ⟨A2, rfl, hA2⟩ := ihA _ _ _ _ h
            have e1 : (A1 ++ (A2 ++ l')).length - (A2 ++ l').length = A1.length := by simp
            rw [e1] at hck
            obtain ⟨i, hi, hsz⟩ := ckSize_info hck
            have hA2len : A2.length = c * i.size := by
              rcases hA2 with ⟨rfl, rfl⟩ | ⟨i', hi', hl, _⟩
              · simp
              · rw [hi] at hi'; cases hi'; exact hl
            refine ⟨A1 ++ A2, by simp, .inr ⟨i, hi, by simp [hA2len, hsz, Nat.succ_mul]; omega, fun dd j w K m xs ys vx vy r hd hx hy rx ry he => ?_⟩⟩
            obtain ⟨h1, h2⟩ := eqSs_length _ _ _ _ he
            simp only [List.length_append] at *
            rw [seg] at rx ry
            rw [← List.take_append_drop A1.length xs, ← List.take_append_drop A1.length ys] at he
            have lx1 : (xs.take A1.length).length = A1.length := by simp; omega
            have ly1 : (ys.take A1.length).length = A1.length := by simp; omega
            obtain ⟨r1, r2, q1, q2, rfl⟩ := eqSs_append _ _ _ _ _ _ _ lx1 ly1 he
            have lvx : ((vx.drop (j * i.size)).take A1.length).length = A1.length := by simp; omega
            have lvy : ((vy.drop (j * i.size)).take A1.length).length = A1.length := by simp; omega
            have sx := rx.parts lvx
            have sy := ry.parts lvy
            obtain ⟨va, vb, p1, p2, p3⟩ := part_eq hA1 hck (p := j * i.size) (by omega) (by omega) sx.1 sy.1 q1 (dd := dd) (by omega) w
            rw [List.range'_succ]
            simp only [Op.eqItems, Sem.run_bind]
            rw [p1, Result.andThen_ok, p2, Result.andThen_ok, p3, Result.andThen_ok]
            cases r1 with
            | false => simp
            | true =>
              simp only [Bool.not_true, Bool.false_eq_true, if_false, Bool.true_and]
              have e2 : (j + 1) * i.size = j * i.size + A1.length := by rw [Nat.succ_mul, hsz]
              rcases hA2 with ⟨rfl, rfl⟩ | ⟨i', hi', hl, hrun⟩
              · obtain ⟨h3, h4⟩ := eqSs_length _ _ _ _ q2
                generalize xs.drop A1.length = xd at *
                generalize ys.drop A1.length = yd at *
                cases xd <;> cases yd <;> simp at h3 h4
                simp only [eqSs, Option.some.injEq] at q2; subst q2
                simp [Op.eqItems]
              · rw [hi] at hi'; cases hi'
                refine hrun dd (j + 1) w K m _ _ vx vy r2 (by omega) (by omega) (by omega) ?_ ?_ q2
                · rw [e2]; exact sx.2
                · rw [e2]; exact sy.2
        · cases h
end

end Go.D
