/-
  The abstract evaluator 'D': instructions that call nobody, one by one (third part).
-/
import Derived.Test.YtgdenjkiblpnpaaGreatDI
namespace Go.D
section
variable {P : Program} {K : Km} {m : Mm} {h h' : Heap} {w : World} {v : AV} {n : Nat} {e : Env} {a : Act} {o : Oper} {call : Caller}

theorem eq_of_eqn (b neg : Bool) : (b != neg) = (if neg = true then !b else b) := by cases b <;> cases neg <;> rfl

section eqs
variable {t : TypeId} (d : Nat)
theorem eqi_ptr1 {x : TypeId} (hu : P.underlying t = some (.pointer x)) (q : Option Addr) : (Op.equalIn (d + 1) t (.pointer none) (.pointer q)).run P w = .ok q.isNone w := by
  simp [Op.equalIn, run_und hu]
theorem eqi_ptr2 {x : TypeId} (hu : P.underlying t = some (.pointer x)) (q : Addr) : (Op.equalIn (d + 1) t (.pointer (some q)) (.pointer none)).run P w = .ok false w := by
  simp [Op.equalIn, run_und hu]
theorem eqi_sl1 {x : TypeId} (hu : P.underlying t = some (.slice x)) (q : Option Addr) (i j k l : Nat) : (Op.equalIn (d + 1) t (.slice none i j) (.slice q k l)).run P w = .ok q.isNone w := by
  simp [Op.equalIn, run_und hu]
theorem eqi_sl2 {x : TypeId} (hu : P.underlying t = some (.slice x)) (q : Addr) (i j k l : Nat) : (Op.equalIn (d + 1) t (.slice (some q) i j) (.slice none k l)).run P w = .ok false w := by
  simp [Op.equalIn, run_und hu]
theorem eqi_mp1 {x y : TypeId} (hu : P.underlying t = some (.map x y)) (q : Option Nat) : (Op.equalIn (d + 1) t (.map none) (.map q)).run P w = .ok q.isNone w := by
  simp [Op.equalIn, run_und hu]
theorem eqi_mp2 {x y : TypeId} (hu : P.underlying t = some (.map x y)) (q : Nat) : (Op.equalIn (d + 1) t (.map (some q)) (.map none)).run P w = .ok false w := by
  simp [Op.equalIn, run_und hu]
theorem eqi_fn1 {x y : Array TypeId} {z : Bool} (hu : P.underlying t = some (.func x y z)) : (Op.equalIn (d + 1) t .nilFunc .nilFunc).run P w = .ok true w := by
  simp [Op.equalIn, run_und hu]
theorem eqi_fn2 {x y : Array TypeId} {z : Bool} (hu : P.underlying t = some (.func x y z)) (f : Fn) (p q : Array Value) : (Op.equalIn (d + 1) t .nilFunc (.func f p q)).run P w = .ok false w := by
  simp [Op.equalIn, run_und hu]
theorem eqi_fn3 {x y : Array TypeId} {z : Bool} (hu : P.underlying t = some (.func x y z)) (f : Fn) (p q : Array Value) : (Op.equalIn (d + 1) t (.func f p q) .nilFunc).run P w = .ok false w := by
  simp [Op.equalIn, run_und hu]
theorem eqi_ifc1 {x : Array (String × TypeId)} (hu : P.underlying t = some (.interface x)) : (Op.equalIn (d + 1) t .nilIface .nilIface).run P w = .ok true w := by
  simp [Op.equalIn, run_und hu]
theorem eqi_ifc2 {x : Array (String × TypeId)} (hu : P.underlying t = some (.interface x)) (u : TypeId) (q : Value) : (Op.equalIn (d + 1) t .nilIface (.iface u q)).run P w = .ok false w := by
  simp [Op.equalIn, run_und hu]
theorem eqi_ifc3 {x : Array (String × TypeId)} (hu : P.underlying t = some (.interface x)) (u : TypeId) (q : Value) : (Op.equalIn (d + 1) t (.iface u q) .nilIface).run P w = .ok false w := by
  simp [Op.equalIn, run_und hu]
theorem eqi_int {k0 k : IntKind} (hu : P.underlying t = some (.int k0)) (x y : Int) : (Op.equalIn (d + 1) t (.int k x) (.int k y)).run P w = .ok (x == y) w := by
  simp [Op.equalIn, run_und hu]
theorem eqi_str (hu : P.underlying t = some .string) (x y : ByteArray) : (Op.equalIn (d + 1) t (.string x) (.string y)).run P w = .ok (x == y) w := by
  simp [Op.equalIn, run_und hu]
theorem eqi_bool (hu : P.underlying t = some .bool) (x y : Bool) : (Op.equalIn (d + 1) t (.bool x) (.bool y)).run P w = .ok (x == y) w := by
  simp [Op.equalIn, run_und hu]
end eqs

theorem equal_depth (P : Program) (t : TypeId) (X Y : Value) (b : Bool) (w : World) (h : ∀ d, 40 ≤ d + 1 → (Op.equalIn (d + 1) t X Y).run P w = .ok b w) : (Op.equal t X Y).run P w = .ok b w :=
  h 9999 (by omega)

/-- two values of a kind are held against each other -/
theorem run_eqAV {t : TypeId} {sh : EqSh} (hsh : ckSh P t sh = true) {x y : AV} {X Y : Value} (hx : Rv K m x X) (hy : Rv K m y Y) {b : Bool} (hb : eqAV sh x y = some b) (w : World) :
    (Op.equal t X Y).run P w = .ok b w := by
  refine equal_depth P t X Y b w fun md hle => ?_
  unfold eqAV at hb
  split at hb
  · rename_i k p k' q
    cases hx; cases hy
    obtain ⟨k0, hu⟩ := isInt_und hsh
    cases hk : kindEq k k' with
    | false => simp [hk] at hb
    | true =>
      have := kindEq_eq hk; subst this
      simp only [hk, cond_true, Option.some.injEq] at hb; subst hb
      exact eqi_int md hu p q
  · cases hx with
    | str hx => cases hy with
      | str hy =>
        simp only [Option.some.injEq] at hb; subst hb
        rw [eqi_str md (isStr_und hsh), str_eq hx hy]
  · cases hx; cases hy
    simp only [Option.some.injEq] at hb; subst hb
    simp only [ckSh] at hsh
    split at hsh
    · rename_i hu
      exact eqi_bool md hu _ _
    · cases hsh
  · rename_i l xs ys
    cases hx with
    | agg hx => cases hy with
      | agg hy =>
        rename_i vx vy
        simp only [ckSh] at hsh
        have key : ∀ A, l = A ++ [] → FlatOk P 40 t A → (∀ vs : List Value, mkV P t vs = .agg vs.toArray) → (Op.equalIn (md + 1) t (.agg vx) (.agg vy)).run P w = .ok b w := by
          intro A hl hA hmk
          rw [List.append_nil] at hl; subst hl
          have := hA.eq (md + 1) w K m xs ys vx.toList vy.toList b hle hx hy hb
          rw [hmk, hmk] at this
          exact this
        split at hsh
        · rename_i fs hu
          simp only [Bool.and_eq_true] at hsh
          split at hsh
          · rename_i hf
            obtain ⟨A, hl, hA⟩ := (flat_spec (P := P) 40).1 t l [] hf
            exact key A hl hA fun vs => by simp only [mkV, hu]
          · simp at hsh
        · rename_i c0 e0 hu
          simp only [Bool.and_eq_true] at hsh
          split at hsh
          · rename_i hf
            obtain ⟨A, hl, hA⟩ := (flat_spec (P := P) 40).1 t l [] hf
            exact key A hl hA fun vs => by simp only [mkV, hu]
          · simp at hsh
        · cases hsh
  all_goals first
    | (simp only [ckSh] at hsh
       split at hsh
       · rename_i hu
         cases hx <;> cases hy <;> (simp only [Option.some.injEq] at hb; subst hb) <;> first
           | exact eqi_ptr1 md hu _
           | exact eqi_ptr2 md hu _
           | exact eqi_sl1 md hu _ _ _ _ _
           | exact eqi_sl2 md hu _ _ _ _ _
           | exact eqi_fn1 md hu
           | exact eqi_fn2 md hu _ _ _
           | exact eqi_fn3 md hu _ _ _
           | exact eqi_ifc1 md hu
           | exact eqi_ifc2 md hu _ _
           | exact eqi_ifc3 md hu _ _
       · cases hsh)
    | (obtain ⟨k0, e0, hu⟩ := isMap_und hsh
       cases hx <;> cases hy <;> (simp only [Option.some.injEq] at hb; subst hb) <;> first
         | exact eqi_mp1 md hu _
         | exact eqi_mp2 md hu _)
    | cases hb

section guards
variable {t : TypeId} {bop : BinOp} {ox oy : Operand}
theorem guard_int (k k' : IntKind) (x y : Int) : (eqGuard bop t ox oy (.int k x) (.int k' y)).run P w = .ok () w := by cases bop <;> simp [eqGuard]
theorem guard_str (x y : ByteArray) : (eqGuard bop t ox oy (.string x) (.string y)).run P w = .ok () w := by cases bop <;> simp [eqGuard]
theorem guard_bool (x y : Bool) : (eqGuard bop t ox oy (.bool x) (.bool y)).run P w = .ok () w := by cases bop <;> simp [eqGuard]
theorem guard_ptr (x y : Option Addr) : (eqGuard bop t ox oy (.pointer x) (.pointer y)).run P w = .ok () w := by cases bop <;> simp [eqGuard]
theorem guard_sl (x y : Option Addr) (i j k l : Nat) : (eqGuard bop t ox oy (.slice x i j) (.slice y k l)).run P w = .ok () w := by cases bop <;> simp [eqGuard]
theorem guard_mp (x y : Option Nat) : (eqGuard bop t ox oy (.map x) (.map y)).run P w = .ok () w := by cases bop <;> simp [eqGuard]
theorem guard_fn1 : (eqGuard bop t ox oy .nilFunc .nilFunc).run P w = .ok () w := by cases bop <;> simp [eqGuard]
theorem guard_fn2 (f : Fn) (p q : Array Value) : (eqGuard bop t ox oy .nilFunc (.func f p q)).run P w = .ok () w := by cases bop <;> simp [eqGuard]
theorem guard_fn3 (f : Fn) (p q : Array Value) : (eqGuard bop t ox oy (.func f p q) .nilFunc).run P w = .ok () w := by cases bop <;> simp [eqGuard]
theorem guard_ifc2 (u : TypeId) (q : Value) : (eqGuard bop t ox oy .nilIface (.iface u q)).run P w = .ok () w := by cases bop <;> simp [eqGuard]
theorem guard_ifc3 (u : TypeId) (q : Value) : (eqGuard bop t ox oy (.iface u q) .nilIface).run P w = .ok () w := by cases bop <;> simp [eqGuard]
theorem guard_agg (xs ys : Array Value) (hg : P.eqGuardType P.depth t = false) : (eqGuard bop t ox oy (.agg xs) (.agg ys)).run P w = .ok () w := by cases bop <;> simp [eqGuard, hg]
theorem guard_ifc1 (hn : isConstNil ox = true ∨ isConstNil oy = true ∨ noMethods P t = true) : (eqGuard bop t ox oy .nilIface .nilIface).run P w = .ok () w := by
  rcases hn with h1 | h1 | h1
  · have : ox = .const .nilIface := by
      unfold isConstNil at h1
      split at h1 <;> first | rfl | cases h1
    subst this
    cases bop <;> simp [eqGuard]
  · have : oy = .const .nilIface := by
      unfold isConstNil at h1
      split at h1 <;> first | rfl | cases h1
    subst this
    cases bop <;> simp [eqGuard]
  · unfold noMethods at h1
    split at h1
    · rename_i ms hu
      have hgi : (Op.eqGuardIn Op.maxDepth t .nilIface .nilIface).run P w = .ok false w := by
        obtain ⟨md, hd⟩ : ∃ d, Op.maxDepth = d + 1 := ⟨9999, rfl⟩
        rw [hd]
        simp only [Op.eqGuardIn, Sem.run_bind, run_und hu, Result.andThen_ok, Sem.run_pure, h1]
        rfl
      cases bop <;> simp [eqGuard, hgi]
    · cases h1
end guards

/-- ahead of it nothing is asked -/
theorem run_eqGuard {t : TypeId} {sh : EqSh} (hsh : ckSh P t sh = true) {bop : BinOp} {x y : AV} {X Y : Value} {ox oy : Operand} (hx : Rv K m x X) (hy : Rv K m y Y) {b : Bool}
    (hb : eqAV sh x y = some b) (hn : sh = .ifc → isConstNil ox = true ∨ isConstNil oy = true ∨ noMethods P t = true) (w : World) :
    (eqGuard bop t ox oy X Y).run P w = .ok () w := by
  unfold eqAV at hb
  split at hb
  case h_4 =>
    cases hx with
    | agg hx => cases hy with
      | agg hy =>
        simp only [ckSh] at hsh
        have hg : P.eqGuardType P.depth t = false := by
          split at hsh
          · simp only [Bool.and_eq_true, Bool.not_eq_true'] at hsh; exact hsh.1
          · simp only [Bool.and_eq_true, Bool.not_eq_true'] at hsh; exact hsh.1
          · cases hsh
        exact guard_agg _ _ hg
  all_goals first
    | (cases hx <;> cases hy <;> first
        | exact guard_int _ _ _ _
        | exact guard_str _ _
        | exact guard_bool _ _
        | exact guard_ptr _ _
        | exact guard_sl _ _ _ _ _ _
        | exact guard_mp _ _
        | exact guard_fn1
        | exact guard_fn2 _ _ _
        | exact guard_fn3 _ _ _
        | exact guard_ifc2 _ _
        | exact guard_ifc3 _ _
        | exact guard_ifc1 (hn rfl))
    | cases hb

theorem ok_eqc (r : Rel P K m h w) (he : REnv K m n e a) {neg : Bool} {sh : EqSh} {x y : DO} (ho : okIns P o.op (.eqc neg sh x y) = true)
    (hs : step call e h (.eqc neg sh x y) = .ok v h') : StepOk P (execOp a.eval o) K m h w v h' := by
  obtain ⟨dst, op, ty, pos, after, guard⟩ := o
  simp only [okIns] at ho
  split at ho
  · rename_i bop t X Y ty2
    simp only [Bool.and_eq_true, beq_iff_eq] at ho
    obtain ⟨⟨⟨⟨hop, hsh⟩, ho1⟩, ho2⟩, hc⟩ := ho
    simp only [step] at hs
    cases hq : eqAV sh (x.ev e) (y.ev e) with
    | none => simp [hq, Res.of] at hs
    | some b =>
      simp only [hq, Option.map_some, Res.of, Res.ok.injEq] at hs
      obtain ⟨rfl, rfl⟩ := hs
      have hx := he.eval ho1
      have hy := he.eval ho2
      have heq := run_eqAV (P := P) hsh hx hy hq w
      have hg := run_eqGuard (P := P) (bop := bop) (ox := X) (oy := Y) hsh hx hy hq (fun h => by
        subst h
        simp only [Bool.or_eq_true] at hc
        rcases hc with (h1 | h1) | h1
        · exact .inl h1
        · exact .inr (.inl h1)
        · exact .inr (.inr h1)) w
      refine .val r (x := .bool (b != neg)) ?_ .bool
      simp only [execOp, Sem.run_bind, hg, Result.andThen_ok, Sem.run_pure]
      have hbin : (Go.binOp bop t (a.eval X) (a.eval Y)).run P w = .ok (.bool (b != neg)) w := by
        generalize a.eval X = VX at *
        generalize a.eval Y = VY at *
        generalize hxe : x.ev e = xv at *
        generalize hye : y.ev e = yv at *
        unfold eqAV at hq
        split at hq
        · rename_i k p k' q
          cases hx; cases hy
          cases hk : kindEq k k' with
          | false => simp [hk] at hq
          | true =>
            have := kindEq_eq hk; subst this
            simp [hk] at hq; subst hq
            cases neg <;> subst hop <;> simp [binOp, Op.intCmp, bne]
        · rename_i s1 s2
          cases hx with
          | str hx => cases hy with
            | str hy =>
              simp only [Option.some.injEq] at hq; subst hq
              have hbq := str_eq hx hy
              rw [beq_toListBytes] at hbq
              cases neg <;> subst hop <;> simp [binOp, Op.stringOp, hbq]
        all_goals first
          | (cases hx <;> cases hy <;> cases neg <;> subst hop <;> simp [binOp, heq]; done)
          | cases hq
      rw [hbin]
      simp
  · simp at ho
end
end Go.D
