/-
  The abstract evaluator 'D': instructions that call nobody, one by one (second part).
-/
import Derived.Test.YtgdenjkiblpnpaaGreatDH
namespace Go.D
section
variable {P : Program} {K : Km} {m : Mm} {h h' : Heap} {w : World} {v : AV} {n : Nat} {e : Env} {a : Act} {o : Oper} {call : Caller}

theorem natsLess_eq (x y : List UInt8) : Op.bytesLess x y = natsLess (x.map UInt8.toNat) (y.map UInt8.toNat) := by
  induction x generalizing y with
  | nil => cases y <;> rfl
  | cons a x ih =>
    cases y with
    | nil => rfl
    | cons b y =>
      simp only [Op.bytesLess, List.map_cons, natsLess, ih]
      have h1 : decide (a < b) = Nat.blt a.toNat b.toNat := by
        rw [nblt]
        simp [UInt8.lt_iff_toNat_lt]
      have h2 : (a == b) = Nat.beq a.toNat b.toNat := by
        rw [nbeq, Bool.eq_iff_iff, beq_iff_eq, decide_eq_true_iff]
        exact UInt8.toNat_inj.symm
      rw [h1, h2]

theorem run_arith {op : BinOp} {x y v : AV} {X Y : Value} (hx : Rv K m x X) (hy : Rv K m y Y) (hv : arith op x y = some v) (t : TypeId) (ox oy : Operand) (w : World) :
    ∃ z, ((do eqGuard op t ox oy X Y; Go.binOp op t X Y : Sem Value)).run P w = .ok z w ∧ Rv K m v z := by
  unfold arith at hv
  split at hv
  · rename_i k p yk q
    cases hx; cases hy
    cases op
    case shl =>
      cases hq : decide (q < 0) with
      | true => simp [hq] at hv
      | false =>
        simp only [hq, cond_false, Option.some.injEq] at hv; subst hv
        simp only [decide_eq_false_iff_not] at hq
        exact ⟨_, by simp [eqGuard, binOp, Op.shift, hq] <;> rfl, .int⟩
    case shr =>
      cases hq : decide (q < 0) with
      | true => simp [hq] at hv
      | false =>
        simp only [hq, cond_false, Option.some.injEq] at hv; subst hv
        simp only [decide_eq_false_iff_not] at hq
        exact ⟨_, by simp [eqGuard, binOp, Op.shift, hq] <;> rfl, .int⟩
    all_goals
      simp only at hv
      cases hk : kindEq k yk with
      | false => simp [hk] at hv
      | true =>
        have := kindEq_eq hk; subst this
        simp only [hk, cond_true] at hv
        first
          | (simp only [Option.some.injEq] at hv; subst hv
             exact ⟨_, by simp [eqGuard, binOp, Op.intArith, Op.intCmp] <;> rfl, by first | exact .int | exact .bool⟩)
          | (cases hq : decide (q = 0) with
             | true => simp [hq] at hv
             | false =>
               simp only [hq, cond_false, Option.some.injEq] at hv; subst hv
               simp only [decide_eq_false_iff_not] at hq
               exact ⟨_, by simp [eqGuard, binOp, Op.intDiv, hq] <;> rfl, .int⟩)
          | (simp only [intBits, Option.map_some, Option.some.injEq] at hv; subst hv
             exact ⟨_, by simp [eqGuard, binOp, Op.intBits] <;> rfl, .int⟩)
  · rename_i s1 s2
    cases hx with
    | str hx => cases hy with
      | str hy =>
        rename_i X Y
        have hb : (X.toList == Y.toList) = natsEq s1 s2 := by rw [← beq_toListBytes]; exact str_eq hx hy
        have hl : Op.bytesLess X.toList Y.toList = natsLess s1 s2 := by rw [ByteArray.toList_eq, ByteArray.toList_eq, natsLess_eq, hx, hy]
        cases op
        case add =>
          simp only at hv
          cases hq : Nat.ble (s1.length + s2.length) 9223372036854775807 with
          | false => simp [hq] at hv
          | true =>
            simp only [hq, cond_true, Option.some.injEq] at hv; subst hv
            have hle := Nat.le_of_ble_eq_true hq
            have hsz : X.size = s1.length ∧ Y.size = s2.length := by
              rw [← hx, ← hy]; simp
            have hno : ¬ (((X.size + Y.size : Nat) : Int) > IntKind.i64.max) := by
              have : IntKind.i64.max = 9223372036854775807 := by decide
              omega
            refine ⟨.string (X ++ Y), ?_, .str ?_⟩
            · simp only [eqGuard, binOp, Op.stringOp, Sem.run_bind]
              rw [if_neg hno]
              simp
            · simp [← hx, ← hy]
        all_goals
          simp only [Option.some.injEq, reduceCtorEq] at hv
        all_goals
          subst hv
          exact ⟨_, by simp [eqGuard, binOp, Op.stringOp, hb, hl] <;> rfl, .bool⟩
  · cases hv

theorem ok_ar (r : Rel P K m h w) (he : REnv K m n e a) {bop : BinOp} {x y : DO} (ho : okIns P o.op (.ar bop x y) = true) (hs : step call e h (.ar bop x y) = .ok v h') :
    StepOk P (execOp a.eval o) K m h w v h' := by
  obtain ⟨dst, op, ty, pos, after, guard⟩ := o
  simp only [okIns] at ho
  split at ho
  · rename_i bop' t X Y ty2
    simp only [Bool.and_eq_true, beq_iff_eq] at ho
    obtain ⟨⟨rfl, ho1⟩, ho2⟩ := ho
    simp only [step] at hs
    cases ha : arith bop (x.ev e) (y.ev e) with
    | none => simp [ha, Res.of] at hs
    | some u =>
      simp only [ha, Res.of, Res.ok.injEq] at hs
      obtain ⟨rfl, rfl⟩ := hs
      obtain ⟨z, hz, hv⟩ := run_arith (P := P) (he.eval ho1) (he.eval ho2) ha t X Y w
      exact .val r (by simp only [execOp, Sem.run_bind] at hz ⊢; rw [hz]; simp) hv
  · simp at ho
end
end Go.D
