/-
  The examples of the law hold, and the memory is made: two runs of the evaluator.
-/
import Derived.Test.YtgdenjkiblpnpaaGreatFT
set_option linter.unusedSimpArgs false
set_option linter.unusedVariables false
namespace Go.D.FB
open Go.D
set_option maxRecDepth 100000
/-- all that a tree holds -/
def allTr {α : Type} (p : α → Bool) : Tr α → Bool
  | .lf => true
  | .nd v l r => (match v with
    | some x => p x
    | none => true) && allTr p l && allTr p r
theorem allTr_get {α : Type} {p : α → Bool} {x : α} : ∀ {t : Tr α} {k : Nat}, allTr p t = true → t.get? k = some x → p x = true
  | .lf, k, _, h => by simp [Tr.get?] at h
  | .nd v l r, 0, ha, h => by
    simp only [Tr.get?] at h
    subst h
    simp only [allTr, Bool.and_eq_true] at ha
    exact ha.1.1
  | .nd v l r, k + 1, ha, h => by
    simp only [Tr.get?] at h
    simp only [allTr, Bool.and_eq_true] at ha
    cases hb : Nat.beq (k % 2) 0 with
    | true => rw [hb, cond_true] at h; exact allTr_get ha.1.2 h
    | false => rw [hb, cond_false] at h; exact allTr_get ha.2 h
def isU64 : List AV → Bool
  | [.int .u64 _] => true
  | _ => false
def u64Of : Option (List AV) → Int
  | some [.int .u64 x] => x
  | _ => 0
/-- a memory such as 'memory()' makes -/
def memOk : Res AV → Bool
  | .ok (.ptr bm 0 0) h => match h.get bm with
    | some (.cells 8 false (.list [.slice 1 bw 0 16396 (some 16396) :: _ :: _ :: _ :: _ :: _ :: .int .u64 12 :: _])) => !(Nat.beq bm bw) && Nat.blt bm h.next && Nat.blt bw h.next && match h.get bw with
      | some (.cells 1 _ (.tree 16396 [.int .u64 0] t)) => allTr isU64 t
      | _ => false
    | _ => false
  | _ => false
theorem wk : (callF tabT.get? 2000 59 (.fn 5) [] .empty).isTrue = true := by decide +kernel
theorem mk : memOk (callF tabT.get? 2000 59 (.fn 7) [] .empty) = true := by decide +kernel
end Go.D.FB
