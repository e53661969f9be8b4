/-
  The abstract evaluator 'D': tables of functions; a call out of an empty heap.
-/
import Derived.Test.YtgdenjkiblpnpaaGreatEI
import Derived.ChangeSame
namespace Go.D

/-- what a tree holds, with its places -/
def Tr.items {α : Type} : Tr α → Nat → Nat → List (Nat × α)
  | .lf, _, _ => []
  | .nd v l r, k, s => (match v with
    | some x => [(k, x)]
    | none => []) ++ (l.items (k + s) (2 * s) ++ r.items (k + 2 * s) (2 * s))

theorem Tr.get_items {α : Type} {x : α} : ∀ {t : Tr α} {j k s : Nat}, t.get? j = some x → (k + j * s, x) ∈ t.items k s
  | .lf, j, k, s, h => by simp [Tr.get?] at h
  | .nd v l r, 0, k, s, h => by
    simp only [Tr.get?] at h
    subst h
    simp [Tr.items]
  | .nd v l r, j + 1, k, s, h => by
    simp only [Tr.get?] at h
    simp only [Tr.items, List.mem_append]
    refine .inr ?_
    cases hb : Nat.beq (j % 2) 0 with
    | true =>
      rw [hb, cond_true] at h
      have := Tr.get_items (k := k + s) (s := 2 * s) h
      rw [nbeq, decide_eq_true_eq] at hb
      refine .inl ?_
      have e : k + s + j / 2 * (2 * s) = k + (j + 1) * s := by
        have h1 : j = 2 * (j / 2) := by omega
        rw [show (j + 1) * s = (2 * (j / 2) + 1) * s from by rw [← h1]]
        generalize j / 2 = q
        rw [Nat.add_mul, Nat.one_mul, show q * (2 * s) = 2 * q * s from by rw [← Nat.mul_assoc, Nat.mul_comm q 2]]
        omega
      rw [← e]; exact this
    | false =>
      rw [hb, cond_false] at h
      have := Tr.get_items (k := k + 2 * s) (s := 2 * s) h
      rw [nbeq, decide_eq_false_iff_not] at hb
      refine .inr ?_
      have e : k + 2 * s + j / 2 * (2 * s) = k + (j + 1) * s := by
        have h1 : j = 2 * (j / 2) + 1 := by omega
        rw [show (j + 1) * s = (2 * (j / 2) + 1 + 1) * s from by rw [← h1]]
        generalize j / 2 = q
        rw [show q * (2 * s) = 2 * q * s from by rw [← Nat.mul_assoc, Nat.mul_comm q 2]]
        rw [Nat.add_mul, Nat.add_mul, Nat.one_mul]
        omega
      rw [← e]; exact this

def okAt (P : Program) (f : Nat) (d : DFunc) : Bool := match P.funcs[f]? with
  | some fn => fn.body.isSome && okFunc P fn d && !(fn.name == "runtime.NumGoroutine")
  | none => false

theorem tabOk_of {P : Program} {T : Tr DFunc} (h : (T.items 0 1).all (fun p => okAt P p.1 p.2) = true) : TabOk P T.get? := by
  intro f d hf
  have := List.all_eq_true.1 h _ (Tr.get_items (k := 0) (s := 1) hf)
  simp only [Nat.zero_add, Nat.mul_one] at this
  unfold okAt at this
  split at this
  · rename_i fn hfn
    simp only [Bool.and_eq_true, Bool.not_eq_true', Option.isSome_iff_exists] at this
    obtain ⟨⟨⟨c, hc⟩, h2⟩, h3⟩ := this
    exact ⟨fn, c, hfn, hc, h2, h3⟩
  · cases this

/-- the answer of a call -/
def Res.isTrue : Res AV → Bool
  | .ok (.bool true) _ => true
  | _ => false

theorem Res.isTrue_spec {r : Res AV} (h : r.isTrue = true) : ∃ h', r = .ok (.bool true) h' := by
  cases r with
  | ok v h' =>
    cases v with
    | bool b => cases b with
      | true => exact ⟨h', rfl⟩
      | false => cases h
    | _ => cases h
  | _ => cases h

/-- nothing that is alive stands for anything -/
def noMm : Mm := fun _ => none
def noKm : Km := fun _ => none

theorem rel_empty {P : Program} {w : World} : Rel P noKm noMm .empty w where
  ob := fun b o _ L hL => by cases hL
  inj := fun b b' L L' h => by cases h
  dom := fun b L h => by cases h
  fresh := fun b _ => by
    cases b <;> rfl
  imm := fun c row h => by cases h
  dis := fun b L h => by cases h

theorem kept_of_ext {K' : Km} {m' : Mm} {h' : Heap} {w w' : World} (h : Ext noKm noMm .empty w K' m' h' w') : w.keptBut w' (fun _ => False) := by
  refine ⟨h.os, h.output, fun i hi => ?_⟩
  rw [h.frame i hi fun b L hb => by cases hb]
  cases w.heap[i]? with
  | none => rfl
  | some o => cases o <;> first | exact ⟨rfl, rfl, rfl, fun _ _ => rfl⟩ | exact .inr ⟨rfl, rfl⟩ | rfl

/-- a call that the evaluator answers with 'true', out of an empty heap -/
theorem calls_true {P : Program} (hm : P.follows .mixedOrders = true) {T : Tr DFunc} (ht : (T.items 0 1).all (fun p => okAt P p.1 p.2) = true) {L d f : Nat} {args : List AV} {vals : Array Value} (hv : RvL noKm noMm args vals.toList)
    (hr : (callF T.get? L d (.fn f) args .empty).isTrue = true) (W : World) : Calls P f vals W fun e w' => e = .returned (.bool true) ∧ W.keptBut w' (fun _ => False) := by
  obtain ⟨h', hr⟩ := Res.isTrue_spec hr
  have h1 := (callD_ok hm (tabOk_of ht) L d).fn (f := f) (w := W) rel_empty hv (by rw [hr]; intro hh; cases hh)
  refine (callsIn_wide.1 h1.2).mono fun e w' hp => ?_
  rw [hr] at hp
  cases e with
  | returned x =>
    obtain ⟨v, h2, K', m', he, hx, _, hext⟩ := hp
    cases he
    cases hx
    exact ⟨rfl, kept_of_ext hext⟩
  | panicked c =>
    obtain ⟨v, h2, K', m', x, he, _⟩ := hp
    cases he
  | outgrown => exact hp.elim

section
open Go.WideShapes Go.ChangeShapes
variable {H : Type} {enc : TypeId × Value → H} {P : Program}
/-- what a call leaves that touched nothing that was there, where no argument leads anywhere -/
theorem post_nil {f : Func} {s : ChangeSpec} {apart fresh handsOn again : Bool} {W W' : World} {args : Array Value} {v : Value} {ds gs : List (DataW H)}
    (hW : DataW.Whole enc P f.params.toList s.vars apart W args.toList ds gs [])
    (hres : ∀ (b : Nat) (sp : Nat → Bool) (hd : Bool), DataW.TrodAll enc P W' b sp hd f.resultTypes.toList (v.resultList f.resultTypes.size) (s.fn H (ds ++ gs)).results [])
    (hargs : ∀ sp : Nat → Bool, DataW.TrodAll enc P W' 0 sp true f.params.toList args.toList (s.fn H (ds ++ gs)).args [])
    (hvars : ∀ sp : Nat → Bool, DataW.TrodVars enc P W' sp s.vars (s.fn H (ds ++ gs)).vars [])
    (hk : W.keptBut W' (fun _ => False))
    (hok : ∀ (j : Nat) (t : TypeId) (r : Value), f.resultTypes[j]? = some t → (v.resultList f.resultTypes.size)[j]? = some r → Value.okWide P W' .any 0 t r) :
    s.post enc P f apart fresh handsOn again W args v W' := by
  refine ⟨ds, gs, [], [], [], [], hW, hres _ _ _, hargs _, hvars _, World.keptBut_mono (fun _ hp => hp.elim) hk, fun _ => ?_⟩
  refine ⟨hok, _, _, [], ⟨[], [], trodAll_append (hargs _) (hres _ _ _), hvars _, rfl, fun b off hp => ?_, fun _ => ?_⟩, fun p hp => ?_⟩
  · cases hp
  · exact List.nodup_nil
  · cases hp
end
end Go.D
