/-
  The law 'framesBack' returns true for every list of acts and every list of words, whatever lies in memory, and every argument reads behind the call as it read before.
  Conditions: none.
-/
import Derived.Test.YtgdenjkiblpnpaaGreatRows
import Derived.Test.YtgdenjkiblpnpaaGreatGC
import Derived.Test.YtgdenjkiblpnpaaGreatGK
import Derived.Test.YtgdenjkiblpnpaaGreatGJ
import Derived.WalkKit
import Derived.ProofKit
import Derived.OpenShut
import Derived.WideKeyArgs
namespace Go.Proofs.YtgdenjkiblpnpaaGreat.framesBack
open Go.ChangeShapes Go.WideShapes Go.ChangeAt Go.RowKit Go.D Go.D.FB
set_option maxRecDepth 100000
set_option linter.unusedVariables false

theorem own : ownKnob Tryz.prog.godebug = none := by kernel_rfl
theorem laid : laidOutB Tryz.prog = true := by kernel_rfl
theorem r22 : Tryz.prog.readableRec 22 = true := by kernel_rfl
theorem r23 : Tryz.prog.readableRec 23 = true := by kernel_rfl
theorem b22 : 22 < Tryz.prog.types.size := of_decide_eq_true (by kernel_rfl)
theorem b23 : 23 < Tryz.prog.types.size := of_decide_eq_true (by kernel_rfl)
theorem c3 : Tryz.prog.cellsOf 3 = 1 := by kernel_rfl
theorem c23 : Tryz.prog.cellsOf 23 = 1 := by kernel_rfl
theorem c34 : Tryz.prog.cellsOf 34 = 1 := by kernel_rfl
theorem c36 : Tryz.prog.cellsOf 36 = 5 := by kernel_rfl

set_option maxRecDepth 100000 in
theorem lifted (os : Os) (started : os.Started) (H : Type) (enc : TypeId × Value → H) :
    ReturnsInHanded {} Tryz.checked os 3 .any (Rows.framesBackSpec.pre6 enc Tryz.prog Tryz.f3 Rows.framesBackRow.domain false) (Rows.framesBackSpec.post enc Tryz.prog Tryz.f3 false true false false) := by
  refine returnsInHanded_of_change (C := Tryz.checked) own started (by kernel_rfl) Tryz.func3
    (ChangeSpec.witness6 (enc := enc) (C := Tryz.checked) false ⟨#[], #[.slice none 0 0, .slice none 0 0], []⟩ 8 (by kernel_rfl) (by kernel_rfl) (by kernel_rfl) (by kernel_rfl)) ?_
  intro W base args ds gs before hval0 hW hcnd _
  have hval : ∀ (j : Nat) t v, Tryz.f3.params[j]? = some t → args[j]? = some v → Value.okWide Tryz.prog W .any base t v := hval0
  have hW' := hW
  have hlt : ∀ p ∈ before, p.block < W.heap.size := DataW.Whole.lt hW
  obtain ⟨p, q, hA0, hV, rfl, hfz, hnd⟩ := hW
  have hA : DataW.TrodAll enc Tryz.prog W 0 (fun _ => true) true Tryz.f3.params.toList args.toList ds p := hA0
  rw [Tryz.params3] at hA hval
  obtain ⟨v0, vs0, d0, ds0, p0, q0, hargs, rfl, rfl, h0, r0⟩ := trodAll_cons hA
  obtain ⟨v1, vs1, d1, ds1, p1, q1, rfl, rfl, rfl, h1, r1⟩ := trodAll_cons r0
  obtain ⟨rfl, rfl, rfl⟩ := trodAll_nil r1
  obtain rfl : args = #[v0, v1] := by cases args; simp_all
  obtain ⟨rfl, rfl⟩ := trodVars_none hV
  clear hA0 hval0
  simp only [List.append_nil] at hW' hlt
  obtain ⟨n0, g0⟩ := h0
  obtain ⟨n1, g1⟩ := h1
  obtain ⟨x0, la, acts, e0, ia, iw, rv0⟩ := open_acts Tryz.underlying22 Tryz.underlying36 c36 rfl rfl rfl rfl rfl c3 c3 c3 c34 c23 Tryz.underlying3 Tryz.underlying3 Tryz.underlying3 Tryz.underlying34 Tryz.underlying23 Tryz.underlying34 c34 g0
  obtain ⟨x1, wa, ws, e1, iv, rv1⟩ := open_words Tryz.underlying23 Tryz.underlying34 c34 g1
  have hx0 : v0 = x0 := by
    have := hval 0 22 v0 rfl rfl
    cases v0 <;> first | simpa [Value.cells] using e0 | simp [Value.okWide, Tryz.underlying22, Cell.okWide, Cell.ok] at this
  have hx1 : v1 = x1 := by
    have := hval 1 23 v1 rfl rfl
    cases v1 <;> first | simpa [Value.cells] using e1 | simp [Value.okWide, Tryz.underlying23, Cell.okWide, Cell.ok] at this
  subst hx0 hx1
  refine (calls_read Tryz.checked.mixed tabOk (vals := #[v0, v1]) (.cons rv0 (.cons rv1 .nil)) (law_all ia iw iv)).mono fun e W' ⟨he, hg⟩ => ?_
  subst he
  have hs0 : ∀ x ∈ p0, W.sameAt W' x := fun x hx => hg.sameAt (hlt x (by simp [hx]))
  have hs1 : ∀ x ∈ p1, W.sameAt W' x := fun x hx => hg.sameAt (hlt x (by simp [hx]))
  exact ⟨_, rfl, post_kept (pv := []) hW' (fun _ _ _ => (trodAll_cons_mk (shut_bool Tryz.underlying4 _) trodAll_mk0))
    (fun sp hsp => (trodAll_cons_mk (Go.WideElems.Trod_stays laid r22 b22 ⟨n0, g0⟩ hs0 fun x hx => hsp x (by simp [hx])) (trodAll_cons_mk (Go.WideElems.Trod_stays laid r23 b23 ⟨n1, g1⟩ hs1 fun x hx => hsp x (by simp [hx])) trodAll_mk0)))
    (fun _ _ => rfl) (by simp) hg (ok_one (by kernel_rfl) rfl (okWide_bool_mk Tryz.underlying4 _))⟩

theorem over : Rows.framesBackRow.holds Tryz.pinned (OpenSpec.ofChange Rows.framesBackSpec) :=
  OpenClaim.holds_of_wide 3 Tryz.f3 rfl rfl rfl rfl rfl rfl rfl ⟨rfl, rfl, rfl, rfl, rfl⟩ rfl rfl rfl rfl rfl (by kernel_rfl) Tryz.func3 facts
    (of_decide_eq_true (by kernel_rfl)) (by unfold Func.isWrapper; first | (rw [if_pos (by decide +kernel)]; kernel_rfl) | (rw [if_neg (by decide +kernel)]; exact ⟨rfl, rfl⟩))
    (fun os started H enc _ => lifted os started H enc)

/-- ████ THE STATEMENT ████ -/
theorem proved : Rows.FramesBackSaid :=
  over
end Go.Proofs.YtgdenjkiblpnpaaGreat.framesBack
