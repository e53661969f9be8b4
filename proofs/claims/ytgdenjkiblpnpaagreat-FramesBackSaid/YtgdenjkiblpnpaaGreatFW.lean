/-
  The law FramesBack at the abstract evaluator: its functions, stepped through once each.
-/
import Derived.Test.YtgdenjkiblpnpaaGreatFX4
import Derived.Test.YtgdenjkiblpnpaaGreatFV
set_option linter.unusedSimpArgs false
set_option linter.unusedVariables false
namespace Go.D.FB
open Go.D
set_option maxRecDepth 100000
theorem mem_of {r : Res AV} (h : memOk r = true) : ∃ bm bw HM f, r = .ok (.ptr bm 0 0) HM ∧ MemAt HM bm bw ∧ WordsAt HM bw 16396 f ∧ bm < HM.next ∧ bw < HM.next ∧ bm ≠ bw := by
  unfold memOk at h
  split at h
  · rename_i bm g
    split at h
    · rename_i bw _ _ _ _ _ rest hb
      rw [Bool.and_eq_true, Bool.and_eq_true, Bool.and_eq_true] at h
      obtain ⟨⟨⟨h1, h2⟩, h3⟩, h4⟩ := h
      split at h4
      · rename_i op t hc
        refine ⟨bm, bw, g, fun i => u64Of (t.get? i), rfl, ⟨_, _, _, _, _, _, hb⟩, ⟨op, _, hc, rfl, fun i hi => ?_⟩, by simpa using h2, by simpa using h3, fun hh => by
          subst hh
          simp at h1⟩
        have hb2 : Nat.ble 16396 i = false := by
          rw [Bool.eq_false_iff]; intro hh; rw [Nat.ble_eq] at hh; omega
        simp only [Ct.get?, hb2, cond_false]
        cases hg : t.get? i with
        | none => simp [u64Of]
        | some x =>
          have hx := allTr_get h4 hg
          unfold isU64 at hx
          split at hx
          · simp [u64Of]
          · cases hx
      · cases h4
    · cases h
  · cases h
theorem law_all {la wa : AV} {as : List Act} {ws : List Int} (ha : ImmA la as) (hi : ∀ a ∈ as, ImmW a.v a.ws) (hw : ImmW wa ws) : (callF tabT.get? 2000 60 (.fn 3) [la, wa] .empty).isTrue = true := by
  obtain ⟨hk, hwk⟩ := Res.isTrue_spec wk
  obtain ⟨bm, bw, HM, f, hmm, h1, h2, h3, h4, h5⟩ := mem_of mk
  obtain ⟨h', q⟩ := law_spec (d := 54) ha hi hw (by omega) hwk hmm h1 h2 h3 h4 h5
  rw [q]; rfl
end Go.D.FB
