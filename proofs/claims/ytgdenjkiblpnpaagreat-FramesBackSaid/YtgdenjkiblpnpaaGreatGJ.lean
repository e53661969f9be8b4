/-
  The closed facts of the row, in pieces, so that no one of them outgrows the kernel's memory.
-/
import Derived.Test.YtgdenjkiblpnpaaGreatRows
import Derived.WalkKit
import Derived.ProofKit
import Derived.OpenShut
namespace Go.Proofs.YtgdenjkiblpnpaaGreat.framesBack
open Go.ChangeShapes Go.WideShapes Go.ChangeAt Go.RowKit
    theorem k0 : (Rows.framesBackRow.wf (OpenSpec.ofChange Rows.framesBackSpec)) = true := by kernel_rfl
theorem k1 : (laidOutB Tryz.prog) = true := by kernel_rfl
theorem k2 : (mapsRowed Tryz.prog) = true := by kernel_rfl
theorem k3 : (Tryz.f3.params.all (Tryz.prog.readableRec ·)) = true := by kernel_rfl
theorem k4 : (namedTie Tryz.prog Rows.framesBackRow.named Rows.framesBackSpec.vars) = true := by kernel_rfl
theorem k5 : ((Rows.framesBackRow.stops == [])) = true := by kernel_rfl
theorem k6 : ((Tryz.prog.stops == [])) = true := by kernel_rfl
theorem k7 : ((Rows.framesBackRow.knobs == [])) = true := by kernel_rfl
theorem k8 : ((Tryz.prog.stopKnobs == [])) = true := by kernel_rfl
theorem k9 : ((Rows.framesBackRow.inPlace == Tryz.prog.inPlace 3)) = true := by kernel_rfl
theorem k10 : ((Rows.framesBackRow.unfollowed == Tryz.prog.unfollowed 3)) = true := by kernel_rfl
theorem k11 : ((Rows.framesBackRow.recurses == Tryz.prog.recurses 3)) = true := by kernel_rfl
theorem k12 : ((Rows.framesBackRow.named == Tryz.prog.varsNamed 3)) = true := by kernel_rfl
theorem facts : joinedFacts Tryz.prog 3 Tryz.f3 Rows.framesBackSpec Rows.framesBackRow = true := by
      unfold joinedFacts
      rw [k0, k1, k2, k3, k4, k5, k6, k7, k8, k9, k10, k11, k12]
      simp only [Bool.true_and]
      kernel_rfl
end Go.Proofs.YtgdenjkiblpnpaaGreat.framesBack
