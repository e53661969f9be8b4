/-
  The examples of the law hold: one run of the evaluator.
-/
import Derived.Test.YtgdenjkiblpnpaaGreatT
namespace Go.Proofs.YtgdenjkiblpnpaaGreat.execNil
open Go.D
set_option maxRecDepth 100000
theorem w : (callF tabT.get? 1000 59 (.fn 18) [] .empty).isTrue = true := by decide +kernel
end Go.Proofs.YtgdenjkiblpnpaaGreat.execNil
