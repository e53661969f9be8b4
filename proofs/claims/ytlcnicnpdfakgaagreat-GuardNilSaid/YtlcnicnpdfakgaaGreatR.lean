/-
  The examples of the law hold: one run of the evaluator.
-/
import Derived.Test.YtlcnicnpdfakgaaGreatT
namespace Go.Proofs.YtlcnicnpdfakgaaGreat.guardNil
open Go.D
set_option maxRecDepth 100000
theorem w4 : (callF tabT.get? 1000 59 (.fn 4) [] .empty).isTrue = true := by decide +kernel
end Go.Proofs.YtlcnicnpdfakgaaGreat.guardNil
