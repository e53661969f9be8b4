/-
  The law's rest, at 32 of the 256 arguments.
-/
import Derived.Test.YtgdenjkiblpnpaaGreatT
namespace Go.Proofs.YtgdenjkiblpnpaaGreat.execNil
open Go.D
set_option maxRecDepth 100000
theorem s6 : (List.range' 192 32).all (fun i => (bodyF (callF tabT.get? 1000 59) tabT.get? 1000 d4b [.int .i8 (Int.ofNat i - 128)] .empty).isTrue) = true := by decide +kernel
end Go.Proofs.YtgdenjkiblpnpaaGreat.execNil
