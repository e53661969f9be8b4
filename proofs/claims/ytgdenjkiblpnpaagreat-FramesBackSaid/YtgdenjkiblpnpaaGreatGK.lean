/-
  The evaluator's functions are the program's.
-/
import Derived.Test.YtgdenjkiblpnpaaGreatRows
import Derived.Test.YtgdenjkiblpnpaaGreatFT
namespace Go.Proofs.YtgdenjkiblpnpaaGreat.framesBack
open Go.D Go.D.FB
set_option maxRecDepth 100000
theorem tabOk : (tabT.items 0 1).all (fun p => okAt Tryz.prog p.1 p.2) = true := by decide +kernel
end Go.Proofs.YtgdenjkiblpnpaaGreat.framesBack
