/-
  The scalar laws' small numbers, comparing, cutting down.
-/
import Derived.Test.YtbiialpakchjgaaDoorZScalC
import Derived.Test.YtbiialpakchjgaaDoorZMA
namespace Go.Proofs.YtbiialpakchjgaaDoor
open Go Go.Proofs Sx
set_option maxRecDepth 100000
set_option maxHeartbeats 4000000
set_option linter.unusedVariables false
set_option linter.unusedSimpArgs false

end Go.Proofs.YtbiialpakchjgaaDoor
