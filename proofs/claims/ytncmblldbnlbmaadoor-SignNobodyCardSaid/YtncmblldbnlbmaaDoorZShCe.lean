/-
  compress (shape e).
-/
import Derived.Test.YtncmblldbnlbmaaDoorZShZe
import Derived.Test.YtncmblldbnlbmaaDoorZShBe
namespace Go.Proofs.YtncmblldbnlbmaaDoor
open Go Go.Proofs Sx Sy
set_option maxRecDepth 100000
set_option maxHeartbeats 8000000
end Go.Proofs.YtncmblldbnlbmaaDoor
