/-
  The rounds of a block (shape e).
-/
import Derived.Test.YtncmblldbnlbmaaDoorZSha
namespace Go.Proofs.YtncmblldbnlbmaaDoor
open Go Go.Proofs Sx Sy
set_option maxRecDepth 100000
set_option maxHeartbeats 8000000
end Go.Proofs.YtncmblldbnlbmaaDoor
