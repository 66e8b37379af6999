/-
  Package point: pairs and points with a denominator.
-/
import Derived.Test.YtnbjbamoddmbhaaDoorZFieldC
import Derived.Test.YtnbjbamoddmbhaaDoorZFieldP
import Derived.Test.YtnbjbamoddmbhaaDoorZFieldS
import Derived.Test.YtnbjbamoddmbhaaDoorZNA
import Derived.Test.YtnbjbamoddmbhaaDoorZFieldL
namespace Go.Proofs.YtnbjbamoddmbhaaDoor
open Go Go.Proofs Sx
set_option maxRecDepth 100000
set_option maxHeartbeats 4000000
set_option linter.unusedVariables false
set_option linter.unusedSimpArgs false

abbrev Gpt : Nat → AV := lookGL [v_twice, v_eighth, v_root, v_ptzero, v_ptone, v_ptcurve]
theorem pt_one : ∀ i, i < 32 → (fun i => v_ptone.2.2.getD i 0) i = fb 1 i := by decide +kernel
theorem pt_zero : ∀ i, i < 32 → (fun i => v_ptzero.2.2.getD i 0) i = fb 0 i := by decide +kernel
theorem pt_curve : ∀ i, i < 32 → (fun i => v_ptcurve.2.2.getD i 0) i = fb dZ i := by decide +kernel
theorem pt_base : ∀ i, i < 64 → (fun i => v_ptbase.2.2.getD i 0) i = pb basePt i := by decide +kernel
end Go.Proofs.YtnbjbamoddmbhaaDoor
