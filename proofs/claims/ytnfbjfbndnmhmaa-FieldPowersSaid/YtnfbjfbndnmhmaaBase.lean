/-
  This seat's table of types, its listed variables, and what every walk asks of the program.
-/
import Derived.Test.YtnfbjfbndnmhmaaSpA
import Derived.Test.YtnfbjfbndnmhmaaChecked
namespace Go.Proofs.Ytnfbjfbndnmhmaa
open Go Go.Proofs Sx
set_option maxRecDepth 100000

def tab : { l : List (TypeId × TI) // autoTab Try.prog [
  22, 5, 32, 3, 4,
  33, 34,
  38,
  31,
  40,
  41,
  42, 43,
  4] = l } := ⟨_, by cbv⟩
theorem tabOK : TabOK Try.prog tab.1 := tabOK_of (by kernel_rfl)
theorem mixed : Try.prog.follows .mixedOrders = true := by kernel_rfl

/- The listed variables that the walks read. -/
abbrev G0 : Nat → AV := lookGL []
end Go.Proofs.Ytnfbjfbndnmhmaa
