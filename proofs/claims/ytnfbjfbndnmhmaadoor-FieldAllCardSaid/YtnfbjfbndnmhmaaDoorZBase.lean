/-
  This seat's table of types, its listed variables, and what every walk asks of the program.
-/
import Derived.Test.YtnfbjfbndnmhmaaDoorZMA
import Derived.Test.YtnfbjfbndnmhmaaDoorChecked
namespace Go.Proofs.YtnfbjfbndnmhmaaDoor
open Go Go.Proofs Sx
set_option maxRecDepth 100000

def tab : { l : List (TypeId × TI) // autoTab Tryd.prog [
  22, 5, 53, 3, 4,
  54, 55,
  66,
  67,
  69,
  72,
  73, 74,
  45, 46,
  78,
  33,
  62,
  51, 43,
  4] = l } := ⟨_, by cbv⟩
theorem tabOK : TabOK Tryd.prog tab.1 := tabOK_of (by kernel_rfl)
theorem mixed : Tryd.prog.follows .mixedOrders = true := by kernel_rfl

/- The listed variables that the walks read. -/
  def v_twice : Nat × IntKind × List Int := (5, .u64, [4503599627370458, 4503599627370494, 4503599627370494, 4503599627370494, 4503599627370494])
  def v_two : Nat × IntKind × List Int := (0, .u8, [235, 255, 255, 255, 255, 255, 255, 255, 255, 255, 255, 255, 255, 255, 255, 255, 255, 255, 255, 255, 255, 255, 255, 255, 255, 255, 255, 255, 255, 255, 255, 127])
  def v_half : Nat × IntKind × List Int := (1, .u8, [246, 255, 255, 255, 255, 255, 255, 255, 255, 255, 255, 255, 255, 255, 255, 255, 255, 255, 255, 255, 255, 255, 255, 255, 255, 255, 255, 255, 255, 255, 255, 63])
  def v_eighth : Nat × IntKind × List Int := (2, .u8, [253, 255, 255, 255, 255, 255, 255, 255, 255, 255, 255, 255, 255, 255, 255, 255, 255, 255, 255, 255, 255, 255, 255, 255, 255, 255, 255, 255, 255, 255, 255, 15])
  def v_root : Nat × IntKind × List Int := (3, .u8, [176, 160, 14, 74, 39, 27, 238, 196, 120, 228, 47, 173, 6, 24, 67, 47, 167, 215, 251, 61, 153, 0, 77, 43, 11, 223, 193, 79, 128, 36, 131, 43])
  def v_prime : Nat × IntKind × List Int := (4, .i64, [65517, 65535, 65535, 65535, 65535, 65535, 65535, 65535, 65535, 65535, 65535, 65535, 65535, 65535, 65535, 32767])
abbrev G0 : Nat → AV := lookGL []
end Go.Proofs.YtnfbjfbndnmhmaaDoor
