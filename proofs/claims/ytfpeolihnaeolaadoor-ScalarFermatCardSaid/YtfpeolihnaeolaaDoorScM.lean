/-
  Fermat's little theorem modulo L, as the law reckons it.
-/
import Derived.Test.YtfpeolihnaeolaaDoorScF
namespace Sx
open Go Go.RowKit
theorem num_lm1E : num 32 (byt (lI - 1)) = lI - 1 := num_byt 32 (lI - 1) (by decide) (by decide)
theorem bit_eq {e : Nat → Int} (he : IsBytes 32 e) {i : Nat} (hi : i < 256) {x : Int} (hx : x = num 32 e / 2 ^ i % 2) : realCmp .eql x 1 = bitB e i := by
  subst hx
  rw [bitB_num he hi, Bool.eq_iff_iff]
  simp [realCmp]
theorem num_lm1n : (num 32 (byt (lI - 1))).toNat = lN - 1 := by rw [num_lm1E]; rfl
theorem pwZ_fermat {x : Zl} (h : x ≠ 0) : pwZ x (byt (lI - 1)) 0 = 1 := by
  rw [pwZ_all, num_lm1n]
  exact zfermat prL h
theorem pwZ_nil : pwZ (0 : Zl) (byt (lI - 1)) 0 = 0 := by
  rw [pwZ_all, num_lm1n]
  exact zero_zp _ (by decide)
end Sx
