/-
  What FieldDigits asks, in plain numbers.
-/
import Derived.Test.YtnfbjfbndnmhmaaLwA
namespace Sx
open Go

/-- The number of the bytes from k on, modulo p. -/
def digN (a : Nat → Int) (k : Nat) : Nat → Int := byt (num (32 - k) (fun i => a (k + i)) % p25)

theorem dig_top (a : Nat → Int) : digN a 32 = byt 0 := by
  unfold digN
  simp [num]
theorem dig_zero (a : Nat → Int) : digN a 0 = byt (redN a) := by
  unfold digN redN
  rw [show num (32 - 0) (fun i => a (0 + i)) = num 32 a from num_congr 32 (fun i _ => by rw [Nat.zero_add])]
theorem dig_step {a : Nat → Int} (ha : IsBytes 32 a) {k : Nat} (hk : k < 32) : byt (addN (byt (mulN (digN a (k + 1)) (byt 256))) (byt (a k))) = digN a k := by
  have hb := ha k hk
  have e : 32 - k = (32 - (k + 1)) + 1 := by omega
  unfold digN
  rw [e]
  simp only [num]
  unfold addN
  rw [num_mul, num_mod, num_small (n := 256) (by decide) (by decide), num_small (n := a k) (by omega) (by omega)]
  have e2 : num (32 - (k + 1)) (fun i => a (k + 1 + i)) = num (32 - (k + 1)) (fun i => a (k + (i + 1))) := num_congr _ (fun i _ => by congr 1; omega)
  rw [e2]
  congr 1
  simp only [Nat.add_zero]
  generalize num (32 - (k + 1)) (fun i => a (k + (i + 1))) = V
  rw [Int.add_emod, Int.emod_emod, ← Int.add_emod]
  rw [Int.add_emod (V % p25 * 256), Int.mul_emod, Int.emod_emod, ← Int.mul_emod, ← Int.add_emod]
  congr 1
  omega
theorem dig_big : byt (addN (byt 255) (byt 1)) = byt 256 := by
  unfold addN
  rw [num_small (n := 255) (by decide) (by decide), num_small (n := 1) (by decide) (by decide)]
  rfl
theorem big_bytes : ∀ i, i < 32 → upd (upd (fun _ => 0) 0 0) 1 1 i = byt 256 i := by decide
def dblN (i : Nat) : Nat → Int := byt (2 ^ i % p25)
theorem dbl_zero : dblN 0 = byt 1 := by
  unfold dblN
  congr 1
theorem dbl_step (i : Nat) : byt (addN (dblN i) (dblN i)) = dblN (i + 1) := by
  unfold dblN addN
  rw [num_mod, ← Int.add_emod]
  congr 2
  rw [Int.pow_succ]
  omega
theorem dbl_last : dblN 255 = byt 19 := by
  unfold dblN
  congr 1
end Sx
