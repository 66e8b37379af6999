/-
  Clamping.
-/
import Derived.Test.YtfpeolihnaeolaaSpC
namespace Sx
open Go Go.RowKit

def clampF (h : Nat → Int) : Nat → Int := fun i => if i = 0 then h 0 / 8 * 8 else if i = 31 then h 31 % 64 + 64 else h i
theorem and_248 : ∀ x : Fin 256, realBin .and .u8 (x.val : Int) 248 = (x.val : Int) / 8 * 8 := by decide +kernel
theorem and_127 : ∀ x : Fin 256, realBin .or .u8 (realBin .and .u8 (x.val : Int) 127) 64 = (x.val : Int) % 64 + 64 := by decide +kernel
theorem byte_fin {x : Int} (h : 0 ≤ x ∧ x < 256) : ∃ y : Fin 256, x = (y.val : Int) := ⟨⟨x.toNat, by omega⟩, by simp only; omega⟩
theorem clamp_low {x : Int} (h : 0 ≤ x ∧ x < 256) : realBin .and .u8 x 248 = x / 8 * 8 := by
  obtain ⟨y, rfl⟩ := byte_fin h
  exact and_248 y
theorem clamp_high {x : Int} (h : 0 ≤ x ∧ x < 256) : realBin .or .u8 (realBin .and .u8 x 127) 64 = x % 64 + 64 := by
  obtain ⟨y, rfl⟩ := byte_fin h
  exact and_127 y
theorem clamp_isB {h : Nat → Int} (hh : IsBytes 32 h) : IsBytes 32 (clampF h) := by
  intro i hi
  have h0 := hh 0 (by decide)
  have h1 := hh 31 (by decide)
  have h2 := hh i hi
  unfold clampF
  split
  · omega
  · split <;> omega
theorem clamp_each {h : Nat → Int} (hh : IsBytes 32 h) : ∀ i, i < 32 → upd (upd h 0 (realBin .and .u8 (h 0) 248)) 31 (realBin .or .u8 (realBin .and .u8 (h 31) 127) 64) i = clampF h i := by
  intro i hi
  rw [clamp_low (hh 0 (by decide)), clamp_high (hh 31 (by decide))]
  unfold upd clampF
  by_cases h0 : i = 0
  · subst h0; rfl
  · rw [if_neg h0]
    by_cases h1 : i = 31
    · subst h1; rfl
    · simp [h0, h1]
section
variable {h : Nat → Int} (hh : IsBytes 32 h)
include hh
theorem clamp_1 : realCmp .neq (realBin .rem .u8 (clampF h 0) 8) 0 = false := by
  have h0 := hh 0 (by decide)
  show (realBin .rem .u8 (h 0 / 8 * 8) 8 != 0) = false
  rw [rem_i64 (by omega)]
  have : h 0 / 8 * 8 % 8 = 0 := by omega
  rw [this]; rfl
theorem clamp_2 : realCmp .lss (clampF h 31) 64 = false := by
  have h0 := hh 31 (by decide)
  show decide (h 31 % 64 + 64 < 64) = false
  exact decide_eq_false (by omega)
theorem clamp_3 : realCmp .geq (clampF h 31) 128 = false := by
  have h0 := hh 31 (by decide)
  show decide (h 31 % 64 + 64 ≥ 128) = false
  exact decide_eq_false (by omega)
theorem clamp_4 : realCmp .neq (realBin .quo .u8 (clampF h 0) 8) (realBin .quo .u8 (h 0) 8) = false := by
  have h0 := hh 0 (by decide)
  show (IntKind.wrap .u8 (Int.tdiv (h 0 / 8 * 8) 8) != IntKind.wrap .u8 (Int.tdiv (h 0) 8)) = false
  rw [Int.tdiv_eq_ediv_of_nonneg (by omega), Int.tdiv_eq_ediv_of_nonneg (by omega)]
  have : h 0 / 8 * 8 / 8 = h 0 / 8 := by omega
  rw [this]; simp
theorem clamp_5 : realCmp .neq (realBin .rem .u8 (clampF h 31) 64) (realBin .rem .u8 (h 31) 64) = false := by
  have h0 := hh 31 (by decide)
  show (realBin .rem .u8 (h 31 % 64 + 64) 64 != realBin .rem .u8 (h 31) 64) = false
  rw [rem_i64 (by omega), rem_i64 (by omega)]
  have : (h 31 % 64 + 64) % 64 = h 31 % 64 := by omega
  rw [this]; simp
omit hh in
theorem clamp_6 {i : Nat} (h1 : 1 ≤ i) (h2 : i < 31) : clampF h i = h i := by
  unfold clampF
  rw [if_neg (by omega), if_neg (by omega)]
theorem clamp_7 : realEqA 32 (clampF (clampF h)) (clampF h) = true := by
  have h0 := hh 0 (by decide)
  have h1 := hh 31 (by decide)
  rw [realEqA_iff]
  intro i hi
  show (if i = 0 then h 0 / 8 * 8 / 8 * 8 else if i = 31 then (h 31 % 64 + 64) % 64 + 64 else clampF h i) = clampF h i
  unfold clampF
  by_cases e0 : i = 0
  · rw [if_pos e0, if_pos e0]; omega
  · rw [if_neg e0, if_neg e0]
    by_cases e1 : i = 31
    · rw [if_pos e1, if_pos e1]; omega
    · simp [e0, e1]
end
end Sx
