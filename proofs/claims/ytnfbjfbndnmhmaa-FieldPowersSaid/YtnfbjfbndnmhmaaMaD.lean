/-
  Products by digits, and the form as bytes: what they come to.
-/
import Derived.Test.YtnfbjfbndnmhmaaMaC
import Derived.Lib.Mul64
namespace Sx
open Go

/-! Sums and products of 64 bits with what is carried. -/
def adcS (x y c : Int) : Int := (x + y + c) % 18446744073709551616
def adcC (x y c : Int) : Int := if 18446744073709551616 ≤ x + y + c then 1 else 0
def sbbS (x y c : Int) : Int := (x - y - c) % 18446744073709551616
def sbbC (x y c : Int) : Int := if x < y + c then 1 else 0
def Bit01 (c : Int) : Prop := c = 0 ∨ c = 1
theorem bit01_0 : Bit01 0 := .inl rfl
theorem bit01_adc (x y c : Int) : Bit01 (adcC x y c) := by unfold Bit01 adcC; split <;> omega
theorem bit01_sbb (x y c : Int) : Bit01 (sbbC x y c) := by unfold Bit01 sbbC; split <;> omega

theorem two64 : (2 : Int) ^ IntKind.bits .u64 = 18446744073709551616 := rfl

def mulH (x y : Int) : Int :=
  let x0 := uand x 4294967295
  let x1 := ushr x 32
  let y0 := uand y 4294967295
  let y1 := ushr y 32
  let w0 := umul x0 y0
  let t := uadd (umul x1 y0) (ushr w0 32)
  let w1 := uand t 4294967295
  let w2 := ushr t 32
  let w3 := uadd w1 (umul x0 y1)
  uadd (uadd (umul x1 y1) w2) (ushr w3 32)

theorem mulH_eq {x y : Int} (hx : 0 ≤ x ∧ x < 18446744073709551616) (hy : 0 ≤ y ∧ y < 18446744073709551616) : mulH x y = x * y / 18446744073709551616 := by
  obtain ⟨X, rfl⟩ := Int.eq_ofNat_of_zero_le hx.1
  obtain ⟨Y, rfl⟩ := Int.eq_ofNat_of_zero_le hy.1
  have hX : X < 18446744073709551616 := by omega
  have hY : Y < 18446744073709551616 := by omega
  obtain ⟨h1, h2, h3, h4⟩ := Go.Lib.mul64_hi X Y hX hY
  have m : ∀ n : Nat, n < 18446744073709551616 → uand (n : Int) 4294967295 = ((n % 4294967296 : Nat) : Int) := fun n hn => by
    have := and_mask (k := .u64) rfl (a := (n : Int)) ⟨by omega, by rw [two64]; omega⟩ 32 (by decide)
    simpa using this
  have s : ∀ n : Nat, ushr (n : Int) 32 = ((n / 4294967296 : Nat) : Int) := fun n => by
    have := shr_any .u64 (n : Int) 32 (by decide)
    simpa using this
  have mu : ∀ a b : Nat, a * b < 18446744073709551616 → umul (a : Int) (b : Int) = ((a * b : Nat) : Int) := fun a b h => by
    rw [umul, mul_u64, Int.emod_eq_of_lt (Int.mul_nonneg (Int.natCast_nonneg _) (Int.natCast_nonneg _)) (by rw [← Int.natCast_mul]; omega)]
    simp
  have ad : ∀ a b : Nat, a + b < 18446744073709551616 → uadd (a : Int) (b : Int) = ((a + b : Nat) : Int) := fun a b h => by
    rw [uadd_eq (by omega)]; simp
  have hX0 := Nat.mod_lt X (show 0 < 4294967296 by decide)
  have hY0 := Nat.mod_lt Y (show 0 < 4294967296 by decide)
  have hX1 : X / 4294967296 ≤ 4294967295 := by omega
  have hY1 : Y / 4294967296 ≤ 4294967295 := by omega
  have b1 := Go.Lib.half_mul_le hX1 hY1
  have b2 := Go.Lib.half_mul_le hX1 (show Y % 4294967296 ≤ 4294967295 by omega)
  have b3 := Go.Lib.half_mul_le (show X % 4294967296 ≤ 4294967295 by omega) hY1
  have b4 := Go.Lib.half_mul_le (show X % 4294967296 ≤ 4294967295 by omega) (show Y % 4294967296 ≤ 4294967295 by omega)
  have hlast : X / 4294967296 * (Y / 4294967296) + (X / 4294967296 * (Y % 4294967296) + X % 4294967296 * (Y % 4294967296) / 4294967296) / 4294967296 < 18446744073709551616 := by omega
  have hfin : X * Y / 18446744073709551616 < 18446744073709551616 := by
    apply Nat.div_lt_of_lt_mul
    exact Nat.mul_lt_mul'' hX hY
  simp only [mulH]
  rw [m X hX, m Y hY, s X, s Y, mu _ _ (by omega), mu _ _ (by omega), mu _ _ (by omega), mu _ _ (by omega), s, ad _ _ h2, m _ h2, s, ad _ _ h3, s, ad _ _ hlast, ad _ _ (by rw [h4]; exact hfin), h4]
  simp
end Sx
