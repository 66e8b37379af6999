/-
  A power by the exponent's bits, from the lowest up.
-/
import Derived.Test.YtnfbjfbndnmhmaaSpE
namespace Sx
open Go Go.RowKit

/-- What is made of the lowest i bits; the number squared i times. -/
def lowP (x : Zp) (e : Nat → Int) (i : Nat) : Zp := zp x (num 32 e % 2 ^ i).toNat
def sqrP (x : Zp) (i : Nat) : Zp := zp x (2 ^ i)
theorem lowP_zero (x : Zp) (e : Nat → Int) : lowP x e 0 = 1 := by
  unfold lowP
  rw [Int.pow_zero, Int.emod_one]
  exact zp_zero x
theorem sqrP_zero (x : Zp) : sqrP x 0 = x := by
  unfold sqrP
  rw [Nat.pow_zero, zp_one]
theorem sqrP_step (x : Zp) (i : Nat) : sqrP x i * sqrP x i = sqrP x (i + 1) := by
  unfold sqrP
  rw [← zp_add, Nat.pow_succ]
  congr 1
  omega
theorem mod_step {E : Int} (_h : 0 ≤ E) (i : Nat) : (E % 2 ^ (i + 1)).toNat = (E % 2 ^ i).toNat + (if E / 2 ^ i % 2 = 1 then 2 ^ i else 0) := by
  have hp : (0 : Int) < 2 ^ i := Int.pow_pos (by decide)
  have e : E % 2 ^ (i + 1) = E % 2 ^ i + 2 ^ i * (E / 2 ^ i % 2) := by
    rw [Int.pow_succ]
    have h1 := Int.emod_add_mul_ediv E (2 ^ i)
    have h2 := Int.emod_add_mul_ediv (E / 2 ^ i) 2
    have h3 := Int.emod_add_mul_ediv E (2 ^ i * 2)
    have h4 : E / (2 ^ i * 2) = E / 2 ^ i / 2 := (Int.ediv_ediv_of_nonneg (Int.le_of_lt hp)).symm
    rw [h4, Int.mul_assoc] at h3
    have h5 : 2 ^ i * (E / 2 ^ i % 2) + 2 ^ i * (2 * (E / 2 ^ i / 2)) = 2 ^ i * (E / 2 ^ i) := by rw [← Int.mul_add, h2]
    omega
  have h0 := Int.emod_nonneg E (show (2 : Int) ^ i ≠ 0 by omega)
  have c : ((2 ^ i : Nat) : Int) = 2 ^ i := by simp
  rw [e]
  rcases (by omega : E / 2 ^ i % 2 = 0 ∨ E / 2 ^ i % 2 = 1) with hb | hb
  · rw [hb, if_neg (by decide)]; omega
  · rw [hb, if_pos rfl]; omega
theorem lowP_step (x : Zp) {e : Nat → Int} (he : IsBytes 32 e) {i : Nat} (hi : i < 256) : lowP x e (i + 1) = if bitB e i = true then lowP x e i * sqrP x i else lowP x e i := by
  have hb := num_bounds 32 e he
  unfold lowP sqrP
  rw [mod_step hb.1, bitB_num he hi]
  by_cases h : num 32 e / 2 ^ i % 2 = 1
  · rw [if_pos h, if_pos (decide_eq_true h), zp_add]
  · rw [if_neg h, if_neg (by simp [h]), Nat.add_zero]
theorem lowP_all (x : Zp) {e : Nat → Int} (he : IsBytes 32 e) : lowP x e 256 = zp x (num 32 e).toNat := by
  have hb := num_bounds 32 e he
  unfold lowP
  rw [Int.emod_eq_of_lt hb.1 (Int.lt_of_lt_of_le hb.2 (by decide))]
/-- A bit, as the law looks it up. -/
theorem bit_two {e : Nat → Int} (he : IsBytes 32 e) {i : Nat} (hi : i < 256) :
    realCmp .eql (realBin .rem .i64 (IntKind.wrap .i64 (realBin .shr .u8 (e (i / 8)) (IntKind.wrap .u64 ((i % 8 : Nat) : Int)))) 2) 1 = bitB e i := by
  have h1 := he (i / 8) (by omega)
  have h2 : i % 8 < 8 := Nat.mod_lt _ (by decide)
  have hs : realBin .shr .u8 (e (i / 8)) ((i % 8 : Nat) : Int) = e (i / 8) / 2 ^ (i % 8) := shr_any .u8 _ _ (by simp [IntKind.bits]; omega)
  have hp : (0 : Int) < 2 ^ (i % 8) := Int.pow_pos (by decide)
  have h3 : 0 ≤ e (i / 8) / 2 ^ (i % 8) := Int.ediv_nonneg h1.1 (by omega)
  have h4 : e (i / 8) / 2 ^ (i % 8) ≤ e (i / 8) := Int.ediv_le_self _ h1.1
  rw [wrap_u64, Int.emod_eq_of_lt (by omega) (by omega), hs, wrap_i64 (by omega), rem_i64 h3]
  unfold bitB
  rw [Bool.eq_iff_iff]
  simp [realCmp]
theorem ltT {a b : Int} (h : realCmp .lss a b = true) : a < b := of_decide_eq_true h
theorem ltF {a b : Int} (h : realCmp .lss a b = false) : b ≤ a := by have h2 : ¬ a < b := of_decide_eq_false h; omega
theorem geT {a b : Int} (h : realCmp .geq a b = true) : b ≤ a := of_decide_eq_true h
theorem geF {a b : Int} (h : realCmp .geq a b = false) : a < b := by have h2 : ¬ b ≤ a := of_decide_eq_false h; omega
theorem neT {a b : Int} (h : realCmp .neq a b = true) : a ≠ b := fun e => by subst e; simp [realCmp] at h
theorem neF {a b : Int} (h : realCmp .neq a b = false) : a = b := by
  by_cases e : a = b
  · exact e
  · simp [realCmp, e] at h
theorem num_fb_zero : num 32 (fb 0) = 0 := by rw [num_fb]; rfl
theorem num_fb_one : (num 32 (fb 1)).toNat = 1 := by rw [num_fb]; rfl
end Sx
