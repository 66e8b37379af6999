/-
  What the model's arithmetic of numbers without a sign comes to, in plain arithmetic.
-/
import Derived.Test.YtnfbjfbndnmhmaaSxA
namespace Sx
open Go

theorem inR_u64 {n : Int} : inR .u64 n ↔ 0 ≤ n ∧ n < 18446744073709551616 := by
  simp [inR, IntKind.min, IntKind.max, IntKind.signed, IntKind.bits]; omega
theorem inR_u8 {n : Int} : inR .u8 n ↔ 0 ≤ n ∧ n < 256 := by
  simp [inR, IntKind.min, IntKind.max, IntKind.signed, IntKind.bits]; omega
theorem inR_i64 {n : Int} : inR .i64 n ↔ -9223372036854775808 ≤ n ∧ n < 9223372036854775808 := by
  simp [inR, IntKind.min, IntKind.max, IntKind.signed, IntKind.bits]; omega
theorem inR_i8 {n : Int} : inR .i8 n ↔ -128 ≤ n ∧ n < 128 := by
  simp [inR, IntKind.min, IntKind.max, IntKind.signed, IntKind.bits]; omega

theorem wrap_u64 (n : Int) : IntKind.wrap .u64 n = n % 18446744073709551616 := by simp [IntKind.wrap, IntKind.signed, IntKind.bits]
theorem wrap_u8 (n : Int) : IntKind.wrap .u8 n = n % 256 := by simp [IntKind.wrap, IntKind.signed, IntKind.bits]
theorem wrap_i64 {n : Int} (h : -9223372036854775808 ≤ n ∧ n < 9223372036854775808) : IntKind.wrap .i64 n = n := by
  simp only [IntKind.wrap, IntKind.signed, IntKind.bits, Bool.true_and, Int.reducePow]
  split <;> simp at * <;> omega
theorem wrap_i8 {n : Int} (h : -128 ≤ n ∧ n < 128) : IntKind.wrap .i8 n = n := by
  simp only [IntKind.wrap, IntKind.signed, IntKind.bits, Bool.true_and, Int.reducePow]
  split <;> simp at * <;> omega

theorem add_u64 (a b : Int) : realBin .add .u64 a b = (a + b) % 18446744073709551616 := wrap_u64 _
theorem sub_u64 (a b : Int) : realBin .sub .u64 a b = (a - b) % 18446744073709551616 := wrap_u64 _
theorem mul_u64 (a b : Int) : realBin .mul .u64 a b = (a * b) % 18446744073709551616 := wrap_u64 _

theorem shl_u64 (a : Int) (s : Nat) (h : s ≤ 64) : realBin .shl .u64 a s = (a * 2 ^ s) % 18446744073709551616 := by
  have e : min (Int.toNat (s : Int)) (IntKind.bits .u64) = s := by simp [IntKind.bits]; omega
  simp only [realBin, e, wrap_u64]
theorem shr_any (k : IntKind) (a : Int) (s : Nat) (h : s ≤ k.bits) : realBin .shr k a s = a / 2 ^ s := by
  have e : min (Int.toNat (s : Int)) k.bits = s := by simp; omega
  have hp : (0 : Int) ≤ 2 ^ s := Int.le_of_lt (Int.pow_pos (by decide))
  simp only [realBin, e, Int.fdiv_eq_ediv_of_nonneg _ hp]

theorem ofInt_nat {w : Nat} {a : Int} (h0 : 0 ≤ a) (h : a < 2 ^ w) : (BitVec.ofInt w a).toNat = a.toNat := by
  rw [BitVec.toNat_ofInt]
  congr 1
  exact Int.emod_eq_of_lt h0 (by simpa using h)

theorem and_nat {k : IntKind} (hk : k.signed = false) {a b : Int} (ha : 0 ≤ a ∧ a < 2 ^ k.bits) (hb : 0 ≤ b ∧ b < 2 ^ k.bits) : realBin .and k a b = ((a.toNat &&& b.toNat : Nat) : Int) := by
  have h1 : a.toNat &&& b.toNat < 2 ^ k.bits := Nat.and_lt_two_pow _ ((Int.toNat_lt hb.1).2 (by simpa using hb.2))
  simp only [realBin, IntKind.wrap, hk, BitVec.toNat_and, ofInt_nat ha.1 ha.2, ofInt_nat hb.1 hb.2, Bool.false_and, Bool.false_eq_true, if_false]
  exact Int.emod_eq_of_lt (Int.natCast_nonneg _) (by exact_mod_cast h1)

theorem or_nat {k : IntKind} (hk : k.signed = false) {a b : Int} (ha : 0 ≤ a ∧ a < 2 ^ k.bits) (hb : 0 ≤ b ∧ b < 2 ^ k.bits) : realBin .or k a b = ((a.toNat ||| b.toNat : Nat) : Int) := by
  have h1 : a.toNat ||| b.toNat < 2 ^ k.bits := Nat.or_lt_two_pow ((Int.toNat_lt ha.1).2 (by simpa using ha.2)) ((Int.toNat_lt hb.1).2 (by simpa using hb.2))
  simp only [realBin, IntKind.wrap, hk, BitVec.toNat_or, ofInt_nat ha.1 ha.2, ofInt_nat hb.1 hb.2, Bool.false_and, Bool.false_eq_true, if_false]
  exact Int.emod_eq_of_lt (Int.natCast_nonneg _) (by exact_mod_cast h1)

theorem and_mask {k : IntKind} (hk : k.signed = false) {a : Int} (ha : 0 ≤ a ∧ a < 2 ^ k.bits) (s : Nat) (hs : s ≤ k.bits) : realBin .and k a (2 ^ s - 1) = a % 2 ^ s := by
  have hp : (0 : Int) < 2 ^ s := Int.pow_pos (by decide)
  have hle : (2 : Int) ^ s ≤ 2 ^ k.bits := by exact_mod_cast Nat.pow_le_pow_right (by decide) hs
  rw [and_nat hk ha ⟨by omega, by omega⟩]
  obtain ⟨n, rfl⟩ := Int.eq_ofNat_of_zero_le ha.1
  have e : ((2 : Int) ^ s - 1).toNat = 2 ^ s - 1 := by
    have : ((2 : Int) ^ s) = ((2 ^ s : Nat) : Int) := by simp
    rw [this]
    have h1 : 1 ≤ 2 ^ s := Nat.one_le_two_pow
    omega
  rw [e, Int.toNat_natCast, Nat.and_two_pow_sub_one_eq_mod]
  simp

theorem or_apart {k : IntKind} (hk : k.signed = false) {x y : Int} (s : Nat) (hx : 0 ≤ x ∧ x < 2 ^ k.bits) (hd : x % 2 ^ s = 0) (hy : 0 ≤ y ∧ y < 2 ^ s) (hs : s ≤ k.bits) : realBin .or k x y = x + y := by
  have hle : (2 : Int) ^ s ≤ 2 ^ k.bits := by exact_mod_cast Nat.pow_le_pow_right (by decide) hs
  rw [or_nat hk hx ⟨hy.1, by omega⟩]
  obtain ⟨n, rfl⟩ := Int.eq_ofNat_of_zero_le hx.1
  obtain ⟨m, rfl⟩ := Int.eq_ofNat_of_zero_le hy.1
  have hm : m < 2 ^ s := by
    have := hy.2
    exact_mod_cast this
  have hd' : n % 2 ^ s = 0 := by exact_mod_cast hd
  have e : n = 2 ^ s * (n / 2 ^ s) := by
    have := Nat.div_add_mod n (2 ^ s)
    omega
  simp only [Int.toNat_natCast]
  conv => lhs; rw [e]
  rw [← Nat.two_pow_add_eq_or_of_lt hm, ← e]
  simp

theorem or_comm' {k : IntKind} (x y : Int) : realBin .or k x y = realBin .or k y x := by
  simp only [realBin, BitVec.or_comm]

theorem quo_i64 {a b : Int} (ha : 0 ≤ a ∧ a < 9223372036854775808) (hb : 0 < b) : realBin .quo .i64 a b = a / b := by
  have h1 : a.tdiv b = a / b := Int.tdiv_eq_ediv_of_nonneg ha.1
  have h2 : 0 ≤ a / b := Int.ediv_nonneg ha.1 (by omega)
  have h3 : a / b ≤ a := Int.ediv_le_self b ha.1
  show IntKind.wrap .i64 (a.tdiv b) = _
  rw [h1, wrap_i64 (by omega)]
theorem rem_i64 {k : IntKind} {a b : Int} (ha : 0 ≤ a) : realBin .rem k a b = a % b := Int.tmod_eq_emod_of_nonneg ha
theorem add_i64 {a b : Int} (h : -9223372036854775808 ≤ a + b ∧ a + b < 9223372036854775808) : realBin .add .i64 a b = a + b := wrap_i64 h
theorem sub_i64 {a b : Int} (h : -9223372036854775808 ≤ a - b ∧ a - b < 9223372036854775808) : realBin .sub .i64 a b = a - b := wrap_i64 h
theorem mul_i64 {a b : Int} (h : -9223372036854775808 ≤ a * b ∧ a * b < 9223372036854775808) : realBin .mul .i64 a b = a * b := wrap_i64 h
end Sx
