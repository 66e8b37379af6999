/-
  Numbers modulo n, as a ring; modulo a prime, as a field.
-/
import Derived.Test.YtnfbjfbndnmhmaaPrB
namespace Sx

section
variable {n : Nat} [NeZero n]

theorem npos : 0 < n := Nat.pos_of_ne_zero (NeZero.ne n)

/-- A whole number modulo n. -/
def zi (n : Nat) [NeZero n] (x : Int) : Fin n := ⟨(x % n).toNat, by
  have h := npos (n := n)
  have h1 := Int.emod_lt_of_pos x (show (0 : Int) < n by omega)
  have h2 := Int.emod_nonneg x (show (n : Int) ≠ 0 by omega)
  omega⟩

theorem zi_val (x : Int) : ((zi n x).val : Int) = x % n := by
  have h := npos (n := n)
  have h2 := Int.emod_nonneg x (show (n : Int) ≠ 0 by omega)
  simp only [zi]
  omega

omit [NeZero n] in
theorem fin_ext_int {a b : Fin n} (h : (a.val : Int) = b.val) : a = b := Fin.ext (by omega)

theorem zi_eq {x y : Int} : zi n x = zi n y ↔ x % n = y % n :=
  ⟨fun h => by rw [← zi_val, ← zi_val, h], fun h => fin_ext_int (by rw [zi_val, zi_val, h])⟩

theorem zi_of_val (a : Fin n) : zi n (a.val : Int) = a := fin_ext_int (by rw [zi_val]; exact Int.emod_eq_of_lt (by omega) (by have := a.isLt; omega))

theorem zi_mod (x : Int) : zi n (x % n) = zi n x := zi_eq.2 (Int.emod_emod_of_dvd _ (Int.dvd_refl _))

theorem zi_add (x y : Int) : zi n (x + y) = zi n x + zi n y := by
  apply fin_ext_int
  rw [zi_val, Fin.val_add, Int.natCast_emod, Int.natCast_add, zi_val, zi_val, ← Int.add_emod]
theorem zi_mul (x y : Int) : zi n (x * y) = zi n x * zi n y := by
  apply fin_ext_int
  rw [zi_val, Fin.val_mul, Int.natCast_emod, Int.natCast_mul, zi_val, zi_val, ← Int.mul_emod]
theorem zi_sub (x y : Int) : zi n (x - y) = zi n x - zi n y := by
  have h := zi_add (n := n) (x - y) y
  have e : x - y + y = x := by omega
  rw [e] at h
  rw [h]
  grind
theorem zi_zero : zi n 0 = 0 := by
  apply fin_ext_int
  rw [zi_val]
  simp
theorem zi_nat (k : Nat) : zi n (k : Int) = Fin.ofNat n k := by
  apply fin_ext_int
  rw [zi_val]
  rfl
theorem zi_one : zi n 1 = 1 := zi_nat 1
theorem zi_neg (x : Int) : zi n (-x) = - zi n x := by
  have h := zi_sub (n := n) 0 x
  rw [zi_zero, Int.zero_sub] at h
  rw [h]
  grind
theorem zi_self : zi n (n : Int) = 0 := by
  rw [← zi_zero, zi_eq]
  simp

/-- Powers. -/
def zp (x : Fin n) : Nat → Fin n
  | 0 => 1
  | k + 1 => zp x k * x

theorem zp_zero (x : Fin n) : zp x 0 = 1 := rfl
theorem zp_succ (x : Fin n) (k : Nat) : zp x (k + 1) = zp x k * x := rfl
theorem zp_one (x : Fin n) : zp x 1 = x := by rw [zp_succ, zp_zero]; grind
theorem zp_two (x : Fin n) : zp x 2 = x * x := by rw [zp_succ, zp_one]
theorem zp_add (x : Fin n) (j : Nat) : ∀ k, zp x (j + k) = zp x j * zp x k
  | 0 => by rw [Nat.add_zero, zp_zero]; grind
  | k + 1 => by rw [← Nat.add_assoc, zp_succ, zp_succ, zp_add x j k]; grind
theorem zp_mul (x : Fin n) (j : Nat) : ∀ k, zp x (j * k) = zp (zp x j) k
  | 0 => rfl
  | k + 1 => by rw [Nat.mul_succ, zp_add, zp_succ, zp_mul x j k]
theorem mul_zp (x y : Fin n) : ∀ k, zp (x * y) k = zp x k * zp y k
  | 0 => by rw [zp_zero, zp_zero, zp_zero]; grind
  | k + 1 => by rw [zp_succ, zp_succ, zp_succ, mul_zp x y k]; grind
theorem one_zp : ∀ k, zp (1 : Fin n) k = 1
  | 0 => rfl
  | k + 1 => by rw [zp_succ, one_zp k]; grind
theorem zero_zp : ∀ k, 0 < k → zp (0 : Fin n) k = 0
  | k + 1, _ => by rw [zp_succ]; grind
theorem zp_sq (x : Fin n) (k : Nat) : zp x (2 * k) = zp x k * zp x k := by rw [Nat.two_mul, zp_add]
theorem zi_zp (x : Int) : ∀ k : Nat, zi n (x ^ k) = zp (zi n x) k
  | 0 => by rw [Int.pow_zero, zi_one]; rfl
  | k + 1 => by rw [Int.pow_succ, zi_mul, zi_zp x k]; rfl
theorem zp_val (x : Fin n) (k : Nat) : (zp x k).val = x.val ^ k % n := by
  have h := congrArg (fun a : Fin n => (a.val : Int)) (zi_zp (n := n) (x.val : Int) k)
  simp only [zi_val, zi_of_val] at h
  have : ((x.val ^ k % n : Nat) : Int) = ((zp x k).val : Int) := by
    rw [← h]
    simp
  omega

variable (hp : Pr n)
include hp

theorem z_one_ne : (1 : Fin n) ≠ 0 := by
  intro h
  have h1 : (1 : Fin n).val = 1 % n := rfl
  have h2 : (0 : Fin n).val = 0 := by simp
  rw [h, h2, Nat.mod_eq_of_lt (by have := hp.two; omega)] at h1
  omega

theorem zdom {x y : Fin n} (h : x * y = 0) : x = 0 ∨ y = 0 := by
  have h1 : (x * y).val = x.val * y.val % n := Fin.val_mul x y
  have h0 : (0 : Fin n).val = 0 := by simp
  rw [h, h0] at h1
  rcases hp.dvd_mul (Nat.dvd_of_mod_eq_zero h1.symm) with h2 | h2
  · left
    apply Fin.ext
    rw [h0]
    rcases Nat.eq_zero_or_pos x.val with h3 | h3
    · exact h3
    · have := Nat.le_of_dvd h3 h2
      have := x.isLt
      omega
  · right
    apply Fin.ext
    rw [h0]
    rcases Nat.eq_zero_or_pos y.val with h3 | h3
    · exact h3
    · have := Nat.le_of_dvd h3 h2
      have := y.isLt
      omega

theorem zcancel {x y z : Fin n} (hx : x ≠ 0) (h : x * y = x * z) : y = z := by
  have h1 : x * (y - z) = 0 := by grind
  rcases zdom hp h1 with h2 | h2
  · exact absurd h2 hx
  · grind

theorem zfermat {x : Fin n} (hx : x ≠ 0) : zp x (n - 1) = 1 := by
  have h : ¬ n ∣ x.val := fun hd => by
    apply hx
    apply Fin.ext
    have h0 : (0 : Fin n).val = 0 := by simp
    rw [h0]
    rcases Nat.eq_zero_or_pos x.val with h3 | h3
    · exact h3
    · have := Nat.le_of_dvd h3 hd
      have := x.isLt
      omega
  apply Fin.ext
  rw [zp_val, fermat hp h]
  show 1 = 1 % n
  rw [Nat.mod_eq_of_lt (by have := hp.two; omega)]

omit hp in
/-- The inverse; 0 of 0. -/
def zinv (x : Fin n) : Fin n := zp x (n - 2)

theorem mul_zinv {x : Fin n} (hx : x ≠ 0) : x * zinv x = 1 := by
  have h := zfermat hp hx
  have h2 := hp.two
  have e : n - 1 = (n - 2) + 1 := by omega
  rw [e, zp_succ] at h
  unfold zinv
  grind
theorem zinv_uniq {x y : Fin n} (h : x * y = 1) : y = zinv x := by
  have hx : x ≠ 0 := fun e => z_one_ne hp (by rw [← h, e]; grind)
  have h1 := mul_zinv hp hx
  exact zcancel hp hx (h.trans h1.symm)
theorem zinv_ne {x : Fin n} (hx : x ≠ 0) : zinv x ≠ 0 := fun h => by
  have h1 := mul_zinv hp hx
  rw [h] at h1
  exact z_one_ne hp (by rw [← h1]; grind)
theorem zinv_zinv' {x : Fin n} (hx : x ≠ 0) : zinv (zinv x) = x :=
  (zinv_uniq hp (by have := mul_zinv hp hx; grind)).symm
omit hp in
theorem zinv_mul (x y : Fin n) : zinv (x * y) = zinv x * zinv y := mul_zp x y _
omit hp in
theorem zinv_zero (h3 : 2 < n) : zinv (0 : Fin n) = 0 := zero_zp _ (by omega)
theorem zmul_ne {x y : Fin n} (hx : x ≠ 0) (hy : y ≠ 0) : x * y ≠ 0 := fun h => by
  rcases zdom hp h with h | h
  · exact hx h
  · exact hy h
theorem zp_ne {x : Fin n} (hx : x ≠ 0) : ∀ k, zp x k ≠ 0
  | 0 => z_one_ne hp
  | k + 1 => zmul_ne hp (zp_ne hx k) hx
theorem zsq_one {x : Fin n} (h : x * x = 1) : x = 1 ∨ x = -1 := by
  have h1 : (x - 1) * (x + 1) = 0 := by grind
  rcases zdom hp h1 with h2 | h2
  · left; grind
  · right; grind
theorem zsq_eq {x y : Fin n} (h : x * x = y * y) : x = y ∨ x = -y := by
  have h1 : (x - y) * (x + y) = 0 := by grind
  rcases zdom hp h1 with h2 | h2
  · left; grind
  · right; grind
end

attribute [irreducible] zp
abbrev pN : Nat := 57896044618658097711785492504343953926634992332820282019728792003956564819949
abbrev lN : Nat := 7237005577332262213973186563042994240857116359379907606001950938285454250989
abbrev Zp := Fin pN
abbrev Zl := Fin lN
theorem prP : Pr pN := pr_57896044618658097711785492504343953926634992332820282019728792003956564819949
theorem prL : Pr lN := pr_7237005577332262213973186563042994240857116359379907606001950938285454250989
end Sx
