/-
  The digits of a number in the non-adjacent form of width w.
-/
import Derived.Test.YtfpeolihnaeolaaScG
namespace Sx
open Go Go.RowKit

/-- The digit that is taken off. -/
def nafD (w : Nat) (N : Int) : Int := if N % 2 = 1 then (if 2 ^ (w - 1) ≤ N % 2 ^ w then N % 2 ^ w - 2 ^ w else N % 2 ^ w) else 0
/-- What is left: i digits are off. -/
def nafN (w : Nat) (N : Int) : Nat → Int
  | 0 => N
  | i + 1 => (nafN w N i - nafD w (nafN w N i)) / 2
def nafF (w : Nat) (N : Int) : Nat → Int := fun i => nafD w (nafN w N i)

structure Wid (w : Nat) : Prop where
  h : 2 ≤ w ∧ w ≤ 8
theorem wid_cases {w : Nat} (h : Wid w) : w = 2 ∨ w = 3 ∨ w = 4 ∨ w = 5 ∨ w = 6 ∨ w = 7 ∨ w = 8 := by have := h.h; omega

theorem nafD_range {w : Nat} (h : Wid w) (N : Int) : -128 < nafD w N ∧ nafD w N < 128 ∧ (N - nafD w N) % 2 = 0 := by
  unfold nafD
  rcases wid_cases h with e | e | e | e | e | e | e <;> subst e <;> simp only [Nat.reduceSub, Int.reducePow] <;> (repeat' split) <;> omega
theorem nafD_le {w : Nat} (h : Wid w) {N : Int} (h0 : 0 ≤ N) : nafD w N ≤ N := by
  unfold nafD
  rcases wid_cases h with e | e | e | e | e | e | e <;> subst e <;> simp only [Nat.reduceSub, Int.reducePow] <;> (repeat' split) <;> omega
/-- 2^256 and what a digit may add. -/
abbrev q256 : Int := 115792089237316195423570985008687907853269984665640564039457584007913129639936
theorem nafN_range {w : Nat} (h : Wid w) {N : Int} (h0 : 0 ≤ N) (h1 : N < q256) : ∀ i, 0 ≤ nafN w N i ∧ nafN w N i < q256
  | 0 => ⟨h0, h1⟩
  | i + 1 => by
    obtain ⟨h2, h3⟩ := nafN_range h h0 h1 i
    have h4 := nafD_range h (nafN w N i)
    have h5 := nafD_le h h2
    simp only [nafN]
    simp only [q256] at *
    omega
theorem nafN_sum {w : Nat} (h : Wid w) (N : Int) : ∀ i, N = sumB 2 i (nafF w N) + 2 ^ i * nafN w N i
  | 0 => by simp [sumB, nafN]
  | i + 1 => by
    have h1 := nafN_sum h N i
    have h2 := (nafD_range h (nafN w N i)).2.2
    have h3 : nafN w N i = nafD w (nafN w N i) + 2 * nafN w N (i + 1) := by simp only [nafN]; omega
    simp only [sumB]
    rw [Int.pow_succ, Int.mul_assoc, Int.add_assoc, ← Int.mul_add]
    have h4 : nafF w N i = nafD w (nafN w N i) := rfl
    rw [h4, ← h3]
    exact h1
/-- From one bound to the next. -/
theorem naf_halve {w : Nat} (h : Wid w) {m : Nat} {x : Int} (h0 : 0 ≤ x) (h1 : x ≤ 2 ^ (m + 1)) : (x - nafD w x) / 2 ≤ 2 ^ m := by
  by_cases hm : w ≤ m + 1
  · obtain ⟨t, ht⟩ : ∃ t, m + 1 = w + t := ⟨m + 1 - w, by omega⟩
    have e1 : (2 : Int) ^ (m + 1) = 2 ^ w * 2 ^ t := by rw [ht, Int.pow_add]
    have e2 : (2 : Int) ^ (m + 1) = 2 ^ m * 2 := Int.pow_succ _ _
    have hp : (0 : Int) < 2 ^ t := Int.pow_pos (by decide)
    rw [e1] at h1 e2
    generalize (2 : Int) ^ t = T at *
    generalize (2 : Int) ^ m = M at *
    clear e1
    unfold nafD
    rcases wid_cases h with e | e | e | e | e | e | e <;> subst e <;> simp only [Nat.reduceSub, Int.reducePow] at * <;> (repeat' split) <;> omega
  · have hw := h.h
    have hp : (0 : Int) < 2 ^ m := Int.pow_pos (by decide)
    have h2 : (2 : Int) ^ (m + 1) ≤ 2 ^ (w - 1) := by
      have : (2 : Nat) ^ (m + 1) ≤ 2 ^ (w - 1) := Nat.pow_le_pow_right (by decide) (by omega)
      exact_mod_cast this
    have h3 : (2 : Int) ^ (m + 1) = 2 ^ m * 2 := Int.pow_succ _ _
    have h4 : x ≤ 2 ^ (w - 1) := by omega
    generalize (2 : Int) ^ m = M at *
    generalize (2 : Int) ^ (m + 1) = K at *
    unfold nafD
    rcases wid_cases h with e | e | e | e | e | e | e <;> subst e <;> simp only [Nat.reduceSub, Int.reducePow] at * <;> (repeat' split) <;> omega
theorem naf_bound {w : Nat} (h : Wid w) {N : Int} (h0 : 0 ≤ N) (h1 : N < q256) : ∀ i, i ≤ 256 → nafN w N i ≤ 2 ^ (256 - i)
  | 0, _ => by
    show N ≤ 2 ^ 256
    have e : (2 : Int) ^ 256 = q256 := by decide
    omega
  | i + 1, hi => by
    have h2 := naf_bound h h0 h1 i (by omega)
    have h3 := (nafN_range h h0 h1 i).1
    have e : 256 - i = (256 - (i + 1)) + 1 := by omega
    rw [e] at h2
    exact naf_halve h h3 h2
theorem naf_end {w : Nat} (h : Wid w) {N : Int} (h0 : 0 ≤ N) (h1 : N < q256) : nafN w N 257 = 0 := by
  have h2 := naf_bound h h0 h1 256 (by omega)
  have h3 := (nafN_range h h0 h1 256).1
  simp only [Nat.sub_self, Int.pow_zero] at h2
  show (nafN w N 256 - nafD w (nafN w N 256)) / 2 = 0
  generalize nafN w N 256 = x at *
  unfold nafD
  rcases wid_cases h with e | e | e | e | e | e | e <;> subst e <;> simp only [Nat.reduceSub, Int.reducePow] at * <;> (repeat' split) <;> omega
theorem naf_total {w : Nat} (h : Wid w) {N : Int} (h0 : 0 ≤ N) (h1 : N < q256) : sumB 2 257 (nafF w N) = N := by
  have h2 := nafN_sum h N 257
  rw [naf_end h h0 h1] at h2
  omega
/-- The form of a digit. -/
theorem naf_form {w : Nat} (h : Wid w) (N : Int) : nafD w N = 0 ∨ (nafD w N % 2 = 1 ∧ nafD w N < 2 ^ (w - 1) ∧ -2 ^ (w - 1) < nafD w N) := by
  unfold nafD
  rcases wid_cases h with e | e | e | e | e | e | e <;> subst e <;> simp only [Nat.reduceSub, Int.reducePow] <;> (repeat' split) <;> omega
/-- Behind a digit that isn't 0 there are w - 1 zeros. -/
theorem naf_gap {w : Nat} (h : Wid w) {N : Int} (hd : nafD w N ≠ 0) : ((N - nafD w N) / 2) % 2 ^ (w - 1) = 0 := by
  revert hd
  unfold nafD
  rcases wid_cases h with e | e | e | e | e | e | e <;> subst e <;> simp only [Nat.reduceSub, Int.reducePow] <;> (repeat' split) <;> omega
theorem naf_even {w : Nat} {N : Int} {k : Nat} (h : N % 2 ^ (k + 1) = 0) : nafD w N = 0 ∧ ((N - nafD w N) / 2) % 2 ^ k = 0 := by
  have e : (2 : Int) ^ (k + 1) = 2 ^ k * 2 := Int.pow_succ _ _
  have hp : (0 : Int) < 2 ^ k := Int.pow_pos (by decide)
  have h1 : N % 2 = 0 := by
    have h2 : (2 : Int) ∣ 2 ^ (k + 1) := ⟨2 ^ k, by rw [e, Int.mul_comm]⟩
    exact Int.emod_eq_zero_of_dvd (Int.dvd_trans h2 (Int.dvd_of_emod_eq_zero h))
  have h2 : nafD w N = 0 := by unfold nafD; rw [if_neg (by omega)]
  rw [h2]
  refine ⟨rfl, ?_⟩
  obtain ⟨q, hq⟩ := Int.dvd_of_emod_eq_zero h
  rw [e, Int.mul_right_comm] at hq
  have h3 : (N - 0) / 2 = 2 ^ k * q := by omega
  rw [h3]
  exact Int.mul_emod_right _ _
theorem naf_zeros {w : Nat} (h : Wid w) (N : Int) {i : Nat} (hd : nafF w N i ≠ 0) : ∀ j, j < w → nafN w N (i + 1 + j) % 2 ^ (w - 1 - j) = 0 ∧ (j + 1 < w → nafF w N (i + 1 + j) = 0)
  | 0, hj => by
    have h1 : nafN w N (i + 1) % 2 ^ (w - 1) = 0 := naf_gap h hd
    refine ⟨h1, fun h2 => ?_⟩
    obtain ⟨k, hk⟩ : ∃ k, w - 1 = k + 1 := ⟨w - 2, by omega⟩
    rw [hk] at h1
    exact (naf_even h1).1
  | j + 1, hj => by
    obtain ⟨h1, h2⟩ := naf_zeros h N hd j (by omega)
    obtain ⟨k, hk⟩ : ∃ k, w - 1 - j = k + 1 := ⟨w - 2 - j, by omega⟩
    rw [hk] at h1
    have e : w - 1 - (j + 1) = k := by omega
    have h3 : nafN w N (i + 1 + (j + 1)) % 2 ^ k = 0 := (naf_even h1).2
    rw [e]
    refine ⟨h3, fun h4 => ?_⟩
    obtain ⟨k', hk'⟩ : ∃ k', k = k' + 1 := ⟨k - 1, by omega⟩
    rw [hk'] at h3
    exact (naf_even h3).1
/-- Two digits that aren't 0 stand w apart. -/
theorem naf_apart {w : Nat} (h : Wid w) (N : Int) {i j : Nat} (hij : i < j) (hi : nafF w N i ≠ 0) (hj : nafF w N j ≠ 0) : i + w ≤ j := by
  by_cases h1 : i + w ≤ j
  · exact h1
  · exfalso
    have h2 := (naf_zeros h N hi (j - i - 1) (by omega)).2 (by omega)
    have e : i + 1 + (j - i - 1) = j := by omega
    rw [e] at h2
    exact hj h2
end Sx
