/-
  Digits to any base, and what is carried.
-/
import Derived.Test.YtfpeolihnaeolaaZmA
import Derived.Test.YtfpeolihnaeolaaSpD
namespace Sx
open Go Go.RowKit

/-- The sum of digits to base B. -/
def sumB (B : Int) : Nat → (Nat → Int) → Int
  | 0, _ => 0
  | n + 1, f => sumB B n f + B ^ n * f n
/-- A number's digits to base B. -/
def dgt (B : Int) (N : Int) : Nat → Int := fun i => N / B ^ i % B
/-- What is carried into digit i. -/
def carB (B : Int) (x : Nat → Int) (c : Int) (i : Nat) : Int := (sumB B i x + c) / B ^ i
def IsDig (B : Int) (n : Nat) (f : Nat → Int) : Prop := ∀ i, i < n → 0 ≤ f i ∧ f i < B

theorem sumB_congr {B : Int} : ∀ {n : Nat} {f g : Nat → Int}, (∀ i, i < n → f i = g i) → sumB B n f = sumB B n g
  | 0, _, _, _ => rfl
  | n + 1, f, g, h => by
    simp only [sumB]
    rw [sumB_congr fun i hi => h i (by omega), h n (by omega)]
theorem sumB_add {B : Int} (f g : Nat → Int) : ∀ n, sumB B n (fun i => f i + g i) = sumB B n f + sumB B n g
  | 0 => rfl
  | n + 1 => by
    simp only [sumB]
    rw [sumB_add f g n, Int.mul_add]; omega
theorem sumB_sub {B : Int} (f g : Nat → Int) : ∀ n, sumB B n (fun i => f i - g i) = sumB B n f - sumB B n g
  | 0 => rfl
  | n + 1 => by
    simp only [sumB]
    rw [sumB_sub f g n, Int.mul_sub]; omega
theorem sumB_mul {B : Int} (k : Int) (f : Nat → Int) : ∀ n, sumB B n (fun i => k * f i) = k * sumB B n f
  | 0 => by simp [sumB]
  | n + 1 => by
    simp only [sumB]
    rw [sumB_mul k f n, Int.mul_add, Int.mul_left_comm]
theorem sumB_zero {B : Int} : ∀ n, sumB B n (fun _ => 0) = 0
  | 0 => rfl
  | n + 1 => by simp only [sumB]; rw [sumB_zero n]; simp
theorem sumB_split {B : Int} (f : Nat → Int) (k : Nat) : ∀ m, sumB B (k + m) f = sumB B k f + B ^ k * sumB B m fun j => f (k + j)
  | 0 => by simp [sumB]
  | m + 1 => by
    rw [← Nat.add_assoc]
    simp only [sumB]
    rw [sumB_split f k m, Int.mul_add, Int.pow_add, Int.mul_assoc]; omega
theorem num_sumB (f : Nat → Int) : ∀ n, num n f = sumB 256 n f
  | 0 => rfl
  | n + 1 => by rw [num_last, num_sumB f n]; rfl
theorem byt_dgt (N : Int) : byt N = dgt 256 N := rfl

theorem powB_pos {B : Int} (hB : 0 < B) (n : Nat) : 0 < B ^ n := Int.pow_pos hB

theorem carB_zero (B : Int) (x : Nat → Int) (c : Int) : carB B x c 0 = c := by simp [carB, sumB]
theorem carB_succ {B : Int} (hB : 0 < B) (x : Nat → Int) (c : Int) (i : Nat) : carB B x c (i + 1) = (x i + carB B x c i) / B := by
  have h := powB_pos hB i
  unfold carB
  simp only [sumB]
  have e : sumB B i x + B ^ i * x i + c = sumB B i x + c + B ^ i * x i := by omega
  rw [Int.pow_succ, ← Int.ediv_ediv_of_nonneg (Int.le_of_lt h), e, Int.add_mul_ediv_left _ _ (by omega), Int.add_comm]
theorem dgt_low {B : Int} (hB : 0 < B) (N k : Int) {i n : Nat} (h : i < n) : dgt B (N + B ^ n * k) i = dgt B N i := by
  have hp := powB_pos hB i
  obtain ⟨m, rfl⟩ : ∃ m, n = i + 1 + m := ⟨n - (i + 1), by omega⟩
  unfold dgt
  have e : B ^ (i + 1 + m) * k = B ^ i * (B * (B ^ m * k)) := by
    rw [Int.pow_add, Int.pow_succ, Int.mul_assoc, Int.mul_assoc]
  rw [e, Int.add_mul_ediv_left _ _ (by omega), Int.add_mul_emod_self_left]
theorem dgt_car {B : Int} (hB : 0 < B) (x : Nat → Int) (c : Int) {i n : Nat} (h : i < n) : dgt B (sumB B n x + c) i = (x i + carB B x c i) % B := by
  obtain ⟨m, rfl⟩ : ∃ m, n = (i + 1) + m := ⟨n - (i + 1), by omega⟩
  rw [sumB_split]
  have e : sumB B (i + 1) x + B ^ (i + 1) * sumB B m (fun j => x (i + 1 + j)) + c = sumB B i x + c + B ^ i * x i + B ^ (i + 1) * sumB B m (fun j => x (i + 1 + j)) := by
    simp only [sumB]; omega
  have hp := powB_pos hB i
  rw [e, dgt_low hB _ _ (by omega)]
  unfold dgt carB
  rw [Int.add_mul_ediv_left _ _ (by omega), Int.add_comm]
theorem sumB_range {B : Int} (hB : 0 < B) {f : Nat → Int} : ∀ {n : Nat}, IsDig B n f → 0 ≤ sumB B n f ∧ sumB B n f < B ^ n
  | 0, _ => by simp [sumB]
  | n + 1, h => by
    obtain ⟨h1, h2⟩ := sumB_range hB (n := n) fun i hi => h i (by omega)
    obtain ⟨h3, h4⟩ := h n (by omega)
    have hp := powB_pos hB n
    have h5 : 0 ≤ B ^ n * f n := Int.mul_nonneg (Int.le_of_lt hp) h3
    have h6 : B ^ n * f n ≤ B ^ n * (B - 1) := Int.mul_le_mul_of_nonneg_left (by omega) (Int.le_of_lt hp)
    simp only [sumB]
    rw [Int.pow_succ]
    rw [Int.mul_sub, Int.mul_one] at h6
    exact ⟨by omega, by omega⟩
theorem dgt_isDig {B : Int} (hB : 0 < B) (N : Int) (n : Nat) : IsDig B n (dgt B N) := fun _ _ => ⟨Int.emod_nonneg _ (by omega), Int.emod_lt_of_pos _ hB⟩
theorem carB_dig {B : Int} (hB : 0 < B) {f : Nat → Int} {n : Nat} (h : IsDig B n f) : carB B f 0 n = 0 := by
  obtain ⟨h1, h2⟩ := sumB_range hB h
  unfold carB
  rw [Int.add_zero]
  exact Int.ediv_eq_zero_of_lt h1 h2
theorem dgt_sumB {B : Int} (hB : 0 < B) {f : Nat → Int} {n : Nat} (h : IsDig B n f) {i : Nat} (hi : i < n) : dgt B (sumB B n f) i = f i := by
  have := dgt_car hB f 0 hi
  rw [Int.add_zero, carB_dig hB (fun j hj => h j (by omega)), Int.add_zero] at this
  rw [this]
  exact Int.emod_eq_of_lt (h i hi).1 (h i hi).2
theorem sumB_dgt {B : Int} (hB : 0 < B) (N : Int) : ∀ n, sumB B n (dgt B N) = N % B ^ n
  | 0 => by simp [sumB, Int.emod_one]
  | n + 1 => by
    simp only [sumB]
    rw [sumB_dgt hB N n]
    unfold dgt
    have hp := powB_pos hB n
    rw [Int.pow_succ]
    have h1 := Int.emod_add_mul_ediv N (B ^ n)
    have h2 := Int.emod_add_mul_ediv (N / B ^ n) B
    have h3 := Int.emod_add_mul_ediv N (B ^ n * B)
    have h4 : N / (B ^ n * B) = N / B ^ n / B := (Int.ediv_ediv_of_nonneg (Int.le_of_lt hp)).symm
    rw [h4, Int.mul_assoc] at h3
    have h5 : B ^ n * (N / B ^ n % B) + B ^ n * (B * (N / B ^ n / B)) = B ^ n * (N / B ^ n) := by rw [← Int.mul_add, h2]
    omega
theorem sumB_dgt_lt {B : Int} (hB : 0 < B) {N : Int} {n : Nat} (h0 : 0 ≤ N) (h1 : N < B ^ n) : sumB B n (dgt B N) = N := by
  rw [sumB_dgt hB, Int.emod_eq_of_lt h0 h1]
theorem dgt_mod {B : Int} (hB : 0 < B) (N : Int) {i n : Nat} (h : i < n) : dgt B (N % B ^ n) i = dgt B N i := by
  have h1 := Int.emod_add_mul_ediv N (B ^ n)
  have h2 := dgt_low hB (N % B ^ n) (N / B ^ n) h
  rw [h1] at h2
  exact h2.symm
end Sx
