/-
  MulAdd's long multiplication, word by word.
-/
import Derived.Test.YtfpeolihnaeolaaScZ
import Derived.Test.YtfpeolihnaeolaaMaE
namespace Sx
open Go

/-- Eight words on the way: the lowest j are those of T, the others those of V; and what is carried. -/
def mixW (T V : Int) (j : Nat) : Nat → Int := fun k => if k < j then dgt q64 T k else dgt q64 V k
def carW (T V : Int) (j : Nat) : Int := T / q64 ^ j - V / q64 ^ j
def rowV (x y : Nat → Int) (Z : Int) (i : Nat) : Int := Z + sumB q64 i x * sumB q64 4 y
def rowT (x y : Nat → Int) (Z : Int) (i j : Nat) : Int := rowV x y Z i + q64 ^ i * (x i * sumB q64 j y)

theorem rowT_zero (x y : Nat → Int) (Z : Int) (i : Nat) : rowT x y Z i 0 = rowV x y Z i := by simp [rowT, sumB]
theorem rowT_four (x y : Nat → Int) (Z : Int) (i : Nat) : rowT x y Z i 4 = rowV x y Z (i + 1) := by
  unfold rowT rowV
  show Z + sumB q64 i x * sumB q64 4 y + q64 ^ i * (x i * sumB q64 4 y) = Z + (sumB q64 i x + q64 ^ i * x i) * sumB q64 4 y
  rw [Int.add_mul, Int.mul_assoc]; omega
theorem rowT_succ (x y : Nat → Int) (Z : Int) (i j : Nat) : rowT x y Z i (j + 1) = rowT x y Z i j + q64 ^ (i + j) * (x i * y j) := by
  unfold rowT
  show _ + q64 ^ i * (x i * (sumB q64 j y + q64 ^ j * y j)) = _
  rw [Int.mul_add, Int.mul_add, Int.pow_add]
  have : q64 ^ i * (x i * (q64 ^ j * y j)) = q64 ^ i * q64 ^ j * (x i * y j) := by
    rw [Int.mul_assoc, Int.mul_left_comm (x i)]
  omega
theorem rowT_range {x y : Nat → Int} (hx : IsDig q64 4 x) (hy : IsDig q64 4 y) (Z : Int) {i j : Nat} (hi : i < 4) (hj : j ≤ 4) : rowV x y Z i ≤ rowT x y Z i j ∧ rowT x y Z i j ≤ rowV x y Z i + q64 ^ (i + j) * (q64 - 1) := by
  have h1 := hx i hi
  have h2 := sumB_range q64_pos (n := j) (f := y) fun k hk => hy k (by omega)
  have p1 := powB_pos q64_pos i
  have p2 := powB_pos q64_pos j
  have h3 : 0 ≤ x i * sumB q64 j y := Int.mul_nonneg h1.1 h2.1
  have h4 : x i * sumB q64 j y ≤ (q64 - 1) * q64 ^ j := Int.mul_le_mul (by omega) (by omega) h2.1 (by decide)
  have h5 : 0 ≤ q64 ^ i * (x i * sumB q64 j y) := Int.mul_nonneg (Int.le_of_lt p1) h3
  have h6 : q64 ^ i * (x i * sumB q64 j y) ≤ q64 ^ i * ((q64 - 1) * q64 ^ j) := Int.mul_le_mul_of_nonneg_left h4 (Int.le_of_lt p1)
  have e : q64 ^ i * ((q64 - 1) * q64 ^ j) = q64 ^ (i + j) * (q64 - 1) := by
    rw [Int.pow_add, Int.mul_assoc, Int.mul_comm (q64 - 1)]
  unfold rowT
  rw [e] at h6
  omega
theorem carW_range {T V : Int} {k : Nat} (h1 : V ≤ T) (h2 : T ≤ V + q64 ^ k * (q64 - 1)) : 0 ≤ carW T V k ∧ carW T V k < q64 := by
  have p := powB_pos q64_pos k
  have h3 := Int.ediv_le_ediv p h1
  have h4 := Int.ediv_le_ediv p h2
  rw [Int.add_mul_ediv_left _ _ (by omega)] at h4
  unfold carW
  omega
theorem mix_sum {T V m : Int} {k : Nat} : m + dgt q64 V k + carW T V k = (T + q64 ^ k * m) / q64 ^ k - q64 * (V / q64 ^ (k + 1)) := by
  have p := powB_pos q64_pos k
  unfold dgt carW
  rw [Int.add_mul_ediv_left _ _ (by omega), Int.pow_succ, ← Int.ediv_ediv_of_nonneg (Int.le_of_lt p)]
  have := Int.emod_add_mul_ediv (V / q64 ^ k) q64
  omega
theorem mix_low {T V m : Int} {k : Nat} : (m + dgt q64 V k + carW T V k) % q64 = dgt q64 (T + q64 ^ k * m) k := by
  rw [mix_sum, Int.sub_mul_emod_self_left]
  rfl
theorem mix_high {T V m : Int} {k : Nat} : (m + dgt q64 V k + carW T V k) / q64 = carW (T + q64 ^ k * m) V (k + 1) := by
  have p := powB_pos q64_pos k
  have e : m + dgt q64 V k + carW T V k = (T + q64 ^ k * m) / q64 ^ k + q64 * (- (V / q64 ^ (k + 1))) := by rw [mix_sum, Int.mul_neg]; omega
  rw [e, Int.add_mul_ediv_left _ _ (by decide)]
  have e2 : ∀ N : Int, N / (q64 ^ k * q64) = N / q64 ^ k / q64 := fun N => (Int.ediv_ediv_of_nonneg (Int.le_of_lt p)).symm
  unfold carW
  rw [Int.pow_succ, e2, e2]
  omega
theorem mix_upd {T V m : Int} {k : Nat} (j : Nat) : (if j = k then dgt q64 (T + q64 ^ k * m) k else mixW T V k j) = mixW (T + q64 ^ k * m) V (k + 1) j := by
  unfold mixW
  by_cases h : j = k
  · rw [if_pos h, h, if_pos (by omega)]
  · rw [if_neg h]
    by_cases h2 : j < k
    · rw [if_pos h2, if_pos (by omega), dgt_low q64_pos _ _ h2]
    · rw [if_neg h2, if_neg (by omega)]
theorem mix_at {T V : Int} {k : Nat} : mixW T V k k = dgt q64 V k := if_neg (by omega)
theorem mix_same {V : Int} {k : Nat} (j : Nat) : mixW V V k j = dgt q64 V j := by unfold mixW; split <;> rfl
theorem mix_end {T V : Int} {k : Nat} (h : carW T V k = 0) (j : Nat) : mixW T V k j = dgt q64 T j := by
  unfold mixW
  by_cases h2 : j < k
  · rw [if_pos h2]
  · rw [if_neg h2]
    unfold carW at h
    obtain ⟨m, rfl⟩ : ∃ m, j = k + m := ⟨j - k, by omega⟩
    have p := powB_pos q64_pos k
    unfold dgt
    rw [Int.pow_add, ← Int.ediv_ediv_of_nonneg (Int.le_of_lt p), ← Int.ediv_ediv_of_nonneg (Int.le_of_lt p)]
    have : T / q64 ^ k = V / q64 ^ k := by omega
    rw [this]
theorem mix_eight {T V : Int} {j : Nat} (h : j < 8) : mixW T V 8 j = dgt q64 T j := if_pos h

/-- One product of two words, with two words more. -/
theorem mul_word {x y p c : Int} (hx : 0 ≤ x ∧ x < q64) (hy : 0 ≤ y ∧ y < q64) (hp : 0 ≤ p ∧ p < q64) (hc : 0 ≤ c ∧ c < q64) :
    adcS (adcS (umul x y) p 0) c 0 = (x * y + p + c) % q64 ∧ uadd (uadd (mulH x y) (adcC (umul x y) p 0)) (adcC (adcS (umul x y) p 0) c 0) = (x * y + p + c) / q64 := by
  have e1 : umul x y = x * y % q64 := mul_u64 x y
  have e2 : mulH x y = x * y / q64 := mulH_eq hx hy
  have h1 : x * y ≤ (q64 - 1) * (q64 - 1) := Int.mul_le_mul (by omega) (by omega) hy.1 (by decide)
  have h2 : 0 ≤ x * y := Int.mul_nonneg hx.1 hy.1
  rw [e1, e2]
  generalize x * y = m at *
  simp only [q64] at *
  unfold adcS adcC uadd
  simp only [add_u64]
  split <;> split <;> omega
theorem add_word {p c : Int} (hp : 0 ≤ p ∧ p < q64) (hc : 0 ≤ c ∧ c < q64) : adcS p c 0 = (0 + p + c) % q64 ∧ adcC p c 0 = (0 + p + c) / q64 := by
  simp only [q64] at *
  unfold adcS adcC
  split <;> omega

/-- The bytes of words. -/
theorem word_byteN (N : Int) (i : Nat) : IntKind.wrap .u8 (realBin .shr .u64 (dgt q64 N (i / 8)) ((i % 8 * 8 : Nat) : Int)) = byt N i := by
  have hp : (0 : Int) < 256 ^ (i % 8) := Int.pow_pos (by decide)
  have e2 : realBin .shr .u64 (dgt q64 N (i / 8)) ((i % 8 * 8 : Nat) : Int) = dgt q64 N (i / 8) / 256 ^ (i % 8) := by
    rw [shr_any .u64 _ _ (by show i % 8 * 8 ≤ 64; omega)]
    congr 1
    rw [Nat.mul_comm, Int.pow_mul]
    rfl
  rw [wrap_u8, e2]
  unfold byt dgt
  have e3 : (q64 : Int) ^ (i / 8) = 256 ^ (8 * (i / 8)) := by
    rw [Int.pow_mul]; rfl
  have e4 : (256 : Int) ^ i = 256 ^ (8 * (i / 8)) * 256 ^ (i % 8) := by
    rw [← Int.pow_add]; congr 1; omega
  rw [e3, e4, ← Int.ediv_ediv_of_nonneg (Int.le_of_lt (Int.pow_pos (by decide)))]
  generalize N / 256 ^ (8 * (i / 8)) = y
  have e5 : (q64 : Int) = 256 ^ (i % 8) * 256 * 256 ^ (7 - i % 8) := by
    rw [← Int.pow_succ, ← Int.pow_add]
    have : i % 8 + 1 + (7 - i % 8) = 8 := by omega
    rw [this]; rfl
  have h6 := Int.emod_add_mul_ediv y q64
  have e7 : y / 256 ^ (i % 8) = (y % q64) / 256 ^ (i % 8) + 256 * (256 ^ (7 - i % 8) * (y / q64)) := by
    have : y = y % q64 + 256 ^ (i % 8) * (256 * (256 ^ (7 - i % 8) * (y / q64))) := by
      rw [← Int.mul_assoc, ← Int.mul_assoc, ← e5]; omega
    rw [this, Int.add_mul_ediv_left _ _ (by omega), ← this]
  rw [e7, Int.add_mul_emod_self_left]

theorem num4 {b : Nat → Int} (hb : IsBytes 32 b) : sumB q64 4 (numW b 32) = num 32 b := by
  have h := num_range hb
  exact sumB_dgt_lt q64_pos h.1 (by exact h.2)
theorem rowV_zero (x y : Nat → Int) (Z : Int) : rowV x y Z 0 = Z := by simp [rowV, sumB]
theorem init_words {c : Nat → Int} (hc : IsBytes 32 c) (x y : Nat → Int) (k : Nat) : splice (fun _ => 0) 0 4 (fun j => numW c 32 (0 + j)) k = dgt q64 (rowV x y (num 32 c) 0) k := by
  have h := num_range hc
  rw [rowV_zero]
  unfold splice
  by_cases h4 : k < 4
  · rw [if_neg (by omega), if_pos (by omega)]
    show numW c 32 (0 + (k - 0)) = _
    rw [Nat.zero_add, Nat.sub_zero]
    rfl
  · rw [if_neg (by omega), if_neg (by omega)]
    unfold dgt
    obtain ⟨m, rfl⟩ : ∃ m, k = 4 + m := ⟨k - 4, by omega⟩
    have p := powB_pos q64_pos 4
    have e : num 32 c / q64 ^ (4 + m) = 0 := by
      rw [Int.pow_add, ← Int.ediv_ediv_of_nonneg (Int.le_of_lt p), Int.ediv_eq_zero_of_lt h.1 (by exact h.2)]
      simp
    rw [e]
    rfl
theorem mix_first (x y : Nat → Int) (Z : Int) (i k : Nat) : dgt q64 (rowV x y Z i) k = mixW (rowT x y Z i 0) (rowV x y Z i) (i + 0) k ∧ 0 = carW (rowT x y Z i 0) (rowV x y Z i) (i + 0) := by
  rw [rowT_zero, mix_same]
  refine ⟨rfl, ?_⟩
  unfold carW
  omega
theorem numW_word (a : Nat → Int) (i : Nat) : 0 ≤ numW a 32 i ∧ numW a 32 i < q64 := dgt_isDig q64_pos _ (i + 1) i (by omega)
theorem step_word (a b : Nat → Int) (Z : Int) (i j : Nat) (hc : inR .u64 (carW (rowT (numW a 32) (numW b 32) Z i j) (rowV (numW a 32) (numW b 32) Z i) (i + j))) :
    (∀ k, (if k = i + j then adcS (adcS (umul (numW a 32 i) (numW b 32 j)) (mixW (rowT (numW a 32) (numW b 32) Z i j) (rowV (numW a 32) (numW b 32) Z i) (i + j) (i + j)) 0) (carW (rowT (numW a 32) (numW b 32) Z i j) (rowV (numW a 32) (numW b 32) Z i) (i + j)) 0 else mixW (rowT (numW a 32) (numW b 32) Z i j) (rowV (numW a 32) (numW b 32) Z i) (i + j) k) = mixW (rowT (numW a 32) (numW b 32) Z i (j + 1)) (rowV (numW a 32) (numW b 32) Z i) (i + (j + 1)) k) ∧
    uadd (uadd (mulH (numW a 32 i) (numW b 32 j)) (adcC (umul (numW a 32 i) (numW b 32 j)) (mixW (rowT (numW a 32) (numW b 32) Z i j) (rowV (numW a 32) (numW b 32) Z i) (i + j) (i + j)) 0)) (adcC (adcS (umul (numW a 32 i) (numW b 32 j)) (mixW (rowT (numW a 32) (numW b 32) Z i j) (rowV (numW a 32) (numW b 32) Z i) (i + j) (i + j)) 0) (carW (rowT (numW a 32) (numW b 32) Z i j) (rowV (numW a 32) (numW b 32) Z i) (i + j)) 0) = carW (rowT (numW a 32) (numW b 32) Z i (j + 1)) (rowV (numW a 32) (numW b 32) Z i) (i + (j + 1)) := by
  obtain ⟨m1, m2⟩ := mul_word (numW_word a i) (numW_word b j) (p := dgt q64 (rowV (numW a 32) (numW b 32) Z i) (i + j)) (dgt_isDig q64_pos _ (i + j + 1) (i + j) (by omega)) (inR_u64.1 hc)
  rw [rowT_succ, mix_at, m1, m2, mix_low, mix_high]
  exact ⟨fun k => mix_upd k, rfl⟩
theorem step_carry (T V : Int) (k : Nat) (hc : inR .u64 (carW T V k)) :
    (∀ n, (if n = k then adcS (mixW T V k k) (carW T V k) 0 else mixW T V k n) = mixW T V (k + 1) n) ∧ adcC (mixW T V k k) (carW T V k) 0 = carW T V (k + 1) := by
  obtain ⟨m1, m2⟩ := add_word (p := dgt q64 V k) (dgt_isDig q64_pos _ (k + 1) k (by omega)) (inR_u64.1 hc)
  have e : T + q64 ^ k * 0 = T := by simp
  have l := mix_low (T := T) (V := V) (m := 0) (k := k)
  have h := mix_high (T := T) (V := V) (m := 0) (k := k)
  have u := fun n => mix_upd (T := T) (V := V) (m := 0) (k := k) n
  rw [e] at l h
  simp only [e] at u
  rw [mix_at, m1, m2, l, h]
  exact ⟨u, rfl⟩
theorem sn_congr {n : Nat} {f g : Nat → Int} (h : ∀ i, i < n → f i = g i) : sn n f = sn n g := by unfold sn; rw [num_congr n h]
/-- MulAdd's answer. -/
theorem muladd_bytes {a b c : Nat → Int} (ha : IsBytes 32 a) (hb : IsBytes 32 b) (hc : IsBytes 32 c) : sb (sn 64 (byt (rowV (numW a 32) (numW b 32) (num 32 c) 4))) = sb (se a * se b + se c) := by
  have h1 := num_range ha
  have h2 := num_range hb
  have h3 := num_range hc
  have h4 : num 32 a * num 32 b ≤ (256 ^ 32 - 1) * (256 ^ 32 - 1) := Int.mul_le_mul (by omega) (by omega) h2.1 (by decide)
  have h5 : 0 ≤ num 32 a * num 32 b := Int.mul_nonneg h1.1 h2.1
  unfold rowV
  rw [num4 ha, num4 hb]
  unfold sn se
  rw [num_byt 64 _ (by omega) (by have e : (256 : Int) ^ 64 = 256 ^ 32 * 256 ^ 32 := rfl; rw [e]; omega), Int.add_comm, zi_add, zi_mul]
end Sx
