/-
  Contracts of package scalar.
-/
import Derived.Test.YtfpeolihnaeolaaScB
import Derived.Test.YtfpeolihnaeolaaSpE
namespace Sx
open Go Go.RowKit

structure Top16 (a : Nat → Int) : Prop where
  lt : W5 a < 16 * lI
structure Nib (n : Int) : Prop where
  ok : 0 ≤ n ∧ n < 16
def lMinusC (M : (Nat → Int) → (Nat → Int) → Nat → Int) (B : (Nat → Int) → (Nat → Int) → Bool) : Contract := fun vs => match vs with
  | [.arr .u64 5 a, .arr .u64 5 b] => some ([], .tup [.arr .u64 5 (M a b), .bool (.sym (B a b))])
  | _ => none
def shiftC (S : (Nat → Int) → Int → Nat → Int) : Contract := fun vs => match vs with
  | [.arr .u64 5 a, .int .u64 n] => some ([Nib n.val], .arr .u64 5 (S a n.val))
  | _ => none
def foldC (F : (Nat → Int) → Nat → Int) : Contract := fun vs => match vs with
  | [.arr .u64 5 a] => some ([Top16 a], .arr .u64 5 (F a))
  | _ => none
def redC (R : Nat → (Nat → Int) → Nat → Int) : Contract := fun vs => match vs with
  | [.xsl .u8 1 len _ b] => some ([], .arr .u64 5 (R len.val b))
  | _ => none
def tri32C (F : (Nat → Int) → (Nat → Int) → (Nat → Int) → Nat → Int) : Contract := fun vs => match vs with
  | [.arr .u8 32 a, .arr .u8 32 b, .arr .u8 32 c] => some ([], .arr .u8 32 (F a b c))
  | _ => none
def un64C (F : (Nat → Int) → Nat → Int) : Contract := fun vs => match vs with
  | [.arr .u8 64 a] => some ([], .arr .u8 32 (F a))
  | _ => none

theorem isX {cap : SO} {len : SO} {b : Nat → Int} (h : wfV (.xsl .u8 1 len cap b)) : IsBytes len.val b := fun i hi => inR_u8.1 (h i (by omega))
theorem wfSt_get : ∀ {S : St}, wfSt S → ∀ i, wfAV (get S i)
  | [], _, i => by simp [get, wfAV]
  | x :: S, h, 0 => by simpa [get] using h.1
  | x :: S, h, i + 1 => by simpa [get] using wfSt_get (S := S) h.2 i
theorem n_lt {n : Nat} (h : inR .i64 (n : Int)) : n < 9223372036854775808 := by
  have h1 := h.2
  have e : IntKind.max .i64 = 9223372036854775807 := rfl
  omega
/-- What a number's bytes come to, as five words. -/
def redW (n : Nat) (b : Nat → Int) : Nat → Int := dgt q64 (num n b % lI)
/-- The number of the highest i of n bytes. -/
def topN (n : Nat) (b : Nat → Int) (i : Nat) : Int := num i fun j => b (n - i + j)

theorem is5 {a : Nat → Int} (h : wfV (.arr .u64 5 a)) : Is5 a := fun i hi => inR_u64.1 (h i hi)
theorem lI_pos : (0 : Int) < lI := by decide
theorem modl (n : Int) : 0 ≤ n % lI ∧ n % lI < lI := ⟨Int.emod_nonneg _ (by decide), Int.emod_lt_of_pos _ lI_pos⟩
theorem W5_mod (n : Int) : W5 (dgt q64 (n % lI)) = n % lI := W5_dgt (modl n).1 (Int.lt_trans (modl n).2 (by decide))
theorem W5_fold (a : Nat → Int) : W5 (foldW a) = W5 a % lI := W5_mod _
theorem W5_shift {a : Nat → Int} (h : 0 ≤ W5 a ∧ W5 a < lI) {n : Int} (hn : 0 ≤ n ∧ n < 16) : W5 (shiftW a n) = 16 * W5 a + n ∧ W5 (shiftW a n) < 16 * lI := by
  have e : W5 (shiftW a n) = 16 * W5 a + n := W5_dgt (by omega) (by simp only [lI] at *; omega)
  rw [e]
  exact ⟨rfl, by omega⟩

theorem topN_zero (n : Nat) (b : Nat → Int) : topN n b 0 = 0 := rfl
theorem topN_succ {n i : Nat} (b : Nat → Int) (h : i < n) : topN n b (i + 1) = b (n - 1 - i) + 256 * topN n b i := by
  have e : n - (i + 1) = n - 1 - i := by omega
  unfold topN
  rw [e]
  show b (n - 1 - i + 0) + 256 * num i (fun j => b (n - 1 - i + (j + 1))) = _
  congr 3
  funext j
  congr 1
  omega
theorem topN_all (n : Nat) (b : Nat → Int) : topN n b n = num n b := by
  unfold topN
  congr 1
  funext j
  congr 1
  omega

/-- One byte more: eight bits, four at a time. -/
theorem red_step {n i : Nat} {b : Nat → Int} (h : i < n) {x : Int} (hx : x = b (n - 1 - i)) (hb : 0 ≤ x ∧ x < 256) :
    foldW (shiftW (foldW (shiftW (dgt q64 (topN n b i % lI)) (x / 16))) (x % 16)) = dgt q64 (topN n b (i + 1) % lI) := by
  have h0 := modl (topN n b i)
  have e0 := W5_mod (topN n b i)
  have s1 := W5_shift (a := dgt q64 (topN n b i % lI)) (by rw [e0]; exact h0) (n := x / 16) (by omega)
  have f1 := W5_fold (shiftW (dgt q64 (topN n b i % lI)) (x / 16))
  rw [s1.1, e0] at f1
  have h1 := modl (16 * (topN n b i % lI) + x / 16)
  have s2 := W5_shift (a := foldW (shiftW (dgt q64 (topN n b i % lI)) (x / 16))) (by rw [f1]; exact h1) (n := x % 16) (by omega)
  rw [f1] at s2
  unfold foldW at s2 ⊢
  rw [s2.1, topN_succ b h, ← hx]
  congr 1
  simp only [lI] at *
  omega
theorem red_tops {n i : Nat} {b : Nat → Int} {x : Int} (hb : 0 ≤ x ∧ x < 256) :
    Top16 (shiftW (dgt q64 (topN n b i % lI)) (x / 16)) ∧ Top16 (shiftW (foldW (shiftW (dgt q64 (topN n b i % lI)) (x / 16))) (x % 16)) := by
  have h0 := modl (topN n b i)
  have e0 := W5_mod (topN n b i)
  have s1 := W5_shift (a := dgt q64 (topN n b i % lI)) (by rw [e0]; exact h0) (n := x / 16) (by omega)
  have f1 := W5_fold (shiftW (dgt q64 (topN n b i % lI)) (x / 16))
  have s2 := W5_shift (a := foldW (shiftW (dgt q64 (topN n b i % lI)) (x / 16))) (by rw [f1]; exact modl _) (n := x % 16) (by omega)
  exact ⟨⟨s1.2⟩, ⟨s2.2⟩⟩
theorem nibs {x : Int} (h : 0 ≤ x ∧ x < 256) : realBin .shr .u8 x 4 = x / 16 ∧ realBin .and .u8 x 15 = x % 16 ∧ Nib (x / 16) ∧ Nib (x % 16) :=
  ⟨shr_any .u8 x 4 (by decide), and_mask (k := .u8) rfl ⟨h.1, by show x < 256; omega⟩ 4 (by decide), ⟨by omega⟩, ⟨by omega⟩⟩

theorem fold_take {a m : Nat → Int} (ha : Is5 a) (ht : Top16 a) (hm : W5 m = topW a * lI) (h : ltW a m = false) : ∀ i, i < 5 → minusW a m i = foldW a i := by
  have h0 := (W5_range ha).1
  have h1 := (fold_parts h0 ht.lt).1
  intro i _
  unfold minusW foldW
  unfold ltW at h
  rw [hm] at h ⊢
  have h2 : ¬ (W5 a < topW a * lI) := of_decide_eq_false h
  rw [h1 (by omega)]
theorem fold_back {a m m1 : Nat → Int} (ha : Is5 a) (ht : Top16 a) (hm : W5 m = topW a * lI) (hm1 : W5 m1 = lI) (h : ltW a m = true) : ∀ i, i < 5 → plusW (minusW a m) m1 i = foldW a i := by
  have h0 := (W5_range ha).1
  have h1 := (fold_parts h0 ht.lt).2
  intro i hi
  unfold plusW minusW foldW
  unfold ltW at h
  rw [hm] at h ⊢
  have h2 : W5 a < topW a * lI := of_decide_eq_true h
  have h3 := h1 h2
  have h4 := modl (W5 a)
  have h5 : W5 (dgt q64 (W5 a - topW a * lI)) = (W5 a - topW a * lI) % q64 ^ 5 := sumB_dgt q64_pos _ 5
  have h6 : (W5 a - topW a * lI) % q64 ^ 5 = W5 a - topW a * lI + q64 ^ 5 := by
    have h7 : (q64 : Int) ^ 5 = 2135987035920910082395021706169552114602704522356652769947041607822219725780640550022962086936576 := rfl
    rw [h7]
    generalize W5 a - topW a * lI = d at *
    simp only [lI] at *
    omega
  rw [h5, h6, hm1]
  have h8 : W5 a - topW a * lI + q64 ^ 5 + lI = W5 a % lI + q64 ^ 5 * 1 := by rw [← h3]; omega
  rw [h8, dgt_low q64_pos _ _ hi]

/-- The bytes of five words. -/
def bytesW (a : Nat → Int) : Nat → Int := byt (W5 a)
theorem word_byte {a : Nat → Int} (ha : Is5 a) {i : Nat} (hi : i < 32) : IntKind.wrap .u8 (realBin .shr .u64 (a (i / 8)) ((i % 8 * 8 : Nat) : Int)) = bytesW a i := by
  have h := dgt_sumB q64_pos ha (i := i / 8) (by omega)
  have hp : (0 : Int) < 256 ^ (i % 8) := Int.pow_pos (by decide)
  have e2 : realBin .shr .u64 (a (i / 8)) ((i % 8 * 8 : Nat) : Int) = a (i / 8) / 256 ^ (i % 8) := by
    rw [shr_any .u64 _ _ (by show i % 8 * 8 ≤ 64; omega)]
    congr 1
    rw [Nat.mul_comm, Int.pow_mul]
    rfl
  rw [wrap_u8, e2, ← h]
  unfold bytesW byt dgt
  show sumB q64 5 a / q64 ^ (i / 8) % q64 / 256 ^ (i % 8) % 256 = W5 a / 256 ^ i % 256
  have e3 : (q64 : Int) ^ (i / 8) = 256 ^ (8 * (i / 8)) := by
    rw [Int.pow_mul]; rfl
  have e4 : (256 : Int) ^ i = 256 ^ (8 * (i / 8)) * 256 ^ (i % 8) := by
    rw [← Int.pow_add]; congr 1; omega
  rw [e3, e4, ← Int.ediv_ediv_of_nonneg (Int.le_of_lt (Int.pow_pos (by decide)))]
  show W5 a / 256 ^ (8 * (i / 8)) % q64 / 256 ^ (i % 8) % 256 = _
  generalize W5 a / 256 ^ (8 * (i / 8)) = y
  have e5 : (q64 : Int) = 256 ^ (i % 8) * 256 * 256 ^ (7 - i % 8) := by
    rw [← Int.pow_succ, ← Int.pow_add]
    have : i % 8 + 1 + (7 - i % 8) = 8 := by omega
    rw [this]; rfl
  have h6 := Int.emod_add_mul_ediv y q64
  have e7 : y / 256 ^ (i % 8) = (y % q64) / 256 ^ (i % 8) + 256 * (256 ^ (7 - i % 8) * (y / q64)) := by
    have : y = y % q64 + 256 ^ (i % 8) * (256 * (256 ^ (7 - i % 8) * (y / q64))) := by
      rw [← Int.mul_assoc, ← Int.mul_assoc, ← e5]; omega
    rw [this, Int.add_mul_ediv_left _ _ (by omega), ← this]
  rw [e7, Int.add_mul_emod_self_left]

theorem pow_mono {m n : Nat} (h : m ≤ n) : (256 : Int) ^ m ≤ 256 ^ n := by
  obtain ⟨k, rfl⟩ : ∃ k, n = m + k := ⟨n - m, by omega⟩
  have h1 : 0 < (256 : Int) ^ m := Int.pow_pos (by decide)
  have h2 : 0 < (256 : Int) ^ k := Int.pow_pos (by decide)
  have h3 : (256 : Int) ^ m * 1 ≤ 256 ^ m * 256 ^ k := Int.mul_le_mul_of_nonneg_left (by omega) (Int.le_of_lt h1)
  rw [Int.pow_add]
  omega
theorem num_range {n : Nat} {f : Nat → Int} (h : IsBytes n f) : 0 ≤ num n f ∧ num n f < 256 ^ n := by
  rw [num_sumB]
  exact sumB_range (by decide) h

/-- The words of the lowest i bytes. -/
def numW (b : Nat → Int) (i : Nat) : Nat → Int := dgt q64 (num i b)
theorem numW_zero (b : Nat → Int) (j : Nat) : numW b 0 j = 0 := by
  show 0 / q64 ^ j % q64 = 0
  simp
theorem numW_step {b : Nat → Int} (hb : IsBytes 32 b) {i : Nat} (hi : i < 32) (j : Nat) (_hj : j < 5) :
    (if j = i / 8 then realBin .or .u64 (numW b i (i / 8)) (realBin .shl .u64 (b i) ((i % 8 * 8 : Nat) : Int)) else numW b i j) = numW b (i + 1) j := by
  have hbi := hb i hi
  have hr := num_range (n := i) (fun k hk => hb k (by omega))
  have hq : 0 < (256 : Int) ^ (8 * (i / 8)) := Int.pow_pos (by decide)
  have hq8 : 0 < (256 : Int) ^ (i % 8) := Int.pow_pos (by decide)
  have e4 : (256 : Int) ^ i = 256 ^ (8 * (i / 8)) * 256 ^ (i % 8) := by
    rw [← Int.pow_add]; congr 1; omega
  have pw : ∀ k : Nat, (q64 : Int) ^ k = 256 ^ (8 * k) := fun k => by rw [Int.pow_mul]; rfl
  have hlow : 256 ^ (i % 8) ≤ (72057594037927936 : Int) := by
    have : (72057594037927936 : Int) = 256 ^ 7 := rfl
    rw [this]
    exact pow_mono (by omega)
  unfold numW dgt
  rw [num_last]
  by_cases h : j = i / 8
  · rw [if_pos h, h, pw, e4]
    have e5 : num i b + 256 ^ (8 * (i / 8)) * 256 ^ (i % 8) * b i = num i b + 256 ^ (8 * (i / 8)) * (256 ^ (i % 8) * b i) := by rw [Int.mul_assoc]
    rw [e5, Int.add_mul_ediv_left _ _ (by omega)]
    have hy0 : 0 ≤ num i b / 256 ^ (8 * (i / 8)) := Int.ediv_nonneg hr.1 (Int.le_of_lt hq)
    have hy1 : num i b / 256 ^ (8 * (i / 8)) < 256 ^ (i % 8) := Int.ediv_lt_of_lt_mul hq (by rw [Int.mul_comm, ← e4]; exact hr.2)
    have hbp0 : 0 ≤ 256 ^ (i % 8) * b i := Int.mul_nonneg (Int.le_of_lt hq8) hbi.1
    have hbp : 256 ^ (i % 8) * b i ≤ 256 ^ (i % 8) * 255 := Int.mul_le_mul_of_nonneg_left (by omega) (Int.le_of_lt hq8)
    have es : realBin .shl .u64 (b i) ((i % 8 * 8 : Nat) : Int) = 256 ^ (i % 8) * b i := by
      rw [shl_u64 _ _ (by omega)]
      have : (2 : Int) ^ (i % 8 * 8) = 256 ^ (i % 8) := by rw [Nat.mul_comm, Int.pow_mul]; rfl
      rw [this, Int.mul_comm]
      exact Int.emod_eq_of_lt hbp0 (by simp only [q64] at *; omega)
    rw [es]
    generalize num i b / 256 ^ (8 * (i / 8)) = y at *
    have em : y % q64 = y := Int.emod_eq_of_lt hy0 (by simp only [q64] at *; omega)
    rw [em, or_comm', or_apart (k := .u64) rfl (x := 256 ^ (i % 8) * b i) (y := y) (i % 8 * 8) ⟨hbp0, by show _ < (18446744073709551616 : Int); omega⟩ ?_ ⟨hy0, ?_⟩ (by show i % 8 * 8 ≤ 64; omega)]
    · rw [Int.add_comm]
      exact (Int.emod_eq_of_lt (by omega) (by simp only [q64] at *; omega)).symm
    · have : (2 : Int) ^ (i % 8 * 8) = 256 ^ (i % 8) := by rw [Nat.mul_comm, Int.pow_mul]; rfl
      rw [this]
      exact Int.mul_emod_right _ _
    · have : (2 : Int) ^ (i % 8 * 8) = 256 ^ (i % 8) := by rw [Nat.mul_comm, Int.pow_mul]; rfl
      rw [this]
      exact hy1
  · rw [if_neg h, pw]
    rcases Nat.lt_or_ge j (i / 8) with hlt | hge
    · have e6 : (256 : Int) ^ i * b i = 256 ^ (8 * j) * (q64 * (256 ^ (i - 8 * j - 8) * b i)) := by
        have : (256 : Int) ^ i = 256 ^ (8 * j) * 256 ^ 8 * 256 ^ (i - 8 * j - 8) := by
          rw [← Int.pow_add, ← Int.pow_add]; congr 1; omega
        rw [this, Int.mul_assoc, Int.mul_assoc]; rfl
      have hq2 : 0 < (256 : Int) ^ (8 * j) := Int.pow_pos (by decide)
      rw [e6, Int.add_mul_ediv_left _ _ (by omega), Int.add_mul_emod_self_left]
    · have hq2 : 0 < (256 : Int) ^ (8 * j) := Int.pow_pos (by decide)
      have hle : (256 : Int) ^ i * 256 ≤ 256 ^ (8 * j) := by
        rw [← Int.pow_succ]
        exact pow_mono (by omega)
      have hi0 : 0 < (256 : Int) ^ i := Int.pow_pos (by decide)
      have hb1 : 256 ^ i * b i ≤ 256 ^ i * 255 := Int.mul_le_mul_of_nonneg_left (by omega) (Int.le_of_lt hi0)
      have hb0 : 0 ≤ 256 ^ i * b i := Int.mul_nonneg (Int.le_of_lt hi0) hbi.1
      rw [Int.ediv_eq_zero_of_lt hr.1 (by omega), Int.ediv_eq_zero_of_lt (by omega) (by omega)]
theorem W5_num {b : Nat → Int} (hb : IsBytes 32 b) : W5 (numW b 32) = num 32 b := by
  have h := num_range hb
  exact W5_dgt h.1 (Int.lt_trans h.2 (by decide))
end Sx
