/-
  Plain arithmetic that the proofs share: second part. No condition.
-/
import Derived.Test.YtnbjbamoddmbhaaDoorZMA

/-
  The document's numbers of layer 4: the least one, equality, bits.
-/
namespace Sx
open Go Go.RowKit

/-- The number below p, as digits. -/
def rb (x : Zp) : Nat → Int := D17 (x.val : Int)
theorem V17_rb (x : Zp) : V17 (rb x) = (x.val : Int) := V17_D17 (zval_bounds x).1 (Int.lt_trans (zval_bounds x).2 (by decide))
theorem num17_rb (x : Zp) : Num17 (rb x) := num17_D17 _
theorem rz_rb (x : Zp) : rz (rb x) = x := by unfold rz; rw [V17_rb, zi_of_val]
theorem rz_val (a : Nat → Int) : ((rz a).val : Int) = V17 a % p25 := by unfold rz; rw [zi_val, p25_cast]
theorem D17_V17 {f : Nat → Int} (h : Num17 f) {i : Nat} (hi : i < 17) : D17 (V17 f) i = f i := dgt_sumB b15_pos h.h hi
theorem all_max {f : Nat → Int} : ∀ n, IsDig b15 n f → (sumB b15 n f = b15 ^ n - 1 ↔ ∀ j, j < n → f j = 32767)
  | 0, _ => by simp [sumB]
  | n + 1, h => by
    have ih := all_max n fun i hi => h i (by omega)
    have hr := sumB_range b15_pos (n := n) (f := f) fun i hi => h i (by omega)
    have hd := h n (by omega)
    have hp : 0 < b15 ^ n := Int.pow_pos b15_pos
    have e1 : sumB b15 (n + 1) f = sumB b15 n f + b15 ^ n * f n := rfl
    have e2 : b15 ^ (n + 1) = b15 ^ n * 32768 := by rw [Int.pow_succ]; rfl
    have hb : b15 = 32768 := rfl
    rw [hb] at hd
    rw [e1, e2]
    generalize b15 ^ n = P at *
    generalize sumB b15 n f = s at *
    constructor
    · intro he
      have hmax : f n = 32767 := by
        refine Decidable.byContradiction fun hn => ?_
        have hle : P * f n ≤ P * 32766 := Int.mul_le_mul_of_nonneg_left (by omega) (Int.le_of_lt hp)
        generalize P * f n = t at *
        omega
      rw [hmax] at he
      have hs := ih.1 (by omega)
      intro j hj
      by_cases e : j = n
      · rw [e]; exact hmax
      · exact hs j (by omega)
    · intro ha
      have hs := ih.2 fun j hj => ha j (by omega)
      have hmax := ha n (by omega)
      rw [hmax, hs]
      omega
/-- Are the digits from the first on up to k the greatest? -/
def topQ (a : Nat → Int) : Nat → Bool
  | 0 => decide (32749 ≤ a 0)
  | k + 1 => topQ a k && decide (a (k + 1) = 32767)
theorem topQ_iff (a : Nat → Int) : ∀ k, topQ a k = true ↔ 32749 ≤ a 0 ∧ ∀ j, j < k → a (j + 1) = 32767
  | 0 => by simp [topQ]
  | k + 1 => by
    simp only [topQ, Bool.and_eq_true, topQ_iff a k, decide_eq_true_eq]
    constructor
    · rintro ⟨⟨h1, h2⟩, h3⟩
      refine ⟨h1, fun j hj => ?_⟩
      by_cases e : j = k
      · rw [e]; exact h3
      · exact h2 j (by omega)
    · rintro ⟨h1, h2⟩
      exact ⟨⟨h1, fun j hj => h2 j (by omega)⟩, h2 k (by omega)⟩
theorem top_is {a : Nat → Int} (ha : Num17 a) : (topQ a 16 = true ↔ p25 ≤ V17 a) ∧ (topQ a 16 = true → V17 a - p25 = a 0 - 32749) := by
  have e : V17 a = a 0 + b15 * sumB b15 16 fun j => a (j + 1) := sumB_first a 16
  have hd : IsDig b15 16 fun j => a (j + 1) := fun i hi => ha.h (i + 1) (by omega)
  have hr := sumB_range b15_pos hd
  have hm := all_max 16 hd
  have h0 := ha.h 0 (by decide)
  have e16 : b15 ^ 16 = 1766847064778384329583297500742918515827483896875618958121606201292619776 := by decide
  have hb : b15 = 32768 := rfl
  rw [e16] at hr hm
  rw [hb] at h0
  rw [topQ_iff, e, hb]
  rw [hb] at hr hm
  generalize (sumB 32768 16 fun j => a (j + 1)) = s at *
  simp only [p25]
  constructor
  · constructor
    · rintro ⟨h1, h2⟩
      have h3 := hm.2 h2
      omega
    · intro h
      have h3 : s = 1766847064778384329583297500742918515827483896875618958121606201292619776 - 1 := by omega
      exact ⟨by omega, hm.1 h3⟩
  · rintro ⟨h1, h2⟩
    have h3 := hm.2 h2
    omega
theorem small_17 {x : Int} (h : 0 ≤ x ∧ x < 32768) (i : Nat) : upd (fun _ => 0) 0 x i = D17 x i := by
  unfold upd D17 dgt
  by_cases e : i = 0
  · subst e
    rw [if_pos rfl, Int.pow_zero, Int.ediv_one]
    show x = x % 32768
    omega
  · rw [if_neg e]
    have : x / b15 ^ i = 0 := by
      refine Int.ediv_eq_zero_of_lt h.1 (Int.lt_of_lt_of_le h.2 ?_)
      have e2 : b15 ^ i = b15 * b15 ^ (i - 1) := by
        rw [← Int.pow_succ']
        congr 1
        omega
      have hp : 0 < b15 ^ (i - 1) := Int.pow_pos b15_pos
      rw [e2, show b15 = 32768 from rfl] at *
      generalize (32768 : Int) ^ (i - 1) = P at *
      omega
    rw [this]
    rfl
theorem least_top {a : Nat → Int} (ha : Num17 a) (h : topQ a 16 = true) : (0 ≤ a 0 - 32749 ∧ a 0 - 32749 < 32768) ∧ ∀ i, D17 (a 0 - 32749) i = rb (rz a) i := by
  have ht := top_is ha
  have h1 := ht.1.1 h
  have h2 := ht.2 h
  have hr := V17_range ha
  have h0 := ha.h 0 (by decide)
  simp only [b15] at h0
  refine ⟨⟨?_, by omega⟩, fun i => ?_⟩
  · have := (topQ_iff a 16).1 h
    omega
  · unfold rb
    rw [rz_val, ← h2]
    congr 1
    simp only [p25, q255] at *
    omega
theorem least_low {a : Nat → Int} (ha : Num17 a) (h : topQ a 16 = false) : ∀ i, i < 17 → a i = rb (rz a) i := by
  have ht := top_is ha
  have hr := V17_range ha
  have h1 : ¬ p25 ≤ V17 a := fun e => by rw [ht.1.2 e] at h; cases h
  intro i hi
  unfold rb
  rw [rz_val, Int.emod_eq_of_lt hr.1 (by omega), D17_V17 ha hi]
theorem rb_same (x y : Zp) : realEqA 17 (rb x) (rb y) = decide (x = y) := by
  rw [Bool.eq_iff_iff]
  simp only [realEqA, List.all_eq_true, List.mem_range, beq_iff_eq, decide_eq_true_eq]
  constructor
  · intro h
    have h1 : V17 (rb x) = V17 (rb y) := V17_congr h
    have h2 := congrArg (zi pN) h1
    have e : ∀ z : Zp, zi pN (V17 (rb z)) = z := rz_rb
    rw [e, e] at h2
    exact h2
  · rintro rfl i _
    rfl
structure Dig1 (x : Int) : Prop where
  h : 0 ≤ x ∧ x < 32768
structure Dig2 (x : Int) : Prop where
  h : 0 ≤ x ∧ x < 1073741824
structure Ix256 (x : Int) : Prop where
  h : 0 ≤ x ∧ x < 256
def nSmallC (S : Int → Nat → Int) : Contract := fun vs => match vs with
  | [.int .i64 x] => some ([Dig1 x.val], .arr .i64 17 (S x.val))
  | _ => none
def nBigC (S : Int → Nat → Int) : Contract := fun vs => match vs with
  | [.int .i64 x] => some ([Dig2 x.val], .arr .i64 17 (S x.val))
  | _ => none
def nEqC (B : (Nat → Int) → (Nat → Int) → Bool) : Contract := fun vs => match vs with
  | [.arr .i64 17 f, .arr .i64 17 g] => some ([Num17 f, Num17 g], .bool (.sym (B f g)))
  | _ => none
def nBitC (B : (Nat → Int) → Int → Int) : Contract := fun vs => match vs with
  | [.arr .u8 32 b, .int .i64 i] => some ([Ix256 i.val], .int .i64 (.sym (B b i.val)))
  | _ => none
def nReadC (R : (Nat → Int) → Nat → Int) : Contract := fun vs => match vs with
  | [.arr .u8 32 b] => some ([], .arr .i64 17 (R b))
  | _ => none
def nWriteC (W : (Nat → Int) → Nat → Int) : Contract := fun vs => match vs with
  | [.arr .i64 17 a] => some ([Num17 a], .arr .u8 32 (W a))
  | _ => none
theorem big_17 {x : Int} (h : 0 ≤ x ∧ x < 1073741824) {i : Nat} : upd (D17 (x % 32768)) 1 (x / 32768) i = D17 x i := by
  unfold upd D17 dgt
  by_cases e : i = 1
  · subst e
    rw [if_pos rfl, Int.pow_one]
    show x / 32768 = x / 32768 % 32768
    omega
  · rw [if_neg e]
    by_cases e0 : i = 0
    · subst e0
      rw [Int.pow_zero, Int.ediv_one, Int.ediv_one]
      show x % 32768 % 32768 = x % 32768
      omega
    · have e2 : b15 ^ i = 1073741824 * b15 ^ (i - 2) := by
        have : b15 ^ i = b15 ^ 2 * b15 ^ (i - 2) := by rw [← Int.pow_add]; congr 1; omega
        rw [this]
        rfl
      have hp : 0 < b15 ^ (i - 2) := Int.pow_pos b15_pos
      have h1 : x / b15 ^ i = 0 := Int.ediv_eq_zero_of_lt h.1 (by rw [e2]; generalize b15 ^ (i - 2) = P at *; omega)
      have h2 : x % 32768 / b15 ^ i = 0 := Int.ediv_eq_zero_of_lt (by omega) (by rw [e2]; generalize b15 ^ (i - 2) = P at *; omega)
      rw [h1, h2]
end Sx

/-
  The document's numbers of layer 4: bit by bit.
-/
namespace Sx
open Go Go.RowKit

theorem two_pow_le {a b : Nat} (h : a ≤ b) : (2 : Int) ^ a ≤ 2 ^ b := by exact_mod_cast Nat.pow_le_pow_right (by decide) h
/-- One more bit, above what is below it. -/
theorem bit_dgt {w : Nat} (hw : 0 < w) {B : Int} (hB : B = 2 ^ w) {M t : Int} {i : Nat} (h0 : 0 ≤ M) (h1 : M < 2 ^ i) (ht : 0 ≤ t ∧ t ≤ 1) (k : Nat) :
    dgt B (M + 2 ^ i * t) k = if k = i / w then dgt B M k + 2 ^ (i % w) * t else dgt B M k := by
  have hBp : 0 < B := by rw [hB]; exact Int.pow_pos (by decide)
  have hi : (2 : Int) ^ i = B ^ (i / w) * 2 ^ (i % w) := by
    rw [hB, ← Int.pow_mul, ← Int.pow_add]
    congr 1
    exact (Nat.div_add_mod i w).symm
  have hq : 0 < B ^ (i / w) := Int.pow_pos hBp
  have hr : i % w < w := Nat.mod_lt _ hw
  have hrp : (0 : Int) < 2 ^ (i % w) := Int.pow_pos (by decide)
  have hBr : (2 : Int) ^ (i % w) * 2 ≤ B := by
    rw [hB, ← Int.pow_succ]
    exact two_pow_le (by omega)
  by_cases h : k = i / w
  · subst h
    rw [if_pos rfl]
    unfold dgt
    rw [hi, Int.mul_assoc, Int.add_mul_ediv_left _ _ (Int.ne_of_gt hq)]
    have hm : M / B ^ (i / w) < 2 ^ (i % w) := Int.ediv_lt_of_lt_mul hq (by rw [Int.mul_comm, ← hi]; exact h1)
    have hm0 : 0 ≤ M / B ^ (i / w) := Int.ediv_nonneg h0 (Int.le_of_lt hq)
    generalize M / B ^ (i / w) = m at *
    generalize (2 : Int) ^ (i % w) = P at *
    have ht2 : t = 0 ∨ t = 1 := by omega
    rcases ht2 with rfl | rfl
    · rw [Int.mul_zero, Int.add_zero, Int.add_zero]
    · rw [Int.mul_one, Int.emod_eq_of_lt (by omega) (by omega), Int.emod_eq_of_lt hm0 (by omega)]
  · rw [if_neg h]
    by_cases hlt : k < i / w
    · rw [hi, Int.mul_assoc]
      exact dgt_low hBp M _ hlt
    · have hk : i < w * k := by
        have : i / w < k := by omega
        have h2 := Nat.div_add_mod i w
        have h3 : w * (i / w + 1) ≤ w * k := Nat.mul_le_mul_left w this
        rw [Nat.mul_add, Nat.mul_one] at h3
        omega
      have hp : (2 : Int) ^ (i + 1) ≤ B ^ k := by
        rw [hB, ← Int.pow_mul]
        exact two_pow_le (by omega)
      have e2 : (2 : Int) ^ (i + 1) = 2 ^ i * 2 := Int.pow_succ ..
      unfold dgt
      have a1 : M / B ^ k = 0 := Int.ediv_eq_zero_of_lt h0 (by have : (0 : Int) < 2 ^ i := Int.pow_pos (by decide); omega)
      have ht2 : t = 0 ∨ t = 1 := by omega
      have a2 : (M + 2 ^ i * t) / B ^ k = 0 := by
        have hp2 : (0 : Int) < 2 ^ i := Int.pow_pos (by decide)
        rcases ht2 with rfl | rfl
        · rw [Int.mul_zero, Int.add_zero]; exact a1
        · rw [Int.mul_one]
          exact Int.ediv_eq_zero_of_lt (by omega) (by omega)
      rw [a1, a2]
/-- Bit i of a number. -/
def bitN (N : Int) (i : Nat) : Int := N / 2 ^ i % 2
theorem bitN_range (N : Int) (i : Nat) : 0 ≤ bitN N i ∧ bitN N i ≤ 1 := by unfold bitN; omega
theorem low_next (N : Int) (i : Nat) : N % 2 ^ (i + 1) = N % 2 ^ i + 2 ^ i * bitN N i := by
  unfold bitN
  have hq : (0 : Int) < 2 ^ i := Int.pow_pos (by decide)
  rw [Int.pow_succ]
  generalize (2 : Int) ^ i = q at *
  have h1 := Int.emod_add_mul_ediv N (q * 2)
  have h2 := Int.emod_add_mul_ediv N q
  rw [← Int.ediv_ediv_of_nonneg (Int.le_of_lt hq)] at h1
  have h3 : N / q = 2 * (N / q / 2) + N / q % 2 := by omega
  have h4 : q * (N / q) = q * 2 * (N / q / 2) + q * (N / q % 2) := by
    conv => lhs; rw [h3]
    rw [Int.mul_add, Int.mul_assoc]
  omega
theorem low_range (N : Int) (i : Nat) : 0 ≤ N % 2 ^ i ∧ N % 2 ^ i < 2 ^ i := ⟨Int.emod_nonneg _ (Int.ne_of_gt (Int.pow_pos (by decide))), Int.emod_lt_of_pos _ (Int.pow_pos (by decide))⟩
theorem low_dgt {w : Nat} (hw : 0 < w) {B : Int} (hB : B = 2 ^ w) (N : Int) (i k : Nat) :
    (if k = i / w then dgt B (N % 2 ^ i) (i / w) + 2 ^ (i % w) * bitN N i else dgt B (N % 2 ^ i) k) = dgt B (N % 2 ^ (i + 1)) k := by
  rw [low_next, bit_dgt hw hB (low_range N i).1 (low_range N i).2 (bitN_range N i)]
  by_cases h : k = i / w
  · rw [if_pos h, if_pos h, h]
  · rw [if_neg h, if_neg h]
theorem and_bit : ∀ x : Fin 256, realBin .and .i64 (x.val : Int) 1 = (x.val : Int) % 2 := by decide +kernel
theorem and_bit' {x : Int} (h : 0 ≤ x ∧ x < 256) : realBin .and .i64 x 1 = x % 2 := by
  have h1 := and_bit ⟨x.toNat, by omega⟩
  simp only at h1
  rw [Int.toNat_of_nonneg h.1] at h1
  exact h1
theorem and_bit15 : ∀ x : Fin 128, ∀ y : Fin 256, realBin .and .i64 (256 * (x.val : Int) + (y.val : Int)) 1 = (y.val : Int) % 2 := by decide +kernel
theorem and_bit15' {x : Int} (h : 0 ≤ x ∧ x < 32768) : realBin .and .i64 x 1 = x % 2 := by
  have h1 := and_bit15 ⟨(x / 256).toNat, by omega⟩ ⟨(x % 256).toNat, by omega⟩
  simp only at h1
  rw [Int.toNat_of_nonneg (by omega), Int.toNat_of_nonneg (by omega), show 256 * (x / 256) + x % 256 = x from by omega] at h1
  rw [h1]
  omega
/-- The bit of a digit is the number's. -/
theorem low_bit_of {X : Int} {w r : Nat} (h : r < w) : X % 2 ^ w / 2 ^ r % 2 = X / 2 ^ r % 2 := by
  have e : (2 : Int) ^ w = 2 ^ r * (2 * 2 ^ (w - r - 1)) := by
    rw [← Int.pow_succ', ← Int.pow_add]
    congr 1
    omega
  have hq : (0 : Int) < 2 ^ r := Int.pow_pos (by decide)
  have h1 := Int.emod_add_mul_ediv X (2 ^ w)
  have e2 : X = X % 2 ^ w + 2 ^ r * (2 * (2 ^ (w - r - 1) * (X / 2 ^ w))) := by
    rw [← Int.mul_assoc 2, ← Int.mul_assoc (2 ^ r), ← e]
    exact h1.symm
  conv => rhs; rw [e2, Int.add_mul_ediv_left _ _ (Int.ne_of_gt hq)]
  omega
theorem dgt_bit {w : Nat} (hw : 0 < w) {B : Int} (hB : B = 2 ^ w) (N : Int) (i : Nat) : dgt B N (i / w) / 2 ^ (i % w) % 2 = bitN N i := by
  unfold dgt bitN
  have hi : (2 : Int) ^ i = B ^ (i / w) * 2 ^ (i % w) := by
    rw [hB, ← Int.pow_mul, ← Int.pow_add]
    congr 1
    exact (Nat.div_add_mod i w).symm
  have hq : 0 < B ^ (i / w) := Int.pow_pos (by rw [hB]; exact Int.pow_pos (by decide))
  rw [hi, ← Int.ediv_ediv_of_nonneg (Int.le_of_lt hq)]
  have h := low_bit_of (X := N / B ^ (i / w)) (Nat.mod_lt i hw)
  rw [← hB] at h
  exact h
theorem shl_bit {t : Int} (ht : 0 ≤ t ∧ t ≤ 1) {r : Nat} (hr : r < 15) : realBin .shl .i64 t (r : Int) = 2 ^ r * t := by
  have h : ∀ r : Fin 15, realBin .shl .i64 0 (r.val : Int) = 0 ∧ realBin .shl .i64 1 (r.val : Int) = 2 ^ r.val := by decide +kernel
  have h1 := h ⟨r, hr⟩
  have ht2 : t = 0 ∨ t = 1 := by omega
  rcases ht2 with rfl | rfl
  · rw [Int.mul_zero]; exact h1.1
  · rw [Int.mul_one]; exact h1.2
theorem shl_bit8 {t : Int} (ht : 0 ≤ t ∧ t ≤ 1) {r : Nat} (hr : r < 8) : realBin .shl .u8 t (r : Int) = 2 ^ r * t := by
  have h : ∀ r : Fin 8, realBin .shl .u8 0 (r.val : Int) = 0 ∧ realBin .shl .u8 1 (r.val : Int) = 2 ^ r.val := by decide +kernel
  have h1 := h ⟨r, hr⟩
  have ht2 : t = 0 ∨ t = 1 := by omega
  rcases ht2 with rfl | rfl
  · rw [Int.mul_zero]; exact h1.1
  · rw [Int.mul_one]; exact h1.2
theorem byte_dgt {b : Nat → Int} (hb : IsBytes 32 b) {k : Nat} (hk : k < 32) : b k = dgt 256 (num 32 b) k := by
  rw [← byt_dgt]
  exact (byt_num 32 b hb k hk).symm
theorem byte_bit {b : Nat → Int} (hb : IsBytes 32 b) {i : Nat} (hi : i < 256) : b (i / 8) / 2 ^ (i % 8) % 2 = bitN (num 32 b) i := by
  rw [byte_dgt hb (show i / 8 < 32 by omega)]
  exact dgt_bit (w := 8) (by decide) (by decide) _ i
/-- What the bits of 32 bytes come to. -/
def rdF (b : Nat → Int) : Nat → Int := D17 (num 32 b % 2 ^ 255)
def wrF (a : Nat → Int) : Nat → Int := fb (rz a)
end Sx

