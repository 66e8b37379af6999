/-
  Sums and products of lists of bytes, laid out whole.
-/
import Derived.Test.YtfpeolihnaeolaaScF
namespace Sx
open Go Go.RowKit

def listC (L : (Nat → Int) → Nat → Int) : Contract := fun vs => match vs with
  | [.arr .u8 32 a] => some ([], .osl .u8 1 (.lit 32) (L a))
  | _ => none
def maxSO (d : Nat) : SO → SO → SO
  | .lit a, .lit b => .lit (max a b + d)
  | a, b => .sym (max a.val b.val + d)
def sumSO : SO → SO → SO
  | .lit a, .lit b => .lit (a + b)
  | a, b => .sym (a.val + b.val)
theorem maxSO_val (d : Nat) (a b : SO) : (maxSO d a b).val = max a.val b.val + d := by cases a <;> cases b <;> rfl
theorem sumSO_val (a b : SO) : (sumSO a b).val = a.val + b.val := by cases a <;> cases b <;> rfl
def addedC (F : Nat → (Nat → Int) → Nat → (Nat → Int) → Nat → Int) : Contract := fun vs => match vs with
  | [.xsl .u8 1 la _ a, .xsl .u8 1 lb _ b] => some ([Short la.val, Short lb.val], .osl .u8 1 (maxSO 1 la lb) (F la.val a lb.val b))
  | _ => none
def productC (F : Nat → (Nat → Int) → Nat → (Nat → Int) → Nat → Int) : Contract := fun vs => match vs with
  | [.xsl .u8 1 la _ a, .xsl .u8 1 lb _ b] => some ([Short la.val, Short lb.val], .osl .u8 1 (sumSO la lb) (F la.val a lb.val b))
  | _ => none
def addedF (la : Nat) (a : Nat → Int) (lb : Nat) (b : Nat → Int) : Nat → Int := byt (num la a + num lb b)
def productF (la : Nat) (a : Nat → Int) (lb : Nat) (b : Nat → Int) : Nat → Int := byt (num la a * num lb b)

theorem sumB_up {B : Int} (f : Nat → Int) (l : Nat) : ∀ m, sumB B (l + m) (fun i => if i < l then f i else 0) = sumB B l f
  | 0 => sumB_congr fun i hi => if_pos (by omega)
  | m + 1 => by
    show sumB B (l + m) _ + B ^ (l + m) * (if l + m < l then f (l + m) else 0) = _
    rw [if_neg (by omega), Int.mul_zero, Int.add_zero, sumB_up f l m]
theorem sumB_upto {B : Int} (f : Nat → Int) {l n : Nat} (h : l ≤ n) : sumB B n (fun i => if i < l then f i else 0) = sumB B l f := by
  obtain ⟨m, rfl⟩ : ∃ m, n = l + m := ⟨n - l, by omega⟩
  exact sumB_up f l m

/-! Sums. -/
def addX (la : Nat) (a : Nat → Int) (lb : Nat) (b : Nat → Int) : Nat → Int := fun i => (if i < la then a i else 0) + (if i < lb then b i else 0)
def addK (la : Nat) (a : Nat → Int) (lb : Nat) (b : Nat → Int) (k : Nat) : Int := carB 256 (addX la a lb b) 0 k
section
variable {la lb : Nat} {a b : Nat → Int}
theorem addX_sum : sumB 256 (max la lb) (addX la a lb b) = num la a + num lb b := by
  unfold addX
  rw [sumB_add, sumB_upto _ (Nat.le_max_left _ _), sumB_upto _ (Nat.le_max_right _ _), num_sumB, num_sumB]
theorem addX_range (ha : IsBytes la a) (hb : IsBytes lb b) (i : Nat) : 0 ≤ addX la a lb b i ∧ addX la a lb b i ≤ 510 := by
  unfold addX
  by_cases h1 : i < la
  · have := ha i h1
    by_cases h2 : i < lb
    · have := hb i h2
      rw [if_pos h1, if_pos h2]; omega
    · rw [if_pos h1, if_neg h2]; omega
  · by_cases h2 : i < lb
    · have := hb i h2
      rw [if_neg h1, if_pos h2]; omega
    · rw [if_neg h1, if_neg h2]; omega
theorem addK_zero : addK la a lb b 0 = 0 := carB_zero _ _ _
theorem addK_range (ha : IsBytes la a) (hb : IsBytes lb b) : ∀ k, 0 ≤ addK la a lb b k ∧ addK la a lb b k ≤ 1
  | 0 => by rw [addK_zero]; omega
  | k + 1 => by
    have h1 := addK_range ha hb k
    have h2 := addX_range ha hb k
    unfold addK at h1 ⊢
    rw [carB_succ p256]
    omega
theorem added_step {k : Nat} (hk : k < max la lb) : (addX la a lb b k + addK la a lb b k) % 256 = addedF la a lb b k ∧ (addX la a lb b k + addK la a lb b k) / 256 = addK la a lb b (k + 1) := by
  refine ⟨?_, by unfold addK; rw [carB_succ p256]⟩
  have h := dgt_car p256 (addX la a lb b) 0 hk
  rw [addX_sum, Int.add_zero] at h
  exact h.symm
theorem added_last (ha : IsBytes la a) (hb : IsBytes lb b) : addK la a lb b (max la lb) = addedF la a lb b (max la lb) := by
  have h := addK_range ha hb (max la lb)
  show _ = (num la a + num lb b) / 256 ^ max la lb % 256
  unfold addK carB at h ⊢
  rw [addX_sum, Int.add_zero] at h ⊢
  omega
theorem num_mono {n m : Nat} {f : Nat → Int} (hf : IsBytes n f) (h : n ≤ m) : 0 ≤ num n f ∧ num n f < 256 ^ m := by
  have h1 := num_range hf
  have h2 := pow_mono h
  omega
theorem num_added (ha : IsBytes la a) (hb : IsBytes lb b) : num (max la lb + 1) (addedF la a lb b) = num la a + num lb b := by
  have h1 := num_mono ha (Nat.le_max_left la lb)
  have h2 := num_mono hb (Nat.le_max_right la lb)
  refine num_byt _ _ (by omega) ?_
  rw [Int.pow_succ]; omega

/-! Products. -/
def colP (a : Nat → Int) (lb : Nat) (b : Nat → Int) (k : Nat) : Nat → Int
  | 0 => 0
  | j + 1 => colP a lb b k j + a j * (if j ≤ k ∧ k - j < lb then b (k - j) else 0)
theorem sumB_shift {B : Int} (j lb m : Nat) (b : Nat → Int) : sumB B (j + lb + m) (fun k => if j ≤ k ∧ k - j < lb then b (k - j) else 0) = B ^ j * sumB B lb b := by
  have e : j + lb + m = j + (lb + m) := by omega
  rw [e, sumB_split]
  have h1 : sumB B j (fun k => if j ≤ k ∧ k - j < lb then b (k - j) else 0) = 0 := by
    refine (sumB_congr (g := fun _ => 0) fun i hi => ?_).trans (sumB_zero j)
    rw [if_neg (by omega)]
  have h2 : sumB B (lb + m) (fun i => if j ≤ j + i ∧ j + i - j < lb then b (j + i - j) else 0) = sumB B lb b := by
    rw [← sumB_up b lb m]
    refine sumB_congr fun i hi => ?_
    have e2 : j + i - j = i := by omega
    rw [e2]
    by_cases h : i < lb
    · rw [if_pos ⟨by omega, h⟩, if_pos h]
    · rw [if_neg (by omega), if_neg h]
  rw [h1, h2, Int.zero_add]
theorem colP_sum : ∀ (j N : Nat), j + lb ≤ N + 1 → (j = 0 ∨ j + lb ≤ N + 1) → sumB 256 N (fun k => colP a lb b k j) = sumB 256 j a * sumB 256 lb b
  | 0, N, _, _ => by
    show sumB 256 N (fun _ => 0) = 0 * _
    rw [sumB_zero, Int.zero_mul]
  | j + 1, N, h, _ => by
    obtain ⟨m, rfl⟩ : ∃ m, N = j + lb + m := ⟨N - (j + lb), by omega⟩
    show sumB 256 _ (fun k => colP a lb b k j + a j * (if j ≤ k ∧ k - j < lb then b (k - j) else 0)) = (sumB 256 j a + 256 ^ j * a j) * _
    rw [sumB_add, sumB_mul, sumB_shift, colP_sum j _ (by omega) (.inr (by omega)), Int.add_mul, Int.mul_comm (256 ^ j) (a j), Int.mul_assoc]
theorem col_all : sumB 256 (la + lb) (fun k => colP a lb b k la) = num la a * num lb b := by
  rw [colP_sum la _ (by omega) (.inr (by omega)), num_sumB, num_sumB]
theorem mul_range {x y : Int} (hx : 0 ≤ x ∧ x < 256) (hy : 0 ≤ y ∧ y < 256) : 0 ≤ x * y ∧ x * y ≤ 65025 := by
  refine ⟨Int.mul_nonneg hx.1 hy.1, ?_⟩
  have : x * y ≤ 255 * 255 := Int.mul_le_mul (by omega) (by omega) hy.1 (by omega)
  omega
theorem colP_range (ha : IsBytes la a) (hb : IsBytes lb b) (k : Nat) : ∀ j, j ≤ la → 0 ≤ colP a lb b k j ∧ colP a lb b k j ≤ 65025 * j
  | 0, _ => by simp [colP]
  | j + 1, h => by
    have h1 := colP_range ha hb k j (by omega)
    have h2 := ha j (by omega)
    simp only [colP]
    by_cases h3 : j ≤ k ∧ k - j < lb
    · rw [if_pos h3]
      have := mul_range h2 (hb _ h3.2)
      omega
    · rw [if_neg h3]; omega
def colK (la : Nat) (a : Nat → Int) (lb : Nat) (b : Nat → Int) (k : Nat) : Int := carB 256 (fun k => colP a lb b k la) 0 k
theorem colK_zero : colK la a lb b 0 = 0 := carB_zero _ _ _
theorem colK_range (hs : Short la) (ha : IsBytes la a) (hb : IsBytes lb b) : ∀ k, 0 ≤ colK la a lb b k ∧ colK la a lb b k ≤ 4194304
  | 0 => by rw [colK_zero]; omega
  | k + 1 => by
    have h1 := colK_range hs ha hb k
    have h2 := colP_range ha hb k la (Nat.le_refl _)
    have h3 := hs.h
    unfold colK at h1 ⊢
    rw [carB_succ p256]
    omega
theorem product_step {k : Nat} (hk : k < la + lb) : (colP a lb b k la + colK la a lb b k) % 256 = productF la a lb b k ∧ (colP a lb b k la + colK la a lb b k) / 256 = colK la a lb b (k + 1) := by
  refine ⟨?_, by unfold colK; rw [carB_succ p256]⟩
  have h := dgt_car p256 (fun k => colP a lb b k la) 0 hk
  rw [col_all, Int.add_zero] at h
  exact h.symm
/-- Past the column's number nothing is added. -/
theorem colP_past {k : Nat} : ∀ {j : Nat}, k + 1 ≤ j → colP a lb b k j = colP a lb b k (k + 1)
  | 0, h => by omega
  | j + 1, h => by
    by_cases e : k + 1 = j + 1
    · rw [e]
    · show colP a lb b k j + a j * _ = _
      rw [if_neg (by omega), Int.mul_zero, Int.add_zero, colP_past (by omega)]
theorem num_product (ha : IsBytes la a) (hb : IsBytes lb b) : num (la + lb) (productF la a lb b) = num la a * num lb b := by
  have h1 := num_range ha
  have h2 := num_range hb
  refine num_byt _ _ (Int.mul_nonneg h1.1 h2.1) ?_
  rw [Int.pow_add]
  have := powB_pos p256 la
  exact Int.lt_of_le_of_lt (Int.mul_le_mul_of_nonneg_right (Int.le_of_lt h1.2) h2.1) (Int.mul_lt_mul_of_pos_left h2.2 this)
end

/-! What the document reckons of them. -/
theorem ref_add {a b : Nat → Int} (ha : IsBytes 32 a) (hb : IsBytes 32 b) : sb (sn 33 (addedF 32 a 32 b)) = sb (se a + se b) := by
  have h := num_added ha hb
  unfold sn
  rw [show (33 : Nat) = max 32 32 + 1 from rfl, h, zi_add]
  rfl
theorem num_lm1 : num 32 (byt (lI - 1)) = lI - 1 := num_byt 32 (lI - 1) (by decide) (by decide)
theorem byt_isB (N : Int) (n : Nat) : IsBytes n (byt N) := fun i _ => dig_range N i
theorem sn_eq {n : Nat} {f : Nat → Int} {N : Int} (h : num n f = N) : sn n f = zi lN N := by unfold sn; rw [h]
theorem ref_neg {a : Nat → Int} (ha : IsBytes 32 a) : sb (sn 64 (productF 32 a 32 (byt (lI - 1)))) = sb (- se a) := by
  rw [sn_eq (n := 32 + 32) (num_product ha (byt_isB _ 32)), num_lm1, zi_mul]
  have e : zi lN (lI - 1) = -1 := by decide +kernel
  rw [e]
  congr 1
  unfold se
  grind
theorem ref_muladd {a b c : Nat → Int} (ha : IsBytes 32 a) (hb : IsBytes 32 b) (hc : IsBytes 32 c) : sb (sn 65 (addedF 64 (productF 32 a 32 b) 32 c)) = sb (se a * se b + se c) := by
  have h1 := num_added (la := 64) (lb := 32) (a := productF 32 a 32 b) (byt_isB _ 64) hc
  have h2 : num 64 (productF 32 a 32 b) = _ := num_product (la := 32) (lb := 32) ha hb
  rw [sn_eq (n := 65) h1, h2, zi_add, zi_mul]
  rfl
theorem ref_can {a : Nat → Int} (ha : IsBytes 32 a) : realEqA 32 (sb (sn 32 a)) a = canS a := by
  have e : sn 32 a = se a := rfl
  rw [e, canon_s3 ha, canon_s1]
end Sx
namespace Sx
open Go Go.RowKit
theorem join_one {a n m : Nat} {f h : Nat → Int} {x : Int} (ha : a = n) (hf : ∀ k, k < n → f k = h k) (hx : x = h n) (hm : m = n + 1) : ∀ k, k < m → joinF a f (upd (fun _ => 0) 0 x) k = h k := by
  intro k hk
  subst ha
  subst hm
  unfold joinF upd
  by_cases h1 : k < a
  · rw [if_pos h1]; exact hf k h1
  · have h2 : k = a := by omega
    subst h2
    rw [if_neg h1, if_pos (Nat.sub_self _)]; exact hx
theorem room_one {n : Nat} (h : n ≤ 100000000) : RoomFor ((Classical.choice seal_add).1 n 1) 1 := ⟨by rw [choice_add]; omega⟩
theorem len_one (n : Nat) : 0 + (Classical.choice seal_add).1 n 1 = n + 1 := by rw [choice_add]; omega
end Sx
namespace Sx
open Go Go.RowKit
theorem byte_of {x y : Int} (h : y = x % 256) (hx : 0 ≤ x) : IntKind.wrap .u8 (realBin .rem .i64 x 256) = y := by
  rw [rem_i64 hx, wrap_u8, h]; omega
end Sx
namespace Sx
open Go Go.RowKit
theorem colP_bound {la lb : Nat} {a b : Nat → Int} (hs : Short la) (ha : IsBytes la a) (hb : IsBytes lb b) (k : Nat) {j : Nat} (hj : j ≤ la) : 0 ≤ colP a lb b k j ∧ colP a lb b k j ≤ 266342400 := by
  have h1 := colP_range ha hb k j hj
  have h2 := hs.h
  omega
end Sx
namespace Sx
open Go Go.RowKit
def bool64C (F : (Nat → Int) → Bool) : Contract := fun vs => match vs with
  | [.arr .u8 64 f] => some ([], .bool (.sym (F f)))
  | _ => none
theorem can_sb (x : Zl) : canS (sb x) = true := by
  unfold canS
  rw [num_sb]
  exact decide_eq_true (sval_bounds x).2
end Sx
