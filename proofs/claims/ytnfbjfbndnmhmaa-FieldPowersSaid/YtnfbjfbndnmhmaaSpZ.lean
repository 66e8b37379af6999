/-
  Package field's numbers as members of the field of p: what its calls come to.
-/
import Derived.Test.YtnfbjfbndnmhmaaSpD
import Derived.Test.YtnfbjfbndnmhmaaZmA
namespace Sx
open Go

theorem p25_cast : ((pN : Nat) : Int) = p25 := rfl

/-- 32 bytes as a number modulo p, and back. -/
def fe (f : Nat → Int) : Zp := zi pN (num 32 f)
def fb (x : Zp) : Nat → Int := byt (x.val : Int)
/-- Five digits as a number modulo p. -/
def lz (l : Nat → Int) : Zp := zi pN (lim l)

theorem zval_bounds (x : Zp) : 0 ≤ (x.val : Int) ∧ (x.val : Int) < p25 := ⟨Int.natCast_nonneg _, by have := x.isLt; rw [← p25_cast]; omega⟩
theorem num_fb (x : Zp) : num 32 (fb x) = (x.val : Int) := by
  have h := zval_bounds x
  refine num_byt 32 _ h.1 (Int.lt_trans h.2 (by decide))
theorem fe_fb (x : Zp) : fe (fb x) = x := by unfold fe; rw [num_fb, zi_of_val]
theorem fb_isBytes (x : Zp) : IsBytes 32 (fb x) := byt_isBytes _ _
theorem fb_zi (n : Int) : fb (zi pN n) = byt (n % p25) := by unfold fb; rw [zi_val, p25_cast]
theorem fb_inj {x y : Zp} : realEqA 32 (fb x) (fb y) = decide (x = y) := by
  rw [eqA_num (fb_isBytes x) (fb_isBytes y), num_fb, num_fb, Bool.eq_iff_iff]
  simp only [beq_iff_eq, decide_eq_true_eq]
  exact ⟨fun h => fin_ext_int h, fun h => by rw [h]⟩
theorem fb_same {x y : Zp} (h : x = y) : realEqA 32 (fb x) (fb y) = true := by rw [fb_inj]; exact decide_eq_true h
theorem fb_other {x y : Zp} (h : x ≠ y) : realEqA 32 (fb x) (fb y) = false := by rw [fb_inj]; exact decide_eq_false h
theorem fe_byt {n : Int} (h0 : 0 ≤ n) (h : n < 115792089237316195423570985008687907853269984665640564039457584007913129639936) : fe (byt n) = zi pN n := by
  unfold fe
  rw [num_byt 32 n h0 (by have e : (256 : Int) ^ 32 = 115792089237316195423570985008687907853269984665640564039457584007913129639936 := by decide
                          rw [e]; exact h)]
theorem byt_small {n : Int} (h0 : 0 ≤ n) (h : n < p25) : byt n = fb (zi pN n) := by rw [fb_zi, Int.emod_eq_of_lt h0 h]

theorem red_z (f : Nat → Int) : byt (redN f) = fb (fe f) := (fb_zi _).symm
theorem add_z (f g : Nat → Int) : byt (addN f g) = fb (fe f + fe g) := by unfold fe; rw [← zi_add, fb_zi]; rfl
theorem sub_z (f g : Nat → Int) : byt (subN f g) = fb (fe f - fe g) := by unfold fe; rw [← zi_sub, fb_zi]; rfl
theorem mul_z (f g : Nat → Int) : byt (mulN f g) = fb (fe f * fe g) := by unfold fe; rw [← zi_mul, fb_zi]; rfl
theorem neg_z (f : Nat → Int) : byt (subN (fun _ => 0) f) = fb (- fe f) := by
  unfold fe subN
  rw [num_zero, ← zi_neg, fb_zi, Int.zero_sub]
theorem red_fz : (fun f => byt (redN f)) = fun f => fb (fe f) := funext red_z
theorem add_fz : (fun f g => byt (addN f g)) = fun f g => fb (fe f + fe g) := funext fun f => funext fun g => add_z f g
theorem sub_fz : (fun f g => byt (subN f g)) = fun f g => fb (fe f - fe g) := funext fun f => funext fun g => sub_z f g
theorem mul_fz : (fun f g => byt (mulN f g)) = fun f g => fb (fe f * fe g) := funext fun f => funext fun g => mul_z f g
theorem neg_fz : (fun f => byt (subN (fun _ => 0) f)) = fun f => fb (- fe f) := funext neg_z
theorem sq_fz : (fun f => byt (mulN f f)) = fun f => fb (fe f * fe f) := funext fun f => mul_z f f
theorem eqB_z (f g : Nat → Int) : eqB f g = decide (fe f = fe g) := by
  unfold eqB fe
  rw [Bool.eq_iff_iff]
  simp only [decide_eq_true_eq, zi_eq, p25_cast]
theorem oddB_z (f : Nat → Int) : oddB f = decide ((fe f).val % 2 = 1) := by
  unfold oddB
  rw [Bool.eq_iff_iff]
  simp only [decide_eq_true_eq]
  have h : ((fe f).val : Int) = num 32 f % p25 := zi_val _
  rw [← h]
  omega
theorem ltB_fb {f : Nat → Int} (x : Zp) (hf : f = byt p25) : ltB (fb x) f = true := by
  subst hf
  unfold ltB
  rw [num_fb, num_byt 32 p25 (by decide) (by decide)]
  exact decide_eq_true (zval_bounds x).2

/-! Five digits. -/

theorem lz_load {f : Nat → Int} (hf : IsBytes 32 f) : lz (loadF f) = fe f ∧ Tidy (loadF f) := by
  obtain ⟨h1, h2⟩ := load_spec hf
  exact ⟨zi_eq.2 (by rw [p25_cast]; exact h1), h2⟩
theorem lz_times {l m : Nat → Int} (hl : Tidy l) (hm : Tidy m) : lz (timesF l m) = lz l * lz m ∧ Tidy (timesF l m) := by
  obtain ⟨h1, h2⟩ := times_spec hl hm
  exact ⟨by unfold lz; rw [← zi_mul]; exact zi_eq.2 (by rw [p25_cast]; exact h1), h2⟩
theorem lz_sub {l m : Nat → Int} (hl : Tidy l) (hm : Tidy m) : lz (settleF (subP l m)) = lz l - lz m ∧ Tidy (settleF (subP l m)) := by
  obtain ⟨h1, h2⟩ := subP_spec hl hm
  obtain ⟨h3, h4⟩ := settle_spec h1
  refine ⟨?_, h4⟩
  unfold lz
  rw [← zi_sub]
  refine zi_eq.2 ?_
  rw [p25_cast, h3, h2, Int.add_mul_emod_self_right]
theorem bytes_lz {l : Nat → Int} (h : LFit l) : ∀ i, i < 32 → bytesF l i = fb (lz l) i := fun i hi => by
  rw [bytes_spec h i hi, lz, fb_zi]

/-- The number 1 as five digits. -/
def oneL : Nat → Int := upd (fun _ => 0) 0 1
theorem tidy_const {c : Int} (h : 0 ≤ c ∧ c < 2251799813685248) : Tidy (upd (fun _ => 0) 0 c) := by
  refine ⟨⟨h.1, ?_⟩, fun i hi _ => ?_⟩
  · show c < _
    omega
  · have e : upd (fun _ => (0 : Int)) 0 c i = 0 := if_neg (by omega)
    rw [e]
    omega
theorem lz_one : lz oneL = 1 ∧ Tidy oneL := by
  refine ⟨?_, tidy_const (by decide)⟩
  unfold lz
  have : lim oneL = 1 := by decide
  rw [this, zi_one]
theorem lz_zero : lz (fun _ => 0) = 0 ∧ Tidy (fun _ => 0) := by
  refine ⟨?_, ⟨⟨Int.le_refl _, by show (0 : Int) < _; decide⟩, fun _ _ _ => ⟨Int.le_refl _, by show (0 : Int) < _; decide⟩⟩⟩
  unfold lz
  have : lim (fun _ => 0) = 0 := by decide
  rw [this, zi_zero]

/-! Powers. -/

/-- Bit number i of the bytes. -/
def bitB (e : Nat → Int) (i : Nat) : Bool := decide (e (i / 8) / 2 ^ (i % 8) % 2 = 1)

theorem num_div : ∀ (k n : Nat) (f : Nat → Int), k ≤ n → IsBytes n f → num n f / 256 ^ k = num (n - k) (fun i => f (k + i)) := by
  intro k n f hk hf
  have e : n = k + (n - k) := by omega
  have hb := num_bounds k f (fun i hi => hf i (by omega))
  conv => lhs; rw [e, num_split k (n - k)]
  rw [Int.add_mul_ediv_left _ _ (Int.ne_of_gt (Int.pow_pos (by decide))), Int.ediv_eq_zero_of_lt hb.1 hb.2, Int.zero_add]

theorem bitB_num {e : Nat → Int} (he : IsBytes 32 e) {i : Nat} (hi : i < 256) : bitB e i = decide (num 32 e / 2 ^ i % 2 = 1) := by
  have h1 : (2 : Int) ^ i = 256 ^ (i / 8) * 2 ^ (i % 8) := by
    have e1 : (256 : Int) = 2 ^ 8 := by decide
    rw [e1, ← Int.pow_mul, ← Int.pow_add]
    congr 1
    omega
  have hp : (0 : Int) < 256 ^ (i / 8) := Int.pow_pos (by decide)
  unfold bitB
  rw [Bool.eq_iff_iff]
  simp only [decide_eq_true_eq]
  rw [h1, ← Int.ediv_ediv_of_nonneg (by omega), num_div (i / 8) 32 e (by omega) he]
  have e2 : 32 - i / 8 = (31 - i / 8) + 1 := by omega
  rw [e2]
  simp only [num, Nat.add_zero]
  have hk : i % 8 < 8 := Nat.mod_lt _ (by decide)
  generalize i % 8 = k at hk
  generalize num (31 - i / 8) (fun j => e (i / 8 + (j + 1))) = T
  generalize e (i / 8) = b
  match k, hk with
  | 0, _ => simp only [Int.pow_zero, Int.ediv_one]; omega
  | 1, _ => simp only [Int.reducePow]; omega
  | 2, _ => simp only [Int.reducePow]; omega
  | 3, _ => simp only [Int.reducePow]; omega
  | 4, _ => simp only [Int.reducePow]; omega
  | 5, _ => simp only [Int.reducePow]; omega
  | 6, _ => simp only [Int.reducePow]; omega
  | 7, _ => simp only [Int.reducePow]; omega

theorem num_bit {e : Nat → Int} (he : IsBytes 32 e) {i : Nat} (hi : i < 256) : (num 32 e / 2 ^ i).toNat = 2 * (num 32 e / 2 ^ (i + 1)).toNat + (if bitB e i = true then 1 else 0) := by
  have hb := num_bounds 32 e he
  have hp : (0 : Int) < 2 ^ i := Int.pow_pos (by decide)
  have h0 : 0 ≤ num 32 e / 2 ^ i := Int.ediv_nonneg hb.1 (by omega)
  rw [bitB_num he hi, Int.pow_succ, ← Int.ediv_ediv_of_nonneg (by omega)]
  generalize num 32 e / 2 ^ i = x at h0
  by_cases h : x % 2 = 1
  · rw [if_pos (decide_eq_true h)]; omega
  · rw [if_neg (by simp [h])]; omega

theorem num_top {e : Nat → Int} (he : IsBytes 32 e) : num 32 e / 2 ^ 256 = 0 := by
  have hb := num_bounds 32 e he
  exact Int.ediv_eq_zero_of_lt hb.1 (Int.lt_of_lt_of_le hb.2 (by decide))

/-- Squares and products from the highest bit on: k bits are done. -/
def pwL (l e : Nat → Int) : Nat → Nat → Int
  | 0 => oneL
  | k + 1 => if bitB e (255 - k) = true then timesF (timesF (pwL l e k) (pwL l e k)) l else timesF (pwL l e k) (pwL l e k)

theorem pwL_spec {l e : Nat → Int} (hl : Tidy l) (he : IsBytes 32 e) : ∀ k, k ≤ 256 → lz (pwL l e k) = zp (lz l) (num 32 e / 2 ^ (256 - k)).toNat ∧ Tidy (pwL l e k)
  | 0, _ => by
    refine ⟨?_, lz_one.2⟩
    show lz oneL = _
    rw [lz_one.1, num_top he, Int.toNat_zero, zp_zero]
  | k + 1, hk => by
    obtain ⟨h1, h2⟩ := pwL_spec hl he k (by omega)
    obtain ⟨h3, h4⟩ := lz_times h2 h2
    obtain ⟨h5, h6⟩ := lz_times h4 hl
    have e1 : 256 - (k + 1) = 255 - k := by omega
    have e2 : 256 - k = 255 - k + 1 := by omega
    have hb := num_bit he (i := 255 - k) (by omega)
    rw [e2] at h1
    rw [e1, hb]
    simp only [pwL]
    split
    · rename_i hbit
      refine ⟨?_, h6⟩
      rw [h5, h3, h1, ← zp_sq, ← zp_succ]
    · refine ⟨?_, h4⟩
      rw [h3, h1, ← zp_sq]
      rfl
def powL (l e : Nat → Int) : Nat → Int := pwL l e 256
theorem lz_pow {l e : Nat → Int} (hl : Tidy l) (he : IsBytes 32 e) : lz (powL l e) = zp (lz l) (num 32 e).toNat ∧ Tidy (powL l e) := by
  have h := pwL_spec hl he 256 (by decide)
  rw [Nat.sub_self, Int.pow_zero, Int.ediv_one] at h
  exact h
end Sx
