/-
  Inverses, powers, symbols and roots modulo p, in plain numbers.
-/
import Derived.Test.YtnfbjfbndnmhmaaSpF
namespace Sx
open Go

theorem zi_two : zi pN 2 = 2 := rfl
theorem zp_pm (x : Zp) (k : Nat) (h : k < 2 ^ 256) : (zp x k).val = pm pN 256 x.val k := by rw [zp_val, pm_eq _ _ _ _ h]

theorem z_two_ne : (2 : Zp) ≠ 0 := by decide +kernel
theorem leg_two : zp (2 : Zp) halfN = -1 := by
  apply Fin.ext
  rw [zp_pm _ _ (by decide +kernel)]
  decide +kernel
theorem leg_neg_one : zp (-1 : Zp) halfN = 1 := by
  apply Fin.ext
  rw [zp_pm _ _ (by decide +kernel)]
  decide +kernel

theorem zneg_eq {x : Zp} (h : x = -x) : x = 0 := by
  have h1 : 2 * x = 0 := by grind
  rcases zdom prP h1 with h2 | h2
  · exact absurd h2 z_two_ne
  · exact h2

theorem zinv_inv (x : Zp) : zinv (zinv x) = x := by
  by_cases h : x = 0
  · subst h
    rw [zinv_zero (by decide), zinv_zero (by decide)]
  · exact zinv_zinv' prP h
theorem zinv_two : zinv (2 : Zp) + zinv 2 = 1 := by
  have h := mul_zinv prP z_two_ne
  grind

theorem zneg_val {x : Zp} (h : x ≠ 0) : (-x).val = pN - x.val := by
  have h1 : zi pN (((pN : Nat) : Int) - (x.val : Int)) = -x := by
    rw [zi_sub, zi_self, zi_of_val]
    grind
  have h2 : ((-x).val : Int) = ((pN : Nat) : Int) - (x.val : Int) := by
    rw [← h1, zi_val]
    have := x.isLt
    have h3 : x.val ≠ 0 := fun e => h (Fin.ext (by simpa using e))
    exact Int.emod_eq_of_lt (by omega) (by omega)
  have := x.isLt
  omega

theorem evZ_sq (x : Zp) : evZ x * evZ x = x * x := by
  unfold evZ
  split
  · grind
  · rfl
theorem evZ_even (x : Zp) : (evZ x).val % 2 = 0 := by
  unfold evZ
  split
  · rename_i h
    have h0 : x ≠ 0 := fun e => by subst e; simp at h
    rw [zneg_val h0]
    have := x.isLt
    simp only [pN] at this ⊢
    omega
  · rename_i h
    omega

theorem zp_odd7 (v : Zp) (h : v ≠ 0) : zp (v * v * v * (v * v * v) * v) halfN = zp v halfN := by
  have h1 : zp v halfN * zp v halfN = 1 := (zhalf_sq v).resolve_left h
  rw [mul_zp, mul_zp, mul_zp, mul_zp]
  generalize zp v halfN = w at *
  grind

/-- What SqrtRatio's first candidate comes to. -/
theorem sqrt_cand (u v : Zp) : v * (u * (v * v * v) * zp (u * (v * v * v * (v * v * v) * v)) eighthN) * (u * (v * v * v) * zp (u * (v * v * v * (v * v * v) * v)) eighthN) = u * zp (u * (v * v * v * (v * v * v) * v)) (2 * eighthN + 1) := by
  rw [zp_succ, zp_sq]
  generalize zp (u * (v * v * v * (v * v * v) * v)) eighthN = w
  grind

theorem sqrt_quarter (u v : Zp) (hv : v ≠ 0) : zp (u * (v * v * v * (v * v * v) * v)) (2 * eighthN + 1) * zp (u * (v * v * v * (v * v * v) * v)) (2 * eighthN + 1) = zp (u * v) halfN := by
  rw [← zp_sq]
  have e : 2 * (2 * eighthN + 1) = halfN := by rw [eighthN_eq, halfN_eq]
  rw [e, mul_zp, zp_odd7 v hv, ← mul_zp]

theorem sqrt_u0 (v : Zp) : sqrtZ 0 v = (0, true) := if_pos rfl
theorem sqrt_v0 {u : Zp} (hu : u ≠ 0) : sqrtZ u 0 = (0, false) := by
  unfold sqrtZ
  rw [if_neg hu]
  dsimp only
  rw [if_neg (by intro h; apply hu; rw [← h]; grind), if_neg (by intro h; apply hu; rw [← h]; grind)]

theorem sqrt_some {u v : Zp} (hu : u ≠ 0) (hv : v ≠ 0) (h : zp (u * v) halfN = 1) : ∃ r, sqrtZ u v = (evZ r, true) ∧ v * r * r = u := by
  have h1 := sqrt_cand u v
  have h2 := sqrt_quarter u v hv
  rw [h] at h2
  unfold sqrtZ
  rw [if_neg hu]
  dsimp only
  generalize u * (v * v * v) * zp (u * (v * v * v * (v * v * v) * v)) eighthN = r at *
  generalize zp (u * (v * v * v * (v * v * v) * v)) (2 * eighthN + 1) = c at *
  rcases zsq_one prP h2 with hc | hc
  · have : v * r * r = u := by rw [h1, hc]; grind
    rw [if_pos this]
    exact ⟨r, rfl, this⟩
  · have hn : v * r * r ≠ u := fun e => hu (zneg_eq (by rw [h1, hc] at e; grind))
    have hi := iZ_sq
    have : v * (r * iZ) * (r * iZ) = u := by
      generalize iZ = i at *
      have : v * (r * i) * (r * i) = v * r * r * (i * i) := by grind
      rw [this, hi, h1, hc]
      grind
    rw [if_neg hn, if_pos this]
    exact ⟨r * iZ, rfl, this⟩

theorem sqrt_no {u v : Zp} (hu : u ≠ 0) (hv : v ≠ 0) (h : zp (u * v) halfN ≠ 1) : sqrtZ u v = (0, false) := by
  have h1 := sqrt_cand u v
  have h2 := sqrt_quarter u v hv
  unfold sqrtZ
  rw [if_neg hu]
  dsimp only
  generalize u * (v * v * v) * zp (u * (v * v * v * (v * v * v) * v)) eighthN = r at *
  generalize zp (u * (v * v * v * (v * v * v) * v)) (2 * eighthN + 1) = c at *
  have hn : v * r * r ≠ u := fun e => by
    rw [h1] at e
    have hc : c = 1 := zcancel prP hu (by rw [e]; grind)
    apply h
    rw [← h2, hc]
    grind
  have hn2 : v * (r * iZ) * (r * iZ) ≠ u := fun e => by
    have hi := iZ_sq
    generalize iZ = i at *
    have e2 : v * (r * i) * (r * i) = v * r * r * (i * i) := by grind
    rw [e2, hi, h1] at e
    have hc : c = -1 := zcancel prP hu (by grind)
    apply h
    rw [← h2, hc]
    grind
  rw [if_neg hn, if_neg hn2]

theorem sqrt_ok {u v : Zp} (hu : u ≠ 0) (hv : v ≠ 0) : (sqrtZ u v).2 = decide (legZ (u * v) = 1) := by
  by_cases h : zp (u * v) halfN = 1
  · obtain ⟨r, h1, _⟩ := sqrt_some hu hv h
    rw [h1, legZ_one.2 h]
    rfl
  · rw [sqrt_no hu hv h]
    have : ¬ legZ (u * v) = 1 := fun e => h (legZ_one.1 e)
    simp [this]
theorem sqrt_root {u v : Zp} (h : (sqrtZ u v).2 = true) : v * (sqrtZ u v).1 * (sqrtZ u v).1 = u ∧ (sqrtZ u v).1.val % 2 = 0 := by
  by_cases hu : u = 0
  · subst hu
    rw [sqrt_u0]
    exact ⟨by grind, by simp⟩
  · by_cases hv : v = 0
    · subst hv
      rw [sqrt_v0 hu] at h
      cases h
    · by_cases h1 : zp (u * v) halfN = 1
      · obtain ⟨r, h2, h3⟩ := sqrt_some hu hv h1
        rw [h2]
        refine ⟨?_, evZ_even r⟩
        have := evZ_sq r
        dsimp only
        generalize evZ r = w at *
        grind
      · rw [sqrt_no hu hv h1] at h
        cases h
theorem sqrt_false {u v : Zp} (h : (sqrtZ u v).2 = false) : (sqrtZ u v).1 = 0 := by
  by_cases hu : u = 0
  · subst hu; rfl
  · by_cases hv : v = 0
    · subst hv
      rw [sqrt_v0 hu]
    · by_cases h1 : zp (u * v) halfN = 1
      · obtain ⟨r, h2, h3⟩ := sqrt_some hu hv h1
        rw [h2] at h
        cases h
      · rw [sqrt_no hu hv h1]

theorem leg_mul (x y : Zp) : legZ (x * y) = legZ x * legZ y := by
  have hm := mul_zp x y halfN
  rcases legZ_cases x with ⟨h1, h2⟩ | ⟨h1, h2, h3⟩ | ⟨h1, h2, h3⟩
  · have : x * y = 0 := by rw [h1]; grind
    rw [legZ_zero.2 this, h2, Int.zero_mul]
  · rcases legZ_cases y with ⟨h4, h5⟩ | ⟨h4, h5, h6⟩ | ⟨h4, h5, h6⟩
    · have : x * y = 0 := by rw [h4]; grind
      rw [legZ_zero.2 this, h5, Int.mul_zero]
    · rw [h3, h6, legZ_one.2 (by rw [hm, h2, h5]; grind)]; rfl
    · rw [h3, h6, legZ_neg.2 (by rw [hm, h2, h5]; grind)]; rfl
  · rcases legZ_cases y with ⟨h4, h5⟩ | ⟨h4, h5, h6⟩ | ⟨h4, h5, h6⟩
    · have : x * y = 0 := by rw [h4]; grind
      rw [legZ_zero.2 this, h5, Int.mul_zero]
    · rw [h3, h6, legZ_neg.2 (by rw [hm, h2, h5]; grind)]; rfl
    · rw [h3, h6, legZ_one.2 (by rw [hm, h2, h5]; grind)]; rfl
theorem legZ_two : legZ 2 = -1 := legZ_neg.2 leg_two
theorem legZ_range (x : Zp) : legZ x = 0 ∨ legZ x = 1 ∨ legZ x = -1 := by
  rcases legZ_cases x with ⟨_, h⟩ | ⟨_, _, h⟩ | ⟨_, _, h⟩ <;> omega

/-! Exponents that the laws put together. -/
theorem pw_const {e : Nat → Int} {N : Int} {k : Nat} (he : ∀ i, i < 32 → e i = byt N i) (h0 : 0 ≤ N) (h1 : N < 115792089237316195423570985008687907853269984665640564039457584007913129639936) (hk : N.toNat = k) : (num 32 e).toNat = k := by
  rw [num_congr 32 he, num_byt 32 N h0 (by have e : (256 : Int) ^ 32 = 115792089237316195423570985008687907853269984665640564039457584007913129639936 := by decide
                                           rw [e]; exact h1), hk]
theorem pw_one {f e : Nat → Int} (he : ∀ i, i < 32 → e i = byt 57896044618658097711785492504343953926634992332820282019728792003956564819948 i) : fb (zp (fe f) (num 32 e).toNat) = fb (zp (fe f) (pN - 1)) := by rw [pw_const he (by decide) (by decide) rfl]; rfl
theorem pw_two {f e : Nat → Int} (he : ∀ i, i < 32 → e i = byt 57896044618658097711785492504343953926634992332820282019728792003956564819947 i) : fb (zp (fe f) (num 32 e).toNat) = fb (zinv (fe f)) := by rw [pw_const he (by decide) (by decide) rfl]; rfl
theorem pw_half {f e : Nat → Int} (he : ∀ i, i < 32 → e i = byt 28948022309329048855892746252171976963317496166410141009864396001978282409974 i) : fb (zp (fe f) (num 32 e).toNat) = fb (zp (fe f) halfN) := by rw [pw_const he (by decide) (by decide) rfl]; rfl
theorem fermat_two : zp (2 : Zp) (pN - 1) = 1 := zfermat prP z_two_ne
theorem zp_last_zero : zp (0 : Zp) (pN - 1) = 0 := zero_zp _ (by decide)
theorem zp_half_zero : zp (0 : Zp) halfN = 0 := zero_zp _ (by decide)

theorem even_z (x : Zp) (h : x.val % 2 = 0) : realCmp .eql (realBin .rem .u8 (fb x 0) 2) 1 = false := by
  have hb := fb_isBytes x 0 (by decide)
  rw [rem_i64 hb.1]
  simp only [realCmp, fb, byt, Int.pow_zero, Int.ediv_one, beq_eq_false_iff_ne]
  omega
theorem canB_fb (x : Zp) : canB (fb x) = true := by
  unfold canB
  rw [num_fb]
  exact decide_eq_true (zval_bounds x).2
theorem leg_dbl {u v : Zp} (hu : u ≠ 0) (hv : v ≠ 0) : (sqrtZ (u + u) v).2 = !(sqrtZ u v).2 := by
  have h1 : u + u = 2 * u := by grind
  have h2 : u + u ≠ 0 := by rw [h1]; exact zmul_ne prP z_two_ne hu
  have h3 : (u + u) * v = 2 * (u * v) := by grind
  rw [sqrt_ok h2 hv, sqrt_ok hu hv, h3, leg_mul, legZ_two]
  rcases legZ_cases (u * v) with ⟨h, _⟩ | ⟨_, _, h⟩ | ⟨_, _, h⟩
  · exact absurd h (zmul_ne prP hu hv)
  · rw [h]; rfl
  · rw [h]; rfl
theorem leg_sq {x : Zp} : legZ (x * x) = legZ x * legZ x := leg_mul x x
theorem sqrt_sq (u : Zp) : (sqrtZ (u * u) 1).2 = true := by
  by_cases h : u = 0
  · subst h
    have : (0 : Zp) * 0 = 0 := by grind
    rw [this, sqrt_u0]
  · rw [sqrt_ok (zmul_ne prP h h) (z_one_ne prP)]
    have e : u * u * 1 = u * u := by grind
    rw [e, leg_sq]
    rcases legZ_cases u with ⟨h1, _⟩ | ⟨_, _, h1⟩ | ⟨_, _, h1⟩
    · exact absurd h1 h
    · rw [h1]; rfl
    · rw [h1]; rfl
theorem mul_leg_i64 (x y : Zp) : realBin .mul .i64 (legZ x) (legZ y) = legZ x * legZ y := by
  rcases legZ_range x with h | h | h <;> rcases legZ_range y with h' | h' | h' <;> rw [h, h'] <;> rfl
end Sx
