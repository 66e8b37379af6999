/-
  SqrtRatio's digits against the field.
-/
import Derived.Test.YtnfbjfbndnmhmaaSpE
namespace Sx
open Go

def cubeL (d : Nat → Int) : Nat → Int := timesF (timesF d d) d
def sevL (d : Nat → Int) : Nat → Int := timesF (timesF (cubeL d) (cubeL d)) d
def rootL (n d e : Nat → Int) : Nat → Int := timesF (timesF n (cubeL d)) (powL (timesF n (sevL d)) e)

def sqrtR (f g : Nat → Int) : Nat → Int := fb (sqrtZ (fe f) (fe g)).1
def sqrtB (f g : Nat → Int) : Bool := (sqrtZ (fe f) (fe g)).2

theorem fb_zero : ∀ i, i < 32 → fb 0 i = 0 := by
  have h : fb 0 = byt 0 := by rw [← zi_zero, fb_zi]; rfl
  rw [h]
  decide
theorem fb_zero' (i : Nat) : fb 0 i = 0 := by
  have h : fb 0 = byt 0 := by rw [← zi_zero, fb_zi]; rfl
  rw [h]
  unfold byt
  simp
theorem fb_one : ∀ i, i < 32 → upd (fun _ => 0) 0 1 i = fb 1 i := by
  have h : fb 1 = byt 1 := by rw [← zi_one, fb_zi]; rfl
  rw [h]
  exact number_bytes (by decide)
theorem eqA_zero {g : Nat → Int} {x : Zp} (h : ∀ i, i < 32 → g i = fb x i) : realEqA 32 g (fun _ => 0) = decide (x = 0) := by
  rw [eqA_congr h (fun i _ => (fb_zero' i).symm), fb_inj]
theorem eqA_one {g : Nat → Int} {x : Zp} (h : ∀ i, i < 32 → g i = fb x i) : realEqA 32 g (upd (fun _ => 0) 0 1) = decide (x = 1) := by
  rw [eqA_congr h fb_one, fb_inj]
theorem eqA_z {g g' : Nat → Int} {x y : Zp} (h : ∀ i, i < 32 → g i = fb x i) (h' : ∀ i, i < 32 → g' i = fb y i) : realEqA 32 g g' = decide (x = y) := by
  rw [eqA_congr h h', fb_inj]
theorem odd_z {g : Nat → Int} {x : Zp} (h : ∀ i, i < 32 → g i = fb x i) : realCmp .eql (realBin .and .u8 (g 0) 1) 1 = decide (x.val % 2 = 1) := by
  rw [h 0 (by decide), and_one_u8 (fb_isBytes x 0 (by decide)), Bool.eq_iff_iff]
  simp only [realCmp, fb, byt, Int.pow_zero, Int.ediv_one, beq_iff_eq, decide_eq_true_eq]
  omega

section
variable {f g : Nat → Int} (hf : IsBytes 32 f) (hg : IsBytes 32 g)

theorem sq_bytes {l : Nat → Int} {x : Zp} (h : lz l = x ∧ Tidy l) : ∀ i, i < 32 → bytesF l i = fb x i := by
  rw [← h.1]
  exact bytes_lz h.2.fit
theorem sq_neg {l : Nat → Int} {x : Zp} (h : lz l = x ∧ Tidy l) : ∀ i, i < 32 → bytesF (settleF (subP (fun _ => 0) l)) i = fb (-x) i := by
  have h1 := lz_sub lz_zero.2 h.2
  have h2 : lz (settleF (subP (fun _ => 0) l)) = -x := by rw [h1.1, lz_zero.1, h.1]; grind
  exact sq_bytes ⟨h2, h1.2⟩
theorem sq_mul {l m : Nat → Int} {x y : Zp} (h : lz l = x ∧ Tidy l) (h' : lz m = y ∧ Tidy m) : lz (timesF l m) = x * y ∧ Tidy (timesF l m) := by
  have h1 := lz_times h.2 h'.2
  rw [h.1, h'.1] at h1
  exact h1

include hg in
theorem sq_cube : lz (cubeL (loadF g)) = fe g * fe g * fe g ∧ Tidy (cubeL (loadF g)) := sq_mul (sq_mul (lz_load hg) (lz_load hg)) (lz_load hg)
include hg in
theorem sq_sev : lz (sevL (loadF g)) = fe g * fe g * fe g * (fe g * fe g * fe g) * fe g ∧ Tidy (sevL (loadF g)) := sq_mul (sq_mul (sq_cube hg) (sq_cube hg)) (lz_load hg)

theorem num_eighth : num 32 (byt 7237005577332262213973186563042994240829374041602535252466099000494570602493) = 7237005577332262213973186563042994240829374041602535252466099000494570602493 := num_byt 32 _ (by decide) (by decide)

include hf hg in
theorem sq_root {e : Nat → Int} (he : ∀ i, i < 32 → e i = byt 7237005577332262213973186563042994240829374041602535252466099000494570602493 i) :
    lz (rootL (loadF f) (loadF g) e) = fe f * (fe g * fe g * fe g) * zp (fe f * (fe g * fe g * fe g * (fe g * fe g * fe g) * fe g)) eighthN ∧ Tidy (rootL (loadF f) (loadF g) e) := by
  have h1 := sq_mul (lz_load hf) (sq_sev hg)
  have h2 := lz_pow (l := timesF (loadF f) (sevL (loadF g))) (e := byt 7237005577332262213973186563042994240829374041602535252466099000494570602493) h1.2 (byt_isBytes _ 32)
  rw [num_eighth, h1.1] at h2
  unfold rootL
  rw [powL_congr he]
  exact sq_mul (sq_mul (lz_load hf) (sq_cube hg)) h2

theorem rootOne_bytes : fe (byt 19681161376707505956807079304988542015446066515923890162744021073123829784752) = iZ := fe_byt (by decide) (by decide)
theorem fe_congr {f g : Nat → Int} (h : ∀ i, i < 32 → f i = g i) : fe f = fe g := by
  unfold fe
  rw [num_congr 32 h]
theorem isBytes_congr {f g : Nat → Int} (h : ∀ i, i < 32 → f i = g i) (hg : IsBytes 32 g) : IsBytes 32 f := fun i hi => by rw [h i hi]; exact hg i hi

theorem pow_bytes {f e : Nat → Int} (hf : IsBytes 32 f) (he : IsBytes 32 e) : ∀ i, i < 32 → bytesF (powL (loadF f) e) i = fb (zp (fe f) (num 32 e).toNat) i := by
  have h1 := lz_load hf
  have h2 := lz_pow h1.2 he
  rw [h1.1] at h2
  exact sq_bytes h2
theorem pow_const {f e : Nat → Int} (hf : IsBytes 32 f) {N : Int} {k : Nat} (he : ∀ i, i < 32 → e i = byt N i) (hN : num 32 (byt N) = N) (hk : N.toNat = k) : ∀ i, i < 32 → bytesF (powL (loadF f) e) i = fb (zp (fe f) k) i := by
  have h := pow_bytes hf (byt_isBytes N 32)
  rw [hN, hk] at h
  rw [powL_congr he]
  exact h
theorem num_two : num 32 (byt 57896044618658097711785492504343953926634992332820282019728792003956564819947) = 57896044618658097711785492504343953926634992332820282019728792003956564819947 := num_byt 32 _ (by decide) (by decide)
theorem num_half : num 32 (byt 28948022309329048855892746252171976963317496166410141009864396001978282409974) = 28948022309329048855892746252171976963317496166410141009864396001978282409974 := num_byt 32 _ (by decide) (by decide)

/-- What SqrtRatio's digits say of a candidate. -/
structure Cand (f g l : Nat → Int) (x : Zp) : Prop where
  hit : realEqA 32 (bytesF (timesF (timesF (loadF g) l) l)) (bytesF (loadF f)) = decide (fe g * x * x = fe f)
  odd : realCmp .eql (realBin .and .u8 (bytesF l 0) 1) 1 = decide (x.val % 2 = 1)
  out : ∀ i, i < 32 → bytesF l i = fb x i
  neg : ∀ i, i < 32 → bytesF (settleF (subP (fun _ => 0) l)) i = fb (-x) i
theorem cand_of {f g l : Nat → Int} {x : Zp} (hf : IsBytes 32 f) (hg : IsBytes 32 g) (h : lz l = x ∧ Tidy l) : Cand f g l x :=
  ⟨eqA_z (sq_bytes (sq_mul (sq_mul (lz_load hg) h) h)) (sq_bytes (lz_load hf)), odd_z (sq_bytes h), sq_bytes h, sq_neg h⟩
theorem sqrt_keys {f g e r : Nat → Int} (hf : IsBytes 32 f) (hg : IsBytes 32 g) (he : ∀ i, i < 32 → e i = byt 7237005577332262213973186563042994240829374041602535252466099000494570602493 i)
    (hr : ∀ i, i < 32 → r i = byt 19681161376707505956807079304988542015446066515923890162744021073123829784752 i) :
    ∃ x y : Zp, realEqA 32 (bytesF (loadF f)) (fun _ => 0) = decide (fe f = 0) ∧ Cand f g (rootL (loadF f) (loadF g) e) x ∧ Cand f g (timesF (rootL (loadF f) (loadF g) e) (loadF r)) y ∧
      sqrtZ (fe f) (fe g) = if fe f = 0 then (0, true) else if fe g * x * x = fe f then (evZ x, true) else if fe g * y * y = fe f then (evZ y, true) else (0, false) := by
  have z1 := sq_root hf hg he
  have z2 := sq_mul z1 (lz_load (f := r) (isBytes_congr hr (byt_isBytes _ _)))
  rw [fe_congr hr, rootOne_bytes] at z2
  exact ⟨_, _, eqA_zero (sq_bytes (lz_load hf)), cand_of hf hg z1, cand_of hf hg z2, rfl⟩

/-- What SqrtRatio asks and hands back, over names for its callees. -/
structure SqF (f g : Nat → Int) (L B : (Nat → Int) → Nat → Int) (T M : (Nat → Int) → (Nat → Int) → Nat → Int) (bi : BinOp → IntKind → Int → Int → Int) (cm : BinOp → Int → Int → Bool) (eq : Nat → (Nat → Int) → (Nat → Int) → Bool) (l : Nat → Int) (x : Zp) : Prop where
  hit : eq 32 (B (T (T (L g) l) l)) (B (L f)) = decide (fe g * x * x = fe f)
  odd : cm .eql (bi .and .u8 (B l 0) 1) 1 = decide (x.val % 2 = 1)
  out : ∀ i, i < 32 → B l i = fb x i
  neg : ∀ i, i < 32 → B (M (fun _ => 0) l) i = fb (-x) i
theorem sqrt_open {f g e r : Nat → Int} (hf : IsBytes 32 f) (hg : IsBytes 32 g) (he : ∀ i, i < 32 → e i = byt 7237005577332262213973186563042994240829374041602535252466099000494570602493 i)
    (hr : ∀ i, i < 32 → r i = byt 19681161376707505956807079304988542015446066515923890162744021073123829784752 i)
    {L B : (Nat → Int) → Nat → Int} {T P M : (Nat → Int) → (Nat → Int) → Nat → Int} {bi : BinOp → IntKind → Int → Int → Int} {cm : BinOp → Int → Int → Bool} {eq : Nat → (Nat → Int) → (Nat → Int) → Bool}
    (hL : L = loadF) (hB : B = bytesF) (hT : T = timesF) (hP : P = powL) (hM : M = fun l m => settleF (subP l m)) (hbi : bi = realBin) (hcm : cm = realCmp) (heq : eq = realEqA) :
    ∃ x y : Zp, eq 32 (B (L f)) (fun _ => 0) = decide (fe f = 0) ∧ SqF f g L B T M bi cm eq (T (T (L f) (T (T (L g) (L g)) (L g))) (P (T (L f) (T (T (T (T (L g) (L g)) (L g)) (T (T (L g) (L g)) (L g))) (L g))) e)) x ∧ SqF f g L B T M bi cm eq (T (T (T (L f) (T (T (L g) (L g)) (L g))) (P (T (L f) (T (T (T (T (L g) (L g)) (L g)) (T (T (L g) (L g)) (L g))) (L g))) e)) (L r)) y ∧
      sqrtZ (fe f) (fe g) = if fe f = 0 then (0, true) else if fe g * x * x = fe f then (evZ x, true) else if fe g * y * y = fe f then (evZ y, true) else (0, false) := by
  obtain ⟨x, y, k0, k1, k2, hv⟩ := sqrt_keys hf hg he hr
  subst hL hB hT hP hM hbi hcm heq
  exact ⟨x, y, k0, ⟨k1.hit, k1.odd, k1.out, k1.neg⟩, ⟨k2.hit, k2.odd, k2.out, k2.neg⟩, hv⟩

theorem sqrt_none : (if (0 : Zp) = 0 then ((0 : Zp), true) else (0, false)) = (0, true) := if_pos rfl
/-- The six ways of SqrtRatio. -/
theorem sqrt_with {f g e r : Nat → Int} (hf : IsBytes 32 f) (hg : IsBytes 32 g) (he : ∀ i, i < 32 → e i = byt 7237005577332262213973186563042994240829374041602535252466099000494570602493 i)
    (hr : ∀ i, i < 32 → r i = byt 19681161376707505956807079304988542015446066515923890162744021073123829784752 i)
    {L B : (Nat → Int) → Nat → Int} {T P M : (Nat → Int) → (Nat → Int) → Nat → Int} {bi : BinOp → IntKind → Int → Int → Int} {cm : BinOp → Int → Int → Bool} {eq : Nat → (Nat → Int) → (Nat → Int) → Bool}
    {R : (Nat → Int) → (Nat → Int) → Nat → Int} {S : (Nat → Int) → (Nat → Int) → Bool} (hR : R = sqrtR) (hS : S = sqrtB)
    (hL : L = loadF) (hB : B = bytesF) (hT : T = timesF) (hP : P = powL) (hM : M = fun l m => settleF (subP l m)) (hbi : bi = realBin) (hcm : cm = realCmp) (heq : eq = realEqA) {goal : Prop}
    (H : (eq 32 (B (L f)) (fun _ => 0) = true → (∀ i, i < 32 → 0 = R f g i) ∧ true = S f g) →
      (eq 32 (B (L f)) (fun _ => 0) = false → eq 32 (B (T (T (L g) (T (T (L f) (T (T (L g) (L g)) (L g))) (P (T (L f) (T (T (T (T (L g) (L g)) (L g)) (T (T (L g) (L g)) (L g))) (L g))) e))) (T (T (L f) (T (T (L g) (L g)) (L g))) (P (T (L f) (T (T (T (T (L g) (L g)) (L g)) (T (T (L g) (L g)) (L g))) (L g))) e)))) (B (L f)) = true → cm .eql (bi .and .u8 (B (T (T (L f) (T (T (L g) (L g)) (L g))) (P (T (L f) (T (T (T (T (L g) (L g)) (L g)) (T (T (L g) (L g)) (L g))) (L g))) e)) 0) 1) 1 = true → (∀ i, i < 32 → B (M (fun _ => 0) (T (T (L f) (T (T (L g) (L g)) (L g))) (P (T (L f) (T (T (T (T (L g) (L g)) (L g)) (T (T (L g) (L g)) (L g))) (L g))) e))) i = R f g i) ∧ true = S f g) →
      (eq 32 (B (L f)) (fun _ => 0) = false → eq 32 (B (T (T (L g) (T (T (L f) (T (T (L g) (L g)) (L g))) (P (T (L f) (T (T (T (T (L g) (L g)) (L g)) (T (T (L g) (L g)) (L g))) (L g))) e))) (T (T (L f) (T (T (L g) (L g)) (L g))) (P (T (L f) (T (T (T (T (L g) (L g)) (L g)) (T (T (L g) (L g)) (L g))) (L g))) e)))) (B (L f)) = true → cm .eql (bi .and .u8 (B (T (T (L f) (T (T (L g) (L g)) (L g))) (P (T (L f) (T (T (T (T (L g) (L g)) (L g)) (T (T (L g) (L g)) (L g))) (L g))) e)) 0) 1) 1 = false → (∀ i, i < 32 → B (T (T (L f) (T (T (L g) (L g)) (L g))) (P (T (L f) (T (T (T (T (L g) (L g)) (L g)) (T (T (L g) (L g)) (L g))) (L g))) e)) i = R f g i) ∧ true = S f g) →
      (eq 32 (B (L f)) (fun _ => 0) = false → eq 32 (B (T (T (L g) (T (T (L f) (T (T (L g) (L g)) (L g))) (P (T (L f) (T (T (T (T (L g) (L g)) (L g)) (T (T (L g) (L g)) (L g))) (L g))) e))) (T (T (L f) (T (T (L g) (L g)) (L g))) (P (T (L f) (T (T (T (T (L g) (L g)) (L g)) (T (T (L g) (L g)) (L g))) (L g))) e)))) (B (L f)) = false → eq 32 (B (T (T (L g) (T (T (T (L f) (T (T (L g) (L g)) (L g))) (P (T (L f) (T (T (T (T (L g) (L g)) (L g)) (T (T (L g) (L g)) (L g))) (L g))) e)) (L r))) (T (T (T (L f) (T (T (L g) (L g)) (L g))) (P (T (L f) (T (T (T (T (L g) (L g)) (L g)) (T (T (L g) (L g)) (L g))) (L g))) e)) (L r)))) (B (L f)) = true → cm .eql (bi .and .u8 (B (T (T (T (L f) (T (T (L g) (L g)) (L g))) (P (T (L f) (T (T (T (T (L g) (L g)) (L g)) (T (T (L g) (L g)) (L g))) (L g))) e)) (L r)) 0) 1) 1 = true → (∀ i, i < 32 → B (M (fun _ => 0) (T (T (T (L f) (T (T (L g) (L g)) (L g))) (P (T (L f) (T (T (T (T (L g) (L g)) (L g)) (T (T (L g) (L g)) (L g))) (L g))) e)) (L r))) i = R f g i) ∧ true = S f g) →
      (eq 32 (B (L f)) (fun _ => 0) = false → eq 32 (B (T (T (L g) (T (T (L f) (T (T (L g) (L g)) (L g))) (P (T (L f) (T (T (T (T (L g) (L g)) (L g)) (T (T (L g) (L g)) (L g))) (L g))) e))) (T (T (L f) (T (T (L g) (L g)) (L g))) (P (T (L f) (T (T (T (T (L g) (L g)) (L g)) (T (T (L g) (L g)) (L g))) (L g))) e)))) (B (L f)) = false → eq 32 (B (T (T (L g) (T (T (T (L f) (T (T (L g) (L g)) (L g))) (P (T (L f) (T (T (T (T (L g) (L g)) (L g)) (T (T (L g) (L g)) (L g))) (L g))) e)) (L r))) (T (T (T (L f) (T (T (L g) (L g)) (L g))) (P (T (L f) (T (T (T (T (L g) (L g)) (L g)) (T (T (L g) (L g)) (L g))) (L g))) e)) (L r)))) (B (L f)) = true → cm .eql (bi .and .u8 (B (T (T (T (L f) (T (T (L g) (L g)) (L g))) (P (T (L f) (T (T (T (T (L g) (L g)) (L g)) (T (T (L g) (L g)) (L g))) (L g))) e)) (L r)) 0) 1) 1 = false → (∀ i, i < 32 → B (T (T (T (L f) (T (T (L g) (L g)) (L g))) (P (T (L f) (T (T (T (T (L g) (L g)) (L g)) (T (T (L g) (L g)) (L g))) (L g))) e)) (L r)) i = R f g i) ∧ true = S f g) →
      (eq 32 (B (L f)) (fun _ => 0) = false → eq 32 (B (T (T (L g) (T (T (L f) (T (T (L g) (L g)) (L g))) (P (T (L f) (T (T (T (T (L g) (L g)) (L g)) (T (T (L g) (L g)) (L g))) (L g))) e))) (T (T (L f) (T (T (L g) (L g)) (L g))) (P (T (L f) (T (T (T (T (L g) (L g)) (L g)) (T (T (L g) (L g)) (L g))) (L g))) e)))) (B (L f)) = false → eq 32 (B (T (T (L g) (T (T (T (L f) (T (T (L g) (L g)) (L g))) (P (T (L f) (T (T (T (T (L g) (L g)) (L g)) (T (T (L g) (L g)) (L g))) (L g))) e)) (L r))) (T (T (T (L f) (T (T (L g) (L g)) (L g))) (P (T (L f) (T (T (T (T (L g) (L g)) (L g)) (T (T (L g) (L g)) (L g))) (L g))) e)) (L r)))) (B (L f)) = false → (∀ i, i < 32 → 0 = R f g i) ∧ false = S f g) → goal) : goal := by
  obtain ⟨x, y, c0, k1, k2, hv⟩ := sqrt_open hf hg he hr hL hB hT hP hM hbi hcm heq
  have hr' : R f g = fb (sqrtZ (fe f) (fe g)).1 := by rw [hR, sqrtR]
  have hs : S f g = (sqrtZ (fe f) (fe g)).2 := by rw [hS, sqrtB]
  rw [hv] at hr' hs
  clear hv hL hB hT hP hM hR hS
  refine H (fun h0 => ?_) (fun h0 h1 h2 => ?_) (fun h0 h1 h2 => ?_) (fun h0 h1 h2 h3 => ?_) (fun h0 h1 h2 h3 => ?_) (fun h0 h1 h2 => ?_)
  · rw [if_pos (of_decide_eq_true (c0.symm.trans h0))] at hr' hs
    exact ⟨fun i hi => by rw [hr']; exact (fb_zero i hi).symm, hs.symm⟩
  · rw [if_neg (of_decide_eq_false (c0.symm.trans h0)), if_pos (of_decide_eq_true (k1.hit.symm.trans h1))] at hr' hs
    have e : evZ x = -x := if_pos (of_decide_eq_true (k1.odd.symm.trans h2))
    exact ⟨fun i hi => by rw [hr', e]; exact k1.neg i hi, hs.symm⟩
  · rw [if_neg (of_decide_eq_false (c0.symm.trans h0)), if_pos (of_decide_eq_true (k1.hit.symm.trans h1))] at hr' hs
    have e : evZ x = x := if_neg (of_decide_eq_false (k1.odd.symm.trans h2))
    exact ⟨fun i hi => by rw [hr', e]; exact k1.out i hi, hs.symm⟩
  · rw [if_neg (of_decide_eq_false (c0.symm.trans h0)), if_neg (of_decide_eq_false (k1.hit.symm.trans h1)), if_pos (of_decide_eq_true (k2.hit.symm.trans h2))] at hr' hs
    have e : evZ y = -y := if_pos (of_decide_eq_true (k2.odd.symm.trans h3))
    exact ⟨fun i hi => by rw [hr', e]; exact k2.neg i hi, hs.symm⟩
  · rw [if_neg (of_decide_eq_false (c0.symm.trans h0)), if_neg (of_decide_eq_false (k1.hit.symm.trans h1)), if_pos (of_decide_eq_true (k2.hit.symm.trans h2))] at hr' hs
    have e : evZ y = y := if_neg (of_decide_eq_false (k2.odd.symm.trans h3))
    exact ⟨fun i hi => by rw [hr', e]; exact k2.out i hi, hs.symm⟩
  · rw [if_neg (of_decide_eq_false (c0.symm.trans h0)), if_neg (of_decide_eq_false (k1.hit.symm.trans h1)), if_neg (of_decide_eq_false (k2.hit.symm.trans h2))] at hr' hs
    exact ⟨fun i hi => by rw [hr']; exact (fb_zero i hi).symm, hs.symm⟩
end
end Sx
