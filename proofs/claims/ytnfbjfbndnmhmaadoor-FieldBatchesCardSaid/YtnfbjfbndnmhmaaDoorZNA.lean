/-
  A part of the proof. No condition.
-/
import Derived.Test.YtnfbjfbndnmhmaaDoorZMA

/-
  SqrtRatio's digits against the field.
-/
namespace Sx
open Go

def cubeL (d : Nat → Int) : Nat → Int := timesF (timesF d d) d
def sevL (d : Nat → Int) : Nat → Int := timesF (timesF (cubeL d) (cubeL d)) d
def rootL (n d e : Nat → Int) : Nat → Int := timesF (timesF n (cubeL d)) (powL (timesF n (sevL d)) e)

def sqrtR (f g : Nat → Int) : Nat → Int := fb (sqrtZ (fe f) (fe g)).1
def sqrtB (f g : Nat → Int) : Bool := (sqrtZ (fe f) (fe g)).2

theorem fb_zero : ∀ i, i < 32 → fb 0 i = 0 := by
  have h : fb 0 = byt 0 := by rw [← zi_zero, fb_zi]; rfl
  rw [h]
  decide
theorem fb_zero' (i : Nat) : fb 0 i = 0 := by
  have h : fb 0 = byt 0 := by rw [← zi_zero, fb_zi]; rfl
  rw [h]
  unfold byt
  simp
theorem fb_one : ∀ i, i < 32 → upd (fun _ => 0) 0 1 i = fb 1 i := by
  have h : fb 1 = byt 1 := by rw [← zi_one, fb_zi]; rfl
  rw [h]
  exact number_bytes (by decide)
theorem eqA_zero {g : Nat → Int} {x : Zp} (h : ∀ i, i < 32 → g i = fb x i) : realEqA 32 g (fun _ => 0) = decide (x = 0) := by
  rw [eqA_congr h (fun i _ => (fb_zero' i).symm), fb_inj]
theorem eqA_one {g : Nat → Int} {x : Zp} (h : ∀ i, i < 32 → g i = fb x i) : realEqA 32 g (upd (fun _ => 0) 0 1) = decide (x = 1) := by
  rw [eqA_congr h fb_one, fb_inj]
theorem eqA_z {g g' : Nat → Int} {x y : Zp} (h : ∀ i, i < 32 → g i = fb x i) (h' : ∀ i, i < 32 → g' i = fb y i) : realEqA 32 g g' = decide (x = y) := by
  rw [eqA_congr h h', fb_inj]
theorem odd_z {g : Nat → Int} {x : Zp} (h : ∀ i, i < 32 → g i = fb x i) : realCmp .eql (realBin .and .u8 (g 0) 1) 1 = decide (x.val % 2 = 1) := by
  rw [h 0 (by decide), and_one_u8 (fb_isBytes x 0 (by decide)), Bool.eq_iff_iff]
  simp only [realCmp, fb, byt, Int.pow_zero, Int.ediv_one, beq_iff_eq, decide_eq_true_eq]
  omega

section
variable {f g : Nat → Int} (hf : IsBytes 32 f) (hg : IsBytes 32 g)

theorem sq_bytes {l : Nat → Int} {x : Zp} (h : lz l = x ∧ Tidy l) : ∀ i, i < 32 → bytesF l i = fb x i := by
  rw [← h.1]
  exact bytes_lz h.2.fit
theorem sq_neg {l : Nat → Int} {x : Zp} (h : lz l = x ∧ Tidy l) : ∀ i, i < 32 → bytesF (settleF (subP (fun _ => 0) l)) i = fb (-x) i := by
  have h1 := lz_sub lz_zero.2 h.2
  have h2 : lz (settleF (subP (fun _ => 0) l)) = -x := by rw [h1.1, lz_zero.1, h.1]; grind
  exact sq_bytes ⟨h2, h1.2⟩
theorem sq_mul {l m : Nat → Int} {x y : Zp} (h : lz l = x ∧ Tidy l) (h' : lz m = y ∧ Tidy m) : lz (timesF l m) = x * y ∧ Tidy (timesF l m) := by
  have h1 := lz_times h.2 h'.2
  rw [h.1, h'.1] at h1
  exact h1

include hg in
theorem sq_cube : lz (cubeL (loadF g)) = fe g * fe g * fe g ∧ Tidy (cubeL (loadF g)) := sq_mul (sq_mul (lz_load hg) (lz_load hg)) (lz_load hg)
include hg in
theorem sq_sev : lz (sevL (loadF g)) = fe g * fe g * fe g * (fe g * fe g * fe g) * fe g ∧ Tidy (sevL (loadF g)) := sq_mul (sq_mul (sq_cube hg) (sq_cube hg)) (lz_load hg)

theorem num_eighth : num 32 (byt 7237005577332262213973186563042994240829374041602535252466099000494570602493) = 7237005577332262213973186563042994240829374041602535252466099000494570602493 := num_byt 32 _ (by decide) (by decide)

include hf hg in
theorem sq_root {e : Nat → Int} (he : ∀ i, i < 32 → e i = byt 7237005577332262213973186563042994240829374041602535252466099000494570602493 i) :
    lz (rootL (loadF f) (loadF g) e) = fe f * (fe g * fe g * fe g) * zp (fe f * (fe g * fe g * fe g * (fe g * fe g * fe g) * fe g)) eighthN ∧ Tidy (rootL (loadF f) (loadF g) e) := by
  have h1 := sq_mul (lz_load hf) (sq_sev hg)
  have h2 := lz_pow (l := timesF (loadF f) (sevL (loadF g))) (e := byt 7237005577332262213973186563042994240829374041602535252466099000494570602493) h1.2 (byt_isBytes _ 32)
  rw [num_eighth, h1.1] at h2
  unfold rootL
  rw [powL_congr he]
  exact sq_mul (sq_mul (lz_load hf) (sq_cube hg)) h2

theorem rootOne_bytes : fe (byt 19681161376707505956807079304988542015446066515923890162744021073123829784752) = iZ := fe_byt (by decide) (by decide)
theorem fe_congr {f g : Nat → Int} (h : ∀ i, i < 32 → f i = g i) : fe f = fe g := by
  unfold fe
  rw [num_congr 32 h]
theorem isBytes_congr {f g : Nat → Int} (h : ∀ i, i < 32 → f i = g i) (hg : IsBytes 32 g) : IsBytes 32 f := fun i hi => by rw [h i hi]; exact hg i hi

theorem pow_bytes {f e : Nat → Int} (hf : IsBytes 32 f) (he : IsBytes 32 e) : ∀ i, i < 32 → bytesF (powL (loadF f) e) i = fb (zp (fe f) (num 32 e).toNat) i := by
  have h1 := lz_load hf
  have h2 := lz_pow h1.2 he
  rw [h1.1] at h2
  exact sq_bytes h2
theorem pow_const {f e : Nat → Int} (hf : IsBytes 32 f) {N : Int} {k : Nat} (he : ∀ i, i < 32 → e i = byt N i) (hN : num 32 (byt N) = N) (hk : N.toNat = k) : ∀ i, i < 32 → bytesF (powL (loadF f) e) i = fb (zp (fe f) k) i := by
  have h := pow_bytes hf (byt_isBytes N 32)
  rw [hN, hk] at h
  rw [powL_congr he]
  exact h
theorem num_two : num 32 (byt 57896044618658097711785492504343953926634992332820282019728792003956564819947) = 57896044618658097711785492504343953926634992332820282019728792003956564819947 := num_byt 32 _ (by decide) (by decide)
theorem num_half : num 32 (byt 28948022309329048855892746252171976963317496166410141009864396001978282409974) = 28948022309329048855892746252171976963317496166410141009864396001978282409974 := num_byt 32 _ (by decide) (by decide)

/-- What SqrtRatio's digits say of a candidate. -/
structure Cand (f g l : Nat → Int) (x : Zp) : Prop where
  hit : realEqA 32 (bytesF (timesF (timesF (loadF g) l) l)) (bytesF (loadF f)) = decide (fe g * x * x = fe f)
  odd : realCmp .eql (realBin .and .u8 (bytesF l 0) 1) 1 = decide (x.val % 2 = 1)
  out : ∀ i, i < 32 → bytesF l i = fb x i
  neg : ∀ i, i < 32 → bytesF (settleF (subP (fun _ => 0) l)) i = fb (-x) i
theorem cand_of {f g l : Nat → Int} {x : Zp} (hf : IsBytes 32 f) (hg : IsBytes 32 g) (h : lz l = x ∧ Tidy l) : Cand f g l x :=
  ⟨eqA_z (sq_bytes (sq_mul (sq_mul (lz_load hg) h) h)) (sq_bytes (lz_load hf)), odd_z (sq_bytes h), sq_bytes h, sq_neg h⟩
theorem sqrt_keys {f g e r : Nat → Int} (hf : IsBytes 32 f) (hg : IsBytes 32 g) (he : ∀ i, i < 32 → e i = byt 7237005577332262213973186563042994240829374041602535252466099000494570602493 i)
    (hr : ∀ i, i < 32 → r i = byt 19681161376707505956807079304988542015446066515923890162744021073123829784752 i) :
    ∃ x y : Zp, realEqA 32 (bytesF (loadF f)) (fun _ => 0) = decide (fe f = 0) ∧ Cand f g (rootL (loadF f) (loadF g) e) x ∧ Cand f g (timesF (rootL (loadF f) (loadF g) e) (loadF r)) y ∧
      sqrtZ (fe f) (fe g) = if fe f = 0 then (0, true) else if fe g * x * x = fe f then (evZ x, true) else if fe g * y * y = fe f then (evZ y, true) else (0, false) := by
  have z1 := sq_root hf hg he
  have z2 := sq_mul z1 (lz_load (f := r) (isBytes_congr hr (byt_isBytes _ _)))
  rw [fe_congr hr, rootOne_bytes] at z2
  exact ⟨_, _, eqA_zero (sq_bytes (lz_load hf)), cand_of hf hg z1, cand_of hf hg z2, rfl⟩

/-- What SqrtRatio asks and hands back, over names for its callees. -/
structure SqF (f g : Nat → Int) (L B : (Nat → Int) → Nat → Int) (T M : (Nat → Int) → (Nat → Int) → Nat → Int) (bi : BinOp → IntKind → Int → Int → Int) (cm : BinOp → Int → Int → Bool) (eq : Nat → (Nat → Int) → (Nat → Int) → Bool) (l : Nat → Int) (x : Zp) : Prop where
  hit : eq 32 (B (T (T (L g) l) l)) (B (L f)) = decide (fe g * x * x = fe f)
  odd : cm .eql (bi .and .u8 (B l 0) 1) 1 = decide (x.val % 2 = 1)
  out : ∀ i, i < 32 → B l i = fb x i
  neg : ∀ i, i < 32 → B (M (fun _ => 0) l) i = fb (-x) i
theorem sqrt_open {f g e r : Nat → Int} (hf : IsBytes 32 f) (hg : IsBytes 32 g) (he : ∀ i, i < 32 → e i = byt 7237005577332262213973186563042994240829374041602535252466099000494570602493 i)
    (hr : ∀ i, i < 32 → r i = byt 19681161376707505956807079304988542015446066515923890162744021073123829784752 i)
    {L B : (Nat → Int) → Nat → Int} {T P M : (Nat → Int) → (Nat → Int) → Nat → Int} {bi : BinOp → IntKind → Int → Int → Int} {cm : BinOp → Int → Int → Bool} {eq : Nat → (Nat → Int) → (Nat → Int) → Bool}
    (hL : L = loadF) (hB : B = bytesF) (hT : T = timesF) (hP : P = powL) (hM : M = fun l m => settleF (subP l m)) (hbi : bi = realBin) (hcm : cm = realCmp) (heq : eq = realEqA) :
    ∃ x y : Zp, eq 32 (B (L f)) (fun _ => 0) = decide (fe f = 0) ∧ SqF f g L B T M bi cm eq (T (T (L f) (T (T (L g) (L g)) (L g))) (P (T (L f) (T (T (T (T (L g) (L g)) (L g)) (T (T (L g) (L g)) (L g))) (L g))) e)) x ∧ SqF f g L B T M bi cm eq (T (T (T (L f) (T (T (L g) (L g)) (L g))) (P (T (L f) (T (T (T (T (L g) (L g)) (L g)) (T (T (L g) (L g)) (L g))) (L g))) e)) (L r)) y ∧
      sqrtZ (fe f) (fe g) = if fe f = 0 then (0, true) else if fe g * x * x = fe f then (evZ x, true) else if fe g * y * y = fe f then (evZ y, true) else (0, false) := by
  obtain ⟨x, y, k0, k1, k2, hv⟩ := sqrt_keys hf hg he hr
  subst hL hB hT hP hM hbi hcm heq
  exact ⟨x, y, k0, ⟨k1.hit, k1.odd, k1.out, k1.neg⟩, ⟨k2.hit, k2.odd, k2.out, k2.neg⟩, hv⟩

theorem sqrt_none : (if (0 : Zp) = 0 then ((0 : Zp), true) else (0, false)) = (0, true) := if_pos rfl
/-- The six ways of SqrtRatio. -/
theorem sqrt_with {f g e r : Nat → Int} (hf : IsBytes 32 f) (hg : IsBytes 32 g) (he : ∀ i, i < 32 → e i = byt 7237005577332262213973186563042994240829374041602535252466099000494570602493 i)
    (hr : ∀ i, i < 32 → r i = byt 19681161376707505956807079304988542015446066515923890162744021073123829784752 i)
    {L B : (Nat → Int) → Nat → Int} {T P M : (Nat → Int) → (Nat → Int) → Nat → Int} {bi : BinOp → IntKind → Int → Int → Int} {cm : BinOp → Int → Int → Bool} {eq : Nat → (Nat → Int) → (Nat → Int) → Bool}
    {R : (Nat → Int) → (Nat → Int) → Nat → Int} {S : (Nat → Int) → (Nat → Int) → Bool} (hR : R = sqrtR) (hS : S = sqrtB)
    (hL : L = loadF) (hB : B = bytesF) (hT : T = timesF) (hP : P = powL) (hM : M = fun l m => settleF (subP l m)) (hbi : bi = realBin) (hcm : cm = realCmp) (heq : eq = realEqA) {goal : Prop}
    (H : (eq 32 (B (L f)) (fun _ => 0) = true → (∀ i, i < 32 → 0 = R f g i) ∧ true = S f g) →
      (eq 32 (B (L f)) (fun _ => 0) = false → eq 32 (B (T (T (L g) (T (T (L f) (T (T (L g) (L g)) (L g))) (P (T (L f) (T (T (T (T (L g) (L g)) (L g)) (T (T (L g) (L g)) (L g))) (L g))) e))) (T (T (L f) (T (T (L g) (L g)) (L g))) (P (T (L f) (T (T (T (T (L g) (L g)) (L g)) (T (T (L g) (L g)) (L g))) (L g))) e)))) (B (L f)) = true → cm .eql (bi .and .u8 (B (T (T (L f) (T (T (L g) (L g)) (L g))) (P (T (L f) (T (T (T (T (L g) (L g)) (L g)) (T (T (L g) (L g)) (L g))) (L g))) e)) 0) 1) 1 = true → (∀ i, i < 32 → B (M (fun _ => 0) (T (T (L f) (T (T (L g) (L g)) (L g))) (P (T (L f) (T (T (T (T (L g) (L g)) (L g)) (T (T (L g) (L g)) (L g))) (L g))) e))) i = R f g i) ∧ true = S f g) →
      (eq 32 (B (L f)) (fun _ => 0) = false → eq 32 (B (T (T (L g) (T (T (L f) (T (T (L g) (L g)) (L g))) (P (T (L f) (T (T (T (T (L g) (L g)) (L g)) (T (T (L g) (L g)) (L g))) (L g))) e))) (T (T (L f) (T (T (L g) (L g)) (L g))) (P (T (L f) (T (T (T (T (L g) (L g)) (L g)) (T (T (L g) (L g)) (L g))) (L g))) e)))) (B (L f)) = true → cm .eql (bi .and .u8 (B (T (T (L f) (T (T (L g) (L g)) (L g))) (P (T (L f) (T (T (T (T (L g) (L g)) (L g)) (T (T (L g) (L g)) (L g))) (L g))) e)) 0) 1) 1 = false → (∀ i, i < 32 → B (T (T (L f) (T (T (L g) (L g)) (L g))) (P (T (L f) (T (T (T (T (L g) (L g)) (L g)) (T (T (L g) (L g)) (L g))) (L g))) e)) i = R f g i) ∧ true = S f g) →
      (eq 32 (B (L f)) (fun _ => 0) = false → eq 32 (B (T (T (L g) (T (T (L f) (T (T (L g) (L g)) (L g))) (P (T (L f) (T (T (T (T (L g) (L g)) (L g)) (T (T (L g) (L g)) (L g))) (L g))) e))) (T (T (L f) (T (T (L g) (L g)) (L g))) (P (T (L f) (T (T (T (T (L g) (L g)) (L g)) (T (T (L g) (L g)) (L g))) (L g))) e)))) (B (L f)) = false → eq 32 (B (T (T (L g) (T (T (T (L f) (T (T (L g) (L g)) (L g))) (P (T (L f) (T (T (T (T (L g) (L g)) (L g)) (T (T (L g) (L g)) (L g))) (L g))) e)) (L r))) (T (T (T (L f) (T (T (L g) (L g)) (L g))) (P (T (L f) (T (T (T (T (L g) (L g)) (L g)) (T (T (L g) (L g)) (L g))) (L g))) e)) (L r)))) (B (L f)) = true → cm .eql (bi .and .u8 (B (T (T (T (L f) (T (T (L g) (L g)) (L g))) (P (T (L f) (T (T (T (T (L g) (L g)) (L g)) (T (T (L g) (L g)) (L g))) (L g))) e)) (L r)) 0) 1) 1 = true → (∀ i, i < 32 → B (M (fun _ => 0) (T (T (T (L f) (T (T (L g) (L g)) (L g))) (P (T (L f) (T (T (T (T (L g) (L g)) (L g)) (T (T (L g) (L g)) (L g))) (L g))) e)) (L r))) i = R f g i) ∧ true = S f g) →
      (eq 32 (B (L f)) (fun _ => 0) = false → eq 32 (B (T (T (L g) (T (T (L f) (T (T (L g) (L g)) (L g))) (P (T (L f) (T (T (T (T (L g) (L g)) (L g)) (T (T (L g) (L g)) (L g))) (L g))) e))) (T (T (L f) (T (T (L g) (L g)) (L g))) (P (T (L f) (T (T (T (T (L g) (L g)) (L g)) (T (T (L g) (L g)) (L g))) (L g))) e)))) (B (L f)) = false → eq 32 (B (T (T (L g) (T (T (T (L f) (T (T (L g) (L g)) (L g))) (P (T (L f) (T (T (T (T (L g) (L g)) (L g)) (T (T (L g) (L g)) (L g))) (L g))) e)) (L r))) (T (T (T (L f) (T (T (L g) (L g)) (L g))) (P (T (L f) (T (T (T (T (L g) (L g)) (L g)) (T (T (L g) (L g)) (L g))) (L g))) e)) (L r)))) (B (L f)) = true → cm .eql (bi .and .u8 (B (T (T (T (L f) (T (T (L g) (L g)) (L g))) (P (T (L f) (T (T (T (T (L g) (L g)) (L g)) (T (T (L g) (L g)) (L g))) (L g))) e)) (L r)) 0) 1) 1 = false → (∀ i, i < 32 → B (T (T (T (L f) (T (T (L g) (L g)) (L g))) (P (T (L f) (T (T (T (T (L g) (L g)) (L g)) (T (T (L g) (L g)) (L g))) (L g))) e)) (L r)) i = R f g i) ∧ true = S f g) →
      (eq 32 (B (L f)) (fun _ => 0) = false → eq 32 (B (T (T (L g) (T (T (L f) (T (T (L g) (L g)) (L g))) (P (T (L f) (T (T (T (T (L g) (L g)) (L g)) (T (T (L g) (L g)) (L g))) (L g))) e))) (T (T (L f) (T (T (L g) (L g)) (L g))) (P (T (L f) (T (T (T (T (L g) (L g)) (L g)) (T (T (L g) (L g)) (L g))) (L g))) e)))) (B (L f)) = false → eq 32 (B (T (T (L g) (T (T (T (L f) (T (T (L g) (L g)) (L g))) (P (T (L f) (T (T (T (T (L g) (L g)) (L g)) (T (T (L g) (L g)) (L g))) (L g))) e)) (L r))) (T (T (T (L f) (T (T (L g) (L g)) (L g))) (P (T (L f) (T (T (T (T (L g) (L g)) (L g)) (T (T (L g) (L g)) (L g))) (L g))) e)) (L r)))) (B (L f)) = false → (∀ i, i < 32 → 0 = R f g i) ∧ false = S f g) → goal) : goal := by
  obtain ⟨x, y, c0, k1, k2, hv⟩ := sqrt_open hf hg he hr hL hB hT hP hM hbi hcm heq
  have hr' : R f g = fb (sqrtZ (fe f) (fe g)).1 := by rw [hR, sqrtR]
  have hs : S f g = (sqrtZ (fe f) (fe g)).2 := by rw [hS, sqrtB]
  rw [hv] at hr' hs
  clear hv hL hB hT hP hM hR hS
  refine H (fun h0 => ?_) (fun h0 h1 h2 => ?_) (fun h0 h1 h2 => ?_) (fun h0 h1 h2 h3 => ?_) (fun h0 h1 h2 h3 => ?_) (fun h0 h1 h2 => ?_)
  · rw [if_pos (of_decide_eq_true (c0.symm.trans h0))] at hr' hs
    exact ⟨fun i hi => by rw [hr']; exact (fb_zero i hi).symm, hs.symm⟩
  · rw [if_neg (of_decide_eq_false (c0.symm.trans h0)), if_pos (of_decide_eq_true (k1.hit.symm.trans h1))] at hr' hs
    have e : evZ x = -x := if_pos (of_decide_eq_true (k1.odd.symm.trans h2))
    exact ⟨fun i hi => by rw [hr', e]; exact k1.neg i hi, hs.symm⟩
  · rw [if_neg (of_decide_eq_false (c0.symm.trans h0)), if_pos (of_decide_eq_true (k1.hit.symm.trans h1))] at hr' hs
    have e : evZ x = x := if_neg (of_decide_eq_false (k1.odd.symm.trans h2))
    exact ⟨fun i hi => by rw [hr', e]; exact k1.out i hi, hs.symm⟩
  · rw [if_neg (of_decide_eq_false (c0.symm.trans h0)), if_neg (of_decide_eq_false (k1.hit.symm.trans h1)), if_pos (of_decide_eq_true (k2.hit.symm.trans h2))] at hr' hs
    have e : evZ y = -y := if_pos (of_decide_eq_true (k2.odd.symm.trans h3))
    exact ⟨fun i hi => by rw [hr', e]; exact k2.neg i hi, hs.symm⟩
  · rw [if_neg (of_decide_eq_false (c0.symm.trans h0)), if_neg (of_decide_eq_false (k1.hit.symm.trans h1)), if_pos (of_decide_eq_true (k2.hit.symm.trans h2))] at hr' hs
    have e : evZ y = y := if_neg (of_decide_eq_false (k2.odd.symm.trans h3))
    exact ⟨fun i hi => by rw [hr', e]; exact k2.out i hi, hs.symm⟩
  · rw [if_neg (of_decide_eq_false (c0.symm.trans h0)), if_neg (of_decide_eq_false (k1.hit.symm.trans h1)), if_neg (of_decide_eq_false (k2.hit.symm.trans h2))] at hr' hs
    exact ⟨fun i hi => by rw [hr']; exact (fb_zero i hi).symm, hs.symm⟩
end
end Sx

/-
  Many inverses by one.
-/
namespace Sx
open Go

/-- Number i of a list of numbers of 32 bytes. -/
def rowB (f : Nat → Int) (i : Nat) : Nat → Int := fun j => f (32 * i + j)
def isZ (f : Nat → Int) (i : Nat) : Bool := realEqA 32 (bytesF (loadF (rowB f i))) (fun _ => 0)
/-- The product of all that stand ahead, in digits. -/
def allL (o f : Nat → Int) : Nat → Nat → Int
  | 0 => o
  | i + 1 => if isZ f i = true then allL o f i else timesF (allL o f i) (loadF (rowB f i))
def gZ (f : Nat → Int) (i : Nat) : Zp := if fe (rowB f i) = 0 then 1 else fe (rowB f i)
def preZ (f : Nat → Int) : Nat → Zp
  | 0 => 1
  | i + 1 => preZ f i * gZ f i
/-- What is left of the inverse after k places from the end. -/
def backL (o f e : Nat → Int) (n : Nat) : Nat → Nat → Int
  | 0 => powL (allL o f n) e
  | k + 1 => if isZ f (n - 1 - k) = true then backL o f e n k else timesF (backL o f e n k) (loadF (rowB f (n - 1 - k)))
/-- The products, up to place m. -/
def headL (o f : Nat → Int) (m : Nat) : Nat → Int := fun p => if p / 5 < m then allL o f (p / 5) (p % 5) else 0
/-- Product number i of n. -/
def rowH (o f : Nat → Int) (n i : Nat) : Nat → Int := fun j => headL o f n (5 * i + j)
/-- The answers, from place m on. -/
def outL (o f e : Nat → Int) (n m : Nat) : Nat → Int := fun p =>
  if m ≤ p / 32 ∧ p / 32 < n then (if isZ f (p / 32) = true then 0 else bytesF (timesF (backL o f e n (n - 1 - p / 32)) (rowH o f n (p / 32))) (p % 32)) else 0
def invsF (f : Nat → Int) : Nat → Int := fun p => fb (zinv (fe (rowB f (p / 32)))) (p % 32)

def RowsB (f : Nat → Int) (n : Nat) : Prop := ∀ i, i < n * 32 → inR .u8 (f i)
theorem rowB_isB {f : Nat → Int} {n i : Nat} (h : RowsB f n) (hi : i < n) : IsBytes 32 (rowB f i) := fun j hj => inR_u8.1 (h (32 * i + j) (by omega))
theorem isZ_iff {f : Nat → Int} {n i : Nat} (h : RowsB f n) (hi : i < n) : isZ f i = decide (fe (rowB f i) = 0) :=
  eqA_zero (sq_bytes (lz_load (rowB_isB h hi)))

section
variable {o f e : Nat → Int} {n : Nat} (h : RowsB f n) (ho : lz o = 1 ∧ Tidy o)
include h ho
theorem all_ok : ∀ i, i ≤ n → lz (allL o f i) = preZ f i ∧ Tidy (allL o f i)
  | 0, _ => ho
  | i + 1, hi => by
    have ih := all_ok i (by omega)
    unfold allL preZ gZ
    rw [isZ_iff h (by omega)]
    by_cases hz : fe (rowB f i) = 0
    · rw [decide_eq_true hz, if_pos rfl, if_pos hz]
      exact ⟨by rw [ih.1]; grind, ih.2⟩
    · rw [decide_eq_false hz, if_neg (by simp), if_neg hz]
      exact sq_mul ih (lz_load (rowB_isB h (by omega)))
end
theorem gZ_ne (f : Nat → Int) (i : Nat) : gZ f i ≠ 0 := by
  unfold gZ
  split
  · exact z_one_ne prP
  · assumption
theorem preZ_ne (f : Nat → Int) : ∀ i, preZ f i ≠ 0
  | 0 => z_one_ne prP
  | i + 1 => fun h => by
    rcases zdom prP h with h1 | h1
    · exact preZ_ne f i h1
    · exact gZ_ne f i h1

structure Few (n : Nat) : Prop where
  h : n ≤ 256
structure Many (n : Nat) : Prop where
  h : 256 < n
def batchC (V : (Nat → Int) → Nat → Int) : Contract := fun vs => match vs with
  | [.xsl .u8 32 (.sym len) (.sym _) f] => some ([Few len], .osl .u8 32 (.sym len) (V f))
  | _ => none
def batchX : Contract := fun vs => match vs with
  | [.xsl .u8 32 (.sym len) (.sym _) _] => some ([Many len], .osl .u8 32 (.lit 0) (fun _ => 0))
  | _ => none
def lawRows : Contract := fun vs => match vs with
  | [.xsl .u8 32 (.sym _) (.sym _) _] => some ([], .bool (.sym true))
  | _ => none

theorem head_at (o f : Nat → Int) {m i j : Nat} (hi : i < m) (hj : j < 5) : headL o f m (5 * i + j) = allL o f i j := by
  unfold headL
  have e1 : (5 * i + j) / 5 = i := by omega
  have e2 : (5 * i + j) % 5 = j := by omega
  rw [e1, e2, if_pos hi]

theorem rowH_ok {o f : Nat → Int} {n i : Nat} {x : Zp} (h : lz (allL o f i) = x ∧ Tidy (allL o f i)) (hi : i < n) : lz (rowH o f n i) = x ∧ Tidy (rowH o f n i) := by
  have e : ∀ j, j < 5 → rowH o f n i j = allL o f i j := fun j hj => head_at o f hi hj
  refine ⟨?_, ?_⟩
  · rw [← h.1]
    unfold lz lim
    rw [e 0 (by decide), e 1 (by decide), e 2 (by decide), e 3 (by decide), e 4 (by decide)]
  · refine ⟨?_, fun j h1 h2 => ?_⟩
    · rw [e 0 (by decide)]; exact h.2.1
    · rw [e j h2]; exact h.2.2 j h1 h2
def TwoB (e : Nat → Int) : Prop := ∀ i, i < 32 → e i = byt 57896044618658097711785492504343953926634992332820282019728792003956564819947 i
theorem pow_inv {l e : Nat → Int} {x : Zp} (h : lz l = x ∧ Tidy l) (he : TwoB e) : lz (powL l e) = zinv x ∧ Tidy (powL l e) := by
  have h1 := lz_pow (e := byt 57896044618658097711785492504343953926634992332820282019728792003956564819947) h.2 (byt_isBytes _ 32)
  rw [num_two, h.1] at h1
  rw [powL_congr he]
  exact h1
section
variable {o f e : Nat → Int} {n : Nat} (h : RowsB f n) (ho : lz o = 1 ∧ Tidy o) (he : TwoB e)
include h ho he
theorem back_ok : ∀ k, k ≤ n → lz (backL o f e n k) = zinv (preZ f (n - k)) ∧ Tidy (backL o f e n k)
  | 0, _ => pow_inv (all_ok h ho n (Nat.le_refl _)) he
  | k + 1, hk => by
    have ih := back_ok k (by omega)
    have e1 : n - k = (n - 1 - k) + 1 := by omega
    have e2 : n - (k + 1) = n - 1 - k := by omega
    rw [e1] at ih
    rw [e2]
    unfold backL
    unfold preZ gZ at ih
    rw [isZ_iff h (by omega)]
    by_cases hz : fe (rowB f (n - 1 - k)) = 0
    · rw [decide_eq_true hz, if_pos rfl]
      rw [if_pos hz] at ih
      exact ⟨by rw [ih.1]; congr 1; grind, ih.2⟩
    · rw [decide_eq_false hz, if_neg (by simp)]
      rw [if_neg hz] at ih
      have h1 := sq_mul ih (lz_load (rowB_isB h (i := n - 1 - k) (by omega)))
      refine ⟨?_, h1.2⟩
      rw [h1.1, zinv_mul]
      have h2 := mul_zinv prP hz
      have h3 : zinv (preZ f (n - 1 - k)) * zinv (fe (rowB f (n - 1 - k))) * fe (rowB f (n - 1 - k)) = zinv (preZ f (n - 1 - k)) * (fe (rowB f (n - 1 - k)) * zinv (fe (rowB f (n - 1 - k)))) := by grind
      rw [h3, h2]
      grind
theorem out_row {i : Nat} (hi : i < n) (hz : isZ f i = false) : ∀ j, j < 32 → bytesF (timesF (backL o f e n (n - 1 - i)) (rowH o f n i)) j = fb (zinv (fe (rowB f i))) j := by
  have h1 := back_ok h ho he (n - 1 - i) (by omega)
  have e1 : n - (n - 1 - i) = i + 1 := by omega
  rw [e1] at h1
  unfold preZ gZ at h1
  rw [isZ_iff h hi] at hz
  have hz' : ¬ fe (rowB f i) = 0 := of_decide_eq_false hz
  rw [if_neg hz'] at h1
  have h2 := sq_mul h1 (rowH_ok (all_ok h ho i (by omega)) hi)
  refine sq_bytes ⟨?_, h2.2⟩
  rw [h2.1, zinv_mul]
  have h3 := mul_zinv prP (preZ_ne f i)
  have h4 : zinv (preZ f i) * zinv (fe (rowB f i)) * preZ f i = preZ f i * zinv (preZ f i) * zinv (fe (rowB f i)) := by grind
  rw [h4, h3]
  grind
theorem out_end {p : Nat} (hp : p < n * 32) : outL o f e n 0 p = invsF f p := by
  have hi : p / 32 < n := by omega
  unfold outL invsF
  rw [if_pos ⟨Nat.zero_le _, hi⟩]
  cases hz : isZ f (p / 32) with
  | true =>
    rw [if_pos rfl]
    rw [isZ_iff h hi] at hz
    rw [of_decide_eq_true hz, zinv_zero (by decide), fb_zero']
  | false =>
    rw [if_neg (by simp)]
    exact out_row h ho he hi hz _ (Nat.mod_lt _ (by decide))
end
theorem out_start (o f e : Nat → Int) (n p : Nat) : outL o f e n n p = 0 := by
  unfold outL
  rw [if_neg (show ¬ (n ≤ p / 32 ∧ p / 32 < n) by omega)]
theorem out_skip {o f e : Nat → Int} {n i : Nat} (hz : isZ f i = true) (p : Nat) : outL o f e n i p = outL o f e n (i + 1) p := by
  unfold outL
  by_cases h1 : p / 32 = i
  · subst h1
    rw [if_neg (by omega : ¬ (p / 32 + 1 ≤ p / 32 ∧ p / 32 < n)), hz]
    split <;> rfl
  · by_cases h2 : i ≤ p / 32 ∧ p / 32 < n
    · rw [if_pos h2, if_pos (show i + 1 ≤ p / 32 ∧ p / 32 < n by omega)]
    · rw [if_neg h2, if_neg (show ¬ (i + 1 ≤ p / 32 ∧ p / 32 < n) by omega)]
theorem out_lay {o f e : Nat → Int} {n i : Nat} (hi : i < n) (hz : isZ f i = false) (p : Nat) :
    splice (outL o f e n (i + 1)) (32 * i) 32 (bytesF (timesF (backL o f e n (n - 1 - i)) (rowH o f n i))) p = outL o f e n i p := by
  unfold splice
  by_cases h1 : p < 32 * i
  · rw [if_pos h1]
    unfold outL
    rw [if_neg (show ¬ (i + 1 ≤ p / 32 ∧ p / 32 < n) by omega), if_neg (show ¬ (i ≤ p / 32 ∧ p / 32 < n) by omega)]
  · rw [if_neg h1]
    by_cases h2 : p < 32 * i + 32
    · have e1 : p / 32 = i := by omega
      have e2 : p % 32 = p - 32 * i := by omega
      rw [if_pos h2]
      unfold outL
      rw [e1, if_pos ⟨Nat.le_refl _, hi⟩, hz, if_neg (by simp), e2]
    · rw [if_neg h2]
      unfold outL
      by_cases h3 : i ≤ p / 32 ∧ p / 32 < n
      · rw [if_pos h3, if_pos (show i + 1 ≤ p / 32 ∧ p / 32 < n by omega)]
      · rw [if_neg h3, if_neg (show ¬ (i + 1 ≤ p / 32 ∧ p / 32 < n) by omega)]
theorem head_zero (o f : Nat → Int) (p : Nat) : headL o f 0 p = 0 := by
  unfold headL
  rw [if_neg (by omega)]
theorem head_lay (o f : Nat → Int) (m p : Nat) : splice (headL o f m) (5 * m) 5 (allL o f m) p = headL o f (m + 1) p := by
  unfold splice headL
  by_cases h1 : p < 5 * m
  · rw [if_pos h1, if_pos (by omega), if_pos (by omega)]
  · rw [if_neg h1]
    by_cases h2 : p < 5 * m + 5
    · have e1 : p / 5 = m := by omega
      have e2 : p % 5 = p - 5 * m := by omega
      rw [if_pos h2, if_pos (by omega), e1, e2]
    · rw [if_neg h2, if_neg (by omega), if_neg (by omega)]
theorem one_ok : lz (upd (fun _ => 0) 0 1) = 1 ∧ Tidy (upd (fun _ => 0) 0 1) := by
  refine ⟨?_, ⟨by decide, by decide⟩, fun i h1 h2 => ?_⟩
  · have e : lim (upd (fun _ => 0) 0 1) = 1 := by decide
    unfold lz
    rw [e]
    exact zi_one
  · have e : upd (fun _ => 0) 0 1 i = 0 := if_neg (by omega)
    rw [e]
    decide
theorem mnB_no {a : Bool} (h : (match a with | true => false | false => true) = false) : a = true := by cases a <;> simp_all
theorem mnB_yes {a : Bool} (h : (match a with | true => false | false => true) = true) : a = false := by cases a <;> simp_all
theorem back_z {o f e : Nat → Int} {n i : Nat} (hi : i < n) (z : isZ f i = true) : backL o f e n (n - (i + 1)) = backL o f e n (n - i) := by
  have e1 : n - i = (n - (i + 1)) + 1 := by omega
  have e2 : n - 1 - (n - (i + 1)) = i := by omega
  rw [e1]
  show _ = if isZ f (n - 1 - (n - (i + 1))) = true then _ else _
  rw [e2, if_pos z]
theorem back_nz {o f e : Nat → Int} {n i : Nat} (hi : i < n) (z : isZ f i = false) : timesF (backL o f e n (n - (i + 1))) (loadF (rowB f i)) = backL o f e n (n - i) := by
  have e1 : n - i = (n - (i + 1)) + 1 := by omega
  have e2 : n - 1 - (n - (i + 1)) = i := by omega
  rw [e1]
  show _ = if isZ f (n - 1 - (n - (i + 1))) = true then _ else timesF _ (loadF (rowB f (n - 1 - (n - (i + 1)))))
  rw [e2, if_neg (by rw [z]; decide)]
theorem dead1 {A B X Y : Prop} (hA : ¬ A) (hY : B → Y) : (A → X) ∧ (B → Y) := ⟨fun h => (hA h).elim, hY⟩
theorem dead2 {A B X Y : Prop} (hB : ¬ B) (hX : A → X) : (A → X) ∧ (B → Y) := ⟨hX, fun h => (hB h).elim⟩
theorem b_tf2 {x : Bool} (h1 : x = true) (h2 : x = false) : False := by rw [h1] at h2; cases h2
theorem invs_row (f : Nat → Int) (i : Nat) : ∀ j, j < 32 → invsF f (32 * i + j) = fb (zinv (fe (rowB f i))) j := by
  intro j hj
  have e1 : (32 * i + j) / 32 = i := by omega
  have e2 : (32 * i + j) % 32 = j := by omega
  unfold invsF
  rw [e1, e2]
theorem fe_row (f : Nat → Int) (i : Nat) : fe (fun j => invsF f (32 * i + j)) = zinv (fe (rowB f i)) := (fe_congr (invs_row f i)).trans (fe_fb _)
theorem rows_zero {f : Nat → Int} {n i : Nat} (_hf : RowsB f n) (_hi : i < n) (h : realEqA 32 (fb (fe fun j => f (32 * i + j))) (fb (zi pN 0)) = true) : realEqA 32 (fun j => invsF f (32 * i + j)) (fb (zi pN 0)) = true := by
  rw [fb_inj] at h
  have h1 : fe (rowB f i) = zi pN 0 := of_decide_eq_true h
  refine (eqA_z (invs_row f i) (fun _ _ => rfl)).trans (decide_eq_true ?_)
  rw [h1, zi_zero]
  exact zinv_zero (by decide)
theorem rows_one {f : Nat → Int} {n i : Nat} (_hf : RowsB f n) (_hi : i < n) (h : realEqA 32 (fb (fe fun j => f (32 * i + j))) (fb (zi pN 0)) = false) : realEqA 32 (fb (fe (fun j => f (32 * i + j)) * fe fun j => invsF f (32 * i + j))) (fb (zi pN 1)) = true := by
  rw [fb_inj] at h
  have h1 : ¬ fe (rowB f i) = zi pN 0 := of_decide_eq_false h
  rw [zi_zero] at h1
  refine fb_same ?_
  rw [fe_row, zi_one]
  exact mul_zinv prP h1
theorem rows_less (f : Nat → Int) (i : Nat) : ltB (fun j => invsF f (32 * i + j)) (byt p25) = true := by
  have h : num 32 (fun j => invsF f (32 * i + j)) = num 32 (fb (zinv (fe (rowB f i)))) := num_congr 32 (invs_row f i)
  unfold ltB
  rw [h]
  exact ltB_fb _ rfl
theorem zinv_one : zinv (1 : Zp) = 1 := one_zp _
theorem nb_t {x : Bool} (h : (match x with | true => false | false => true) = true) (hx : x = true) : False := by subst hx; simp at h
theorem orb_dead {a b : Bool} (h : (match (match a with | true => false | false => true) with | true => true | false => match b with | true => false | false => true) = true) (ha : a = true) (hb : b = true) : False := by subst ha hb; simp at h
theorem b_ft2 {x : Bool} (h1 : x = false) (h2 : x = true) : False := by rw [h1] at h2; cases h2
theorem wN {n m : Nat} (h : n ≤ 256) (hm : 256 < m) : Within (Int.ofNat n) m := ⟨by simp only [Int.ofNat_eq_natCast]; omega⟩
theorem uN {n m : Nat} (h : m = n) : Upto (Int.ofNat n) m := ⟨by simp only [Int.ofNat_eq_natCast]; omega⟩
theorem nnN (n : Nat) : (0 : Int) ≤ Int.ofNat n := Int.natCast_nonneg n
end Sx

/-
  Inverses, powers, symbols and roots modulo p, in plain numbers.
-/
namespace Sx
open Go

theorem zi_two : zi pN 2 = 2 := rfl
theorem zp_pm (x : Zp) (k : Nat) (h : k < 2 ^ 256) : (zp x k).val = pm pN 256 x.val k := by rw [zp_val, pm_eq _ _ _ _ h]

theorem z_two_ne : (2 : Zp) ≠ 0 := by decide +kernel
theorem leg_two : zp (2 : Zp) halfN = -1 := by
  apply Fin.ext
  rw [zp_pm _ _ (by decide +kernel)]
  decide +kernel
theorem leg_neg_one : zp (-1 : Zp) halfN = 1 := by
  apply Fin.ext
  rw [zp_pm _ _ (by decide +kernel)]
  decide +kernel

theorem zneg_eq {x : Zp} (h : x = -x) : x = 0 := by
  have h1 : 2 * x = 0 := by grind
  rcases zdom prP h1 with h2 | h2
  · exact absurd h2 z_two_ne
  · exact h2

theorem zinv_inv (x : Zp) : zinv (zinv x) = x := by
  by_cases h : x = 0
  · subst h
    rw [zinv_zero (by decide), zinv_zero (by decide)]
  · exact zinv_zinv' prP h
theorem zinv_two : zinv (2 : Zp) + zinv 2 = 1 := by
  have h := mul_zinv prP z_two_ne
  grind

theorem zneg_val {x : Zp} (h : x ≠ 0) : (-x).val = pN - x.val := by
  have h1 : zi pN (((pN : Nat) : Int) - (x.val : Int)) = -x := by
    rw [zi_sub, zi_self, zi_of_val]
    grind
  have h2 : ((-x).val : Int) = ((pN : Nat) : Int) - (x.val : Int) := by
    rw [← h1, zi_val]
    have := x.isLt
    have h3 : x.val ≠ 0 := fun e => h (Fin.ext (by simpa using e))
    exact Int.emod_eq_of_lt (by omega) (by omega)
  have := x.isLt
  omega

theorem evZ_sq (x : Zp) : evZ x * evZ x = x * x := by
  unfold evZ
  split
  · grind
  · rfl
theorem evZ_even (x : Zp) : (evZ x).val % 2 = 0 := by
  unfold evZ
  split
  · rename_i h
    have h0 : x ≠ 0 := fun e => by subst e; simp at h
    rw [zneg_val h0]
    have := x.isLt
    simp only [pN] at this ⊢
    omega
  · rename_i h
    omega

theorem zp_odd7 (v : Zp) (h : v ≠ 0) : zp (v * v * v * (v * v * v) * v) halfN = zp v halfN := by
  have h1 : zp v halfN * zp v halfN = 1 := (zhalf_sq v).resolve_left h
  rw [mul_zp, mul_zp, mul_zp, mul_zp]
  generalize zp v halfN = w at *
  grind

/-- What SqrtRatio's first candidate comes to. -/
theorem sqrt_cand (u v : Zp) : v * (u * (v * v * v) * zp (u * (v * v * v * (v * v * v) * v)) eighthN) * (u * (v * v * v) * zp (u * (v * v * v * (v * v * v) * v)) eighthN) = u * zp (u * (v * v * v * (v * v * v) * v)) (2 * eighthN + 1) := by
  rw [zp_succ, zp_sq]
  generalize zp (u * (v * v * v * (v * v * v) * v)) eighthN = w
  grind

theorem sqrt_quarter (u v : Zp) (hv : v ≠ 0) : zp (u * (v * v * v * (v * v * v) * v)) (2 * eighthN + 1) * zp (u * (v * v * v * (v * v * v) * v)) (2 * eighthN + 1) = zp (u * v) halfN := by
  rw [← zp_sq]
  have e : 2 * (2 * eighthN + 1) = halfN := by rw [eighthN_eq, halfN_eq]
  rw [e, mul_zp, zp_odd7 v hv, ← mul_zp]

theorem sqrt_u0 (v : Zp) : sqrtZ 0 v = (0, true) := if_pos rfl
theorem sqrt_v0 {u : Zp} (hu : u ≠ 0) : sqrtZ u 0 = (0, false) := by
  unfold sqrtZ
  rw [if_neg hu]
  dsimp only
  rw [if_neg (by intro h; apply hu; rw [← h]; grind), if_neg (by intro h; apply hu; rw [← h]; grind)]

theorem sqrt_some {u v : Zp} (hu : u ≠ 0) (hv : v ≠ 0) (h : zp (u * v) halfN = 1) : ∃ r, sqrtZ u v = (evZ r, true) ∧ v * r * r = u := by
  have h1 := sqrt_cand u v
  have h2 := sqrt_quarter u v hv
  rw [h] at h2
  unfold sqrtZ
  rw [if_neg hu]
  dsimp only
  generalize u * (v * v * v) * zp (u * (v * v * v * (v * v * v) * v)) eighthN = r at *
  generalize zp (u * (v * v * v * (v * v * v) * v)) (2 * eighthN + 1) = c at *
  rcases zsq_one prP h2 with hc | hc
  · have : v * r * r = u := by rw [h1, hc]; grind
    rw [if_pos this]
    exact ⟨r, rfl, this⟩
  · have hn : v * r * r ≠ u := fun e => hu (zneg_eq (by rw [h1, hc] at e; grind))
    have hi := iZ_sq
    have : v * (r * iZ) * (r * iZ) = u := by
      generalize iZ = i at *
      have : v * (r * i) * (r * i) = v * r * r * (i * i) := by grind
      rw [this, hi, h1, hc]
      grind
    rw [if_neg hn, if_pos this]
    exact ⟨r * iZ, rfl, this⟩

theorem sqrt_no {u v : Zp} (hu : u ≠ 0) (hv : v ≠ 0) (h : zp (u * v) halfN ≠ 1) : sqrtZ u v = (0, false) := by
  have h1 := sqrt_cand u v
  have h2 := sqrt_quarter u v hv
  unfold sqrtZ
  rw [if_neg hu]
  dsimp only
  generalize u * (v * v * v) * zp (u * (v * v * v * (v * v * v) * v)) eighthN = r at *
  generalize zp (u * (v * v * v * (v * v * v) * v)) (2 * eighthN + 1) = c at *
  have hn : v * r * r ≠ u := fun e => by
    rw [h1] at e
    have hc : c = 1 := zcancel prP hu (by rw [e]; grind)
    apply h
    rw [← h2, hc]
    grind
  have hn2 : v * (r * iZ) * (r * iZ) ≠ u := fun e => by
    have hi := iZ_sq
    generalize iZ = i at *
    have e2 : v * (r * i) * (r * i) = v * r * r * (i * i) := by grind
    rw [e2, hi, h1] at e
    have hc : c = -1 := zcancel prP hu (by grind)
    apply h
    rw [← h2, hc]
    grind
  rw [if_neg hn, if_neg hn2]

theorem sqrt_ok {u v : Zp} (hu : u ≠ 0) (hv : v ≠ 0) : (sqrtZ u v).2 = decide (legZ (u * v) = 1) := by
  by_cases h : zp (u * v) halfN = 1
  · obtain ⟨r, h1, _⟩ := sqrt_some hu hv h
    rw [h1, legZ_one.2 h]
    rfl
  · rw [sqrt_no hu hv h]
    have : ¬ legZ (u * v) = 1 := fun e => h (legZ_one.1 e)
    simp [this]
theorem sqrt_root {u v : Zp} (h : (sqrtZ u v).2 = true) : v * (sqrtZ u v).1 * (sqrtZ u v).1 = u ∧ (sqrtZ u v).1.val % 2 = 0 := by
  by_cases hu : u = 0
  · subst hu
    rw [sqrt_u0]
    exact ⟨by grind, by simp⟩
  · by_cases hv : v = 0
    · subst hv
      rw [sqrt_v0 hu] at h
      cases h
    · by_cases h1 : zp (u * v) halfN = 1
      · obtain ⟨r, h2, h3⟩ := sqrt_some hu hv h1
        rw [h2]
        refine ⟨?_, evZ_even r⟩
        have := evZ_sq r
        dsimp only
        generalize evZ r = w at *
        grind
      · rw [sqrt_no hu hv h1] at h
        cases h
theorem sqrt_false {u v : Zp} (h : (sqrtZ u v).2 = false) : (sqrtZ u v).1 = 0 := by
  by_cases hu : u = 0
  · subst hu; rfl
  · by_cases hv : v = 0
    · subst hv
      rw [sqrt_v0 hu]
    · by_cases h1 : zp (u * v) halfN = 1
      · obtain ⟨r, h2, h3⟩ := sqrt_some hu hv h1
        rw [h2] at h
        cases h
      · rw [sqrt_no hu hv h1]

theorem leg_mul (x y : Zp) : legZ (x * y) = legZ x * legZ y := by
  have hm := mul_zp x y halfN
  rcases legZ_cases x with ⟨h1, h2⟩ | ⟨h1, h2, h3⟩ | ⟨h1, h2, h3⟩
  · have : x * y = 0 := by rw [h1]; grind
    rw [legZ_zero.2 this, h2, Int.zero_mul]
  · rcases legZ_cases y with ⟨h4, h5⟩ | ⟨h4, h5, h6⟩ | ⟨h4, h5, h6⟩
    · have : x * y = 0 := by rw [h4]; grind
      rw [legZ_zero.2 this, h5, Int.mul_zero]
    · rw [h3, h6, legZ_one.2 (by rw [hm, h2, h5]; grind)]; rfl
    · rw [h3, h6, legZ_neg.2 (by rw [hm, h2, h5]; grind)]; rfl
  · rcases legZ_cases y with ⟨h4, h5⟩ | ⟨h4, h5, h6⟩ | ⟨h4, h5, h6⟩
    · have : x * y = 0 := by rw [h4]; grind
      rw [legZ_zero.2 this, h5, Int.mul_zero]
    · rw [h3, h6, legZ_neg.2 (by rw [hm, h2, h5]; grind)]; rfl
    · rw [h3, h6, legZ_one.2 (by rw [hm, h2, h5]; grind)]; rfl
theorem legZ_two : legZ 2 = -1 := legZ_neg.2 leg_two
theorem legZ_range (x : Zp) : legZ x = 0 ∨ legZ x = 1 ∨ legZ x = -1 := by
  rcases legZ_cases x with ⟨_, h⟩ | ⟨_, _, h⟩ | ⟨_, _, h⟩ <;> omega

/-! Exponents that the laws put together. -/
theorem pw_const {e : Nat → Int} {N : Int} {k : Nat} (he : ∀ i, i < 32 → e i = byt N i) (h0 : 0 ≤ N) (h1 : N < 115792089237316195423570985008687907853269984665640564039457584007913129639936) (hk : N.toNat = k) : (num 32 e).toNat = k := by
  rw [num_congr 32 he, num_byt 32 N h0 (by have e : (256 : Int) ^ 32 = 115792089237316195423570985008687907853269984665640564039457584007913129639936 := by decide
                                           rw [e]; exact h1), hk]
theorem pw_one {f e : Nat → Int} (he : ∀ i, i < 32 → e i = byt 57896044618658097711785492504343953926634992332820282019728792003956564819948 i) : fb (zp (fe f) (num 32 e).toNat) = fb (zp (fe f) (pN - 1)) := by rw [pw_const he (by decide) (by decide) rfl]; rfl
theorem pw_two {f e : Nat → Int} (he : ∀ i, i < 32 → e i = byt 57896044618658097711785492504343953926634992332820282019728792003956564819947 i) : fb (zp (fe f) (num 32 e).toNat) = fb (zinv (fe f)) := by rw [pw_const he (by decide) (by decide) rfl]; rfl
theorem pw_half {f e : Nat → Int} (he : ∀ i, i < 32 → e i = byt 28948022309329048855892746252171976963317496166410141009864396001978282409974 i) : fb (zp (fe f) (num 32 e).toNat) = fb (zp (fe f) halfN) := by rw [pw_const he (by decide) (by decide) rfl]; rfl
theorem fermat_two : zp (2 : Zp) (pN - 1) = 1 := zfermat prP z_two_ne
theorem zp_last_zero : zp (0 : Zp) (pN - 1) = 0 := zero_zp _ (by decide)
theorem zp_half_zero : zp (0 : Zp) halfN = 0 := zero_zp _ (by decide)

theorem even_z (x : Zp) (h : x.val % 2 = 0) : realCmp .eql (realBin .rem .u8 (fb x 0) 2) 1 = false := by
  have hb := fb_isBytes x 0 (by decide)
  rw [rem_i64 hb.1]
  simp only [realCmp, fb, byt, Int.pow_zero, Int.ediv_one, beq_eq_false_iff_ne]
  omega
theorem canB_fb (x : Zp) : canB (fb x) = true := by
  unfold canB
  rw [num_fb]
  exact decide_eq_true (zval_bounds x).2
theorem leg_dbl {u v : Zp} (hu : u ≠ 0) (hv : v ≠ 0) : (sqrtZ (u + u) v).2 = !(sqrtZ u v).2 := by
  have h1 : u + u = 2 * u := by grind
  have h2 : u + u ≠ 0 := by rw [h1]; exact zmul_ne prP z_two_ne hu
  have h3 : (u + u) * v = 2 * (u * v) := by grind
  rw [sqrt_ok h2 hv, sqrt_ok hu hv, h3, leg_mul, legZ_two]
  rcases legZ_cases (u * v) with ⟨h, _⟩ | ⟨_, _, h⟩ | ⟨_, _, h⟩
  · exact absurd h (zmul_ne prP hu hv)
  · rw [h]; rfl
  · rw [h]; rfl
theorem leg_sq {x : Zp} : legZ (x * x) = legZ x * legZ x := leg_mul x x
theorem sqrt_sq (u : Zp) : (sqrtZ (u * u) 1).2 = true := by
  by_cases h : u = 0
  · subst h
    have : (0 : Zp) * 0 = 0 := by grind
    rw [this, sqrt_u0]
  · rw [sqrt_ok (zmul_ne prP h h) (z_one_ne prP)]
    have e : u * u * 1 = u * u := by grind
    rw [e, leg_sq]
    rcases legZ_cases u with ⟨h1, _⟩ | ⟨_, _, h1⟩ | ⟨_, _, h1⟩
    · exact absurd h1 h
    · rw [h1]; rfl
    · rw [h1]; rfl
theorem mul_leg_i64 (x y : Zp) : realBin .mul .i64 (legZ x) (legZ y) = legZ x * legZ y := by
  rcases legZ_range x with h | h | h <;> rcases legZ_range y with h' | h' | h' <;> rw [h, h'] <;> rfl
end Sx

