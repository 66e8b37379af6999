/-
  A part of the proof. No condition.
-/
import Derived.Test.YtnfbjfbndnmhmaaDoorZMA
import Derived.Test.YtnfbjfbndnmhmaaDoorZEB

/-
  SqrtRatio's digits against the field.
-/
namespace Sx
open Go

def cubeL (d : Nat → Int) : Nat → Int := timesF (timesF d d) d
def sevL (d : Nat → Int) : Nat → Int := timesF (timesF (cubeL d) (cubeL d)) d
def rootL (n d e : Nat → Int) : Nat → Int := timesF (timesF n (cubeL d)) (powL (timesF n (sevL d)) e)

def sqrtR (f g : Nat → Int) : Nat → Int := fb (sqrtZ (fe f) (fe g)).1
def sqrtB (f g : Nat → Int) : Bool := (sqrtZ (fe f) (fe g)).2

theorem fb_zero : ∀ i, i < 32 → fb 0 i = 0 := by
  have h : fb 0 = byt 0 := by rw [← zi_zero, fb_zi]; rfl
  rw [h]
  decide
theorem fb_zero' (i : Nat) : fb 0 i = 0 := by
  have h : fb 0 = byt 0 := by rw [← zi_zero, fb_zi]; rfl
  rw [h]
  unfold byt
  simp
theorem fb_one : ∀ i, i < 32 → upd (fun _ => 0) 0 1 i = fb 1 i := by
  have h : fb 1 = byt 1 := by rw [← zi_one, fb_zi]; rfl
  rw [h]
  exact number_bytes (by decide)
theorem eqA_zero {g : Nat → Int} {x : Zp} (h : ∀ i, i < 32 → g i = fb x i) : realEqA 32 g (fun _ => 0) = decide (x = 0) := by
  rw [eqA_congr h (fun i _ => (fb_zero' i).symm), fb_inj]
theorem eqA_one {g : Nat → Int} {x : Zp} (h : ∀ i, i < 32 → g i = fb x i) : realEqA 32 g (upd (fun _ => 0) 0 1) = decide (x = 1) := by
  rw [eqA_congr h fb_one, fb_inj]
theorem eqA_z {g g' : Nat → Int} {x y : Zp} (h : ∀ i, i < 32 → g i = fb x i) (h' : ∀ i, i < 32 → g' i = fb y i) : realEqA 32 g g' = decide (x = y) := by
  rw [eqA_congr h h', fb_inj]
theorem odd_z {g : Nat → Int} {x : Zp} (h : ∀ i, i < 32 → g i = fb x i) : realCmp .eql (realBin .and .u8 (g 0) 1) 1 = decide (x.val % 2 = 1) := by
  rw [h 0 (by decide), and_one_u8 (fb_isBytes x 0 (by decide)), Bool.eq_iff_iff]
  simp only [realCmp, fb, byt, Int.pow_zero, Int.ediv_one, beq_iff_eq, decide_eq_true_eq]
  omega

section
variable {f g : Nat → Int} (hf : IsBytes 32 f) (hg : IsBytes 32 g)

theorem sq_bytes {l : Nat → Int} {x : Zp} (h : lz l = x ∧ Tidy l) : ∀ i, i < 32 → bytesF l i = fb x i := by
  rw [← h.1]
  exact bytes_lz h.2.fit
theorem sq_neg {l : Nat → Int} {x : Zp} (h : lz l = x ∧ Tidy l) : ∀ i, i < 32 → bytesF (settleF (subP (fun _ => 0) l)) i = fb (-x) i := by
  have h1 := lz_sub lz_zero.2 h.2
  have h2 : lz (settleF (subP (fun _ => 0) l)) = -x := by rw [h1.1, lz_zero.1, h.1]; grind
  exact sq_bytes ⟨h2, h1.2⟩
theorem sq_mul {l m : Nat → Int} {x y : Zp} (h : lz l = x ∧ Tidy l) (h' : lz m = y ∧ Tidy m) : lz (timesF l m) = x * y ∧ Tidy (timesF l m) := by
  have h1 := lz_times h.2 h'.2
  rw [h.1, h'.1] at h1
  exact h1

include hg in
theorem sq_cube : lz (cubeL (loadF g)) = fe g * fe g * fe g ∧ Tidy (cubeL (loadF g)) := sq_mul (sq_mul (lz_load hg) (lz_load hg)) (lz_load hg)
include hg in
theorem sq_sev : lz (sevL (loadF g)) = fe g * fe g * fe g * (fe g * fe g * fe g) * fe g ∧ Tidy (sevL (loadF g)) := sq_mul (sq_mul (sq_cube hg) (sq_cube hg)) (lz_load hg)

theorem num_eighth : num 32 (byt 7237005577332262213973186563042994240829374041602535252466099000494570602493) = 7237005577332262213973186563042994240829374041602535252466099000494570602493 := num_byt 32 _ (by decide) (by decide)

include hf hg in
theorem sq_root {e : Nat → Int} (he : ∀ i, i < 32 → e i = byt 7237005577332262213973186563042994240829374041602535252466099000494570602493 i) :
    lz (rootL (loadF f) (loadF g) e) = fe f * (fe g * fe g * fe g) * zp (fe f * (fe g * fe g * fe g * (fe g * fe g * fe g) * fe g)) eighthN ∧ Tidy (rootL (loadF f) (loadF g) e) := by
  have h1 := sq_mul (lz_load hf) (sq_sev hg)
  have h2 := lz_pow (l := timesF (loadF f) (sevL (loadF g))) (e := byt 7237005577332262213973186563042994240829374041602535252466099000494570602493) h1.2 (byt_isBytes _ 32)
  rw [num_eighth, h1.1] at h2
  unfold rootL
  rw [powL_congr he]
  exact sq_mul (sq_mul (lz_load hf) (sq_cube hg)) h2

theorem rootOne_bytes : fe (byt 19681161376707505956807079304988542015446066515923890162744021073123829784752) = iZ := fe_byt (by decide) (by decide)
theorem fe_congr {f g : Nat → Int} (h : ∀ i, i < 32 → f i = g i) : fe f = fe g := by
  unfold fe
  rw [num_congr 32 h]
theorem isBytes_congr {f g : Nat → Int} (h : ∀ i, i < 32 → f i = g i) (hg : IsBytes 32 g) : IsBytes 32 f := fun i hi => by rw [h i hi]; exact hg i hi

theorem pow_bytes {f e : Nat → Int} (hf : IsBytes 32 f) (he : IsBytes 32 e) : ∀ i, i < 32 → bytesF (powL (loadF f) e) i = fb (zp (fe f) (num 32 e).toNat) i := by
  have h1 := lz_load hf
  have h2 := lz_pow h1.2 he
  rw [h1.1] at h2
  exact sq_bytes h2
theorem pow_const {f e : Nat → Int} (hf : IsBytes 32 f) {N : Int} {k : Nat} (he : ∀ i, i < 32 → e i = byt N i) (hN : num 32 (byt N) = N) (hk : N.toNat = k) : ∀ i, i < 32 → bytesF (powL (loadF f) e) i = fb (zp (fe f) k) i := by
  have h := pow_bytes hf (byt_isBytes N 32)
  rw [hN, hk] at h
  rw [powL_congr he]
  exact h
theorem num_two : num 32 (byt 57896044618658097711785492504343953926634992332820282019728792003956564819947) = 57896044618658097711785492504343953926634992332820282019728792003956564819947 := num_byt 32 _ (by decide) (by decide)
theorem num_half : num 32 (byt 28948022309329048855892746252171976963317496166410141009864396001978282409974) = 28948022309329048855892746252171976963317496166410141009864396001978282409974 := num_byt 32 _ (by decide) (by decide)

/-- What SqrtRatio's digits say of a candidate. -/
structure Cand (f g l : Nat → Int) (x : Zp) : Prop where
  hit : realEqA 32 (bytesF (timesF (timesF (loadF g) l) l)) (bytesF (loadF f)) = decide (fe g * x * x = fe f)
  odd : realCmp .eql (realBin .and .u8 (bytesF l 0) 1) 1 = decide (x.val % 2 = 1)
  out : ∀ i, i < 32 → bytesF l i = fb x i
  neg : ∀ i, i < 32 → bytesF (settleF (subP (fun _ => 0) l)) i = fb (-x) i
theorem cand_of {f g l : Nat → Int} {x : Zp} (hf : IsBytes 32 f) (hg : IsBytes 32 g) (h : lz l = x ∧ Tidy l) : Cand f g l x :=
  ⟨eqA_z (sq_bytes (sq_mul (sq_mul (lz_load hg) h) h)) (sq_bytes (lz_load hf)), odd_z (sq_bytes h), sq_bytes h, sq_neg h⟩
theorem sqrt_keys {f g e r : Nat → Int} (hf : IsBytes 32 f) (hg : IsBytes 32 g) (he : ∀ i, i < 32 → e i = byt 7237005577332262213973186563042994240829374041602535252466099000494570602493 i)
    (hr : ∀ i, i < 32 → r i = byt 19681161376707505956807079304988542015446066515923890162744021073123829784752 i) :
    ∃ x y : Zp, realEqA 32 (bytesF (loadF f)) (fun _ => 0) = decide (fe f = 0) ∧ Cand f g (rootL (loadF f) (loadF g) e) x ∧ Cand f g (timesF (rootL (loadF f) (loadF g) e) (loadF r)) y ∧
      sqrtZ (fe f) (fe g) = if fe f = 0 then (0, true) else if fe g * x * x = fe f then (evZ x, true) else if fe g * y * y = fe f then (evZ y, true) else (0, false) := by
  have z1 := sq_root hf hg he
  have z2 := sq_mul z1 (lz_load (f := r) (isBytes_congr hr (byt_isBytes _ _)))
  rw [fe_congr hr, rootOne_bytes] at z2
  exact ⟨_, _, eqA_zero (sq_bytes (lz_load hf)), cand_of hf hg z1, cand_of hf hg z2, rfl⟩

/-- What SqrtRatio asks and hands back, over names for its callees. -/
structure SqF (f g : Nat → Int) (L B : (Nat → Int) → Nat → Int) (T M : (Nat → Int) → (Nat → Int) → Nat → Int) (bi : BinOp → IntKind → Int → Int → Int) (cm : BinOp → Int → Int → Bool) (eq : Nat → (Nat → Int) → (Nat → Int) → Bool) (l : Nat → Int) (x : Zp) : Prop where
  hit : eq 32 (B (T (T (L g) l) l)) (B (L f)) = decide (fe g * x * x = fe f)
  odd : cm .eql (bi .and .u8 (B l 0) 1) 1 = decide (x.val % 2 = 1)
  out : ∀ i, i < 32 → B l i = fb x i
  neg : ∀ i, i < 32 → B (M (fun _ => 0) l) i = fb (-x) i
theorem sqrt_open {f g e r : Nat → Int} (hf : IsBytes 32 f) (hg : IsBytes 32 g) (he : ∀ i, i < 32 → e i = byt 7237005577332262213973186563042994240829374041602535252466099000494570602493 i)
    (hr : ∀ i, i < 32 → r i = byt 19681161376707505956807079304988542015446066515923890162744021073123829784752 i)
    {L B : (Nat → Int) → Nat → Int} {T P M : (Nat → Int) → (Nat → Int) → Nat → Int} {bi : BinOp → IntKind → Int → Int → Int} {cm : BinOp → Int → Int → Bool} {eq : Nat → (Nat → Int) → (Nat → Int) → Bool}
    (hL : L = loadF) (hB : B = bytesF) (hT : T = timesF) (hP : P = powL) (hM : M = fun l m => settleF (subP l m)) (hbi : bi = realBin) (hcm : cm = realCmp) (heq : eq = realEqA) :
    ∃ x y : Zp, eq 32 (B (L f)) (fun _ => 0) = decide (fe f = 0) ∧ SqF f g L B T M bi cm eq (T (T (L f) (T (T (L g) (L g)) (L g))) (P (T (L f) (T (T (T (T (L g) (L g)) (L g)) (T (T (L g) (L g)) (L g))) (L g))) e)) x ∧ SqF f g L B T M bi cm eq (T (T (T (L f) (T (T (L g) (L g)) (L g))) (P (T (L f) (T (T (T (T (L g) (L g)) (L g)) (T (T (L g) (L g)) (L g))) (L g))) e)) (L r)) y ∧
      sqrtZ (fe f) (fe g) = if fe f = 0 then (0, true) else if fe g * x * x = fe f then (evZ x, true) else if fe g * y * y = fe f then (evZ y, true) else (0, false) := by
  obtain ⟨x, y, k0, k1, k2, hv⟩ := sqrt_keys hf hg he hr
  subst hL hB hT hP hM hbi hcm heq
  exact ⟨x, y, k0, ⟨k1.hit, k1.odd, k1.out, k1.neg⟩, ⟨k2.hit, k2.odd, k2.out, k2.neg⟩, hv⟩

theorem sqrt_none : (if (0 : Zp) = 0 then ((0 : Zp), true) else (0, false)) = (0, true) := if_pos rfl
/-- The six ways of SqrtRatio. -/
theorem sqrt_with {f g e r : Nat → Int} (hf : IsBytes 32 f) (hg : IsBytes 32 g) (he : ∀ i, i < 32 → e i = byt 7237005577332262213973186563042994240829374041602535252466099000494570602493 i)
    (hr : ∀ i, i < 32 → r i = byt 19681161376707505956807079304988542015446066515923890162744021073123829784752 i)
    {L B : (Nat → Int) → Nat → Int} {T P M : (Nat → Int) → (Nat → Int) → Nat → Int} {bi : BinOp → IntKind → Int → Int → Int} {cm : BinOp → Int → Int → Bool} {eq : Nat → (Nat → Int) → (Nat → Int) → Bool}
    {R : (Nat → Int) → (Nat → Int) → Nat → Int} {S : (Nat → Int) → (Nat → Int) → Bool} (hR : R = sqrtR) (hS : S = sqrtB)
    (hL : L = loadF) (hB : B = bytesF) (hT : T = timesF) (hP : P = powL) (hM : M = fun l m => settleF (subP l m)) (hbi : bi = realBin) (hcm : cm = realCmp) (heq : eq = realEqA) {goal : Prop}
    (H : (eq 32 (B (L f)) (fun _ => 0) = true → (∀ i, i < 32 → 0 = R f g i) ∧ true = S f g) →
      (eq 32 (B (L f)) (fun _ => 0) = false → eq 32 (B (T (T (L g) (T (T (L f) (T (T (L g) (L g)) (L g))) (P (T (L f) (T (T (T (T (L g) (L g)) (L g)) (T (T (L g) (L g)) (L g))) (L g))) e))) (T (T (L f) (T (T (L g) (L g)) (L g))) (P (T (L f) (T (T (T (T (L g) (L g)) (L g)) (T (T (L g) (L g)) (L g))) (L g))) e)))) (B (L f)) = true → cm .eql (bi .and .u8 (B (T (T (L f) (T (T (L g) (L g)) (L g))) (P (T (L f) (T (T (T (T (L g) (L g)) (L g)) (T (T (L g) (L g)) (L g))) (L g))) e)) 0) 1) 1 = true → (∀ i, i < 32 → B (M (fun _ => 0) (T (T (L f) (T (T (L g) (L g)) (L g))) (P (T (L f) (T (T (T (T (L g) (L g)) (L g)) (T (T (L g) (L g)) (L g))) (L g))) e))) i = R f g i) ∧ true = S f g) →
      (eq 32 (B (L f)) (fun _ => 0) = false → eq 32 (B (T (T (L g) (T (T (L f) (T (T (L g) (L g)) (L g))) (P (T (L f) (T (T (T (T (L g) (L g)) (L g)) (T (T (L g) (L g)) (L g))) (L g))) e))) (T (T (L f) (T (T (L g) (L g)) (L g))) (P (T (L f) (T (T (T (T (L g) (L g)) (L g)) (T (T (L g) (L g)) (L g))) (L g))) e)))) (B (L f)) = true → cm .eql (bi .and .u8 (B (T (T (L f) (T (T (L g) (L g)) (L g))) (P (T (L f) (T (T (T (T (L g) (L g)) (L g)) (T (T (L g) (L g)) (L g))) (L g))) e)) 0) 1) 1 = false → (∀ i, i < 32 → B (T (T (L f) (T (T (L g) (L g)) (L g))) (P (T (L f) (T (T (T (T (L g) (L g)) (L g)) (T (T (L g) (L g)) (L g))) (L g))) e)) i = R f g i) ∧ true = S f g) →
      (eq 32 (B (L f)) (fun _ => 0) = false → eq 32 (B (T (T (L g) (T (T (L f) (T (T (L g) (L g)) (L g))) (P (T (L f) (T (T (T (T (L g) (L g)) (L g)) (T (T (L g) (L g)) (L g))) (L g))) e))) (T (T (L f) (T (T (L g) (L g)) (L g))) (P (T (L f) (T (T (T (T (L g) (L g)) (L g)) (T (T (L g) (L g)) (L g))) (L g))) e)))) (B (L f)) = false → eq 32 (B (T (T (L g) (T (T (T (L f) (T (T (L g) (L g)) (L g))) (P (T (L f) (T (T (T (T (L g) (L g)) (L g)) (T (T (L g) (L g)) (L g))) (L g))) e)) (L r))) (T (T (T (L f) (T (T (L g) (L g)) (L g))) (P (T (L f) (T (T (T (T (L g) (L g)) (L g)) (T (T (L g) (L g)) (L g))) (L g))) e)) (L r)))) (B (L f)) = true → cm .eql (bi .and .u8 (B (T (T (T (L f) (T (T (L g) (L g)) (L g))) (P (T (L f) (T (T (T (T (L g) (L g)) (L g)) (T (T (L g) (L g)) (L g))) (L g))) e)) (L r)) 0) 1) 1 = true → (∀ i, i < 32 → B (M (fun _ => 0) (T (T (T (L f) (T (T (L g) (L g)) (L g))) (P (T (L f) (T (T (T (T (L g) (L g)) (L g)) (T (T (L g) (L g)) (L g))) (L g))) e)) (L r))) i = R f g i) ∧ true = S f g) →
      (eq 32 (B (L f)) (fun _ => 0) = false → eq 32 (B (T (T (L g) (T (T (L f) (T (T (L g) (L g)) (L g))) (P (T (L f) (T (T (T (T (L g) (L g)) (L g)) (T (T (L g) (L g)) (L g))) (L g))) e))) (T (T (L f) (T (T (L g) (L g)) (L g))) (P (T (L f) (T (T (T (T (L g) (L g)) (L g)) (T (T (L g) (L g)) (L g))) (L g))) e)))) (B (L f)) = false → eq 32 (B (T (T (L g) (T (T (T (L f) (T (T (L g) (L g)) (L g))) (P (T (L f) (T (T (T (T (L g) (L g)) (L g)) (T (T (L g) (L g)) (L g))) (L g))) e)) (L r))) (T (T (T (L f) (T (T (L g) (L g)) (L g))) (P (T (L f) (T (T (T (T (L g) (L g)) (L g)) (T (T (L g) (L g)) (L g))) (L g))) e)) (L r)))) (B (L f)) = true → cm .eql (bi .and .u8 (B (T (T (T (L f) (T (T (L g) (L g)) (L g))) (P (T (L f) (T (T (T (T (L g) (L g)) (L g)) (T (T (L g) (L g)) (L g))) (L g))) e)) (L r)) 0) 1) 1 = false → (∀ i, i < 32 → B (T (T (T (L f) (T (T (L g) (L g)) (L g))) (P (T (L f) (T (T (T (T (L g) (L g)) (L g)) (T (T (L g) (L g)) (L g))) (L g))) e)) (L r)) i = R f g i) ∧ true = S f g) →
      (eq 32 (B (L f)) (fun _ => 0) = false → eq 32 (B (T (T (L g) (T (T (L f) (T (T (L g) (L g)) (L g))) (P (T (L f) (T (T (T (T (L g) (L g)) (L g)) (T (T (L g) (L g)) (L g))) (L g))) e))) (T (T (L f) (T (T (L g) (L g)) (L g))) (P (T (L f) (T (T (T (T (L g) (L g)) (L g)) (T (T (L g) (L g)) (L g))) (L g))) e)))) (B (L f)) = false → eq 32 (B (T (T (L g) (T (T (T (L f) (T (T (L g) (L g)) (L g))) (P (T (L f) (T (T (T (T (L g) (L g)) (L g)) (T (T (L g) (L g)) (L g))) (L g))) e)) (L r))) (T (T (T (L f) (T (T (L g) (L g)) (L g))) (P (T (L f) (T (T (T (T (L g) (L g)) (L g)) (T (T (L g) (L g)) (L g))) (L g))) e)) (L r)))) (B (L f)) = false → (∀ i, i < 32 → 0 = R f g i) ∧ false = S f g) → goal) : goal := by
  obtain ⟨x, y, c0, k1, k2, hv⟩ := sqrt_open hf hg he hr hL hB hT hP hM hbi hcm heq
  have hr' : R f g = fb (sqrtZ (fe f) (fe g)).1 := by rw [hR, sqrtR]
  have hs : S f g = (sqrtZ (fe f) (fe g)).2 := by rw [hS, sqrtB]
  rw [hv] at hr' hs
  clear hv hL hB hT hP hM hR hS
  refine H (fun h0 => ?_) (fun h0 h1 h2 => ?_) (fun h0 h1 h2 => ?_) (fun h0 h1 h2 h3 => ?_) (fun h0 h1 h2 h3 => ?_) (fun h0 h1 h2 => ?_)
  · rw [if_pos (of_decide_eq_true (c0.symm.trans h0))] at hr' hs
    exact ⟨fun i hi => by rw [hr']; exact (fb_zero i hi).symm, hs.symm⟩
  · rw [if_neg (of_decide_eq_false (c0.symm.trans h0)), if_pos (of_decide_eq_true (k1.hit.symm.trans h1))] at hr' hs
    have e : evZ x = -x := if_pos (of_decide_eq_true (k1.odd.symm.trans h2))
    exact ⟨fun i hi => by rw [hr', e]; exact k1.neg i hi, hs.symm⟩
  · rw [if_neg (of_decide_eq_false (c0.symm.trans h0)), if_pos (of_decide_eq_true (k1.hit.symm.trans h1))] at hr' hs
    have e : evZ x = x := if_neg (of_decide_eq_false (k1.odd.symm.trans h2))
    exact ⟨fun i hi => by rw [hr', e]; exact k1.out i hi, hs.symm⟩
  · rw [if_neg (of_decide_eq_false (c0.symm.trans h0)), if_neg (of_decide_eq_false (k1.hit.symm.trans h1)), if_pos (of_decide_eq_true (k2.hit.symm.trans h2))] at hr' hs
    have e : evZ y = -y := if_pos (of_decide_eq_true (k2.odd.symm.trans h3))
    exact ⟨fun i hi => by rw [hr', e]; exact k2.neg i hi, hs.symm⟩
  · rw [if_neg (of_decide_eq_false (c0.symm.trans h0)), if_neg (of_decide_eq_false (k1.hit.symm.trans h1)), if_pos (of_decide_eq_true (k2.hit.symm.trans h2))] at hr' hs
    have e : evZ y = y := if_neg (of_decide_eq_false (k2.odd.symm.trans h3))
    exact ⟨fun i hi => by rw [hr', e]; exact k2.out i hi, hs.symm⟩
  · rw [if_neg (of_decide_eq_false (c0.symm.trans h0)), if_neg (of_decide_eq_false (k1.hit.symm.trans h1)), if_neg (of_decide_eq_false (k2.hit.symm.trans h2))] at hr' hs
    exact ⟨fun i hi => by rw [hr']; exact (fb_zero i hi).symm, hs.symm⟩
end
end Sx

/-
  Many inverses by one.
-/
namespace Sx
open Go

/-- Number i of a list of numbers of 32 bytes. -/
def rowB (f : Nat → Int) (i : Nat) : Nat → Int := fun j => f (32 * i + j)
def isZ (f : Nat → Int) (i : Nat) : Bool := realEqA 32 (bytesF (loadF (rowB f i))) (fun _ => 0)
/-- The product of all that stand ahead, in digits. -/
def allL (o f : Nat → Int) : Nat → Nat → Int
  | 0 => o
  | i + 1 => if isZ f i = true then allL o f i else timesF (allL o f i) (loadF (rowB f i))
def gZ (f : Nat → Int) (i : Nat) : Zp := if fe (rowB f i) = 0 then 1 else fe (rowB f i)
def preZ (f : Nat → Int) : Nat → Zp
  | 0 => 1
  | i + 1 => preZ f i * gZ f i
/-- What is left of the inverse after k places from the end. -/
def backL (o f e : Nat → Int) (n : Nat) : Nat → Nat → Int
  | 0 => powL (allL o f n) e
  | k + 1 => if isZ f (n - 1 - k) = true then backL o f e n k else timesF (backL o f e n k) (loadF (rowB f (n - 1 - k)))
/-- The products, up to place m. -/
def headL (o f : Nat → Int) (m : Nat) : Nat → Int := fun p => if p / 5 < m then allL o f (p / 5) (p % 5) else 0
/-- Product number i of n. -/
def rowH (o f : Nat → Int) (n i : Nat) : Nat → Int := fun j => headL o f n (5 * i + j)
/-- The answers, from place m on. -/
def outL (o f e : Nat → Int) (n m : Nat) : Nat → Int := fun p =>
  if m ≤ p / 32 ∧ p / 32 < n then (if isZ f (p / 32) = true then 0 else bytesF (timesF (backL o f e n (n - 1 - p / 32)) (rowH o f n (p / 32))) (p % 32)) else 0
def invsF (f : Nat → Int) : Nat → Int := fun p => fb (zinv (fe (rowB f (p / 32)))) (p % 32)

def RowsB (f : Nat → Int) (n : Nat) : Prop := ∀ i, i < n * 32 → inR .u8 (f i)
theorem rowB_isB {f : Nat → Int} {n i : Nat} (h : RowsB f n) (hi : i < n) : IsBytes 32 (rowB f i) := fun j hj => inR_u8.1 (h (32 * i + j) (by omega))
theorem isZ_iff {f : Nat → Int} {n i : Nat} (h : RowsB f n) (hi : i < n) : isZ f i = decide (fe (rowB f i) = 0) :=
  eqA_zero (sq_bytes (lz_load (rowB_isB h hi)))

section
variable {o f e : Nat → Int} {n : Nat} (h : RowsB f n) (ho : lz o = 1 ∧ Tidy o)
include h ho
theorem all_ok : ∀ i, i ≤ n → lz (allL o f i) = preZ f i ∧ Tidy (allL o f i)
  | 0, _ => ho
  | i + 1, hi => by
    have ih := all_ok i (by omega)
    unfold allL preZ gZ
    rw [isZ_iff h (by omega)]
    by_cases hz : fe (rowB f i) = 0
    · rw [decide_eq_true hz, if_pos rfl, if_pos hz]
      exact ⟨by rw [ih.1]; grind, ih.2⟩
    · rw [decide_eq_false hz, if_neg (by simp), if_neg hz]
      exact sq_mul ih (lz_load (rowB_isB h (by omega)))
end
theorem gZ_ne (f : Nat → Int) (i : Nat) : gZ f i ≠ 0 := by
  unfold gZ
  split
  · exact z_one_ne prP
  · assumption
theorem preZ_ne (f : Nat → Int) : ∀ i, preZ f i ≠ 0
  | 0 => z_one_ne prP
  | i + 1 => fun h => by
    rcases zdom prP h with h1 | h1
    · exact preZ_ne f i h1
    · exact gZ_ne f i h1

structure Few (n : Nat) : Prop where
  h : n ≤ 256
structure Many (n : Nat) : Prop where
  h : 256 < n
def batchC (V : (Nat → Int) → Nat → Int) : Contract := fun vs => match vs with
  | [.xsl .u8 32 (.sym len) (.sym _) f] => some ([Few len], .osl .u8 32 (.sym len) (V f))
  | _ => none
def batchX : Contract := fun vs => match vs with
  | [.xsl .u8 32 (.sym len) (.sym _) _] => some ([Many len], .osl .u8 32 (.lit 0) (fun _ => 0))
  | _ => none
def lawRows : Contract := fun vs => match vs with
  | [.xsl .u8 32 (.sym _) (.sym _) _] => some ([], .bool (.sym true))
  | _ => none

theorem head_at (o f : Nat → Int) {m i j : Nat} (hi : i < m) (hj : j < 5) : headL o f m (5 * i + j) = allL o f i j := by
  unfold headL
  have e1 : (5 * i + j) / 5 = i := by omega
  have e2 : (5 * i + j) % 5 = j := by omega
  rw [e1, e2, if_pos hi]

theorem rowH_ok {o f : Nat → Int} {n i : Nat} {x : Zp} (h : lz (allL o f i) = x ∧ Tidy (allL o f i)) (hi : i < n) : lz (rowH o f n i) = x ∧ Tidy (rowH o f n i) := by
  have e : ∀ j, j < 5 → rowH o f n i j = allL o f i j := fun j hj => head_at o f hi hj
  refine ⟨?_, ?_⟩
  · rw [← h.1]
    unfold lz lim
    rw [e 0 (by decide), e 1 (by decide), e 2 (by decide), e 3 (by decide), e 4 (by decide)]
  · refine ⟨?_, fun j h1 h2 => ?_⟩
    · rw [e 0 (by decide)]; exact h.2.1
    · rw [e j h2]; exact h.2.2 j h1 h2
def TwoB (e : Nat → Int) : Prop := ∀ i, i < 32 → e i = byt 57896044618658097711785492504343953926634992332820282019728792003956564819947 i
theorem pow_inv {l e : Nat → Int} {x : Zp} (h : lz l = x ∧ Tidy l) (he : TwoB e) : lz (powL l e) = zinv x ∧ Tidy (powL l e) := by
  have h1 := lz_pow (e := byt 57896044618658097711785492504343953926634992332820282019728792003956564819947) h.2 (byt_isBytes _ 32)
  rw [num_two, h.1] at h1
  rw [powL_congr he]
  exact h1
section
variable {o f e : Nat → Int} {n : Nat} (h : RowsB f n) (ho : lz o = 1 ∧ Tidy o) (he : TwoB e)
include h ho he
theorem back_ok : ∀ k, k ≤ n → lz (backL o f e n k) = zinv (preZ f (n - k)) ∧ Tidy (backL o f e n k)
  | 0, _ => pow_inv (all_ok h ho n (Nat.le_refl _)) he
  | k + 1, hk => by
    have ih := back_ok k (by omega)
    have e1 : n - k = (n - 1 - k) + 1 := by omega
    have e2 : n - (k + 1) = n - 1 - k := by omega
    rw [e1] at ih
    rw [e2]
    unfold backL
    unfold preZ gZ at ih
    rw [isZ_iff h (by omega)]
    by_cases hz : fe (rowB f (n - 1 - k)) = 0
    · rw [decide_eq_true hz, if_pos rfl]
      rw [if_pos hz] at ih
      exact ⟨by rw [ih.1]; congr 1; grind, ih.2⟩
    · rw [decide_eq_false hz, if_neg (by simp)]
      rw [if_neg hz] at ih
      have h1 := sq_mul ih (lz_load (rowB_isB h (i := n - 1 - k) (by omega)))
      refine ⟨?_, h1.2⟩
      rw [h1.1, zinv_mul]
      have h2 := mul_zinv prP hz
      have h3 : zinv (preZ f (n - 1 - k)) * zinv (fe (rowB f (n - 1 - k))) * fe (rowB f (n - 1 - k)) = zinv (preZ f (n - 1 - k)) * (fe (rowB f (n - 1 - k)) * zinv (fe (rowB f (n - 1 - k)))) := by grind
      rw [h3, h2]
      grind
theorem out_row {i : Nat} (hi : i < n) (hz : isZ f i = false) : ∀ j, j < 32 → bytesF (timesF (backL o f e n (n - 1 - i)) (rowH o f n i)) j = fb (zinv (fe (rowB f i))) j := by
  have h1 := back_ok h ho he (n - 1 - i) (by omega)
  have e1 : n - (n - 1 - i) = i + 1 := by omega
  rw [e1] at h1
  unfold preZ gZ at h1
  rw [isZ_iff h hi] at hz
  have hz' : ¬ fe (rowB f i) = 0 := of_decide_eq_false hz
  rw [if_neg hz'] at h1
  have h2 := sq_mul h1 (rowH_ok (all_ok h ho i (by omega)) hi)
  refine sq_bytes ⟨?_, h2.2⟩
  rw [h2.1, zinv_mul]
  have h3 := mul_zinv prP (preZ_ne f i)
  have h4 : zinv (preZ f i) * zinv (fe (rowB f i)) * preZ f i = preZ f i * zinv (preZ f i) * zinv (fe (rowB f i)) := by grind
  rw [h4, h3]
  grind
theorem out_end {p : Nat} (hp : p < n * 32) : outL o f e n 0 p = invsF f p := by
  have hi : p / 32 < n := by omega
  unfold outL invsF
  rw [if_pos ⟨Nat.zero_le _, hi⟩]
  cases hz : isZ f (p / 32) with
  | true =>
    rw [if_pos rfl]
    rw [isZ_iff h hi] at hz
    rw [of_decide_eq_true hz, zinv_zero (by decide), fb_zero']
  | false =>
    rw [if_neg (by simp)]
    exact out_row h ho he hi hz _ (Nat.mod_lt _ (by decide))
end
theorem out_start (o f e : Nat → Int) (n p : Nat) : outL o f e n n p = 0 := by
  unfold outL
  rw [if_neg (show ¬ (n ≤ p / 32 ∧ p / 32 < n) by omega)]
theorem out_skip {o f e : Nat → Int} {n i : Nat} (hz : isZ f i = true) (p : Nat) : outL o f e n i p = outL o f e n (i + 1) p := by
  unfold outL
  by_cases h1 : p / 32 = i
  · subst h1
    rw [if_neg (by omega : ¬ (p / 32 + 1 ≤ p / 32 ∧ p / 32 < n)), hz]
    split <;> rfl
  · by_cases h2 : i ≤ p / 32 ∧ p / 32 < n
    · rw [if_pos h2, if_pos (show i + 1 ≤ p / 32 ∧ p / 32 < n by omega)]
    · rw [if_neg h2, if_neg (show ¬ (i + 1 ≤ p / 32 ∧ p / 32 < n) by omega)]
theorem out_lay {o f e : Nat → Int} {n i : Nat} (hi : i < n) (hz : isZ f i = false) (p : Nat) :
    splice (outL o f e n (i + 1)) (32 * i) 32 (bytesF (timesF (backL o f e n (n - 1 - i)) (rowH o f n i))) p = outL o f e n i p := by
  unfold splice
  by_cases h1 : p < 32 * i
  · rw [if_pos h1]
    unfold outL
    rw [if_neg (show ¬ (i + 1 ≤ p / 32 ∧ p / 32 < n) by omega), if_neg (show ¬ (i ≤ p / 32 ∧ p / 32 < n) by omega)]
  · rw [if_neg h1]
    by_cases h2 : p < 32 * i + 32
    · have e1 : p / 32 = i := by omega
      have e2 : p % 32 = p - 32 * i := by omega
      rw [if_pos h2]
      unfold outL
      rw [e1, if_pos ⟨Nat.le_refl _, hi⟩, hz, if_neg (by simp), e2]
    · rw [if_neg h2]
      unfold outL
      by_cases h3 : i ≤ p / 32 ∧ p / 32 < n
      · rw [if_pos h3, if_pos (show i + 1 ≤ p / 32 ∧ p / 32 < n by omega)]
      · rw [if_neg h3, if_neg (show ¬ (i + 1 ≤ p / 32 ∧ p / 32 < n) by omega)]
theorem head_zero (o f : Nat → Int) (p : Nat) : headL o f 0 p = 0 := by
  unfold headL
  rw [if_neg (by omega)]
theorem head_lay (o f : Nat → Int) (m p : Nat) : splice (headL o f m) (5 * m) 5 (allL o f m) p = headL o f (m + 1) p := by
  unfold splice headL
  by_cases h1 : p < 5 * m
  · rw [if_pos h1, if_pos (by omega), if_pos (by omega)]
  · rw [if_neg h1]
    by_cases h2 : p < 5 * m + 5
    · have e1 : p / 5 = m := by omega
      have e2 : p % 5 = p - 5 * m := by omega
      rw [if_pos h2, if_pos (by omega), e1, e2]
    · rw [if_neg h2, if_neg (by omega), if_neg (by omega)]
theorem one_ok : lz (upd (fun _ => 0) 0 1) = 1 ∧ Tidy (upd (fun _ => 0) 0 1) := by
  refine ⟨?_, ⟨by decide, by decide⟩, fun i h1 h2 => ?_⟩
  · have e : lim (upd (fun _ => 0) 0 1) = 1 := by decide
    unfold lz
    rw [e]
    exact zi_one
  · have e : upd (fun _ => 0) 0 1 i = 0 := if_neg (by omega)
    rw [e]
    decide
theorem mnB_no {a : Bool} (h : (match a with | true => false | false => true) = false) : a = true := by cases a <;> simp_all
theorem mnB_yes {a : Bool} (h : (match a with | true => false | false => true) = true) : a = false := by cases a <;> simp_all
theorem back_z {o f e : Nat → Int} {n i : Nat} (hi : i < n) (z : isZ f i = true) : backL o f e n (n - (i + 1)) = backL o f e n (n - i) := by
  have e1 : n - i = (n - (i + 1)) + 1 := by omega
  have e2 : n - 1 - (n - (i + 1)) = i := by omega
  rw [e1]
  show _ = if isZ f (n - 1 - (n - (i + 1))) = true then _ else _
  rw [e2, if_pos z]
theorem back_nz {o f e : Nat → Int} {n i : Nat} (hi : i < n) (z : isZ f i = false) : timesF (backL o f e n (n - (i + 1))) (loadF (rowB f i)) = backL o f e n (n - i) := by
  have e1 : n - i = (n - (i + 1)) + 1 := by omega
  have e2 : n - 1 - (n - (i + 1)) = i := by omega
  rw [e1]
  show _ = if isZ f (n - 1 - (n - (i + 1))) = true then _ else timesF _ (loadF (rowB f (n - 1 - (n - (i + 1)))))
  rw [e2, if_neg (by rw [z]; decide)]
theorem dead1 {A B X Y : Prop} (hA : ¬ A) (hY : B → Y) : (A → X) ∧ (B → Y) := ⟨fun h => (hA h).elim, hY⟩
theorem dead2 {A B X Y : Prop} (hB : ¬ B) (hX : A → X) : (A → X) ∧ (B → Y) := ⟨hX, fun h => (hB h).elim⟩
theorem b_tf2 {x : Bool} (h1 : x = true) (h2 : x = false) : False := by rw [h1] at h2; cases h2
theorem invs_row (f : Nat → Int) (i : Nat) : ∀ j, j < 32 → invsF f (32 * i + j) = fb (zinv (fe (rowB f i))) j := by
  intro j hj
  have e1 : (32 * i + j) / 32 = i := by omega
  have e2 : (32 * i + j) % 32 = j := by omega
  unfold invsF
  rw [e1, e2]
theorem fe_row (f : Nat → Int) (i : Nat) : fe (fun j => invsF f (32 * i + j)) = zinv (fe (rowB f i)) := (fe_congr (invs_row f i)).trans (fe_fb _)
theorem rows_zero {f : Nat → Int} {n i : Nat} (_hf : RowsB f n) (_hi : i < n) (h : realEqA 32 (fb (fe fun j => f (32 * i + j))) (fb (zi pN 0)) = true) : realEqA 32 (fun j => invsF f (32 * i + j)) (fb (zi pN 0)) = true := by
  rw [fb_inj] at h
  have h1 : fe (rowB f i) = zi pN 0 := of_decide_eq_true h
  refine (eqA_z (invs_row f i) (fun _ _ => rfl)).trans (decide_eq_true ?_)
  rw [h1, zi_zero]
  exact zinv_zero (by decide)
theorem rows_one {f : Nat → Int} {n i : Nat} (_hf : RowsB f n) (_hi : i < n) (h : realEqA 32 (fb (fe fun j => f (32 * i + j))) (fb (zi pN 0)) = false) : realEqA 32 (fb (fe (fun j => f (32 * i + j)) * fe fun j => invsF f (32 * i + j))) (fb (zi pN 1)) = true := by
  rw [fb_inj] at h
  have h1 : ¬ fe (rowB f i) = zi pN 0 := of_decide_eq_false h
  rw [zi_zero] at h1
  refine fb_same ?_
  rw [fe_row, zi_one]
  exact mul_zinv prP h1
theorem rows_less (f : Nat → Int) (i : Nat) : ltB (fun j => invsF f (32 * i + j)) (byt p25) = true := by
  have h : num 32 (fun j => invsF f (32 * i + j)) = num 32 (fb (zinv (fe (rowB f i)))) := num_congr 32 (invs_row f i)
  unfold ltB
  rw [h]
  exact ltB_fb _ rfl
theorem zinv_one : zinv (1 : Zp) = 1 := one_zp _
theorem nb_t {x : Bool} (h : (match x with | true => false | false => true) = true) (hx : x = true) : False := by subst hx; simp at h
theorem orb_dead {a b : Bool} (h : (match (match a with | true => false | false => true) with | true => true | false => match b with | true => false | false => true) = true) (ha : a = true) (hb : b = true) : False := by subst ha hb; simp at h
theorem b_ft2 {x : Bool} (h1 : x = false) (h2 : x = true) : False := by rw [h1] at h2; cases h2
theorem wN {n m : Nat} (h : n ≤ 256) (hm : 256 < m) : Within (Int.ofNat n) m := ⟨by simp only [Int.ofNat_eq_natCast]; omega⟩
theorem uN {n m : Nat} (h : m = n) : Upto (Int.ofNat n) m := ⟨by simp only [Int.ofNat_eq_natCast]; omega⟩
theorem nnN (n : Nat) : (0 : Int) ≤ Int.ofNat n := Int.natCast_nonneg n
end Sx

/-
  The document's numbers modulo p: digits of base 65536.
-/
namespace Sx
open Go Go.RowKit

def b16 : Int := 65536
theorem b16_pos : (0 : Int) < b16 := by decide
/-- A number of sixteen digits; its value; a number's digits. -/
structure Num16 (f : Nat → Int) : Prop where
  h : IsDig b16 16 f
def V16 (f : Nat → Int) : Int := sumB b16 16 f
def D16 (n : Int) : Nat → Int := dgt b16 n
abbrev qP : Int := 115792089237316195423570985008687907853269984665640564039457584007913129639936
theorem pow16 : b16 ^ 16 = qP := by decide
theorem V16_range {f : Nat → Int} (h : Num16 f) : 0 ≤ V16 f ∧ V16 f < qP := by
  have := sumB_range b16_pos h.h
  rw [pow16] at this
  exact this
theorem V16_D16 {n : Int} (h0 : 0 ≤ n) (h1 : n < qP) : V16 (D16 n) = n := sumB_dgt_lt b16_pos h0 (by rw [pow16]; exact h1)
theorem num16_D16 (n : Int) : Num16 (D16 n) := ⟨dgt_isDig b16_pos n 16⟩
theorem D16_V16 {f : Nat → Int} (h : Num16 f) {i : Nat} (hi : i < 16) : D16 (V16 f) i = f i := dgt_sumB b16_pos h.h hi
theorem D16_range (n : Int) (i : Nat) : 0 ≤ D16 n i ∧ D16 n i < 65536 := dgt_isDig b16_pos n (i + 1) i (by omega)
theorem V16_congr {f g : Nat → Int} (h : ∀ i, i < 16 → f i = g i) : V16 f = V16 g := sumB_congr h
/-- An element of the field, as the document writes it. -/
def nb (x : Zp) : Nat → Int := D16 (x.val : Int)
theorem V16_nb (x : Zp) : V16 (nb x) = (x.val : Int) := V16_D16 (zval_bounds x).1 (Int.lt_trans (zval_bounds x).2 (by decide))
theorem num16_nb (x : Zp) : Num16 (nb x) := num16_D16 _
def nv (f : Nat → Int) : Zp := zi pN (V16 f)
theorem nv_nb (x : Zp) : nv (nb x) = x := by unfold nv; rw [V16_nb, zi_of_val]
theorem nb_mod (n : Int) : nb (zi pN n) = D16 (n % p25) := by unfold nb; rw [zi_val, p25_cast]
theorem num16_same {x y : Int} (hx : 0 ≤ x ∧ x < qP) (hy : 0 ≤ y ∧ y < qP) : realEqA 16 (D16 x) (D16 y) = decide (x = y) := by
  rw [Bool.eq_iff_iff, realEqA_iff, decide_eq_true_iff]
  constructor
  · intro h
    rw [← V16_D16 hx.1 hx.2, ← V16_D16 hy.1 hy.2]
    exact V16_congr h
  · rintro rfl i _
    rfl
theorem nb_same (x y : Zp) : realEqA 16 (nb x) (nb y) = decide (x = y) := by
  have hx := zval_bounds x
  have hy := zval_bounds y
  unfold nb
  rw [num16_same ⟨hx.1, Int.lt_trans hx.2 (by decide)⟩ ⟨hy.1, Int.lt_trans hy.2 (by decide)⟩, decide_eq_decide]
  constructor
  · intro h
    exact Fin.ext (by exact_mod_cast h)
  · rintro rfl
    rfl

/-! 32 bytes and sixteen digits. -/
theorem pair_digit {a : Nat → Int} (ha : IsBytes 32 a) {i : Nat} (hi : i < 16) : a (2 * i) + 256 * a (2 * i + 1) = D16 (num 32 a) i := by
  have h1 := num_div (2 * i) 32 a (by omega) ha
  have e : b16 ^ i = 256 ^ (2 * i) := by
    have : b16 = 256 ^ 2 := by decide
    rw [this, ← Int.pow_mul]
  unfold D16 dgt
  rw [e, h1]
  obtain ⟨m, hm⟩ : ∃ m, 32 - 2 * i = m + 1 + 1 := ⟨30 - 2 * i, by omega⟩
  rw [hm]
  simp only [num, Nat.add_zero, Nat.zero_add]
  have h2 := ha (2 * i) (by omega)
  have h3 := ha (2 * i + 1) (by omega)
  have e2 : b16 = 65536 := rfl
  rw [e2]
  generalize num m (fun j => a (2 * i + (j + 1 + 1))) = T
  omega
theorem digit_bytes (n : Int) (i : Nat) : D16 n i % 256 = byt n (2 * i) ∧ D16 n i / 256 = byt n (2 * i + 1) := by
  have e : b16 ^ i = 256 ^ (2 * i) := by
    have : b16 = 256 ^ 2 := by decide
    rw [this, ← Int.pow_mul]
  have hp : (0 : Int) < 256 ^ (2 * i) := Int.pow_pos (by decide)
  unfold D16 dgt byt
  rw [e, Int.pow_succ, ← Int.ediv_ediv_of_nonneg (Int.le_of_lt hp), show b16 = 65536 from rfl]
  generalize n / 256 ^ (2 * i) = x
  omega
end Sx

/-
  The document's numbers modulo p: comparing, taking away, folding columns.
-/
namespace Sx
open Go Go.RowKit

theorem ltB_at {B : Int} (hB : 0 < B) {n : Nat} {f g : Nat → Int} (hf : IsDig B n f) (hg : IsDig B n g) {k : Nat} (hk : k < n) (he : ∀ j, k < j → j < n → f j = g j) (hne : f k ≠ g k) : decide (f k < g k) = decide (sumB B n f < sumB B n g) := by
  have hb := sumB_range hB (n := k) fun i hi => hf i (by omega)
  have hb' := sumB_range hB (n := k) fun i hi => hg i (by omega)
  obtain ⟨m, rfl⟩ : ∃ m, n = (k + 1) + m := ⟨n - (k + 1), by omega⟩
  have t : sumB B m (fun i => f (k + 1 + i)) = sumB B m (fun i => g (k + 1 + i)) := sumB_congr fun i hi => he (k + 1 + i) (by omega) (by omega)
  rw [sumB_split f (k + 1), sumB_split g (k + 1), t, show sumB B (k + 1) f = sumB B k f + B ^ k * f k from rfl, show sumB B (k + 1) g = sumB B k g + B ^ k * g k from rfl]
  generalize B ^ (k + 1) * sumB B m (fun i => g (k + 1 + i)) = T
  have hp := powB_pos hB k
  rw [decide_eq_decide]
  constructor
  · intro h
    have : B ^ k * (f k + 1) ≤ B ^ k * g k := Int.mul_le_mul_of_nonneg_left (by omega) (by omega)
    rw [Int.mul_add, Int.mul_one] at this
    omega
  · intro h
    rcases Int.lt_or_gt_of_ne hne with h1 | h1
    · exact h1
    · have : B ^ k * (g k + 1) ≤ B ^ k * f k := Int.mul_le_mul_of_nonneg_left (by omega) (by omega)
      rw [Int.mul_add, Int.mul_one] at this
      omega
theorem ltB_none {B : Int} {n : Nat} {f g : Nat → Int} (he : ∀ j, j < n → f j = g j) : decide (sumB B n f < sumB B n g) = false := by
  rw [sumB_congr he]
  exact decide_eq_false (by omega)
def below16 (f g : Nat → Int) : Bool := decide (V16 f < V16 g)

/-! Taking away. -/
def borB (B : Int) (a b : Nat → Int) (j : Nat) : Int := - carB B (fun i => a i - b i) 0 j
theorem borB_zero (B : Int) (a b : Nat → Int) : borB B a b 0 = 0 := by unfold borB; rw [carB_zero]; rfl
theorem borB_range {B : Int} (hB : 0 < B) {n : Nat} {a b : Nat → Int} (ha : IsDig B n a) (hb : IsDig B n b) {j : Nat} (hj : j ≤ n) : 0 ≤ borB B a b j ∧ borB B a b j ≤ 1 := by
  have hp := powB_pos hB j
  have h1 := sumB_range hB (n := j) fun i hi => ha i (by omega)
  have h2 := sumB_range hB (n := j) fun i hi => hb i (by omega)
  unfold borB carB
  rw [sumB_sub, Int.add_zero]
  generalize sumB B j a = x at h1
  generalize sumB B j b = y at h2
  generalize B ^ j = p at *
  have h7 : -1 ≤ (x - y) / p := Int.le_ediv_of_mul_le hp (by omega)
  have h8 : (x - y) / p < 1 := Int.ediv_lt_of_lt_mul hp (by omega)
  omega
theorem bor_step {B : Int} (hB : 0 < B) {n : Nat} {a b : Nat → Int} (ha : IsDig B n a) (hb : IsDig B n b) {j : Nat} (hj : j < n) {x : Int} (hx : x = a j - b j - borB B a b j) :
    (x < 0 → x + B = dgt B (sumB B n a - sumB B n b) j ∧ 1 = borB B a b (j + 1)) ∧ (0 ≤ x → x = dgt B (sumB B n a - sumB B n b) j ∧ 0 = borB B a b (j + 1)) := by
  have h := dgt_car hB (fun i => a i - b i) 0 hj
  rw [sumB_sub, Int.add_zero] at h
  have h2 : borB B a b (j + 1) = - ((a j - b j + carB B (fun i => a i - b i) 0 j) / B) := by
    show - carB _ _ _ (j + 1) = _
    rw [carB_succ hB]
  have hr := borB_range hB ha hb (Nat.le_of_lt hj)
  have hc : carB B (fun i => a i - b i) 0 j = - borB B a b j := by unfold borB; omega
  rw [hc] at h h2
  rw [h, h2]
  have d1 := ha j hj
  have d2 := hb j hj
  generalize a j = u at *
  generalize b j = v at *
  generalize borB B a b j = z at *
  subst hx
  refine ⟨fun hv => ?_, fun hv => ?_⟩
  · have e : (u - v + -z) / B = -1 := by
      have e1 : -1 ≤ (u - v + -z) / B := Int.le_ediv_of_mul_le hB (by omega)
      have e2 : (u - v + -z) / B < 0 := Int.ediv_lt_of_lt_mul hB (by omega)
      omega
    have e3 := Int.emod_add_mul_ediv (u - v + -z) B
    rw [e] at e3 ⊢
    constructor <;> omega
  · have e : (u - v + -z) / B = 0 := Int.ediv_eq_zero_of_lt (by omega) (by omega)
    have e3 := Int.emod_eq_of_lt (show 0 ≤ u - v + -z by omega) (show u - v + -z < B by omega)
    rw [e, e3]
    constructor <;> omega

/-! Folding. 2^256 is 38. -/
theorem q_is : qP = 2 * p25 + 38 := by decide
def foldS (T : Int) : Nat → Int
  | 0 => T
  | k + 1 => foldS T k % qP + 38 * (foldS T k / qP)
theorem foldS_mod (T : Int) : ∀ k, foldS T k % p25 = T % p25
  | 0 => rfl
  | k + 1 => by
    have h := foldS_mod T k
    have e := Int.emod_add_mul_ediv (foldS T k) qP
    have e2 : foldS T k % qP + 38 * (foldS T k / qP) = foldS T k - p25 * (2 * (foldS T k / qP)) := by
      have := q_is
      rw [this] at e ⊢
      rw [Int.add_mul] at e
      have e5 : p25 * (2 * (foldS T k / (2 * p25 + 38))) = 2 * p25 * (foldS T k / (2 * p25 + 38)) := by rw [← Int.mul_assoc, Int.mul_comm p25 2]
      omega
    show (foldS T k % qP + 38 * (foldS T k / qP)) % p25 = _
    rw [e2, Int.sub_mul_emod_self_left, h]
theorem foldS_nonneg {T : Int} (h : 0 ≤ T) : ∀ k, 0 ≤ foldS T k
  | 0 => h
  | k + 1 => by
    have h1 := foldS_nonneg h k
    simp only [foldS, qP]
    omega
/-- Three rounds are enough. -/
theorem foldS_ends {T : Int} (h0 : 0 ≤ T) (h1 : T < 39 * qP) : foldS T 0 / qP ≤ 38 ∧ foldS T 1 / qP ≤ 1 ∧ foldS T 2 / qP = 0 := by
  simp only [foldS, qP] at *
  omega
theorem fold_split {w : Nat → Int} : sumB b16 32 w = sumB b16 16 w + qP * sumB b16 16 fun i => w (16 + i) := by
  have := sumB_split (B := b16) w 16 16
  rw [pow16] at this
  exact this
theorem fold_sum (w : Nat → Int) : sumB b16 16 (fun i => w i + 38 * w (i + 16)) = sumB b16 16 w + 38 * sumB b16 16 fun i => w (16 + i) := by
  rw [sumB_add, sumB_mul]
  have : sumB b16 16 (fun i => w (i + 16)) = sumB b16 16 fun i => w (16 + i) := sumB_congr fun i _ => by rw [Nat.add_comm]
  rw [this]
theorem fold_mod {w : Nat → Int} : (sumB b16 16 fun i => w i + 38 * w (i + 16)) % p25 = sumB b16 32 w % p25 := by
  rw [fold_sum, fold_split]
  generalize sumB b16 16 w = x
  generalize (sumB b16 16 fun i => w (16 + i)) = y
  simp only [qP, p25]
  omega
end Sx

/-
  Inverses, powers, symbols and roots modulo p, in plain numbers.
-/
namespace Sx
open Go

theorem zi_two : zi pN 2 = 2 := rfl
theorem zp_pm (x : Zp) (k : Nat) (h : k < 2 ^ 256) : (zp x k).val = pm pN 256 x.val k := by rw [zp_val, pm_eq _ _ _ _ h]

theorem z_two_ne : (2 : Zp) ≠ 0 := by decide +kernel
theorem leg_two : zp (2 : Zp) halfN = -1 := by
  apply Fin.ext
  rw [zp_pm _ _ (by decide +kernel)]
  decide +kernel
theorem leg_neg_one : zp (-1 : Zp) halfN = 1 := by
  apply Fin.ext
  rw [zp_pm _ _ (by decide +kernel)]
  decide +kernel

theorem zneg_eq {x : Zp} (h : x = -x) : x = 0 := by
  have h1 : 2 * x = 0 := by grind
  rcases zdom prP h1 with h2 | h2
  · exact absurd h2 z_two_ne
  · exact h2

theorem zinv_inv (x : Zp) : zinv (zinv x) = x := by
  by_cases h : x = 0
  · subst h
    rw [zinv_zero (by decide), zinv_zero (by decide)]
  · exact zinv_zinv' prP h
theorem zinv_two : zinv (2 : Zp) + zinv 2 = 1 := by
  have h := mul_zinv prP z_two_ne
  grind

theorem zneg_val {x : Zp} (h : x ≠ 0) : (-x).val = pN - x.val := by
  have h1 : zi pN (((pN : Nat) : Int) - (x.val : Int)) = -x := by
    rw [zi_sub, zi_self, zi_of_val]
    grind
  have h2 : ((-x).val : Int) = ((pN : Nat) : Int) - (x.val : Int) := by
    rw [← h1, zi_val]
    have := x.isLt
    have h3 : x.val ≠ 0 := fun e => h (Fin.ext (by simpa using e))
    exact Int.emod_eq_of_lt (by omega) (by omega)
  have := x.isLt
  omega

theorem evZ_sq (x : Zp) : evZ x * evZ x = x * x := by
  unfold evZ
  split
  · grind
  · rfl
theorem evZ_even (x : Zp) : (evZ x).val % 2 = 0 := by
  unfold evZ
  split
  · rename_i h
    have h0 : x ≠ 0 := fun e => by subst e; simp at h
    rw [zneg_val h0]
    have := x.isLt
    simp only [pN] at this ⊢
    omega
  · rename_i h
    omega

theorem zp_odd7 (v : Zp) (h : v ≠ 0) : zp (v * v * v * (v * v * v) * v) halfN = zp v halfN := by
  have h1 : zp v halfN * zp v halfN = 1 := (zhalf_sq v).resolve_left h
  rw [mul_zp, mul_zp, mul_zp, mul_zp]
  generalize zp v halfN = w at *
  grind

/-- What SqrtRatio's first candidate comes to. -/
theorem sqrt_cand (u v : Zp) : v * (u * (v * v * v) * zp (u * (v * v * v * (v * v * v) * v)) eighthN) * (u * (v * v * v) * zp (u * (v * v * v * (v * v * v) * v)) eighthN) = u * zp (u * (v * v * v * (v * v * v) * v)) (2 * eighthN + 1) := by
  rw [zp_succ, zp_sq]
  generalize zp (u * (v * v * v * (v * v * v) * v)) eighthN = w
  grind

theorem sqrt_quarter (u v : Zp) (hv : v ≠ 0) : zp (u * (v * v * v * (v * v * v) * v)) (2 * eighthN + 1) * zp (u * (v * v * v * (v * v * v) * v)) (2 * eighthN + 1) = zp (u * v) halfN := by
  rw [← zp_sq]
  have e : 2 * (2 * eighthN + 1) = halfN := by rw [eighthN_eq, halfN_eq]
  rw [e, mul_zp, zp_odd7 v hv, ← mul_zp]

theorem sqrt_u0 (v : Zp) : sqrtZ 0 v = (0, true) := if_pos rfl
theorem sqrt_v0 {u : Zp} (hu : u ≠ 0) : sqrtZ u 0 = (0, false) := by
  unfold sqrtZ
  rw [if_neg hu]
  dsimp only
  rw [if_neg (by intro h; apply hu; rw [← h]; grind), if_neg (by intro h; apply hu; rw [← h]; grind)]

theorem sqrt_some {u v : Zp} (hu : u ≠ 0) (hv : v ≠ 0) (h : zp (u * v) halfN = 1) : ∃ r, sqrtZ u v = (evZ r, true) ∧ v * r * r = u := by
  have h1 := sqrt_cand u v
  have h2 := sqrt_quarter u v hv
  rw [h] at h2
  unfold sqrtZ
  rw [if_neg hu]
  dsimp only
  generalize u * (v * v * v) * zp (u * (v * v * v * (v * v * v) * v)) eighthN = r at *
  generalize zp (u * (v * v * v * (v * v * v) * v)) (2 * eighthN + 1) = c at *
  rcases zsq_one prP h2 with hc | hc
  · have : v * r * r = u := by rw [h1, hc]; grind
    rw [if_pos this]
    exact ⟨r, rfl, this⟩
  · have hn : v * r * r ≠ u := fun e => hu (zneg_eq (by rw [h1, hc] at e; grind))
    have hi := iZ_sq
    have : v * (r * iZ) * (r * iZ) = u := by
      generalize iZ = i at *
      have : v * (r * i) * (r * i) = v * r * r * (i * i) := by grind
      rw [this, hi, h1, hc]
      grind
    rw [if_neg hn, if_pos this]
    exact ⟨r * iZ, rfl, this⟩

theorem sqrt_no {u v : Zp} (hu : u ≠ 0) (hv : v ≠ 0) (h : zp (u * v) halfN ≠ 1) : sqrtZ u v = (0, false) := by
  have h1 := sqrt_cand u v
  have h2 := sqrt_quarter u v hv
  unfold sqrtZ
  rw [if_neg hu]
  dsimp only
  generalize u * (v * v * v) * zp (u * (v * v * v * (v * v * v) * v)) eighthN = r at *
  generalize zp (u * (v * v * v * (v * v * v) * v)) (2 * eighthN + 1) = c at *
  have hn : v * r * r ≠ u := fun e => by
    rw [h1] at e
    have hc : c = 1 := zcancel prP hu (by rw [e]; grind)
    apply h
    rw [← h2, hc]
    grind
  have hn2 : v * (r * iZ) * (r * iZ) ≠ u := fun e => by
    have hi := iZ_sq
    generalize iZ = i at *
    have e2 : v * (r * i) * (r * i) = v * r * r * (i * i) := by grind
    rw [e2, hi, h1] at e
    have hc : c = -1 := zcancel prP hu (by grind)
    apply h
    rw [← h2, hc]
    grind
  rw [if_neg hn, if_neg hn2]

theorem sqrt_ok {u v : Zp} (hu : u ≠ 0) (hv : v ≠ 0) : (sqrtZ u v).2 = decide (legZ (u * v) = 1) := by
  by_cases h : zp (u * v) halfN = 1
  · obtain ⟨r, h1, _⟩ := sqrt_some hu hv h
    rw [h1, legZ_one.2 h]
    rfl
  · rw [sqrt_no hu hv h]
    have : ¬ legZ (u * v) = 1 := fun e => h (legZ_one.1 e)
    simp [this]
theorem sqrt_root {u v : Zp} (h : (sqrtZ u v).2 = true) : v * (sqrtZ u v).1 * (sqrtZ u v).1 = u ∧ (sqrtZ u v).1.val % 2 = 0 := by
  by_cases hu : u = 0
  · subst hu
    rw [sqrt_u0]
    exact ⟨by grind, by simp⟩
  · by_cases hv : v = 0
    · subst hv
      rw [sqrt_v0 hu] at h
      cases h
    · by_cases h1 : zp (u * v) halfN = 1
      · obtain ⟨r, h2, h3⟩ := sqrt_some hu hv h1
        rw [h2]
        refine ⟨?_, evZ_even r⟩
        have := evZ_sq r
        dsimp only
        generalize evZ r = w at *
        grind
      · rw [sqrt_no hu hv h1] at h
        cases h
theorem sqrt_false {u v : Zp} (h : (sqrtZ u v).2 = false) : (sqrtZ u v).1 = 0 := by
  by_cases hu : u = 0
  · subst hu; rfl
  · by_cases hv : v = 0
    · subst hv
      rw [sqrt_v0 hu]
    · by_cases h1 : zp (u * v) halfN = 1
      · obtain ⟨r, h2, h3⟩ := sqrt_some hu hv h1
        rw [h2] at h
        cases h
      · rw [sqrt_no hu hv h1]

theorem leg_mul (x y : Zp) : legZ (x * y) = legZ x * legZ y := by
  have hm := mul_zp x y halfN
  rcases legZ_cases x with ⟨h1, h2⟩ | ⟨h1, h2, h3⟩ | ⟨h1, h2, h3⟩
  · have : x * y = 0 := by rw [h1]; grind
    rw [legZ_zero.2 this, h2, Int.zero_mul]
  · rcases legZ_cases y with ⟨h4, h5⟩ | ⟨h4, h5, h6⟩ | ⟨h4, h5, h6⟩
    · have : x * y = 0 := by rw [h4]; grind
      rw [legZ_zero.2 this, h5, Int.mul_zero]
    · rw [h3, h6, legZ_one.2 (by rw [hm, h2, h5]; grind)]; rfl
    · rw [h3, h6, legZ_neg.2 (by rw [hm, h2, h5]; grind)]; rfl
  · rcases legZ_cases y with ⟨h4, h5⟩ | ⟨h4, h5, h6⟩ | ⟨h4, h5, h6⟩
    · have : x * y = 0 := by rw [h4]; grind
      rw [legZ_zero.2 this, h5, Int.mul_zero]
    · rw [h3, h6, legZ_neg.2 (by rw [hm, h2, h5]; grind)]; rfl
    · rw [h3, h6, legZ_one.2 (by rw [hm, h2, h5]; grind)]; rfl
theorem legZ_two : legZ 2 = -1 := legZ_neg.2 leg_two
theorem legZ_range (x : Zp) : legZ x = 0 ∨ legZ x = 1 ∨ legZ x = -1 := by
  rcases legZ_cases x with ⟨_, h⟩ | ⟨_, _, h⟩ | ⟨_, _, h⟩ <;> omega

/-! Exponents that the laws put together. -/
theorem pw_const {e : Nat → Int} {N : Int} {k : Nat} (he : ∀ i, i < 32 → e i = byt N i) (h0 : 0 ≤ N) (h1 : N < 115792089237316195423570985008687907853269984665640564039457584007913129639936) (hk : N.toNat = k) : (num 32 e).toNat = k := by
  rw [num_congr 32 he, num_byt 32 N h0 (by have e : (256 : Int) ^ 32 = 115792089237316195423570985008687907853269984665640564039457584007913129639936 := by decide
                                           rw [e]; exact h1), hk]
theorem pw_one {f e : Nat → Int} (he : ∀ i, i < 32 → e i = byt 57896044618658097711785492504343953926634992332820282019728792003956564819948 i) : fb (zp (fe f) (num 32 e).toNat) = fb (zp (fe f) (pN - 1)) := by rw [pw_const he (by decide) (by decide) rfl]; rfl
theorem pw_two {f e : Nat → Int} (he : ∀ i, i < 32 → e i = byt 57896044618658097711785492504343953926634992332820282019728792003956564819947 i) : fb (zp (fe f) (num 32 e).toNat) = fb (zinv (fe f)) := by rw [pw_const he (by decide) (by decide) rfl]; rfl
theorem pw_half {f e : Nat → Int} (he : ∀ i, i < 32 → e i = byt 28948022309329048855892746252171976963317496166410141009864396001978282409974 i) : fb (zp (fe f) (num 32 e).toNat) = fb (zp (fe f) halfN) := by rw [pw_const he (by decide) (by decide) rfl]; rfl
theorem fermat_two : zp (2 : Zp) (pN - 1) = 1 := zfermat prP z_two_ne
theorem zp_last_zero : zp (0 : Zp) (pN - 1) = 0 := zero_zp _ (by decide)
theorem zp_half_zero : zp (0 : Zp) halfN = 0 := zero_zp _ (by decide)

theorem even_z (x : Zp) (h : x.val % 2 = 0) : realCmp .eql (realBin .rem .u8 (fb x 0) 2) 1 = false := by
  have hb := fb_isBytes x 0 (by decide)
  rw [rem_i64 hb.1]
  simp only [realCmp, fb, byt, Int.pow_zero, Int.ediv_one, beq_eq_false_iff_ne]
  omega
theorem canB_fb (x : Zp) : canB (fb x) = true := by
  unfold canB
  rw [num_fb]
  exact decide_eq_true (zval_bounds x).2
theorem leg_dbl {u v : Zp} (hu : u ≠ 0) (hv : v ≠ 0) : (sqrtZ (u + u) v).2 = !(sqrtZ u v).2 := by
  have h1 : u + u = 2 * u := by grind
  have h2 : u + u ≠ 0 := by rw [h1]; exact zmul_ne prP z_two_ne hu
  have h3 : (u + u) * v = 2 * (u * v) := by grind
  rw [sqrt_ok h2 hv, sqrt_ok hu hv, h3, leg_mul, legZ_two]
  rcases legZ_cases (u * v) with ⟨h, _⟩ | ⟨_, _, h⟩ | ⟨_, _, h⟩
  · exact absurd h (zmul_ne prP hu hv)
  · rw [h]; rfl
  · rw [h]; rfl
theorem leg_sq {x : Zp} : legZ (x * x) = legZ x * legZ x := leg_mul x x
theorem sqrt_sq (u : Zp) : (sqrtZ (u * u) 1).2 = true := by
  by_cases h : u = 0
  · subst h
    have : (0 : Zp) * 0 = 0 := by grind
    rw [this, sqrt_u0]
  · rw [sqrt_ok (zmul_ne prP h h) (z_one_ne prP)]
    have e : u * u * 1 = u * u := by grind
    rw [e, leg_sq]
    rcases legZ_cases u with ⟨h1, _⟩ | ⟨_, _, h1⟩ | ⟨_, _, h1⟩
    · exact absurd h1 h
    · rw [h1]; rfl
    · rw [h1]; rfl
theorem mul_leg_i64 (x y : Zp) : realBin .mul .i64 (legZ x) (legZ y) = legZ x * legZ y := by
  rcases legZ_range x with h | h | h <;> rcases legZ_range y with h' | h' | h' <;> rw [h, h'] <;> rfl
end Sx

/-
  The document's numbers modulo p: halving, the inverse by halving and taking away.
-/
namespace Sx
open Go Go.RowKit

theorem half_digit (n : Int) (i : Nat) : D16 (n / 2) i = (D16 n (i + 1) % 2 * 65536 + D16 n i) / 2 := by
  have hp : (0 : Int) < b16 ^ i := powB_pos b16_pos i
  unfold D16 dgt
  have e1 : n / 2 / b16 ^ i = n / b16 ^ i / 2 := by
    rw [Int.ediv_ediv_of_nonneg (by decide), Int.ediv_ediv_of_nonneg (Int.le_of_lt hp), Int.mul_comm]
  have e2 : n / b16 ^ (i + 1) = n / b16 ^ i / b16 := by rw [Int.pow_succ, Int.ediv_ediv_of_nonneg (Int.le_of_lt hp)]
  rw [e1, e2, show b16 = 65536 from rfl]
  generalize n / 65536 ^ i = m
  omega
theorem half_carry (c n : Int) (i : Nat) : (c * 65536 + D16 n i) % 2 = D16 n i % 2 := by
  generalize D16 n i = m
  omega
theorem D16_top {n : Int} (h0 : 0 ≤ n) (h1 : n < qP) : D16 n 16 = 0 := by
  unfold D16 dgt
  rw [pow16, Int.ediv_eq_zero_of_lt h0 h1]
  rfl
theorem D16_low (n : Int) : D16 n 0 % 2 = n % 2 := by
  unfold D16 dgt
  rw [Int.pow_zero, Int.ediv_one, show b16 = 65536 from rfl]
  omega
theorem D16_low8 (n : Int) : D16 n 0 % 8 = n % 8 := by
  unfold D16 dgt
  rw [Int.pow_zero, Int.ediv_one, show b16 = 65536 from rfl]
  omega
theorem D16_low4 (n : Int) : D16 n 0 % 4 = n % 4 := by
  unfold D16 dgt
  rw [Int.pow_zero, Int.ediv_one, show b16 = 65536 from rfl]
  omega

def halfZ (x : Zp) : Zp := x * zinv 2
def hm (n : Int) : Int := if n % 2 = 0 then n / 2 else (n + p25) / 2
theorem p25_odd : p25 % 2 = 1 := by decide
theorem p25_q : p25 + p25 < qP := by decide
theorem hm_range {n : Int} (h0 : 0 ≤ n) (h1 : n < p25) : 0 ≤ hm n ∧ hm n < p25 := by
  unfold hm
  split <;> omega
theorem hm_two (n : Int) : hm n + hm n = n ∨ hm n + hm n = n + p25 := by
  have := p25_odd
  unfold hm
  split
  · left; omega
  · right; omega
theorem zi_p25 : zi pN p25 = 0 := by rw [← p25_cast]; exact zi_self
theorem half_uniq {x y : Zp} (h : y + y = x) : y = halfZ x := by
  have e : y = (y + y) * zinv 2 := by
    have e1 : (y + y) * zinv 2 = y * (zinv 2 + zinv 2) := by grind
    rw [e1, zinv_two]
    grind
  unfold halfZ
  rw [← h]
  exact e
theorem zi_hm (n : Int) : zi pN (hm n) = halfZ (zi pN n) := by
  refine half_uniq ?_
  rw [← zi_add]
  rcases hm_two n with e | e <;> rw [e]
  rw [zi_add, zi_p25]
  grind
theorem nb_half (x : Zp) : nb (halfZ x) = D16 (hm x.val) := by
  have hx := zval_bounds x
  have h := hm_range hx.1 hx.2
  have e := zi_hm x.val
  rw [zi_of_val] at e
  rw [← e, nb_mod, Int.emod_eq_of_lt h.1 h.2]

/-! The inverse. -/
def Cop (u v : Int) : Prop := ∀ d : Int, d ∣ u → d ∣ v → d ∣ 1
theorem cop_p {x : Zp} (hx : x ≠ 0) : Cop (x.val : Int) p25 := by
  intro d h1 h2
  have g1 : d.natAbs ∣ x.val := by
    have := Int.natAbs_dvd_natAbs.2 h1
    rwa [Int.natAbs_natCast] at this
  have g2 : d.natAbs ∣ pN := by
    have := Int.natAbs_dvd_natAbs.2 h2
    rwa [← p25_cast, Int.natAbs_natCast] at this
  rcases prP.only _ g2 with e | e
  · exact Int.natAbs_dvd_natAbs.1 (by rw [e]; exact Nat.dvd_refl 1)
  · exfalso
    rw [e] at g1
    have hlt := x.isLt
    rcases Nat.eq_zero_or_pos x.val with h | h
    · exact hx (Fin.ext h)
    · have := Nat.le_of_dvd h g1
      omega
theorem Cop.symm {u v : Int} (h : Cop u v) : Cop v u := fun d h1 h2 => h d h2 h1
theorem Cop.half {u v : Int} (h : Cop u v) (he : u % 2 = 0) : Cop (u / 2) v := fun d h1 h2 => h d (by
  have e : u = u / 2 * 2 := by omega
  rw [e]
  exact Int.dvd_trans h1 (Int.dvd_mul_right ..)) h2
theorem Cop.less {u v : Int} (h : Cop u v) : Cop (u - v) v := fun d h1 h2 => h d (by
  have e : u = u - v + v := by omega
  rw [e]
  exact Int.dvd_add h1 h2) h2
theorem Cop.same {u : Int} (h : Cop u u) (h0 : 0 ≤ u) : u = 1 := by
  have h1 := h u (Int.dvd_refl u) (Int.dvd_refl u)
  have := Int.le_of_dvd (by decide) h1
  rcases (by omega : u = 0 ∨ u = 1) with e | e
  · subst e
    exact absurd (Int.zero_dvd.1 h1) (by decide)
  · exact e

structure InvS (A : Zp) (u v : Int) (x y : Zp) : Prop where
  hu : 0 < u
  hv : 0 < v
  hu2 : u ≤ p25
  hv2 : v ≤ p25
  cop : Cop u v
  ex : zi pN u = x * A
  ey : zi pN v = y * A
theorem invS_begin {A : Zp} (hA : A ≠ 0) : InvS A A.val p25 1 0 := by
  have h := zval_bounds A
  refine ⟨?_, by decide, Int.le_of_lt h.2, Int.le_refl _, cop_p hA, ?_, ?_⟩
  · rcases Nat.eq_zero_or_pos A.val with e | e
    · exact absurd (Fin.ext e) hA
    · omega
  · rw [zi_of_val]; grind
  · rw [zi_p25]; grind
theorem half_even {u : Int} (he : u % 2 = 0) : zi pN (u / 2) = halfZ (zi pN u) := by
  refine half_uniq ?_
  rw [← zi_add]
  congr 1
  omega
theorem half_mul (x A : Zp) : halfZ (x * A) = halfZ x * A := by
  unfold halfZ
  grind
theorem InvS.evenU {A : Zp} {u v : Int} {x y : Zp} (h : InvS A u v x y) (he : u % 2 = 0) : InvS A (u / 2) v (halfZ x) y :=
  ⟨by have := h.hu; omega, h.hv, by have := h.hu2; have := h.hu; omega, h.hv2, h.cop.half he, by rw [half_even he, h.ex, half_mul], h.ey⟩
theorem InvS.evenV {A : Zp} {u v : Int} {x y : Zp} (h : InvS A u v x y) (he : v % 2 = 0) : InvS A u (v / 2) x (halfZ y) :=
  ⟨h.hu, by have := h.hv; omega, h.hu2, by have := h.hv2; have := h.hv; omega, (h.cop.symm.half he).symm, h.ex, by rw [half_even he, h.ey, half_mul]⟩
theorem sub_mul_z (x y A : Zp) : y * A - x * A = (y - x) * A := by grind
theorem InvS.lessV {A : Zp} {u v : Int} {x y : Zp} (h : InvS A u v x y) (hl : u < v) : InvS A u (v - u) x (y - x) :=
  ⟨h.hu, by omega, h.hu2, by have := h.hv2; have := h.hu; omega, h.cop.symm.less.symm, h.ex, by rw [zi_sub, h.ex, h.ey, sub_mul_z]⟩
theorem InvS.lessU {A : Zp} {u v : Int} {x y : Zp} (h : InvS A u v x y) (hl : ¬ u < v) (h1 : u ≠ 1) : InvS A (u - v) v (x - y) y := by
  have hne : u ≠ v := by
    intro e
    have c := h.cop
    rw [← e] at c
    exact h1 (c.same (Int.le_of_lt h.hu))
  exact ⟨by omega, h.hv, by have := h.hu2; have := h.hv; omega, h.hv2, h.cop.less, by rw [zi_sub, h.ex, h.ey, sub_mul_z], h.ey⟩
theorem InvS.endU {A : Zp} {v : Int} {x y : Zp} (h : InvS A 1 v x y) : x = zinv A := by
  have e := h.ex
  rw [zi_one] at e
  exact zinv_uniq prP (by rw [Fin.mul_comm]; exact e.symm)
theorem InvS.endV {A : Zp} {u : Int} {x y : Zp} (h : InvS A u 1 x y) : y = zinv A := by
  have e := h.ey
  rw [zi_one] at e
  exact zinv_uniq prP (by rw [Fin.mul_comm]; exact e.symm)
end Sx

/-
  Jacobi's symbol by Gauss's lemma: products of signs, the law of reciprocity, and Euler's criterion for a prime.
-/
namespace Sx

def prodI : List Int → Int
  | [] => 1
  | a :: l => a * prodI l
theorem prodI_perm {l l' : List Int} (h : l.Perm l') : prodI l = prodI l' := by
  induction h with
  | nil => rfl
  | cons a _ ih => simp [prodI, ih]
  | swap a b l => simp only [prodI]; rw [Int.mul_left_comm]
  | trans _ _ h1 h2 => exact h1.trans h2
theorem prodI_append : ∀ (l l' : List Int), prodI (l ++ l') = prodI l * prodI l'
  | [], l' => by simp [prodI]
  | a :: l, l' => by simp only [List.cons_append, prodI, prodI_append l l', Int.mul_assoc]
theorem prodI_mul {α : Type} (f g : α → Int) : ∀ l : List α, prodI (l.map fun i => f i * g i) = prodI (l.map f) * prodI (l.map g)
  | [] => rfl
  | a :: l => by
    simp only [List.map_cons, prodI, prodI_mul f g l]
    grind
theorem prodI_congr {α : Type} {f g : α → Int} : ∀ {l : List α}, (∀ i ∈ l, f i = g i) → prodI (l.map f) = prodI (l.map g)
  | [], _ => rfl
  | a :: l, h => by
    simp only [List.map_cons, prodI]
    rw [h a (by simp), prodI_congr fun i hi => h i (by simp [hi])]
theorem prodI_one {α : Type} {f : α → Int} : ∀ {l : List α}, (∀ i ∈ l, f i = 1) → prodI (l.map f) = 1
  | [], _ => rfl
  | a :: l, h => by
    simp only [List.map_cons, prodI]
    rw [h a (by simp), prodI_one fun i hi => h i (by simp [hi])]
    rfl
theorem prodI_swap {α β : Type} (f : α → β → Int) (l' : List β) : ∀ l : List α, prodI (l.map fun i => prodI (l'.map fun j => f i j)) = prodI (l'.map fun j => prodI (l.map fun i => f i j))
  | [] => by
    simp only [List.map_nil, prodI]
    exact (prodI_one fun _ _ => rfl).symm
  | a :: l => by
    simp only [List.map_cons, prodI]
    rw [prodI_swap f l' l, prodI_mul]

/-- -1 to the power k. -/
def par (k : Nat) : Int := if k % 2 = 0 then 1 else -1
theorem par_add (a b : Nat) : par (a + b) = par a * par b := by
  unfold par
  split <;> split <;> split <;> omega
theorem par_sq (a : Nat) : par a * par a = 1 := by
  unfold par
  split <;> rfl
theorem par_mul_odd {m : Nat} (hm : m % 2 = 1) (a : Nat) : par (m * a) = par a := by
  unfold par
  have : m * a % 2 = a % 2 := by rw [Nat.mul_mod, hm, Nat.one_mul, Nat.mod_mod]
  rw [this]
theorem par_cases (a : Nat) : par a = 1 ∨ par a = -1 := by
  unfold par
  split <;> simp
theorem prodI_par {α : Type} (f : α → Nat) : ∀ l : List α, prodI (l.map fun i => par (f i)) * prodI (l.map fun i => par (f i)) = 1
  | [] => rfl
  | a :: l => by
    simp only [List.map_cons, prodI]
    have h1 := par_sq (f a)
    have h2 := prodI_par f l
    grind

theorem upTo_succ (n : Nat) : upTo (n + 1) = upTo n ++ [n + 1] := by
  unfold upTo
  rw [List.range'_concat]
  congr 2
  omega

/-- The signs up to q are -1. -/
theorem prodI_step : ∀ (K q : Nat), q ≤ K → prodI ((upTo K).map fun j => if j ≤ q then -1 else 1) = par q
  | 0, q, h => by
    have : q = 0 := by omega
    subst this; rfl
  | K + 1, q, h => by
    rw [upTo_succ, List.map_append, prodI_append]
    by_cases hq : q ≤ K
    · rw [prodI_step K q hq]
      simp only [List.map_cons, List.map_nil, prodI]
      rw [if_neg (by omega)]
      omega
    · have e : q = K + 1 := by omega
      subst e
      have h1 : prodI ((upTo K).map fun j => if j ≤ K + 1 then (-1 : Int) else 1) = par K := by
        rw [← prodI_step K K (Nat.le_refl K)]
        apply prodI_congr
        intro i hi
        rw [mem_upTo] at hi
        rw [if_pos (by omega), if_pos (by omega)]
      rw [h1]
      simp only [List.map_cons, List.map_nil, prodI]
      rw [if_pos (Nat.le_refl _), par_add]
      rfl
theorem prodI_const : ∀ K : Nat, prodI ((upTo K).map fun _ => (-1 : Int)) = par K := fun K => by
  rw [← prodI_step K K (Nat.le_refl K)]
  apply prodI_congr
  intro i hi
  rw [mem_upTo] at hi
  rw [if_pos (by omega)]

/-- On which side of 0 a number lies modulo n, and how far. -/
def sgn (n x : Nat) : Int := if n < 2 * (x % n) then -1 else 1
def tt (n x : Nat) : Nat := if n < 2 * (x % n) then n - x % n else x % n

/-- Jacobi's symbol. -/
def jac (n a : Nat) : Int := prodI ((upTo (n / 2)).map fun i => sgn n (a * i))

theorem sgn_sq (n x : Nat) : sgn n x * sgn n x = 1 := by
  unfold sgn
  split <;> rfl
theorem sgn_mod (n x : Nat) : sgn n (x % n) = sgn n x := by unfold sgn; rw [Nat.mod_mod]
theorem jac_sq (n a : Nat) : jac n a * jac n a = 1 := by
  unfold jac
  rw [← prodI_mul]
  exact prodI_one fun i _ => sgn_sq _ _
theorem jac_cases (n a : Nat) : jac n a = 1 ∨ jac n a = -1 := by
  have h := jac_sq n a
  have h1 : (jac n a - 1) * (jac n a + 1) = 0 := by grind
  rcases Int.mul_eq_zero.1 h1 with h2 | h2 <;> omega
theorem jac_add (n a : Nat) : jac n (a + n) = jac n a := by
  unfold jac
  apply prodI_congr
  intro i _
  have : (a + n) * i % n = a * i % n := by rw [Nat.add_mul, Nat.add_mul_mod_self_left]
  unfold sgn
  rw [this]
theorem jac_one (a : Nat) : jac 1 a = 1 := rfl

section
variable {n : Nat} (hn : n % 2 = 1)
include hn

/-- Coprime: no multiple below n is a multiple of n. -/
theorem cop_ne {a i : Nat} (ha : Nat.gcd n a = 1) (hi : 0 < i) (hi2 : i < n) : a * i % n ≠ 0 := fun h => by
  have h1 := Nat.Coprime.dvd_of_dvd_mul_left ha (Nat.dvd_of_mod_eq_zero h)
  have := Nat.le_of_dvd hi h1
  omega

theorem tt_mem {x : Nat} (h : x % n ≠ 0) : tt n x ∈ upTo (n / 2) := by
  have h1 := Nat.mod_lt x (show 0 < n by omega)
  rw [mem_upTo]
  unfold tt
  split <;> omega

theorem tt_inj {a i j : Nat} (ha : Nat.gcd n a = 1) (hi : i ∈ upTo (n / 2)) (hj : j ∈ upTo (n / 2)) (h : tt n (a * i) = tt n (a * j)) : i = j := by
  rw [mem_upTo] at hi hj
  have h1 := Nat.mod_lt (a * i) (show 0 < n by omega)
  have h2 := Nat.mod_lt (a * j) (show 0 < n by omega)
  have key : a * i % n = a * j % n ∨ a * i % n + a * j % n = n := by
    unfold tt at h
    split at h <;> split at h <;> omega
  rcases key with e | e
  · exact mul_mod_inj ha (by omega) (by omega) e
  · exfalso
    have e2 : a * (i + j) % n = 0 := by
      rw [Nat.mul_add, Nat.add_mod, e, Nat.mod_self]
    exact cop_ne hn ha (by omega) (by omega) e2

theorem tt_perm {a : Nat} (ha : Nat.gcd n a = 1) : ((upTo (n / 2)).map fun i => tt n (a * i)).Perm (upTo (n / 2)) :=
  perm_map (nodup_upTo _) (fun _ hi _ hj h => tt_inj hn ha hi hj h) (fun i hi => by
    have h := mem_upTo.1 hi
    exact tt_mem hn (cop_ne hn ha (by omega) (by omega)))

theorem sgn_tt {a x : Nat} (h : a * x % n ≠ 0) : sgn n (a * x) = sgn n x * sgn n (a * tt n x) := by
  have h1 := Nat.mod_lt x (show 0 < n by omega)
  have h2 := Nat.mod_lt (a * x) (show 0 < n by omega)
  by_cases hc : n < 2 * (x % n)
  · have e1 : tt n x = n - x % n := if_pos hc
    have e2 : sgn n x = -1 := if_pos hc
    have e3 : a * (n - x % n) % n = n - a * x % n := by
      have h3 : a * (n - x % n) + a * (x % n) = n * a := by rw [← Nat.mul_add, Nat.sub_add_cancel (by omega), Nat.mul_comm]
      have h4 : a * (x % n) % n = a * x % n := by rw [Nat.mul_mod, Nat.mod_mod, ← Nat.mul_mod]
      have h5 : (a * (n - x % n) % n + a * x % n) % n = 0 := by
        rw [← h4, ← Nat.add_mod, h3, Nat.mul_mod_right]
      have h6 := Nat.mod_lt (a * (n - x % n)) (show 0 < n by omega)
      have h7 : a * (n - x % n) % n + a * x % n = n := by
        rcases Nat.lt_or_ge (a * (n - x % n) % n + a * x % n) n with h8 | h8
        · rw [Nat.mod_eq_of_lt h8] at h5; omega
        · rw [Nat.mod_eq_sub_mod h8, Nat.mod_eq_of_lt (by omega)] at h5; omega
      omega
    rw [e1, e2]
    unfold sgn
    rw [e3]
    split <;> split <;> omega
  · have e1 : tt n x = x % n := if_neg hc
    have e2 : sgn n x = 1 := if_neg hc
    rw [e1, e2]
    have h4 : a * (x % n) % n = a * x % n := by rw [Nat.mul_mod, Nat.mod_mod, ← Nat.mul_mod]
    unfold sgn
    rw [h4]
    omega

theorem jac_mul {a b : Nat} (ha : Nat.gcd n a = 1) (hb : Nat.gcd n b = 1) : jac n (a * b) = jac n a * jac n b := by
  have h1 : jac n (a * b) = prodI ((upTo (n / 2)).map fun i => sgn n (b * i) * sgn n (a * tt n (b * i))) := by
    apply prodI_congr
    intro i hi
    have h := mem_upTo.1 hi
    rw [Nat.mul_assoc]
    refine sgn_tt hn ?_
    rw [← Nat.mul_assoc]
    exact cop_ne hn (Nat.Coprime.mul_right ha hb) (by omega) (by omega)
  rw [h1, prodI_mul, Int.mul_comm]
  congr 1
  have h2 : ((upTo (n / 2)).map fun i => sgn n (a * tt n (b * i))) = ((upTo (n / 2)).map fun i => tt n (b * i)).map fun j => sgn n (a * j) := by rw [List.map_map]; rfl
  rw [h2]
  exact prodI_perm ((tt_perm hn hb).map _)

theorem jac_two : jac n 2 = if n % 8 = 3 ∨ n % 8 = 5 then -1 else 1 := by
  have h1 : jac n 2 = prodI ((upTo (n / 2)).map fun i => -1 * (if i ≤ n / 4 then -1 else 1)) := by
    apply prodI_congr
    intro i hi
    have h := mem_upTo.1 hi
    unfold sgn
    rw [Nat.mod_eq_of_lt (show 2 * i < n by omega)]
    split <;> split <;> omega
  rw [h1, prodI_mul, prodI_const, prodI_step _ _ (by omega)]
  unfold par
  split <;> split <;> split <;> omega

theorem jac_floor {m : Nat} (hm : m % 2 = 1) (hc : Nat.gcd n m = 1) : jac n m = prodI ((upTo (n / 2)).map fun i => par (m * i / n)) := by
  have h1 : prodI ((upTo (n / 2)).map fun i => par i) = prodI ((upTo (n / 2)).map fun i => par (m * i / n)) * (jac n m * prodI ((upTo (n / 2)).map fun i => par (tt n (m * i)))) := by
    unfold jac
    rw [← prodI_mul, ← prodI_mul]
    apply prodI_congr
    intro i hi
    have h := mem_upTo.1 hi
    have h2 := Nat.mod_lt (m * i) (show 0 < n by omega)
    have h3 : par i = par (m * i / n) * par (m * i % n) := by
      rw [← par_mul_odd hm i, ← Nat.div_add_mod (m * i) n, par_add, par_mul_odd hn, Nat.div_add_mod]
    rw [h3]
    congr 1
    unfold sgn tt
    split
    · rename_i hh
      unfold par
      split <;> split <;> omega
    · omega
  have h2 : prodI ((upTo (n / 2)).map fun i => par (tt n (m * i))) = prodI ((upTo (n / 2)).map fun i => par i) := by
    have h3 : ((upTo (n / 2)).map fun i => par (tt n (m * i))) = ((upTo (n / 2)).map fun i => tt n (m * i)).map par := by rw [List.map_map]; rfl
    rw [h3]
    exact prodI_perm ((tt_perm hn hc).map _)
  rw [h2] at h1
  have h4 := prodI_par (fun i => i) (upTo (n / 2))
  have h5 := prodI_par (fun i => m * i / n) (upTo (n / 2))
  have h6 := jac_sq n m
  generalize prodI ((upTo (n / 2)).map fun i => par i) = x at *
  generalize prodI ((upTo (n / 2)).map fun i => par (m * i / n)) = y at *
  generalize jac n m = z at *
  have h7 : y * z = 1 := by
    have : x * x = y * z * (x * x) := by grind
    rw [h4] at this
    omega
  grind

theorem jac_rec {m : Nat} (hm : m % 2 = 1) (hc : Nat.gcd n m = 1) : jac n m = (if n % 4 = 3 ∧ m % 4 = 3 then -1 else 1) * jac m n := by
  have hc' : Nat.gcd m n = 1 := by rw [Nat.gcd_comm]; exact hc
  have e1 : jac n m = prodI ((upTo (n / 2)).map fun i => prodI ((upTo (m / 2)).map fun j => if n * j ≤ m * i then -1 else 1)) := by
    rw [jac_floor hn hm hc]
    apply prodI_congr
    intro i hi
    have h := mem_upTo.1 hi
    have hq : m * i / n ≤ m / 2 := by
      apply Nat.le_of_lt_succ
      rw [Nat.div_lt_iff_lt_mul (by omega)]
      have h1 : m * i ≤ m * (n / 2) := Nat.mul_le_mul_left m h.2
      have h2 : 2 * (m * (n / 2)) ≤ m * n := by
        rw [Nat.mul_left_comm]
        exact Nat.mul_le_mul_left m (by omega)
      have h3 : (m / 2 + 1) * 2 = m + 1 := by omega
      have h4 : (m / 2 + 1) * n * 2 = (m + 1) * n := by rw [Nat.mul_assoc, Nat.mul_comm n 2, ← Nat.mul_assoc, h3]
      have h5 : (m + 1) * n = m * n + n := by rw [Nat.add_mul, Nat.one_mul]
      show m * i < (m / 2 + 1) * n
      omega
    rw [← prodI_step _ _ hq]
    apply prodI_congr
    intro j _
    have : j ≤ m * i / n ↔ n * j ≤ m * i := by rw [Nat.le_div_iff_mul_le (by omega), Nat.mul_comm]
    simp only [this]
  have e2 : jac m n = prodI ((upTo (m / 2)).map fun j => prodI ((upTo (n / 2)).map fun i => if m * i ≤ n * j then -1 else 1)) := by
    rw [jac_floor hm hn hc']
    apply prodI_congr
    intro i hi
    have h := mem_upTo.1 hi
    have hq : n * i / m ≤ n / 2 := by
      apply Nat.le_of_lt_succ
      rw [Nat.div_lt_iff_lt_mul (by omega)]
      have h1 : n * i ≤ n * (m / 2) := Nat.mul_le_mul_left n h.2
      have h2 : 2 * (n * (m / 2)) ≤ n * m := by
        rw [Nat.mul_left_comm]
        exact Nat.mul_le_mul_left n (by omega)
      have h3 : (n / 2 + 1) * 2 = n + 1 := by omega
      have h4 : (n / 2 + 1) * m * 2 = (n + 1) * m := by rw [Nat.mul_assoc, Nat.mul_comm m 2, ← Nat.mul_assoc, h3]
      have h5 : (n + 1) * m = n * m + m := by rw [Nat.add_mul, Nat.one_mul]
      show n * i < (n / 2 + 1) * m
      omega
    rw [← prodI_step _ _ hq]
    apply prodI_congr
    intro j _
    have : j ≤ n * i / m ↔ m * j ≤ n * i := by rw [Nat.le_div_iff_mul_le (by omega), Nat.mul_comm]
    simp only [this]
  have e3 : jac n m * jac m n = par (m / 2 * (n / 2)) := by
    rw [e1, e2, prodI_swap (fun j i => if m * i ≤ n * j then (-1 : Int) else 1), ← prodI_mul]
    have h1 : prodI ((upTo (n / 2)).map fun i => prodI ((upTo (m / 2)).map fun j => if n * j ≤ m * i then (-1 : Int) else 1) * prodI ((upTo (m / 2)).map fun j => if m * i ≤ n * j then (-1 : Int) else 1)) = prodI ((upTo (n / 2)).map fun _ => par (m / 2)) := by
      apply prodI_congr
      intro i hi
      have hi' := mem_upTo.1 hi
      rw [← prodI_mul, ← prodI_const]
      apply prodI_congr
      intro j hj
      have hj' := mem_upTo.1 hj
      have hne : n * j ≠ m * i := fun e => by
        have h2 : n ∣ m * i := ⟨j, e.symm⟩
        have h3 := Nat.Coprime.dvd_of_dvd_mul_left hc h2
        have := Nat.le_of_dvd (by omega) h3
        omega
      split <;> split <;> omega
    rw [h1]
    have h2 : ∀ K : Nat, prodI ((upTo K).map fun _ => par (m / 2)) = par (m / 2 * K) := by
      intro K
      induction K with
      | zero => rfl
      | succ K ih =>
        rw [upTo_succ, List.map_append, prodI_append, ih, Nat.mul_succ, par_add]
        simp [prodI]
    exact h2 _
  have e4 := jac_sq m n
  have e5 : par (m / 2 * (n / 2)) = if n % 4 = 3 ∧ m % 4 = 3 then -1 else 1 := by
    unfold par
    rw [Nat.mul_mod]
    have a1 : m / 2 % 2 = if m % 4 = 3 then 1 else 0 := by split <;> omega
    have a2 : n / 2 % 2 = if n % 4 = 3 then 1 else 0 := by split <;> omega
    rw [a1, a2]
    by_cases b1 : m % 4 = 3 <;> by_cases b2 : n % 4 = 3 <;> simp [b1, b2]
  rw [← e5, ← e3, Int.mul_assoc, e4, Int.mul_one]
end

/-- Gauss's lemma: for a prime Jacobi's symbol is the power to (p - 1)/2. -/
theorem gauss {p : Nat} [NeZero p] (hp : Pr p) (hodd : p % 2 = 1) {a : Nat} (ha : Nat.gcd p a = 1) : zp (zi p (a : Int)) (p / 2) = zi p (jac p a) := by
  have hzi : ∀ (f g : Nat → Int) (l : List Nat), (∀ i ∈ l, zi p (f i) = zi p (g i)) → zi p (prodI (l.map f)) = zi p (prodI (l.map g)) := by
    intro f g l
    induction l with
    | nil => intro _; rfl
    | cons b l ih =>
      intro h
      simp only [List.map_cons, prodI]
      rw [zi_mul, zi_mul, h b (by simp), ih fun i hi => h i (by simp [hi])]
  have h1 : zi p (prodI ((upTo (p / 2)).map fun i : Nat => (a : Int) * (i : Int))) = zi p (prodI ((upTo (p / 2)).map fun i => sgn p (a * i) * ((tt p (a * i) : Nat) : Int))) := by
    apply hzi
    intro i hi
    have hlt := Nat.mod_lt (a * i) (show 0 < p by omega)
    have e1 : zi p ((a : Int) * (i : Int)) = zi p (((a * i % p : Nat) : Int)) := by
      rw [zi_eq]
      simp
    rw [e1]
    unfold sgn tt
    split
    · have e2 : (-1 : Int) * ((p - a * i % p : Nat) : Int) = ((a * i % p : Nat) : Int) - (p : Int) := by omega
      rw [e2, zi_sub, zi_self]
      grind
    · rw [Int.one_mul]
  rw [prodI_mul (fun i => sgn p (a * i))] at h1
  have h2 : prodI ((upTo (p / 2)).map fun i => ((tt p (a * i) : Nat) : Int)) = prodI ((upTo (p / 2)).map fun i : Nat => (i : Int)) := by
    have h3 : ((upTo (p / 2)).map fun i => ((tt p (a * i) : Nat) : Int)) = ((upTo (p / 2)).map fun i => tt p (a * i)).map fun j : Nat => (j : Int) := by rw [List.map_map]; rfl
    rw [h3]
    exact prodI_perm ((tt_perm hodd ha).map _)
  have h4 : ∀ l : List Nat, zi p (prodI (l.map fun i : Nat => (a : Int) * (i : Int))) = zp (zi p (a : Int)) l.length * zi p (prodI (l.map fun i : Nat => (i : Int))) := by
    intro l
    induction l with
    | nil => simp only [List.map_nil, prodI, List.length_nil, zp_zero, zi_one]; grind
    | cons b l ih =>
      simp only [List.map_cons, prodI, List.length_cons, zp_succ]
      rw [zi_mul, zi_mul, zi_mul, ih]
      grind
  rw [h4, h2, zi_mul] at h1
  have hlen : (upTo (p / 2)).length = p / 2 := by simp [upTo]
  rw [hlen] at h1
  have h5 : zi p (prodI ((upTo (p / 2)).map fun i : Nat => (i : Int))) ≠ 0 := by
    have key : ∀ l : List Nat, (∀ i ∈ l, 0 < i ∧ i < p) → zi p (prodI (l.map fun i : Nat => (i : Int))) ≠ 0 := by
      intro l
      induction l with
      | nil => intro _; simp only [List.map_nil, prodI, zi_one]; exact z_one_ne hp
      | cons b l ih =>
        intro h
        simp only [List.map_cons, prodI]
        rw [zi_mul]
        refine zmul_ne hp (fun e => ?_) (ih fun i hi => h i (by simp [hi]))
        have hb := h b (by simp)
        rw [← zi_zero, zi_eq] at e
        rw [Int.emod_eq_of_lt (by omega) (by omega)] at e
        simp at e
        omega
    apply key
    intro i hi
    have := mem_upTo.1 hi
    have := hp.two
    omega
  generalize zi p (prodI ((upTo (p / 2)).map fun i : Nat => (i : Int))) = Q at *
  exact zcancel hp h5 (by unfold jac; grind)
end Sx

/-
  Legendre's symbol by the law of reciprocity, with numbers that are taken from one another.
-/
namespace Sx
open Go Go.RowKit

structure SymS (A : Zp) (x n : Nat) (s : Int) : Prop where
  odd : n % 2 = 1
  hx : x ≤ pN
  hn : n ≤ pN
  sg : s = 1 ∨ s = -1
  h : (A = 0 ∧ x = 0 ∧ n = pN) ∨ (A ≠ 0 ∧ Nat.gcd n x = 1 ∧ s * jac n x = legZ A)
theorem pN_odd : pN % 2 = 1 := by decide
theorem pN_half : pN / 2 = halfN := by decide
theorem jac_leg {A : Zp} (hA : A ≠ 0) : Nat.gcd pN A.val = 1 ∧ jac pN A.val = legZ A := by
  have hg : Nat.gcd pN A.val = 1 := by
    refine prP.cop fun hd => ?_
    have hlt := A.isLt
    rcases Nat.eq_zero_or_pos A.val with h | h
    · exact hA (Fin.ext h)
    · have := Nat.le_of_dvd h hd
      omega
  refine ⟨hg, ?_⟩
  have g := gauss prP pN_odd hg
  rw [zi_of_val, pN_half] at g
  rcases jac_cases pN A.val with e | e
  · rw [e] at g ⊢
    rw [zi_one] at g
    exact (legZ_one.2 g).symm
  · rw [e] at g ⊢
    rw [zi_neg, zi_one] at g
    exact (legZ_neg.2 g).symm
theorem symS_begin (A : Zp) : SymS A A.val pN 1 := by
  refine ⟨pN_odd, Nat.le_of_lt A.isLt, Nat.le_refl _, .inl rfl, ?_⟩
  by_cases hA : A = 0
  · exact .inl ⟨hA, by rw [hA]; rfl, rfl⟩
  · have h := jac_leg hA
    exact .inr ⟨hA, h.1, by rw [h.2, Int.one_mul]⟩
def flipIf (b : Bool) (s : Int) : Int := if b then -s else s
theorem flip_sg {b : Bool} {s : Int} (h : s = 1 ∨ s = -1) : flipIf b s = 1 ∨ flipIf b s = -1 := by
  unfold flipIf
  split <;> omega
theorem flip_mul (b : Bool) (s j : Int) : flipIf b s * j = s * ((if b then -1 else 1) * j) := by
  unfold flipIf
  split
  · rw [Int.neg_mul, Int.neg_mul, Int.one_mul, Int.mul_neg]
  · rw [Int.one_mul]
theorem SymS.even {A : Zp} {x n : Nat} {s : Int} (h : SymS A x n s) (h0 : 0 < x) (he : x % 2 = 0) : SymS A (x / 2) n (flipIf (decide (n % 8 = 3 ∨ n % 8 = 5)) s) := by
  refine ⟨h.odd, by have := h.hx; omega, h.hn, flip_sg h.sg, ?_⟩
  rcases h.h with ⟨_, e, _⟩ | ⟨hA, hg, hj⟩
  · omega
  · have hx2 : x = 2 * (x / 2) := by omega
    have g2 : Nat.gcd n 2 = 1 := by
      rw [Nat.gcd_comm]
      have := h.odd
      rw [Nat.gcd_rec, this]
      rfl
    have g1 : Nat.gcd n (x / 2) = 1 := Nat.Coprime.coprime_dvd_right ⟨2, by omega⟩ hg
    refine .inr ⟨hA, g1, ?_⟩
    rw [flip_mul, ← hj]
    congr 1
    have e : jac n x = jac n 2 * jac n (x / 2) := by
      rw [← jac_mul h.odd g2 g1, ← hx2]
    rw [e, jac_two h.odd]
    simp only [decide_eq_true_eq]
theorem SymS.swap {A : Zp} {x n : Nat} {s : Int} (h : SymS A x n s) (h0 : 0 < x) (ho : x % 2 = 1) : SymS A n x (flipIf (decide (n % 4 = 3 ∧ x % 4 = 3)) s) := by
  refine ⟨ho, h.hn, h.hx, flip_sg h.sg, ?_⟩
  rcases h.h with ⟨_, e, _⟩ | ⟨hA, hg, hj⟩
  · omega
  · refine .inr ⟨hA, by rw [Nat.gcd_comm]; exact hg, ?_⟩
    rw [flip_mul, ← hj, jac_rec h.odd ho hg]
    simp only [decide_eq_true_eq]
theorem SymS.less {A : Zp} {x n : Nat} {s : Int} (h : SymS A x n s) (_h0 : 0 < x) (hl : n ≤ x) : SymS A (x - n) n s := by
  refine ⟨h.odd, by have := h.hx; omega, h.hn, h.sg, ?_⟩
  rcases h.h with ⟨_, e, _⟩ | ⟨hA, hg, hj⟩
  · omega
  · have e : x = x - n + n := by omega
    refine .inr ⟨hA, ?_, ?_⟩
    · rw [e, Nat.gcd_add_self_right] at hg
      exact hg
    · rw [e, jac_add] at hj
      exact hj
theorem SymS.ends {A : Zp} {n : Nat} {s : Int} (h : SymS A 0 n s) : (n = 1 → s = legZ A) ∧ (n ≠ 1 → 0 = legZ A) := by
  rcases h.h with ⟨hA, _, e⟩ | ⟨hA, hg, hj⟩
  · refine ⟨fun h1 => ?_, fun _ => (legZ_zero.2 hA).symm⟩
    rw [e] at h1
    exact absurd h1 (by decide)
  · rw [Nat.gcd_zero_right] at hg
    subst hg
    rw [jac_one, Int.mul_one] at hj
    exact ⟨fun _ => hj, fun h1 => absurd rfl h1⟩
end Sx

/-
  A root by a power to (p + 3)/8 and the root of -1.
-/
namespace Sx
open Go Go.RowKit

def rE : Nat := 7237005577332262213973186563042994240829374041602535252466099000494570602494
def iE : Nat := 14474011154664524427946373126085988481658748083205070504932198000989141204987
theorem rE_two : 2 * rE = 1 + iE := by decide
theorem iE_two : 2 * iE = halfN := by decide
def rootW (q : Zp) : Zp := if zp q rE * zp q rE = q then zp q rE else zp q rE * zp 2 iE
def rootZ (q : Zp) : Zp := evZ (rootW q)
theorem iE_sq : zp (2 : Zp) iE * zp 2 iE = -1 := by
  rw [← zp_sq, iE_two]
  exact leg_two
theorem root_neg (w i q : Zp) (h : w * w = q * -1) (hi : i * i = -1) : w * i * (w * i) = q := by
  have e : w * i * (w * i) = w * w * (i * i) := by grind
  rw [e, h, hi]
  grind
theorem rootW_sq {q : Zp} (h : zp q halfN = 1) : rootW q * rootW q = q := by
  unfold rootW
  have h1 : zp q rE * zp q rE = q * zp q iE := by rw [← zp_sq, rE_two, zp_add, zp_one]
  have h2 : zp q iE * zp q iE = 1 := by rw [← zp_sq, iE_two]; exact h
  split
  · rename_i e
    exact e
  · rename_i e
    rcases zsq_one prP h2 with c | c
    · rw [c] at h1
      exact absurd (by rw [h1]; grind) e
    · rw [c] at h1
      exact root_neg _ _ _ h1 iE_sq
theorem evZ_neg (r : Zp) : evZ (-r) = evZ r := by
  by_cases h0 : r = 0
  · subst h0
    have : (-0 : Zp) = 0 := by grind
    rw [this]
  · have h : (-r : Zp).val = pN - r.val := zneg_val h0
    have hlt := r.isLt
    have ho : pN % 2 = 1 := by decide
    have hn : - -r = r := by grind
    unfold evZ
    rw [h, hn]
    by_cases e : r.val % 2 = 1
    · rw [if_pos e, if_neg (by omega)]
    · rw [if_neg e, if_pos (by omega)]
theorem leg_unit {v : Zp} (hv : v ≠ 0) : legZ v * legZ v = 1 := by
  rcases legZ_cases v with ⟨h, _⟩ | ⟨_, _, h⟩ | ⟨_, _, h⟩
  · exact absurd h hv
  · rw [h]; rfl
  · rw [h]; rfl
theorem ratio_leg (u : Zp) {v : Zp} (hv : v ≠ 0) : legZ (u * zinv v) = legZ (u * v) := by
  have h1 : v * zinv v = 1 := mul_zinv prP hv
  have e : u * v = u * zinv v * (v * v) := by
    have e1 : u * zinv v * (v * v) = u * v * (v * zinv v) := by grind
    rw [e1, h1]
    grind
  rw [e, leg_mul (u * zinv v), leg_sq, leg_unit hv, Int.mul_one]
theorem ratio_q {u v r : Zp} (hv : v ≠ 0) (h : v * r * r = u) : r * r = u * zinv v := by
  have h1 : v * zinv v = 1 := mul_zinv prP hv
  have e : u * zinv v = r * r * (v * zinv v) := by rw [← h]; grind
  rw [e, h1]
  grind
theorem ratio_yes {u v : Zp} (hu : u ≠ 0) (hv : v ≠ 0) (h : legZ (u * zinv v) = 1) : sqrtZ u v = (rootZ (u * zinv v), true) := by
  have h1 : zp (u * v) halfN = 1 := by rw [ratio_leg u hv] at h; exact legZ_one.1 h
  obtain ⟨r, e1, e2⟩ := sqrt_some hu hv h1
  rw [e1]
  have e3 := ratio_q hv e2
  have e4 := rootW_sq (legZ_one.1 h)
  unfold rootZ
  rcases zsq_eq prP (e3.trans e4.symm) with e | e
  · rw [e]
  · rw [e, evZ_neg]
theorem ratio_no {u v : Zp} (hu : u ≠ 0) (hv : v ≠ 0) (h : legZ (u * zinv v) ≠ 1) : sqrtZ u v = (0, false) := by
  refine sqrt_no hu hv fun e => h ?_
  rw [ratio_leg u hv]
  exact legZ_one.2 e
end Sx

/-
  The document's numbers modulo p: columns and their folding, as the loops run.
-/
namespace Sx
open Go Go.RowKit

theorem carB_bound {B : Int} (hB : 0 < B) {x : Nat → Int} {c X C : Int} {n : Nat} (h0 : 0 ≤ c ∧ c ≤ C) (hx : ∀ j, j < n → 0 ≤ x j ∧ x j ≤ X) (hC : X + C < (C + 1) * B) : ∀ i, i ≤ n → 0 ≤ carB B x c i ∧ carB B x c i ≤ C := by
  intro i
  induction i with
  | zero => intro _; rw [carB_zero]; exact h0
  | succ i ih =>
    intro hi
    have h1 := ih (by omega)
    have h2 := hx i (by omega)
    rw [carB_succ hB]
    have h3 : (x i + carB B x c i) / B < C + 1 := Int.ediv_lt_of_lt_mul hB (by omega)
    exact ⟨Int.ediv_nonneg (by omega) (Int.le_of_lt hB), by omega⟩

/-! The first loop: 32 columns become 32 digits. -/
def W32 (w : Nat → Int) : Int := sumB b16 32 w
structure Cols (w : Nat → Int) : Prop where
  r : ∀ i, i < 32 → 0 ≤ w i ∧ w i ≤ 137438953472
  s : W32 w < b16 ^ 32
def colA (w : Nat → Int) (i : Nat) : Nat → Int := fun j => if j < i then dgt b16 (W32 w) j else w j
def colC (w : Nat → Int) (i : Nat) : Int := carB b16 w 0 i
theorem colA_zero (w : Nat → Int) (j : Nat) : colA w 0 j = w j := if_neg (Nat.not_lt_zero j)
theorem colC_zero (w : Nat → Int) : colC w 0 = 0 := carB_zero ..
theorem colA_at (w : Nat → Int) (i : Nat) : colA w i i = w i := if_neg (Nat.lt_irrefl i)
theorem col_range {w : Nat → Int} (h : Cols w) {i : Nat} (hi : i ≤ 32) : 0 ≤ colC w i ∧ colC w i ≤ 4194304 :=
  carB_bound b16_pos (X := 137438953472) (by omega) h.r (by simp only [b16]; omega) i hi
theorem col_step {w : Nat → Int} {i : Nat} (hi : i < 32) : (w i + colC w i) % 65536 = dgt b16 (W32 w) i ∧ (w i + colC w i) / 65536 = colC w (i + 1) := by
  constructor
  · have := dgt_car b16_pos w 0 hi
    rw [Int.add_zero] at this
    exact this.symm
  · exact (carB_succ b16_pos w 0 i).symm
theorem col_upd (w : Nat → Int) (i k : Nat) : (if k = i then dgt b16 (W32 w) i else colA w i k) = colA w (i + 1) k := by
  unfold colA
  by_cases h : k = i
  · subst h
    rw [if_pos rfl, if_pos (by omega)]
  · rw [if_neg h]
    by_cases h2 : k < i
    · rw [if_pos h2, if_pos (by omega)]
    · rw [if_neg h2, if_neg (by omega)]

/-! The upper half is folded down. -/
def fold0 (w : Nat → Int) : Nat → Int := fun i => dgt b16 (W32 w) i + 38 * dgt b16 (W32 w) (i + 16)
def foldT (w : Nat → Int) : Int := sumB b16 16 (fold0 w)
theorem W32_nonneg {w : Nat → Int} (h : Cols w) : 0 ≤ W32 w := by
  have g : ∀ n, n ≤ 32 → 0 ≤ sumB b16 n w := by
    intro n
    induction n with
    | zero => intro _; exact Int.le_refl 0
    | succ n ih =>
      intro hn
      have h1 := ih (by omega)
      have h2 := Int.mul_nonneg (Int.le_of_lt (powB_pos b16_pos n)) (h.r n (by omega)).1
      show 0 ≤ sumB b16 n w + b16 ^ n * w n
      omega
  exact g 32 (Nat.le_refl _)
theorem foldT_mod {w : Nat → Int} (h : Cols w) : foldT w % p25 = W32 w % p25 := by
  have e := fold_mod (w := dgt b16 (W32 w))
  rw [sumB_dgt_lt b16_pos (W32_nonneg h) h.s] at e
  exact e
theorem dig16 (n : Int) (i : Nat) : 0 ≤ dgt b16 n i ∧ dgt b16 n i ≤ 65535 := by
  have h := D16_range n i
  unfold D16 at h
  omega
theorem fold0_range (w : Nat → Int) (i : Nat) : 0 ≤ fold0 w i ∧ fold0 w i ≤ 2555865 := by
  have h1 := dig16 (W32 w) i
  have h2 := dig16 (W32 w) (i + 16)
  unfold fold0
  omega
theorem foldT_range (w : Nat → Int) : 0 ≤ foldT w ∧ foldT w < 39 * qP := by
  have e : foldT w = sumB b16 16 (dgt b16 (W32 w)) + 38 * sumB b16 16 (fun i => dgt b16 (W32 w) (i + 16)) := by
    unfold foldT fold0
    rw [sumB_add, sumB_mul]
  have h1 := sumB_range b16_pos (dgt_isDig b16_pos (W32 w) 16)
  have h2 := sumB_range b16_pos (n := 16) (f := fun i => dgt b16 (W32 w) (i + 16)) fun i _ => dgt_isDig b16_pos (W32 w) (i + 17) (i + 16) (by omega)
  rw [pow16] at h1 h2
  rw [e]
  omega

/-! The rounds. -/
def foldN (w : Nat → Int) : Nat → Nat → Int
  | 0 => fold0 w
  | k + 1 => D16 (foldS (foldT w) k)
def foldC (w : Nat → Int) : Nat → Int
  | 0 => 0
  | k + 1 => foldS (foldT w) k / qP
theorem foldN_range (w : Nat → Int) (k i : Nat) : 0 ≤ foldN w k i ∧ foldN w k i ≤ 2555865 := by
  cases k with
  | zero => exact fold0_range w i
  | succ k =>
    have := D16_range (foldS (foldT w) k) i
    show 0 ≤ D16 _ i ∧ D16 _ i ≤ _
    omega
theorem foldC_range (w : Nat → Int) {k : Nat} (hk : k ≤ 3) : 0 ≤ foldC w k ∧ foldC w k ≤ 38 := by
  have hT := foldT_range w
  have h := foldS_ends hT.1 hT.2
  have h0 : ∀ k, 0 ≤ foldS (foldT w) k / qP := fun k => Int.ediv_nonneg (foldS_nonneg hT.1 k) (by decide)
  rcases (by omega : k = 0 ∨ k = 1 ∨ k = 2 ∨ k = 3) with e | e | e | e <;> subst e
  · show (0 : Int) ≤ 0 ∧ (0 : Int) ≤ 38
    omega
  · have := h0 0
    show 0 ≤ foldS (foldT w) 0 / qP ∧ foldS (foldT w) 0 / qP ≤ 38
    omega
  · have := h0 1
    show 0 ≤ foldS (foldT w) 1 / qP ∧ foldS (foldT w) 1 / qP ≤ 38
    omega
  · have := h0 2
    show 0 ≤ foldS (foldT w) 2 / qP ∧ foldS (foldT w) 2 / qP ≤ 38
    omega
theorem foldC_three (w : Nat → Int) : foldC w 3 = 0 := by
  have hT := foldT_range w
  exact (foldS_ends hT.1 hT.2).2.2
theorem fold_S (w : Nat → Int) (k : Nat) : sumB b16 16 (foldN w k) + 38 * foldC w k = foldS (foldT w) k := by
  cases k with
  | zero =>
    show foldT w + 38 * 0 = foldT w
    omega
  | succ k =>
    show sumB b16 16 (dgt b16 (foldS (foldT w) k)) + 38 * (foldS (foldT w) k / qP) = foldS (foldT w) k % qP + 38 * (foldS (foldT w) k / qP)
    rw [sumB_dgt b16_pos, pow16]
def rndA (w : Nat → Int) (k i : Nat) : Nat → Int := fun j => if j < i then D16 (foldS (foldT w) k) j else foldN w k j
def rndC (w : Nat → Int) (k i : Nat) : Int := carB b16 (foldN w k) (38 * foldC w k) i
theorem rndA_zero (w : Nat → Int) (k j : Nat) : rndA w k 0 j = foldN w k j := if_neg (Nat.not_lt_zero j)
theorem rndC_zero (w : Nat → Int) (k : Nat) : rndC w k 0 = 38 * foldC w k := carB_zero ..
theorem rndA_at (w : Nat → Int) (k i : Nat) : rndA w k i i = foldN w k i := if_neg (Nat.lt_irrefl i)
theorem rnd_range {w : Nat → Int} {k : Nat} (hk : k ≤ 3) {i : Nat} (hi : i ≤ 16) : 0 ≤ rndC w k i ∧ rndC w k i ≤ 2000 := by
  have hc := foldC_range w hk
  exact carB_bound b16_pos (X := 2555865) (by omega) (fun j _ => foldN_range w k j) (by simp only [b16]; omega) i hi
theorem rnd_step {w : Nat → Int} {k i : Nat} (hi : i < 16) : (foldN w k i + rndC w k i) % 65536 = D16 (foldS (foldT w) k) i ∧ (foldN w k i + rndC w k i) / 65536 = rndC w k (i + 1) := by
  constructor
  · have := dgt_car b16_pos (foldN w k) (38 * foldC w k) hi
    rw [fold_S] at this
    exact this.symm
  · exact (carB_succ b16_pos (foldN w k) (38 * foldC w k) i).symm
theorem rnd_upd (w : Nat → Int) (k i j : Nat) : (if j = i then D16 (foldS (foldT w) k) i else rndA w k i j) = rndA w k (i + 1) j := by
  unfold rndA
  by_cases h : j = i
  · subst h
    rw [if_pos rfl, if_pos (by omega)]
  · rw [if_neg h]
    by_cases h2 : j < i
    · rw [if_pos h2, if_pos (by omega)]
    · rw [if_neg h2, if_neg (by omega)]
theorem rnd_end (w : Nat → Int) (k : Nat) : rndC w k 16 = foldC w (k + 1) ∧ ∀ j, j < 16 → rndA w k 16 j = foldN w (k + 1) j := by
  refine ⟨?_, fun j hj => if_pos hj⟩
  unfold rndC carB
  rw [fold_S, pow16]
  rfl
/-- What the rounds leave. -/
theorem fold_done {w : Nat → Int} (h : Cols w) {k : Nat} (hc : foldC w (k + 1) = 0) : Num16 (foldN w (k + 1)) ∧ nv (foldN w (k + 1)) = zi pN (W32 w) := by
  have hT := foldT_range w
  have hn := foldS_nonneg hT.1 k
  have hq : foldS (foldT w) k < qP := by
    have e : foldS (foldT w) k / qP = 0 := hc
    have e2 := Int.emod_add_mul_ediv (foldS (foldT w) k) qP
    rw [e] at e2
    have e3 := Int.emod_lt_of_pos (foldS (foldT w) k) (show (0 : Int) < qP by decide)
    omega
  refine ⟨num16_D16 _, ?_⟩
  show zi pN (V16 (D16 (foldS (foldT w) k))) = _
  rw [V16_D16 hn hq, zi_eq, p25_cast, foldS_mod, foldT_mod h]

/-! Columns of a product. -/
def rowC (b : Nat → Int) (x : Int) (i j : Nat) : Nat → Int := fun k => if i ≤ k ∧ k < i + j then x * b (k - i) else 0
def prdC (a b : Nat → Int) : Nat → Nat → Int
  | 0 => fun _ => 0
  | i + 1 => fun k => prdC a b i k + rowC b (a i) i 16 k
def prdD (a b : Nat → Int) (i j : Nat) : Nat → Int := fun k => prdC a b i k + rowC b (a i) i j k
theorem prdD_zero (a b : Nat → Int) (i k : Nat) : prdD a b i 0 k = prdC a b i k := by
  unfold prdD rowC
  rw [if_neg (by omega), Int.add_zero]
theorem prdD_end (a b : Nat → Int) (i k : Nat) : prdD a b i 16 k = prdC a b (i + 1) k := rfl
theorem prdD_step (a b : Nat → Int) (i j k : Nat) : (if k = i + j then prdD a b i j (i + j) + a i * b j else prdD a b i j k) = prdD a b i (j + 1) k := by
  unfold prdD rowC
  by_cases h : k = i + j
  · subst h
    rw [if_pos rfl, if_neg (by omega), if_pos (by omega), Nat.add_sub_cancel_left]
    omega
  · rw [if_neg h]
    by_cases h2 : i ≤ k ∧ k < i + j
    · rw [if_pos h2, if_pos (by omega)]
    · rw [if_neg h2, if_neg (by omega)]
theorem row_sum (b : Nat → Int) (x : Int) {i : Nat} (hi : i < 16) : sumB b16 32 (rowC b x i 16) = b16 ^ i * x * V16 b := by
  have e : 32 = i + (16 + (16 - i)) := by omega
  rw [e, sumB_split, sumB_split]
  have z1 : sumB b16 i (rowC b x i 16) = 0 := by
    rw [sumB_congr (f := rowC b x i 16) (g := fun _ => 0) fun k hk => by unfold rowC; rw [if_neg (by omega)], sumB_zero]
  have z2 : sumB b16 (16 - i) (fun j => rowC b x i 16 (i + (16 + j))) = 0 := by
    rw [sumB_congr (f := fun j => rowC b x i 16 (i + (16 + j))) (g := fun _ => 0) fun k hk => by unfold rowC; rw [if_neg (by omega)], sumB_zero]
  have z3 : sumB b16 16 (fun j => rowC b x i 16 (i + j)) = x * V16 b := by
    rw [sumB_congr (f := fun j => rowC b x i 16 (i + j)) (g := fun j => x * b j) fun k hk => by unfold rowC; rw [if_pos (by omega), Nat.add_sub_cancel_left], sumB_mul]
    rfl
  rw [z1, z2, z3, Int.mul_zero, Int.add_zero, Int.zero_add, Int.mul_assoc]
theorem prd_sum (a b : Nat → Int) : ∀ i, i ≤ 16 → sumB b16 32 (prdC a b i) = sumB b16 i a * V16 b
  | 0, _ => by
    rw [show sumB b16 0 a = 0 from rfl, Int.zero_mul]
    exact sumB_zero 32
  | i + 1, h => by
    have h1 := prd_sum a b i (by omega)
    have h2 := row_sum b (a i) (show i < 16 by omega)
    show sumB b16 32 (fun k => prdC a b i k + rowC b (a i) i 16 k) = (sumB b16 i a + b16 ^ i * a i) * V16 b
    rw [sumB_add, h1, h2, Int.add_mul]
theorem row_range {a b : Nat → Int} (ha : Num16 a) (hb : Num16 b) {i j : Nat} (hi : i < 16) (hj : j ≤ 16) (k : Nat) : 0 ≤ rowC b (a i) i j k ∧ rowC b (a i) i j k ≤ 4294836225 := by
  unfold rowC
  split
  · have h1 := ha.h i hi
    have h2 := hb.h (k - i) (by omega)
    simp only [b16] at h1 h2
    exact ⟨Int.mul_nonneg h1.1 h2.1, Int.mul_le_mul (show a i ≤ 65535 by omega) (show b (k - i) ≤ 65535 by omega) h2.1 (by decide)⟩
  · omega
theorem prdC_range {a b : Nat → Int} (ha : Num16 a) (hb : Num16 b) (k : Nat) : ∀ i, i ≤ 16 → 0 ≤ prdC a b i k ∧ prdC a b i k ≤ 4294836225 * i
  | 0, _ => by simp [prdC]
  | i + 1, h => by
    have h1 := prdC_range ha hb k i (by omega)
    have h2 := row_range ha hb (show i < 16 by omega) (Nat.le_refl 16) k
    show 0 ≤ prdC a b i k + rowC b (a i) i 16 k ∧ prdC a b i k + rowC b (a i) i 16 k ≤ _
    omega
theorem prdD_range {a b : Nat → Int} (ha : Num16 a) (hb : Num16 b) {i j : Nat} (hi : i < 16) (hj : j ≤ 16) (k : Nat) : 0 ≤ prdD a b i j k ∧ prdD a b i j k ≤ 68719476736 := by
  have h1 := prdC_range ha hb k i (by omega)
  have h2 := row_range ha hb hi hj k
  unfold prdD
  omega
theorem prd_cols {a b : Nat → Int} (ha : Num16 a) (hb : Num16 b) : Cols (prdC a b 16) ∧ zi pN (W32 (prdC a b 16)) = nv a * nv b := by
  have h := prd_sum a b 16 (Nat.le_refl _)
  have e : W32 (prdC a b 16) = V16 a * V16 b := h
  have h1 := V16_range ha
  have h2 := V16_range hb
  refine ⟨⟨fun i _ => ?_, ?_⟩, ?_⟩
  · have := prdC_range ha hb i 16 (Nat.le_refl _)
    omega
  · rw [e]
    have e2 : b16 ^ 32 = qP * qP := by decide
    rw [e2]
    exact Int.lt_of_le_of_lt (Int.mul_le_mul_of_nonneg_left (Int.le_of_lt h2.2) h1.1) (Int.mul_lt_mul_of_pos_right h1.2 (by decide))
  · rw [e, zi_mul]
    rfl
theorem add_cols {a b : Nat → Int} (ha : Num16 a) (hb : Num16 b) : Cols (fun i => if i < 16 then a i + b i else 0) ∧ zi pN (W32 (fun i => if i < 16 then a i + b i else 0)) = nv a + nv b := by
  have e : W32 (fun i => if i < 16 then a i + b i else 0) = V16 a + V16 b := by
    unfold W32
    rw [show 32 = 16 + 16 from rfl, sumB_split]
    have z1 : sumB b16 16 (fun i => if i < 16 then a i + b i else 0) = V16 a + V16 b := by
      rw [sumB_congr (g := fun i => a i + b i) fun k hk => if_pos hk, sumB_add]
      rfl
    have z2 : sumB b16 16 (fun j => if 16 + j < 16 then a (16 + j) + b (16 + j) else 0) = 0 := by
      rw [sumB_congr (g := fun _ => 0) fun k hk => if_neg (by omega), sumB_zero]
    rw [z1, z2, Int.mul_zero, Int.add_zero]
  have h1 := V16_range ha
  have h2 := V16_range hb
  refine ⟨⟨fun i _ => ?_, ?_⟩, ?_⟩
  · split
    · rename_i hi
      have g1 := ha.h i hi
      have g2 := hb.h i hi
      simp only [b16] at g1 g2
      omega
    · omega
  · rw [e]
    have e2 : qP + qP < b16 ^ 32 := by decide
    omega
  · rw [e, zi_add]
    rfl
end Sx

/-
  The document's numbers modulo p: what each call answers.
-/
namespace Sx
open Go Go.RowKit

structure Low (a : Nat → Int) : Prop where
  n : Num16 a
  h : V16 a < p25
structure OneDig (x : Int) : Prop where
  h : 0 ≤ x ∧ x < 65536
structure Over (a b : Nat → Int) : Prop where
  h : V16 b ≤ V16 a
structure BitIx (i : Int) : Prop where
  h : 0 ≤ i ∧ i < 256
def qprimeC (N : Nat → Int) : Contract := fun vs => match vs with
  | [] => some ([], .arr .i64 16 N)
  | _ => none
def qsmallC (S : Int → Nat → Int) : Contract := fun vs => match vs with
  | [.int .i64 x] => some ([OneDig x.val], .arr .i64 16 (S x.val))
  | _ => none
def qrawC (R : (Nat → Int) → Nat → Int) : Contract := fun vs => match vs with
  | [.arr .u8 32 f] => some ([], .arr .i64 16 (R f))
  | _ => none
def qbytesC (B : (Nat → Int) → Nat → Int) : Contract := fun vs => match vs with
  | [.arr .i64 16 f] => some ([Num16 f], .arr .u8 32 (B f))
  | _ => none
def qbelowC (B : (Nat → Int) → (Nat → Int) → Bool) : Contract := fun vs => match vs with
  | [.arr .i64 16 f, .arr .i64 16 g] => some ([Num16 f, Num16 g], .bool (.sym (B f g)))
  | _ => none
def qsameC (B : (Nat → Int) → (Nat → Int) → Bool) : Contract := fun vs => match vs with
  | [.arr .i64 16 f, .arr .i64 16 g] => some ([], .bool (.sym (B f g)))
  | _ => none
def qzeroC (B : (Nat → Int) → Bool) : Contract := fun vs => match vs with
  | [.arr .i64 16 f] => some ([Num16 f], .bool (.sym (B f)))
  | _ => none
def qlessC (L : (Nat → Int) → (Nat → Int) → Nat → Int) : Contract := fun vs => match vs with
  | [.arr .i64 16 f, .arr .i64 16 g] => some ([Num16 f, Num16 g, Over f g], .arr .i64 16 (L f g))
  | _ => none
def qunC (F : (Nat → Int) → Nat → Int) : Contract := fun vs => match vs with
  | [.arr .i64 16 f] => some ([Num16 f], .arr .i64 16 (F f))
  | _ => none
def qlowC (F : (Nat → Int) → Nat → Int) : Contract := fun vs => match vs with
  | [.arr .i64 16 f] => some ([Low f], .arr .i64 16 (F f))
  | _ => none
def qbinC (F : (Nat → Int) → (Nat → Int) → Nat → Int) : Contract := fun vs => match vs with
  | [.arr .i64 16 f, .arr .i64 16 g] => some ([Num16 f, Num16 g], .arr .i64 16 (F f g))
  | _ => none
def qfoldC (F : (Nat → Int) → Nat → Int) : Contract := fun vs => match vs with
  | [.arr .i64 32 w] => some ([Cols w], .arr .i64 16 (F w))
  | _ => none
def qbitC (B : (Nat → Int) → Int → Bool) : Contract := fun vs => match vs with
  | [.arr .u8 32 e, .int .i64 i] => some ([BitIx i.val], .bool (.sym (B e i.val)))
  | _ => none
def qpowC (F : (Nat → Int) → (Nat → Int) → Nat → Int) : Contract := fun vs => match vs with
  | [.arr .i64 16 f, .arr .u8 32 e] => some ([Num16 f], .arr .i64 16 (F f e))
  | _ => none
def qsymC (V : (Nat → Int) → Int) : Contract := fun vs => match vs with
  | [.arr .i64 16 f] => some ([Num16 f], .int .i64 (.sym (V f)))
  | _ => none
def qendsC (F : Int → Int → Nat → Int) : Contract := fun vs => match vs with
  | [.int .u8 x, .int .u8 y] => some ([], .arr .u8 32 (F x.val y.val))
  | _ => none

theorem low_nb (x : Zp) : Low (nb x) := ⟨num16_nb x, by rw [V16_nb]; exact (zval_bounds x).2⟩
theorem low_is {a : Nat → Int} (h : Low a) {i : Nat} (hi : i < 16) : nb (nv a) i = a i := by
  have hr := V16_range h.n
  unfold nv
  rw [nb_mod, Int.emod_eq_of_lt hr.1 h.h]
  exact D16_V16 h.n hi
theorem low_val {a : Nat → Int} (h : Low a) : ((nv a).val : Int) = V16 a := by
  have hr := V16_range h.n
  unfold nv
  rw [zi_val, p25_cast, Int.emod_eq_of_lt hr.1 h.h]
theorem fit_is {a : Nat → Int} : nb (nv a) = D16 (V16 a % p25) := nb_mod _
theorem small_digit {x : Int} (h : OneDig x) (i : Nat) : upd (fun _ => 0) 0 x i = D16 x i := by
  have hx := h.h
  unfold D16 dgt
  by_cases hi : i = 0
  · subst hi
    rw [Int.pow_zero, Int.ediv_one, show b16 = 65536 from rfl, Int.emod_eq_of_lt hx.1 hx.2]
    rfl
  · obtain ⟨k, rfl⟩ : ∃ k, i = k + 1 := ⟨i - 1, by omega⟩
    have hp := powB_pos b16_pos k
    have e : x / b16 ^ (k + 1) = 0 := by
      refine Int.ediv_eq_zero_of_lt hx.1 ?_
      rw [Int.pow_succ, show b16 = 65536 from rfl]
      rw [show b16 = 65536 from rfl] at hp
      generalize (65536 : Int) ^ k = y at *
      omega
    rw [e]
    rfl
theorem prime_digit : ∀ i, i < 16 → [65517, 65535, 65535, 65535, 65535, 65535, 65535, 65535, 65535, 65535, 65535, 65535, 65535, 65535, 65535, 32767].getD i 0 = D16 p25 i := by
  intro i hi
  have : ∀ j : Fin 16, [65517, 65535, 65535, 65535, 65535, 65535, 65535, 65535, 65535, 65535, 65535, 65535, 65535, 65535, 65535, 32767].getD j.val 0 = D16 p25 j.val := by decide +kernel
  exact this ⟨i, hi⟩
theorem fill_one (f g : Nat → Int) (i k : Nat) : (if k = i then f i else (if k < i then f k else g k)) = if k < i + 1 then f k else g k := by
  by_cases h : k = i
  · subst h
    rw [if_pos rfl, if_pos (by omega)]
  · rw [if_neg h]
    by_cases h2 : k < i
    · rw [if_pos h2, if_pos (by omega)]
    · rw [if_neg h2, if_neg (by omega)]
theorem fill_two (f : Nat → Int) (i k : Nat) : (if k = 2 * i + 1 then f (2 * i + 1) else if k = 2 * i then f (2 * i) else if k < 2 * i then f k else 0) = if k < 2 * (i + 1) then f k else 0 := by
  by_cases h : k = 2 * i + 1
  · subst h
    rw [if_pos rfl, if_pos (by omega)]
  · rw [if_neg h]
    by_cases h1 : k = 2 * i
    · subst h1
      rw [if_pos rfl, if_pos (by omega)]
    · rw [if_neg h1]
      by_cases h2 : k < 2 * i
      · rw [if_pos h2, if_pos (by omega)]
      · rw [if_neg h2, if_neg (by omega)]
/-- How far down two numbers are the same. -/
def DownTo (a b : Nat → Int) : Type := { x : Int // -1 ≤ x ∧ x ≤ 15 ∧ ∀ j : Nat, x < Int.ofNat j → j < 16 → a j = b j }
/-- How far up two numbers are the same. -/
def UpTo (a b : Nat → Int) : Type := { i : Nat // i ≤ 16 ∧ ∀ j : Nat, j < i → a j = b j }
theorem below_at {a b : Nat → Int} (ha : Num16 a) (hb : Num16 b) {k : Nat} (hk : k < 16) (he : ∀ j, k < j → j < 16 → a j = b j) (hne : a k ≠ b k) : decide (a k < b k) = below16 a b := ltB_at b16_pos ha.h hb.h hk he hne
theorem below_none {a b : Nat → Int} (he : ∀ j, j < 16 → a j = b j) : below16 a b = false := ltB_none he
theorem same_no {a b : Nat → Int} {k : Nat} (hk : k < 16) (h : a k ≠ b k) : realEqA 16 a b = false := by
  rw [Bool.eq_false_iff]
  intro e
  exact h (realEqA_iff.1 e k hk)
theorem same_yes {a b : Nat → Int} (h : ∀ j, j < 16 → a j = b j) : realEqA 16 a b = true := realEqA_iff.2 h
def zero16 (a : Nat → Int) : Bool := decide (V16 a = 0)
theorem zero_yes {a : Nat → Int} (h : ∀ j, j < 16 → a j = 0) : zero16 a = true := decide_eq_true (by
  unfold V16
  rw [sumB_congr h, sumB_zero])
theorem zero_no {a : Nat → Int} (ha : Num16 a) {k : Nat} (hk : k < 16) (h : a k ≠ 0) : zero16 a = false := decide_eq_false fun e => h (by
  have e2 := D16_V16 ha hk
  rw [e] at e2
  rw [← e2]
  unfold D16 dgt
  rw [Int.zero_ediv]
  rfl)
end Sx

/-
  The document's small questions about 32 bytes.
-/
namespace Sx
open Go
/-- As batchX; the length no literal. -/
def batchS : Contract := fun vs => match vs with
  | [.xsl .u8 32 (.sym len) (.sym _) _] => some ([Many len], .osl .u8 32 (.sym 0) (fun _ => 0))
  | _ => none
structure SameL (m n : Nat) (f g : Nat → Int) : Prop where
  hl : m = n
  h : ∀ j, j < m * 32 → f j = g j
  hm : m ≤ 256
def sameC : Contract := fun vs => match vs with
  | [.xsl .u8 32 (.sym m) (.sym _) f, .xsl .u8 32 (.sym n) (.sym _) g] => some ([SameL m n f g], .bool (.sym true))
  | _ => none
theorem can_q {a : Nat → Int} (ha : IsBytes 32 a) : below16 (D16 (num 32 a)) (D16 p25) = canB a := by
  have hb := num_bounds 32 a ha
  unfold below16 canB
  rw [V16_D16 hb.1 (Int.lt_of_lt_of_le hb.2 (by decide)), V16_D16 (by decide) (by decide)]
theorem eq_q (a b : Nat → Int) : realEqA 16 (nb (fe a)) (nb (fe b)) = eqB a b := by
  rw [nb_same]
  unfold eqB fe
  rw [Bool.eq_iff_iff, decide_eq_true_iff, decide_eq_true_iff, zi_eq, p25_cast]
theorem odd_q (a : Nat → Int) : realCmp .eql (realBin .rem .i64 (nb (fe a) 0) 2) 1 = oddB a := by
  have h := zval_bounds (fe a)
  have e : nb (fe a) 0 = ((fe a).val : Int) % 65536 := by
    unfold nb D16 dgt
    simp [b16]
  have e2 : ((fe a).val : Int) = num 32 a % p25 := by
    unfold fe
    rw [zi_val, p25_cast]
  rw [e, rem_i64 (by omega)]
  unfold oddB
  rw [← e2]
  show ((((fe a).val : Int) % 65536 % 2) == 1) = _
  rw [Bool.eq_iff_iff, beq_iff_eq, decide_eq_true_iff]
  omega
theorem nv_D0 : nv (D16 0) = 0 := by
  unfold nv
  rw [V16_D16 (by decide) (by decide), zi_zero]
end Sx

/-
  The field's scripts.
-/
namespace Sx
open Go
def opF : List (Nat × FK) := [(0, .int .i64), (1, .arr 32 .u8), (33, .arr 32 .u8), (65, .sla 32 .u8)]
def playF (mem : Mem) : Contract := fun vs => match vs with
  | [.opq v] => some ([RecOK mem 66 opF v], .bool (.sym true))
  | _ => none
def scriptF (mem : Mem) : Contract := fun vs => match vs with
  | [.opq v] => some ([ScriptOK mem 66 opF v], .bool (.sym true))
  | _ => none
/-- What a script's step is made of. -/
structure OpF (mem : Mem) (v : Value) : Prop where
  size : IsRec v 66
  kind : IsNum .i64 (rCell v 0)
  a : IsNums .u8 32 fun j => rCell v (1 + j)
  b : IsNums .u8 32 fun j => rCell v (33 + j)
  sl : IsSl (rCell v 65)
  l : IsList mem .u8 32 (rCell v 65)
theorem opF_of {mem : Mem} {v : Value} (h : RecOK mem 66 opF v) : OpF mem v := by
  have h4 := h.flds (65, .sla 32 .u8) (by simp [opF])
  exact ⟨h.size, h.flds (0, .int .i64) (by simp [opF]), h.flds (1, .arr 32 .u8) (by simp [opF]), h.flds (33, .arr 32 .u8) (by simp [opF]), h4.1, h4.2⟩

theorem head_two : realEqA 32 (fb (fe (byt (V16 (D16 2))) * fe (upd (byt (V16 (D16 p25))) 0 (realBin .add .u8 (byt (V16 (D16 p25)) 0) 1)))) (byt (V16 (D16 2))) = true := by decide +kernel
theorem head_one : realEqA 32 (fb (fe (upd (byt (V16 (D16 p25))) 0 (realBin .add .u8 (byt (V16 (D16 p25)) 0) 1)) * fe (upd (byt (V16 (D16 p25))) 0 (realBin .add .u8 (byt (V16 (D16 p25)) 0) 1)))) (byt (V16 (D16 1))) = true := by decide +kernel
end Sx

/-
  The document's powers and inverses: their loops.
-/
namespace Sx
open Go
/-- The bits from the highest down: k are done. -/
def pwR (z : Zp) (e : Nat → Int) : Nat → Zp
  | 0 => 1
  | k + 1 => if bitB e (255 - k) = true then pwR z e k * pwR z e k * z else pwR z e k * pwR z e k
theorem pwR_spec {z : Zp} {e : Nat → Int} (he : IsBytes 32 e) : ∀ k, k ≤ 256 → pwR z e k = zp z (num 32 e / 2 ^ (256 - k)).toNat
  | 0, _ => by
    show (1 : Zp) = _
    rw [num_top he, Int.toNat_zero, zp_zero]
  | k + 1, hk => by
    have h1 := pwR_spec (z := z) he k (by omega)
    have e1 : 256 - (k + 1) = 255 - k := by omega
    have e2 : 256 - k = 255 - k + 1 := by omega
    have hb := num_bit he (i := 255 - k) (by omega)
    rw [e2] at h1
    rw [e1, hb]
    simp only [pwR]
    split
    · rw [h1, ← zp_sq, ← zp_succ]
    · rw [h1, ← zp_sq]
      rfl
theorem pwR_end {z : Zp} {e : Nat → Int} (he : IsBytes 32 e) : pwR z e 256 = zp z (num 32 e).toNat := by
  have h := pwR_spec (z := z) he 256 (by decide)
  rw [Nat.sub_self, Int.pow_zero, Int.ediv_one] at h
  exact h
theorem eqA_all16 {n : Nat} {f g : Nat → Int} (h : realEqA n f g = true) : ∀ i, i < n → f i = g i := by
  simpa only [realEqA, List.all_eq_true, List.mem_range, beq_iff_eq] using h
theorem same_D16 {u v : Int} (h0 : 0 ≤ u ∧ u < qP) (h1 : 0 ≤ v ∧ v < qP) : realEqA 16 (D16 u) (D16 v) = decide (u = v) := by
  rw [Bool.eq_iff_iff]
  constructor
  · intro h
    have h2 := eqA_all16 h
    have h3 : V16 (D16 u) = V16 (D16 v) := by unfold V16; exact sumB_congr h2
    rw [V16_D16 h0.1 h0.2, V16_D16 h1.1 h1.2] at h3
    exact decide_eq_true h3
  · intro h
    rw [of_decide_eq_true h]
    simp only [realEqA, List.all_eq_true, List.mem_range, beq_iff_eq]
    exact fun _ _ => trivial
end Sx

/-
  The document's symbol: what its loops need; the ends of an exponent.
-/
namespace Sx
open Go
theorem mnot_no2 {a : Bool} (h : (match a with | true => false | false => true) = false) : a = true := by cases a <;> simp_all
theorem mnot_yes2 {a : Bool} (h : (match a with | true => false | false => true) = true) : a = false := by cases a <;> simp_all
/-- The array in a slot. -/
def arrAt (S : St) (k : Nat) : Nat → Int :=
  match get S k with
  | .own (.arr _ _ f) => f
  | _ => fun _ => 0
def DN (x : Nat) : Nat → Int := D16 (x : Int)
/-- x's digits, as long as x + n has not grown over what f and g are; else what no number is. -/
def BDN (f g : Nat → Int) (x n : Nat) : Nat → Int := if ((x + n : Nat) : Int) ≤ V16 f + V16 g then DN x else fun _ => 10000000000000000000000
theorem V16_DN {x : Nat} (h : x ≤ pN) : V16 (DN x) = x := V16_D16 (Int.natCast_nonneg _) (by
  have h2 : (x : Int) ≤ p25 := by rw [← p25_cast]; exact Int.ofNat_le.2 h
  exact Int.lt_of_le_of_lt h2 (by decide))
theorem num16_DN (x : Nat) : Num16 (DN x) := num16_D16 _
theorem bdn_good {x0 n0 x n : Nat} (h0 : x0 ≤ pN) (h1 : n0 ≤ pN) (h : x + n ≤ x0 + n0) : BDN (DN x0) (DN n0) x n = DN x := by
  unfold BDN
  rw [V16_DN h0, V16_DN h1, if_pos (by omega)]
theorem bdn_bad {x0 n0 x n : Nat} (h0 : x0 ≤ pN) (h1 : n0 ≤ pN) (h : ∀ i, i < 16 → inR .i64 (BDN (DN x0) (DN n0) x n i)) : x + n ≤ x0 + n0 := by
  refine Decidable.byContradiction fun hn => ?_
  have h2 := h 0 (by decide)
  unfold BDN at h2
  rw [V16_DN h0, V16_DN h1, if_neg (by omega)] at h2
  have h3 := inR_i64.1 h2
  omega
theorem dn_low (x : Nat) : DN x 0 = ((x % 65536 : Nat) : Int) := by
  have h := D16_low (x : Int)
  unfold DN D16 dgt
  rw [Int.pow_zero, Int.ediv_one]
  show (x : Int) % b16 = _
  unfold b16
  omega
theorem dn_zero {x : Nat} (h : x ≤ pN) : zero16 (DN x) = decide (x = 0) := by
  unfold zero16
  rw [V16_DN h, Bool.eq_iff_iff]
  simp only [decide_eq_true_eq]
  omega
theorem dn_below {x n : Nat} (h : x ≤ pN) (h1 : n ≤ pN) : below16 (DN x) (DN n) = decide (x < n) := by
  unfold below16
  rw [V16_DN h, V16_DN h1, Bool.eq_iff_iff]
  simp only [decide_eq_true_eq]
  omega
theorem dn_half {x : Nat} (h : x ≤ pN) : D16 (V16 (DN x) / 2) = DN (x / 2) := by
  rw [V16_DN h]
  unfold DN
  congr 1
theorem dn_less {x n : Nat} (h : x ≤ pN) (h1 : n ≤ pN) (h2 : n ≤ x) : D16 (V16 (DN x) - V16 (DN n)) = DN (x - n) := by
  rw [V16_DN h, V16_DN h1]
  unfold DN
  congr 1
  omega
theorem dn_over {x n : Nat} (h : x ≤ pN) (h1 : n ≤ pN) (h2 : n ≤ x) : Over (DN x) (DN n) := ⟨by rw [V16_DN h, V16_DN h1]; omega⟩
theorem dn_same {n : Nat} (h : n ≤ pN) : realEqA 16 (DN n) (D16 1) = decide (n = 1) := by
  have h2 : (n : Int) ≤ p25 := by rw [← p25_cast]; exact Int.ofNat_le.2 h
  have e := same_D16 (u := (n : Int)) (v := 1) ⟨Int.natCast_nonneg _, Int.lt_of_le_of_lt h2 (by decide)⟩ ⟨by decide, by decide⟩
  unfold DN
  rw [e, Bool.eq_iff_iff]
  simp only [decide_eq_true_eq]
  omega
theorem neg_unit {s : Int} (h : s = 1 ∨ s = -1) : realUn .neg .i64 s = -s := by
  rcases h with rfl | rfl <;> decide
def endF (x y : Int) : Nat → Int := fun i => if i = 31 then y else if i = 0 then x else 255
theorem end_root : (num 32 (endF 254 15)).toNat = rE := by decide +kernel
theorem end_i : (num 32 (endF 251 31)).toNat = iE := by decide +kernel
theorem fb_nil (i : Nat) : fb 0 i = 0 := by
  unfold fb byt
  show ((0 : Int) / 256 ^ i) % 256 = 0
  rw [Int.zero_ediv]
  rfl
theorem nv_small : nv (D16 2) = 2 := by
  unfold nv
  rw [V16_D16 (by decide) (by decide)]
  rfl
theorem nv_nil : nv (D16 0) = 0 := by
  unfold nv
  rw [V16_D16 (by decide) (by decide)]
  exact zi_zero
theorem nb_inj {x y : Zp} (h : ∀ i, i < 16 → nb x i = nb y i) : x = y := by
  have h1 : V16 (nb x) = V16 (nb y) := by unfold V16; exact sumB_congr h
  have h2 := congrArg (zi pN) h1
  have e : ∀ z : Zp, zi pN (V16 (nb z)) = z := nv_nb
  rw [e, e] at h2
  exact h2
theorem nb_low (x : Zp) : nb x 0 = ((x.val % 65536 : Nat) : Int) := dn_low x.val
end Sx

