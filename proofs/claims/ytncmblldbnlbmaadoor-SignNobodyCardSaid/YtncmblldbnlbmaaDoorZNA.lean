/-
  A part of the proof. No condition.
-/
import Derived.Test.YtncmblldbnlbmaaDoorZMA
import Derived.Test.YtncmblldbnlbmaaDoorZEB
import Derived.Test.YtncmblldbnlbmaaDoorZMC

namespace Sx
open Go
def cubeL (d : Nat → Int) : Nat → Int := timesF (timesF d d) d
def sevL (d : Nat → Int) : Nat → Int := timesF (timesF (cubeL d) (cubeL d)) d
def rootL (n d e : Nat → Int) : Nat → Int := timesF (timesF n (cubeL d)) (powL (timesF n (sevL d)) e)
def sqrtR (f g : Nat → Int) : Nat → Int := fb (sqrtZ (fe f) (fe g)).1
def sqrtB (f g : Nat → Int) : Bool := (sqrtZ (fe f) (fe g)).2
theorem fb_zero : ∀ i, i < 32 → fb 0 i = 0 := by
  have h : fb 0 = byt 0 := by rw [← zi_zero, fb_zi]; rfl
  rw [h]
  decide
theorem fb_zero' (i : Nat) : fb 0 i = 0 := by
  have h : fb 0 = byt 0 := by rw [← zi_zero, fb_zi]; rfl
  rw [h]
  unfold byt
  simp
theorem eqA_zero {g : Nat → Int} {x : Zp} (h : ∀ i, i < 32 → g i = fb x i) : realEqA 32 g (fun _ => 0) = decide (x = 0) := by
  rw [eqA_congr h (fun i _ => (fb_zero' i).symm), fb_inj]
theorem eqA_z {g g' : Nat → Int} {x y : Zp} (h : ∀ i, i < 32 → g i = fb x i) (h' : ∀ i, i < 32 → g' i = fb y i) : realEqA 32 g g' = decide (x = y) := by
  rw [eqA_congr h h', fb_inj]
theorem odd_z {g : Nat → Int} {x : Zp} (h : ∀ i, i < 32 → g i = fb x i) : realCmp .eql (realBin .and .u8 (g 0) 1) 1 = decide (x.val % 2 = 1) := by
  rw [h 0 (by decide), and_one_u8 (fb_isBytes x 0 (by decide)), Bool.eq_iff_iff]
  simp only [realCmp, fb, byt, Int.pow_zero, Int.ediv_one, beq_iff_eq, decide_eq_true_eq]
  omega
section
variable {f g : Nat → Int} (hf : IsBytes 32 f) (hg : IsBytes 32 g)
theorem sq_bytes {l : Nat → Int} {x : Zp} (h : lz l = x ∧ Tidy l) : ∀ i, i < 32 → bytesF l i = fb x i := by
  rw [← h.1]
  exact bytes_lz h.2.fit
theorem sq_neg {l : Nat → Int} {x : Zp} (h : lz l = x ∧ Tidy l) : ∀ i, i < 32 → bytesF (settleF (subP (fun _ => 0) l)) i = fb (-x) i := by
  have h1 := lz_sub lz_zero.2 h.2
  have h2 : lz (settleF (subP (fun _ => 0) l)) = -x := by rw [h1.1, lz_zero.1, h.1]; grind
  exact sq_bytes ⟨h2, h1.2⟩
theorem sq_mul {l m : Nat → Int} {x y : Zp} (h : lz l = x ∧ Tidy l) (h' : lz m = y ∧ Tidy m) : lz (timesF l m) = x * y ∧ Tidy (timesF l m) := by
  have h1 := lz_times h.2 h'.2
  rw [h.1, h'.1] at h1
  exact h1
include hg in
theorem sq_cube : lz (cubeL (loadF g)) = fe g * fe g * fe g ∧ Tidy (cubeL (loadF g)) := sq_mul (sq_mul (lz_load hg) (lz_load hg)) (lz_load hg)
include hg in
theorem sq_sev : lz (sevL (loadF g)) = fe g * fe g * fe g * (fe g * fe g * fe g) * fe g ∧ Tidy (sevL (loadF g)) := sq_mul (sq_mul (sq_cube hg) (sq_cube hg)) (lz_load hg)
theorem num_eighth : num 32 (byt 7237005577332262213973186563042994240829374041602535252466099000494570602493) = 7237005577332262213973186563042994240829374041602535252466099000494570602493 := num_byt 32 _ (by decide) (by decide)
include hf hg in
theorem sq_root {e : Nat → Int} (he : ∀ i, i < 32 → e i = byt 7237005577332262213973186563042994240829374041602535252466099000494570602493 i) :
    lz (rootL (loadF f) (loadF g) e) = fe f * (fe g * fe g * fe g) * zp (fe f * (fe g * fe g * fe g * (fe g * fe g * fe g) * fe g)) eighthN ∧ Tidy (rootL (loadF f) (loadF g) e) := by
  have h1 := sq_mul (lz_load hf) (sq_sev hg)
  have h2 := lz_pow (l := timesF (loadF f) (sevL (loadF g))) (e := byt 7237005577332262213973186563042994240829374041602535252466099000494570602493) h1.2 (byt_isBytes _ 32)
  rw [num_eighth, h1.1] at h2
  unfold rootL
  rw [powL_congr he]
  exact sq_mul (sq_mul (lz_load hf) (sq_cube hg)) h2
theorem rootOne_bytes : fe (byt 19681161376707505956807079304988542015446066515923890162744021073123829784752) = iZ := fe_byt (by decide) (by decide)
theorem fe_congr {f g : Nat → Int} (h : ∀ i, i < 32 → f i = g i) : fe f = fe g := by
  unfold fe
  rw [num_congr 32 h]
theorem isBytes_congr {f g : Nat → Int} (h : ∀ i, i < 32 → f i = g i) (hg : IsBytes 32 g) : IsBytes 32 f := fun i hi => by rw [h i hi]; exact hg i hi
theorem pow_bytes {f e : Nat → Int} (hf : IsBytes 32 f) (he : IsBytes 32 e) : ∀ i, i < 32 → bytesF (powL (loadF f) e) i = fb (zp (fe f) (num 32 e).toNat) i := by
  have h1 := lz_load hf
  have h2 := lz_pow h1.2 he
  rw [h1.1] at h2
  exact sq_bytes h2
theorem pow_const {f e : Nat → Int} (hf : IsBytes 32 f) {N : Int} {k : Nat} (he : ∀ i, i < 32 → e i = byt N i) (hN : num 32 (byt N) = N) (hk : N.toNat = k) : ∀ i, i < 32 → bytesF (powL (loadF f) e) i = fb (zp (fe f) k) i := by
  have h := pow_bytes hf (byt_isBytes N 32)
  rw [hN, hk] at h
  rw [powL_congr he]
  exact h
theorem num_two : num 32 (byt 57896044618658097711785492504343953926634992332820282019728792003956564819947) = 57896044618658097711785492504343953926634992332820282019728792003956564819947 := num_byt 32 _ (by decide) (by decide)
structure Cand (f g l : Nat → Int) (x : Zp) : Prop where
  hit : realEqA 32 (bytesF (timesF (timesF (loadF g) l) l)) (bytesF (loadF f)) = decide (fe g * x * x = fe f)
  odd : realCmp .eql (realBin .and .u8 (bytesF l 0) 1) 1 = decide (x.val % 2 = 1)
  out : ∀ i, i < 32 → bytesF l i = fb x i
  neg : ∀ i, i < 32 → bytesF (settleF (subP (fun _ => 0) l)) i = fb (-x) i
theorem cand_of {f g l : Nat → Int} {x : Zp} (hf : IsBytes 32 f) (hg : IsBytes 32 g) (h : lz l = x ∧ Tidy l) : Cand f g l x :=
  ⟨eqA_z (sq_bytes (sq_mul (sq_mul (lz_load hg) h) h)) (sq_bytes (lz_load hf)), odd_z (sq_bytes h), sq_bytes h, sq_neg h⟩
theorem sqrt_keys {f g e r : Nat → Int} (hf : IsBytes 32 f) (hg : IsBytes 32 g) (he : ∀ i, i < 32 → e i = byt 7237005577332262213973186563042994240829374041602535252466099000494570602493 i)
    (hr : ∀ i, i < 32 → r i = byt 19681161376707505956807079304988542015446066515923890162744021073123829784752 i) :
    ∃ x y : Zp, realEqA 32 (bytesF (loadF f)) (fun _ => 0) = decide (fe f = 0) ∧ Cand f g (rootL (loadF f) (loadF g) e) x ∧ Cand f g (timesF (rootL (loadF f) (loadF g) e) (loadF r)) y ∧
      sqrtZ (fe f) (fe g) = if fe f = 0 then (0, true) else if fe g * x * x = fe f then (evZ x, true) else if fe g * y * y = fe f then (evZ y, true) else (0, false) := by
  have z1 := sq_root hf hg he
  have z2 := sq_mul z1 (lz_load (f := r) (isBytes_congr hr (byt_isBytes _ _)))
  rw [fe_congr hr, rootOne_bytes] at z2
  exact ⟨_, _, eqA_zero (sq_bytes (lz_load hf)), cand_of hf hg z1, cand_of hf hg z2, rfl⟩
structure SqF (f g : Nat → Int) (L B : (Nat → Int) → Nat → Int) (T M : (Nat → Int) → (Nat → Int) → Nat → Int) (bi : BinOp → IntKind → Int → Int → Int) (cm : BinOp → Int → Int → Bool) (eq : Nat → (Nat → Int) → (Nat → Int) → Bool) (l : Nat → Int) (x : Zp) : Prop where
  hit : eq 32 (B (T (T (L g) l) l)) (B (L f)) = decide (fe g * x * x = fe f)
  odd : cm .eql (bi .and .u8 (B l 0) 1) 1 = decide (x.val % 2 = 1)
  out : ∀ i, i < 32 → B l i = fb x i
  neg : ∀ i, i < 32 → B (M (fun _ => 0) l) i = fb (-x) i
theorem sqrt_open {f g e r : Nat → Int} (hf : IsBytes 32 f) (hg : IsBytes 32 g) (he : ∀ i, i < 32 → e i = byt 7237005577332262213973186563042994240829374041602535252466099000494570602493 i)
    (hr : ∀ i, i < 32 → r i = byt 19681161376707505956807079304988542015446066515923890162744021073123829784752 i)
    {L B : (Nat → Int) → Nat → Int} {T P M : (Nat → Int) → (Nat → Int) → Nat → Int} {bi : BinOp → IntKind → Int → Int → Int} {cm : BinOp → Int → Int → Bool} {eq : Nat → (Nat → Int) → (Nat → Int) → Bool}
    (hL : L = loadF) (hB : B = bytesF) (hT : T = timesF) (hP : P = powL) (hM : M = fun l m => settleF (subP l m)) (hbi : bi = realBin) (hcm : cm = realCmp) (heq : eq = realEqA) :
    ∃ x y : Zp, eq 32 (B (L f)) (fun _ => 0) = decide (fe f = 0) ∧ SqF f g L B T M bi cm eq (T (T (L f) (T (T (L g) (L g)) (L g))) (P (T (L f) (T (T (T (T (L g) (L g)) (L g)) (T (T (L g) (L g)) (L g))) (L g))) e)) x ∧ SqF f g L B T M bi cm eq (T (T (T (L f) (T (T (L g) (L g)) (L g))) (P (T (L f) (T (T (T (T (L g) (L g)) (L g)) (T (T (L g) (L g)) (L g))) (L g))) e)) (L r)) y ∧
      sqrtZ (fe f) (fe g) = if fe f = 0 then (0, true) else if fe g * x * x = fe f then (evZ x, true) else if fe g * y * y = fe f then (evZ y, true) else (0, false) := by
  obtain ⟨x, y, k0, k1, k2, hv⟩ := sqrt_keys hf hg he hr
  subst hL hB hT hP hM hbi hcm heq
  exact ⟨x, y, k0, ⟨k1.hit, k1.odd, k1.out, k1.neg⟩, ⟨k2.hit, k2.odd, k2.out, k2.neg⟩, hv⟩
theorem sqrt_with {f g e r : Nat → Int} (hf : IsBytes 32 f) (hg : IsBytes 32 g) (he : ∀ i, i < 32 → e i = byt 7237005577332262213973186563042994240829374041602535252466099000494570602493 i)
    (hr : ∀ i, i < 32 → r i = byt 19681161376707505956807079304988542015446066515923890162744021073123829784752 i)
    {L B : (Nat → Int) → Nat → Int} {T P M : (Nat → Int) → (Nat → Int) → Nat → Int} {bi : BinOp → IntKind → Int → Int → Int} {cm : BinOp → Int → Int → Bool} {eq : Nat → (Nat → Int) → (Nat → Int) → Bool}
    {R : (Nat → Int) → (Nat → Int) → Nat → Int} {S : (Nat → Int) → (Nat → Int) → Bool} (hR : R = sqrtR) (hS : S = sqrtB)
    (hL : L = loadF) (hB : B = bytesF) (hT : T = timesF) (hP : P = powL) (hM : M = fun l m => settleF (subP l m)) (hbi : bi = realBin) (hcm : cm = realCmp) (heq : eq = realEqA) {goal : Prop}
    (H : (eq 32 (B (L f)) (fun _ => 0) = true → (∀ i, i < 32 → 0 = R f g i) ∧ true = S f g) →
      (eq 32 (B (L f)) (fun _ => 0) = false → eq 32 (B (T (T (L g) (T (T (L f) (T (T (L g) (L g)) (L g))) (P (T (L f) (T (T (T (T (L g) (L g)) (L g)) (T (T (L g) (L g)) (L g))) (L g))) e))) (T (T (L f) (T (T (L g) (L g)) (L g))) (P (T (L f) (T (T (T (T (L g) (L g)) (L g)) (T (T (L g) (L g)) (L g))) (L g))) e)))) (B (L f)) = true → cm .eql (bi .and .u8 (B (T (T (L f) (T (T (L g) (L g)) (L g))) (P (T (L f) (T (T (T (T (L g) (L g)) (L g)) (T (T (L g) (L g)) (L g))) (L g))) e)) 0) 1) 1 = true → (∀ i, i < 32 → B (M (fun _ => 0) (T (T (L f) (T (T (L g) (L g)) (L g))) (P (T (L f) (T (T (T (T (L g) (L g)) (L g)) (T (T (L g) (L g)) (L g))) (L g))) e))) i = R f g i) ∧ true = S f g) →
      (eq 32 (B (L f)) (fun _ => 0) = false → eq 32 (B (T (T (L g) (T (T (L f) (T (T (L g) (L g)) (L g))) (P (T (L f) (T (T (T (T (L g) (L g)) (L g)) (T (T (L g) (L g)) (L g))) (L g))) e))) (T (T (L f) (T (T (L g) (L g)) (L g))) (P (T (L f) (T (T (T (T (L g) (L g)) (L g)) (T (T (L g) (L g)) (L g))) (L g))) e)))) (B (L f)) = true → cm .eql (bi .and .u8 (B (T (T (L f) (T (T (L g) (L g)) (L g))) (P (T (L f) (T (T (T (T (L g) (L g)) (L g)) (T (T (L g) (L g)) (L g))) (L g))) e)) 0) 1) 1 = false → (∀ i, i < 32 → B (T (T (L f) (T (T (L g) (L g)) (L g))) (P (T (L f) (T (T (T (T (L g) (L g)) (L g)) (T (T (L g) (L g)) (L g))) (L g))) e)) i = R f g i) ∧ true = S f g) →
      (eq 32 (B (L f)) (fun _ => 0) = false → eq 32 (B (T (T (L g) (T (T (L f) (T (T (L g) (L g)) (L g))) (P (T (L f) (T (T (T (T (L g) (L g)) (L g)) (T (T (L g) (L g)) (L g))) (L g))) e))) (T (T (L f) (T (T (L g) (L g)) (L g))) (P (T (L f) (T (T (T (T (L g) (L g)) (L g)) (T (T (L g) (L g)) (L g))) (L g))) e)))) (B (L f)) = false → eq 32 (B (T (T (L g) (T (T (T (L f) (T (T (L g) (L g)) (L g))) (P (T (L f) (T (T (T (T (L g) (L g)) (L g)) (T (T (L g) (L g)) (L g))) (L g))) e)) (L r))) (T (T (T (L f) (T (T (L g) (L g)) (L g))) (P (T (L f) (T (T (T (T (L g) (L g)) (L g)) (T (T (L g) (L g)) (L g))) (L g))) e)) (L r)))) (B (L f)) = true → cm .eql (bi .and .u8 (B (T (T (T (L f) (T (T (L g) (L g)) (L g))) (P (T (L f) (T (T (T (T (L g) (L g)) (L g)) (T (T (L g) (L g)) (L g))) (L g))) e)) (L r)) 0) 1) 1 = true → (∀ i, i < 32 → B (M (fun _ => 0) (T (T (T (L f) (T (T (L g) (L g)) (L g))) (P (T (L f) (T (T (T (T (L g) (L g)) (L g)) (T (T (L g) (L g)) (L g))) (L g))) e)) (L r))) i = R f g i) ∧ true = S f g) →
      (eq 32 (B (L f)) (fun _ => 0) = false → eq 32 (B (T (T (L g) (T (T (L f) (T (T (L g) (L g)) (L g))) (P (T (L f) (T (T (T (T (L g) (L g)) (L g)) (T (T (L g) (L g)) (L g))) (L g))) e))) (T (T (L f) (T (T (L g) (L g)) (L g))) (P (T (L f) (T (T (T (T (L g) (L g)) (L g)) (T (T (L g) (L g)) (L g))) (L g))) e)))) (B (L f)) = false → eq 32 (B (T (T (L g) (T (T (T (L f) (T (T (L g) (L g)) (L g))) (P (T (L f) (T (T (T (T (L g) (L g)) (L g)) (T (T (L g) (L g)) (L g))) (L g))) e)) (L r))) (T (T (T (L f) (T (T (L g) (L g)) (L g))) (P (T (L f) (T (T (T (T (L g) (L g)) (L g)) (T (T (L g) (L g)) (L g))) (L g))) e)) (L r)))) (B (L f)) = true → cm .eql (bi .and .u8 (B (T (T (T (L f) (T (T (L g) (L g)) (L g))) (P (T (L f) (T (T (T (T (L g) (L g)) (L g)) (T (T (L g) (L g)) (L g))) (L g))) e)) (L r)) 0) 1) 1 = false → (∀ i, i < 32 → B (T (T (T (L f) (T (T (L g) (L g)) (L g))) (P (T (L f) (T (T (T (T (L g) (L g)) (L g)) (T (T (L g) (L g)) (L g))) (L g))) e)) (L r)) i = R f g i) ∧ true = S f g) →
      (eq 32 (B (L f)) (fun _ => 0) = false → eq 32 (B (T (T (L g) (T (T (L f) (T (T (L g) (L g)) (L g))) (P (T (L f) (T (T (T (T (L g) (L g)) (L g)) (T (T (L g) (L g)) (L g))) (L g))) e))) (T (T (L f) (T (T (L g) (L g)) (L g))) (P (T (L f) (T (T (T (T (L g) (L g)) (L g)) (T (T (L g) (L g)) (L g))) (L g))) e)))) (B (L f)) = false → eq 32 (B (T (T (L g) (T (T (T (L f) (T (T (L g) (L g)) (L g))) (P (T (L f) (T (T (T (T (L g) (L g)) (L g)) (T (T (L g) (L g)) (L g))) (L g))) e)) (L r))) (T (T (T (L f) (T (T (L g) (L g)) (L g))) (P (T (L f) (T (T (T (T (L g) (L g)) (L g)) (T (T (L g) (L g)) (L g))) (L g))) e)) (L r)))) (B (L f)) = false → (∀ i, i < 32 → 0 = R f g i) ∧ false = S f g) → goal) : goal := by
  obtain ⟨x, y, c0, k1, k2, hv⟩ := sqrt_open hf hg he hr hL hB hT hP hM hbi hcm heq
  have hr' : R f g = fb (sqrtZ (fe f) (fe g)).1 := by rw [hR, sqrtR]
  have hs : S f g = (sqrtZ (fe f) (fe g)).2 := by rw [hS, sqrtB]
  rw [hv] at hr' hs
  clear hv hL hB hT hP hM hR hS
  refine H (fun h0 => ?_) (fun h0 h1 h2 => ?_) (fun h0 h1 h2 => ?_) (fun h0 h1 h2 h3 => ?_) (fun h0 h1 h2 h3 => ?_) (fun h0 h1 h2 => ?_)
  · rw [if_pos (of_decide_eq_true (c0.symm.trans h0))] at hr' hs
    exact ⟨fun i hi => by rw [hr']; exact (fb_zero i hi).symm, hs.symm⟩
  · rw [if_neg (of_decide_eq_false (c0.symm.trans h0)), if_pos (of_decide_eq_true (k1.hit.symm.trans h1))] at hr' hs
    have e : evZ x = -x := if_pos (of_decide_eq_true (k1.odd.symm.trans h2))
    exact ⟨fun i hi => by rw [hr', e]; exact k1.neg i hi, hs.symm⟩
  · rw [if_neg (of_decide_eq_false (c0.symm.trans h0)), if_pos (of_decide_eq_true (k1.hit.symm.trans h1))] at hr' hs
    have e : evZ x = x := if_neg (of_decide_eq_false (k1.odd.symm.trans h2))
    exact ⟨fun i hi => by rw [hr', e]; exact k1.out i hi, hs.symm⟩
  · rw [if_neg (of_decide_eq_false (c0.symm.trans h0)), if_neg (of_decide_eq_false (k1.hit.symm.trans h1)), if_pos (of_decide_eq_true (k2.hit.symm.trans h2))] at hr' hs
    have e : evZ y = -y := if_pos (of_decide_eq_true (k2.odd.symm.trans h3))
    exact ⟨fun i hi => by rw [hr', e]; exact k2.neg i hi, hs.symm⟩
  · rw [if_neg (of_decide_eq_false (c0.symm.trans h0)), if_neg (of_decide_eq_false (k1.hit.symm.trans h1)), if_pos (of_decide_eq_true (k2.hit.symm.trans h2))] at hr' hs
    have e : evZ y = y := if_neg (of_decide_eq_false (k2.odd.symm.trans h3))
    exact ⟨fun i hi => by rw [hr', e]; exact k2.out i hi, hs.symm⟩
  · rw [if_neg (of_decide_eq_false (c0.symm.trans h0)), if_neg (of_decide_eq_false (k1.hit.symm.trans h1)), if_neg (of_decide_eq_false (k2.hit.symm.trans h2))] at hr' hs
    exact ⟨fun i hi => by rw [hr']; exact (fb_zero i hi).symm, hs.symm⟩
end
end Sx

namespace Sx
open Go
theorem zp_pm (x : Zp) (k : Nat) (h : k < 2 ^ 256) : (zp x k).val = pm pN 256 x.val k := by rw [zp_val, pm_eq _ _ _ _ h]
theorem z_two_ne : (2 : Zp) ≠ 0 := by decide +kernel
theorem zneg_eq {x : Zp} (h : x = -x) : x = 0 := by
  have h1 : 2 * x = 0 := by grind
  rcases zdom prP h1 with h2 | h2
  · exact absurd h2 z_two_ne
  · exact h2
theorem zneg_val {x : Zp} (h : x ≠ 0) : (-x).val = pN - x.val := by
  have h1 : zi pN (((pN : Nat) : Int) - (x.val : Int)) = -x := by
    rw [zi_sub, zi_self, zi_of_val]
    grind
  have h2 : ((-x).val : Int) = ((pN : Nat) : Int) - (x.val : Int) := by
    rw [← h1, zi_val]
    have := x.isLt
    have h3 : x.val ≠ 0 := fun e => h (Fin.ext (by simpa using e))
    exact Int.emod_eq_of_lt (by omega) (by omega)
  have := x.isLt
  omega
theorem evZ_sq (x : Zp) : evZ x * evZ x = x * x := by
  unfold evZ
  split
  · grind
  · rfl
theorem evZ_even (x : Zp) : (evZ x).val % 2 = 0 := by
  unfold evZ
  split
  · rename_i h
    have h0 : x ≠ 0 := fun e => by subst e; simp at h
    rw [zneg_val h0]
    have := x.isLt
    simp only [pN] at this ⊢
    omega
  · rename_i h
    omega
theorem zp_odd7 (v : Zp) (h : v ≠ 0) : zp (v * v * v * (v * v * v) * v) halfN = zp v halfN := by
  have h1 : zp v halfN * zp v halfN = 1 := (zhalf_sq v).resolve_left h
  rw [mul_zp, mul_zp, mul_zp, mul_zp]
  generalize zp v halfN = w at *
  grind
theorem sqrt_cand (u v : Zp) : v * (u * (v * v * v) * zp (u * (v * v * v * (v * v * v) * v)) eighthN) * (u * (v * v * v) * zp (u * (v * v * v * (v * v * v) * v)) eighthN) = u * zp (u * (v * v * v * (v * v * v) * v)) (2 * eighthN + 1) := by
  rw [zp_succ, zp_sq]
  generalize zp (u * (v * v * v * (v * v * v) * v)) eighthN = w
  grind
theorem sqrt_quarter (u v : Zp) (hv : v ≠ 0) : zp (u * (v * v * v * (v * v * v) * v)) (2 * eighthN + 1) * zp (u * (v * v * v * (v * v * v) * v)) (2 * eighthN + 1) = zp (u * v) halfN := by
  rw [← zp_sq]
  have e : 2 * (2 * eighthN + 1) = halfN := by rw [eighthN_eq, halfN_eq]
  rw [e, mul_zp, zp_odd7 v hv, ← mul_zp]
theorem sqrt_u0 (v : Zp) : sqrtZ 0 v = (0, true) := if_pos rfl
theorem sqrt_v0 {u : Zp} (hu : u ≠ 0) : sqrtZ u 0 = (0, false) := by
  unfold sqrtZ
  rw [if_neg hu]
  dsimp only
  rw [if_neg (by intro h; apply hu; rw [← h]; grind), if_neg (by intro h; apply hu; rw [← h]; grind)]
theorem sqrt_some {u v : Zp} (hu : u ≠ 0) (hv : v ≠ 0) (h : zp (u * v) halfN = 1) : ∃ r, sqrtZ u v = (evZ r, true) ∧ v * r * r = u := by
  have h1 := sqrt_cand u v
  have h2 := sqrt_quarter u v hv
  rw [h] at h2
  unfold sqrtZ
  rw [if_neg hu]
  dsimp only
  generalize u * (v * v * v) * zp (u * (v * v * v * (v * v * v) * v)) eighthN = r at *
  generalize zp (u * (v * v * v * (v * v * v) * v)) (2 * eighthN + 1) = c at *
  rcases zsq_one prP h2 with hc | hc
  · have : v * r * r = u := by rw [h1, hc]; grind
    rw [if_pos this]
    exact ⟨r, rfl, this⟩
  · have hn : v * r * r ≠ u := fun e => hu (zneg_eq (by rw [h1, hc] at e; grind))
    have hi := iZ_sq
    have : v * (r * iZ) * (r * iZ) = u := by
      generalize iZ = i at *
      have : v * (r * i) * (r * i) = v * r * r * (i * i) := by grind
      rw [this, hi, h1, hc]
      grind
    rw [if_neg hn, if_pos this]
    exact ⟨r * iZ, rfl, this⟩
theorem sqrt_no {u v : Zp} (hu : u ≠ 0) (hv : v ≠ 0) (h : zp (u * v) halfN ≠ 1) : sqrtZ u v = (0, false) := by
  have h1 := sqrt_cand u v
  have h2 := sqrt_quarter u v hv
  unfold sqrtZ
  rw [if_neg hu]
  dsimp only
  generalize u * (v * v * v) * zp (u * (v * v * v * (v * v * v) * v)) eighthN = r at *
  generalize zp (u * (v * v * v * (v * v * v) * v)) (2 * eighthN + 1) = c at *
  have hn : v * r * r ≠ u := fun e => by
    rw [h1] at e
    have hc : c = 1 := zcancel prP hu (by rw [e]; grind)
    apply h
    rw [← h2, hc]
    grind
  have hn2 : v * (r * iZ) * (r * iZ) ≠ u := fun e => by
    have hi := iZ_sq
    generalize iZ = i at *
    have e2 : v * (r * i) * (r * i) = v * r * r * (i * i) := by grind
    rw [e2, hi, h1] at e
    have hc : c = -1 := zcancel prP hu (by grind)
    apply h
    rw [← h2, hc]
    grind
  rw [if_neg hn, if_neg hn2]
theorem sqrt_ok {u v : Zp} (hu : u ≠ 0) (hv : v ≠ 0) : (sqrtZ u v).2 = decide (legZ (u * v) = 1) := by
  by_cases h : zp (u * v) halfN = 1
  · obtain ⟨r, h1, _⟩ := sqrt_some hu hv h
    rw [h1, legZ_one.2 h]
    rfl
  · rw [sqrt_no hu hv h]
    have : ¬ legZ (u * v) = 1 := fun e => h (legZ_one.1 e)
    simp [this]
theorem sqrt_root {u v : Zp} (h : (sqrtZ u v).2 = true) : v * (sqrtZ u v).1 * (sqrtZ u v).1 = u ∧ (sqrtZ u v).1.val % 2 = 0 := by
  by_cases hu : u = 0
  · subst hu
    rw [sqrt_u0]
    exact ⟨by grind, by simp⟩
  · by_cases hv : v = 0
    · subst hv
      rw [sqrt_v0 hu] at h
      cases h
    · by_cases h1 : zp (u * v) halfN = 1
      · obtain ⟨r, h2, h3⟩ := sqrt_some hu hv h1
        rw [h2]
        refine ⟨?_, evZ_even r⟩
        have := evZ_sq r
        dsimp only
        generalize evZ r = w at *
        grind
      · rw [sqrt_no hu hv h1] at h
        cases h
theorem leg_mul (x y : Zp) : legZ (x * y) = legZ x * legZ y := by
  have hm := mul_zp x y halfN
  rcases legZ_cases x with ⟨h1, h2⟩ | ⟨h1, h2, h3⟩ | ⟨h1, h2, h3⟩
  · have : x * y = 0 := by rw [h1]; grind
    rw [legZ_zero.2 this, h2, Int.zero_mul]
  · rcases legZ_cases y with ⟨h4, h5⟩ | ⟨h4, h5, h6⟩ | ⟨h4, h5, h6⟩
    · have : x * y = 0 := by rw [h4]; grind
      rw [legZ_zero.2 this, h5, Int.mul_zero]
    · rw [h3, h6, legZ_one.2 (by rw [hm, h2, h5]; grind)]; rfl
    · rw [h3, h6, legZ_neg.2 (by rw [hm, h2, h5]; grind)]; rfl
  · rcases legZ_cases y with ⟨h4, h5⟩ | ⟨h4, h5, h6⟩ | ⟨h4, h5, h6⟩
    · have : x * y = 0 := by rw [h4]; grind
      rw [legZ_zero.2 this, h5, Int.mul_zero]
    · rw [h3, h6, legZ_neg.2 (by rw [hm, h2, h5]; grind)]; rfl
    · rw [h3, h6, legZ_one.2 (by rw [hm, h2, h5]; grind)]; rfl
theorem zp_half_zero : zp (0 : Zp) halfN = 0 := zero_zp _ (by decide)
theorem canB_fb (x : Zp) : canB (fb x) = true := by
  unfold canB
  rw [num_fb]
  exact decide_eq_true (zval_bounds x).2
end Sx

namespace Sx
open Go
def dZ : Zp := zi pN 37095705934669439343138083508754565189542113879843219016388785533085940283555
theorem dZ_leg : zp dZ halfN = -1 := by
  apply Fin.ext
  rw [zp_pm _ _ (by decide +kernel)]
  unfold dZ
  decide +kernel
theorem dZ_none (z : Zp) : z * z ≠ dZ := by
  intro h
  have h1 := dZ_leg
  rw [← h, mul_zp] at h1
  rcases zhalf_sq z with h2 | h2
  · subst h2
    rw [zp_half_zero] at h1
    exact absurd h1 (by decide +kernel)
  · rw [h2] at h1
    exact absurd h1 (by decide +kernel)
theorem dZ_ratio {a b : Zp} (h : a * a = dZ * (b * b)) : b = 0 := by
  by_cases hb : b = 0
  · exact hb
  · exfalso
    have h1 := mul_zinv prP hb
    refine dZ_none (a * zinv b) ?_
    have e : a * zinv b * (a * zinv b) = a * a * (zinv b * zinv b) := by grind
    rw [e, h]
    have e2 : dZ * (b * b) * (zinv b * zinv b) = dZ * (b * zinv b * (b * zinv b)) := by grind
    rw [e2, h1]
    grind
def onE (x y : Zp) : Prop := y * y - x * x = 1 + dZ * (x * x) * (y * y)
theorem one_ne_z : (1 : Zp) ≠ 0 := by decide +kernel
theorem edge_id (i d x1 y1 x2 y2 c : Zp) :
    (i * x1 + c * (d * x1 * x2 * y1 * y2 * y1)) * (i * x1 + c * (d * x1 * x2 * y1 * y2 * y1)) = d * ((x1 * y1 * (i * x2 + c * y2)) * (x1 * y1 * (i * x2 + c * y2)))
      + (i * i + 1) * (x1 * x1 - d * x1 * x1 * y1 * y1 * x2 * x2) + (c * c - 1) * (d * x1 * x2 * y1 * y2 * (d * x1 * x2 * y1 * y2) * y1 * y1 - d * x1 * x1 * y1 * y1 * y2 * y2)
      + (d * x1 * x2 * y1 * y2 * (d * x1 * x2 * y1 * y2) - 1) * (y1 * y1 - 1) + (y1 * y1 - x1 * x1 - (1 + d * (x1 * x1) * (y1 * y1))) - d * x1 * x1 * y1 * y1 * (y2 * y2 - x2 * x2 - (1 + d * (x2 * x2) * (y2 * y2))) := by grind
theorem z_one_sq : (1 : Zp) * 1 = 1 := by grind
theorem z_neg_sq : (-1 : Zp) * -1 = 1 := by grind
theorem z_xy (d x1 x2 y1 y2 : Zp) : d * x1 * x2 * y1 * y2 = x1 * y1 * (d * x2 * y2) := by grind
theorem z_zero_sq (w : Zp) : (0 : Zp) * w * (0 * w) = 0 := by grind
theorem z_two_of (i x y : Zp) : (i * x + 1 * y) - (i * x + -1 * y) = 2 * y := by grind
theorem z_zero_y (d x1 x2 y1 : Zp) : d * x1 * x2 * y1 * 0 * (d * x1 * x2 * y1 * 0) = 0 := by grind
theorem z_sub_self (a : Zp) : a - a = 0 := by grind
theorem z_neg_add : (-1 : Zp) + 1 = 0 := by grind
theorem z_tidy (a u v w z : Zp) : a + 0 * u + 0 * v + 0 * w + 0 - z * 0 = a := by grind
theorem edge_sq {x1 y1 x2 y2 : Zp} (h1 : onE x1 y1) (h2 : onE x2 y2) (hs : dZ * x1 * x2 * y1 * y2 * (dZ * x1 * x2 * y1 * y2) = 1) (c : Zp) (hc : c * c = 1) :
    (iZ * x1 + c * (dZ * x1 * x2 * y1 * y2 * y1)) * (iZ * x1 + c * (dZ * x1 * x2 * y1 * y2 * y1)) = dZ * ((x1 * y1 * (iZ * x2 + c * y2)) * (x1 * y1 * (iZ * x2 + c * y2))) := by
  unfold onE at h1 h2
  rw [edge_id, iZ_sq, hc, hs, h1, h2, z_neg_add, z_sub_self, z_sub_self, z_sub_self]
  exact z_tidy _ _ _ _ _
theorem edge_ne {x1 y1 x2 y2 : Zp} (h1 : onE x1 y1) (h2 : onE x2 y2) : dZ * x1 * x2 * y1 * y2 * (dZ * x1 * x2 * y1 * y2) ≠ 1 := by
  intro hs
  have e1 := dZ_ratio (edge_sq h1 h2 hs 1 z_one_sq)
  have e2 := dZ_ratio (edge_sq h1 h2 hs (-1) z_neg_sq)
  have z : ∀ {a b : Zp}, a * b = 0 → a = 0 ∨ b = 0 := fun h => zdom prP h
  have hxy : x1 * y1 ≠ 0 := by
    intro e
    rw [z_xy dZ x1 x2 y1 y2, e, z_zero_sq] at hs
    exact one_ne_z hs.symm
  have a1 := (z e1).resolve_left hxy
  have a2 := (z e2).resolve_left hxy
  have hy := z_two_of iZ x2 y2
  rw [a1, a2, z_sub_self] at hy
  have hy2 : y2 = 0 := (z hy.symm).resolve_left z_two_ne
  rw [hy2, z_zero_y] at hs
  exact one_ne_z hs.symm
end Sx

namespace Sx
open Go
set_option maxRecDepth 100000
theorem ed_on (d x1 y1 x2 y2 : Zp) :
    (y1 * y2 + x1 * x2) * (y1 * y2 + x1 * x2) * ((1 + (d * x1 * x2 * y1 * y2)) * (1 + (d * x1 * x2 * y1 * y2))) - (x1 * y2 + x2 * y1) * (x1 * y2 + x2 * y1) * ((1 - (d * x1 * x2 * y1 * y2)) * (1 - (d * x1 * x2 * y1 * y2))) - ((1 + (d * x1 * x2 * y1 * y2)) * (1 - (d * x1 * x2 * y1 * y2)) * ((1 + (d * x1 * x2 * y1 * y2)) * (1 - (d * x1 * x2 * y1 * y2))) + d * ((x1 * y2 + x2 * y1) * (x1 * y2 + x2 * y1)) * ((y1 * y2 + x1 * x2) * (y1 * y2 + x1 * x2))) = (x1 * x1 * y1 * y1 * x2 * x2 * x2 * x2 * y2 * y2 * y2 * y2 * d * d * d - x1 * x1 * x2 * x2 * x2 * x2 * y2 * y2 * y2 * y2 * d * d - x1 * x1 * x2 * x2 * x2 * x2 * y2 * y2 * d + x1 * x1 * x2 * x2 * y2 * y2 * y2 * y2 * d + y1 * y1 * x2 * x2 * x2 * x2 * y2 * y2 * y2 * y2 * d * d + y1 * y1 * x2 * x2 * x2 * x2 * y2 * y2 * d - y1 * y1 * x2 * x2 * y2 * y2 * y2 * y2 * d - x2 * x2 * x2 * x2 * y2 * y2 * y2 * y2 * d * d - 2 * x2 * x2 * x2 * x2 * y2 * y2 * y2 * y2 * d - 2 * x2 * x2 * x2 * x2 * y2 * y2 + x2 * x2 * x2 * x2 + 2 * x2 * x2 * y2 * y2 * y2 * y2 - 2 * x2 * x2 * y2 * y2 * d - 4 * x2 * x2 * y2 * y2 + y2 * y2 * y2 * y2) * (y1 * y1 - x1 * x1 - (1 + d * (x1 * x1) * (y1 * y1))) + (x1 * x1 * x1 * x1 * x2 * x2 * y2 * y2 * d + 2 * x1 * x1 * x2 * x2 * y2 * y2 * d + 2 * x1 * x1 * x2 * x2 * y2 * y2 - x1 * x1 * x2 * x2 + x1 * x1 * y2 * y2 + y1 * y1 * y1 * y1 * x2 * x2 * y2 * y2 * d - 2 * y1 * y1 * x2 * x2 * y2 * y2 * d - 2 * y1 * y1 * x2 * x2 * y2 * y2 + y1 * y1 * x2 * x2 - y1 * y1 * y2 * y2 + x2 * x2 * y2 * y2 * d + 2 * x2 * x2 * y2 * y2 - x2 * x2 + y2 * y2 + 1) * (y2 * y2 - x2 * x2 - (1 + d * (x2 * x2) * (y2 * y2))) := by grind
theorem ed_ax (d x1 y1 x2 y2 x3 y3 : Zp) :
    ((x1 * y2 + x2 * y1) * (1 - (d * x1 * x2 * y1 * y2)) * y3 + x3 * (y1 * y2 + x1 * x2) * (1 + (d * x1 * x2 * y1 * y2))) * ((1 + (d * x2 * x3 * y2 * y3)) * (1 - (d * x2 * x3 * y2 * y3)) + d * x1 * (x2 * y3 + x3 * y2) * y1 * (y2 * y3 + x2 * x3)) - (x1 * (y2 * y3 + x2 * x3) * (1 + (d * x2 * x3 * y2 * y3)) + (x2 * y3 + x3 * y2) * (1 - (d * x2 * x3 * y2 * y3)) * y1) * ((1 + (d * x1 * x2 * y1 * y2)) * (1 - (d * x1 * x2 * y1 * y2)) + d * (x1 * y2 + x2 * y1) * x3 * (y1 * y2 + x1 * x2) * y3) = (- x1 * x2 * x2 * x2 * x2 * y2 * y2 * y2 * x3 * x3 * y3 * d * d - x1 * x2 * x2 * x2 * x2 * y2 * x3 * x3 * y3 * d - x1 * x2 * x2 * x2 * y2 * y2 * y2 * y2 * x3 * y3 * y3 * d * d - x1 * x2 * x2 * x2 * y2 * y2 * x3 * x3 * x3 * d - x1 * x2 * x2 * x2 * y2 * y2 * x3 * d + x1 * x2 * x2 * y2 * y2 * y2 * y3 * y3 * y3 * d - x1 * x2 * x2 * y2 * y2 * y2 * y3 * d + x1 * x2 * y2 * y2 * y2 * y2 * x3 * y3 * y3 * d + y1 * x2 * x2 * x2 * x2 * y2 * y2 * y2 * x3 * y3 * y3 * d * d + y1 * x2 * x2 * x2 * x2 * y2 * x3 * y3 * y3 * d + y1 * x2 * x2 * x2 * y2 * y2 * y2 * y2 * x3 * x3 * y3 * d * d + y1 * x2 * x2 * x2 * y2 * y2 * y3 * y3 * y3 * d - y1 * x2 * x2 * x2 * y2 * y2 * y3 * d - y1 * x2 * x2 * y2 * y2 * y2 * x3 * x3 * x3 * d - y1 * x2 * x2 * y2 * y2 * y2 * x3 * d - y1 * x2 * y2 * y2 * y2 * y2 * x3 * x3 * y3 * d) * (y1 * y1 - x1 * x1 - (1 + d * (x1 * x1) * (y1 * y1))) + (x1 * x1 * x1 * x2 * x2 * y2 * x3 * x3 * y3 * d + x1 * x1 * x1 * x2 * y2 * y2 * x3 * y3 * y3 * d + x1 * x1 * x1 * x2 * x3 * x3 * x3 * y3 * y3 * d + x1 * x1 * x1 * x2 * x3 * x3 * x3 - x1 * x1 * x1 * x2 * x3 * y3 * y3 + x1 * x1 * x1 * x2 * x3 + x1 * x1 * x1 * y2 * x3 * x3 * y3 * y3 * y3 * d + x1 * x1 * x1 * y2 * x3 * x3 * y3 - x1 * x1 * x1 * y2 * y3 * y3 * y3 + x1 * x1 * x1 * y2 * y3 + x1 * x1 * y1 * x2 * x2 * y2 * x3 * x3 * x3 * y3 * y3 * d * d - x1 * x1 * y1 * x2 * x2 * y2 * x3 * y3 * y3 * d - x1 * x1 * y1 * x2 * y2 * y2 * x3 * x3 * y3 * y3 * y3 * d * d - x1 * x1 * y1 * x2 * y2 * y2 * x3 * x3 * y3 * d + x1 * x1 * y1 * x2 * x3 * x3 * y3 * y3 * y3 * d + x1 * x1 * y1 * x2 * x3 * x3 * y3 - x1 * x1 * y1 * x2 * y3 * y3 * y3 + x1 * x1 * y1 * x2 * y3 + x1 * x1 * y1 * y2 * x3 * x3 * x3 * y3 * y3 * d + x1 * x1 * y1 * y2 * x3 * x3 * x3 - x1 * x1 * y1 * y2 * x3 * y3 * y3 + x1 * x1 * y1 * y2 * x3 - x1 * y1 * y1 * x2 * x2 * y2 * x3 * x3 * y3 * y3 * y3 * d * d - x1 * y1 * y1 * x2 * x2 * y2 * x3 * x3 * y3 * d + x1 * y1 * y1 * x2 * y2 * y2 * x3 * x3 * x3 * y3 * y3 * d * d - x1 * y1 * y1 * x2 * y2 * y2 * x3 * y3 * y3 * d - x1 * y1 * y1 * x2 * x3 * x3 * x3 * y3 * y3 * d - x1 * y1 * y1 * x2 * x3 * x3 * x3 + x1 * y1 * y1 * x2 * x3 * y3 * y3 - x1 * y1 * y1 * x2 * x3 - x1 * y1 * y1 * y2 * x3 * x3 * y3 * y3 * y3 * d - x1 * y1 * y1 * y2 * x3 * x3 * y3 + x1 * y1 * y1 * y2 * y3 * y3 * y3 - x1 * y1 * y1 * y2 * y3 + x1 * x2 * x2 * y2 * x3 * x3 * y3 * d + x1 * x2 * y2 * y2 * x3 * y3 * y3 * d + x1 * x2 * x3 * x3 * x3 * y3 * y3 * d + x1 * x2 * x3 * x3 * x3 - x1 * x2 * x3 * y3 * y3 + x1 * x2 * x3 + x1 * y2 * x3 * x3 * y3 * y3 * y3 * d + x1 * y2 * x3 * x3 * y3 - x1 * y2 * y3 * y3 * y3 + x1 * y2 * y3 + y1 * y1 * y1 * x2 * x2 * y2 * x3 * y3 * y3 * d + y1 * y1 * y1 * x2 * y2 * y2 * x3 * x3 * y3 * d - y1 * y1 * y1 * x2 * x3 * x3 * y3 * y3 * y3 * d - y1 * y1 * y1 * x2 * x3 * x3 * y3 + y1 * y1 * y1 * x2 * y3 * y3 * y3 - y1 * y1 * y1 * x2 * y3 - y1 * y1 * y1 * y2 * x3 * x3 * x3 * y3 * y3 * d - y1 * y1 * y1 * y2 * x3 * x3 * x3 + y1 * y1 * y1 * y2 * x3 * y3 * y3 - y1 * y1 * y1 * y2 * x3 - y1 * x2 * x2 * y2 * x3 * y3 * y3 * d - y1 * x2 * y2 * y2 * x3 * x3 * y3 * d + y1 * x2 * x3 * x3 * y3 * y3 * y3 * d + y1 * x2 * x3 * x3 * y3 - y1 * x2 * y3 * y3 * y3 + y1 * x2 * y3 + y1 * y2 * x3 * x3 * x3 * y3 * y3 * d + y1 * y2 * x3 * x3 * x3 - y1 * y2 * x3 * y3 * y3 + y1 * y2 * x3) * (y2 * y2 - x2 * x2 - (1 + d * (x2 * x2) * (y2 * y2))) + (- x1 * x1 * x1 * x2 * x2 * x2 * x3 - x1 * x1 * x1 * x2 * x2 * y2 * y3 + x1 * x1 * x1 * x2 * y2 * y2 * x3 - x1 * x1 * x1 * x2 * x3 + x1 * x1 * x1 * y2 * y2 * y2 * y3 - x1 * x1 * x1 * y2 * y3 - x1 * x1 * y1 * x2 * x2 * x2 * y3 - x1 * x1 * y1 * x2 * x2 * y2 * x3 * d - x1 * x1 * y1 * x2 * x2 * y2 * x3 + x1 * x1 * y1 * x2 * y2 * y2 * y3 * d + x1 * x1 * y1 * x2 * y2 * y2 * y3 - x1 * x1 * y1 * x2 * y3 + x1 * x1 * y1 * y2 * y2 * y2 * x3 - x1 * x1 * y1 * y2 * x3 + x1 * y1 * y1 * x2 * x2 * x2 * x3 + x1 * y1 * y1 * x2 * x2 * y2 * y3 * d + x1 * y1 * y1 * x2 * x2 * y2 * y3 - x1 * y1 * y1 * x2 * y2 * y2 * x3 * d - x1 * y1 * y1 * x2 * y2 * y2 * x3 + x1 * y1 * y1 * x2 * x3 - x1 * y1 * y1 * y2 * y2 * y2 * y3 + x1 * y1 * y1 * y2 * y3 - x1 * x2 * x2 * x2 * x3 - x1 * x2 * x2 * y2 * y3 + x1 * x2 * y2 * y2 * x3 - x1 * x2 * x3 + x1 * y2 * y2 * y2 * y3 - x1 * y2 * y3 + y1 * y1 * y1 * x2 * x2 * x2 * y3 + y1 * y1 * y1 * x2 * x2 * y2 * x3 - y1 * y1 * y1 * x2 * y2 * y2 * y3 + y1 * y1 * y1 * x2 * y3 - y1 * y1 * y1 * y2 * y2 * y2 * x3 + y1 * y1 * y1 * y2 * x3 - y1 * x2 * x2 * x2 * y3 - y1 * x2 * x2 * y2 * x3 + y1 * x2 * y2 * y2 * y3 - y1 * x2 * y3 + y1 * y2 * y2 * y2 * x3 - y1 * y2 * x3) * (y3 * y3 - x3 * x3 - (1 + d * (x3 * x3) * (y3 * y3))) := by grind
theorem ed_ay (d x1 y1 x2 y2 x3 y3 : Zp) :
    ((y1 * y2 + x1 * x2) * (1 + (d * x1 * x2 * y1 * y2)) * y3 + (x1 * y2 + x2 * y1) * (1 - (d * x1 * x2 * y1 * y2)) * x3) * ((1 + (d * x2 * x3 * y2 * y3)) * (1 - (d * x2 * x3 * y2 * y3)) - d * x1 * (x2 * y3 + x3 * y2) * y1 * (y2 * y3 + x2 * x3)) - (y1 * (y2 * y3 + x2 * x3) * (1 + (d * x2 * x3 * y2 * y3)) + x1 * (x2 * y3 + x3 * y2) * (1 - (d * x2 * x3 * y2 * y3))) * ((1 + (d * x1 * x2 * y1 * y2)) * (1 - (d * x1 * x2 * y1 * y2)) - d * (x1 * y2 + x2 * y1) * x3 * (y1 * y2 + x1 * x2) * y3) = (x1 * x2 * x2 * x2 * x2 * y2 * y2 * y2 * x3 * y3 * y3 * d * d + x1 * x2 * x2 * x2 * x2 * y2 * x3 * y3 * y3 * d + x1 * x2 * x2 * x2 * y2 * y2 * y2 * y2 * x3 * x3 * y3 * d * d + x1 * x2 * x2 * x2 * y2 * y2 * y3 * y3 * y3 * d - x1 * x2 * x2 * x2 * y2 * y2 * y3 * d - x1 * x2 * x2 * y2 * y2 * y2 * x3 * x3 * x3 * d - x1 * x2 * x2 * y2 * y2 * y2 * x3 * d - x1 * x2 * y2 * y2 * y2 * y2 * x3 * x3 * y3 * d - y1 * x2 * x2 * x2 * x2 * y2 * y2 * y2 * x3 * x3 * y3 * d * d - y1 * x2 * x2 * x2 * x2 * y2 * x3 * x3 * y3 * d - y1 * x2 * x2 * x2 * y2 * y2 * y2 * y2 * x3 * y3 * y3 * d * d - y1 * x2 * x2 * x2 * y2 * y2 * x3 * x3 * x3 * d - y1 * x2 * x2 * x2 * y2 * y2 * x3 * d + y1 * x2 * x2 * y2 * y2 * y2 * y3 * y3 * y3 * d - y1 * x2 * x2 * y2 * y2 * y2 * y3 * d + y1 * x2 * y2 * y2 * y2 * y2 * x3 * y3 * y3 * d) * (y1 * y1 - x1 * x1 - (1 + d * (x1 * x1) * (y1 * y1))) + (- x1 * x1 * x1 * x2 * x2 * y2 * x3 * y3 * y3 * d - x1 * x1 * x1 * x2 * y2 * y2 * x3 * x3 * y3 * d + x1 * x1 * x1 * x2 * x3 * x3 * y3 * y3 * y3 * d + x1 * x1 * x1 * x2 * x3 * x3 * y3 - x1 * x1 * x1 * x2 * y3 * y3 * y3 + x1 * x1 * x1 * x2 * y3 + x1 * x1 * x1 * y2 * x3 * x3 * x3 * y3 * y3 * d + x1 * x1 * x1 * y2 * x3 * x3 * x3 - x1 * x1 * x1 * y2 * x3 * y3 * y3 + x1 * x1 * x1 * y2 * x3 + x1 * x1 * y1 * x2 * x2 * y2 * x3 * x3 * y3 * y3 * y3 * d * d + x1 * x1 * y1 * x2 * x2 * y2 * x3 * x3 * y3 * d - x1 * x1 * y1 * x2 * y2 * y2 * x3 * x3 * x3 * y3 * y3 * d * d + x1 * x1 * y1 * x2 * y2 * y2 * x3 * y3 * y3 * d + x1 * x1 * y1 * x2 * x3 * x3 * x3 * y3 * y3 * d + x1 * x1 * y1 * x2 * x3 * x3 * x3 - x1 * x1 * y1 * x2 * x3 * y3 * y3 + x1 * x1 * y1 * x2 * x3 + x1 * x1 * y1 * y2 * x3 * x3 * y3 * y3 * y3 * d + x1 * x1 * y1 * y2 * x3 * x3 * y3 - x1 * x1 * y1 * y2 * y3 * y3 * y3 + x1 * x1 * y1 * y2 * y3 - x1 * y1 * y1 * x2 * x2 * y2 * x3 * x3 * x3 * y3 * y3 * d * d + x1 * y1 * y1 * x2 * x2 * y2 * x3 * y3 * y3 * d + x1 * y1 * y1 * x2 * y2 * y2 * x3 * x3 * y3 * y3 * y3 * d * d + x1 * y1 * y1 * x2 * y2 * y2 * x3 * x3 * y3 * d - x1 * y1 * y1 * x2 * x3 * x3 * y3 * y3 * y3 * d - x1 * y1 * y1 * x2 * x3 * x3 * y3 + x1 * y1 * y1 * x2 * y3 * y3 * y3 - x1 * y1 * y1 * x2 * y3 - x1 * y1 * y1 * y2 * x3 * x3 * x3 * y3 * y3 * d - x1 * y1 * y1 * y2 * x3 * x3 * x3 + x1 * y1 * y1 * y2 * x3 * y3 * y3 - x1 * y1 * y1 * y2 * x3 - x1 * x2 * x2 * y2 * x3 * y3 * y3 * d - x1 * x2 * y2 * y2 * x3 * x3 * y3 * d + x1 * x2 * x3 * x3 * y3 * y3 * y3 * d + x1 * x2 * x3 * x3 * y3 - x1 * x2 * y3 * y3 * y3 + x1 * x2 * y3 + x1 * y2 * x3 * x3 * x3 * y3 * y3 * d + x1 * y2 * x3 * x3 * x3 - x1 * y2 * x3 * y3 * y3 + x1 * y2 * x3 - y1 * y1 * y1 * x2 * x2 * y2 * x3 * x3 * y3 * d - y1 * y1 * y1 * x2 * y2 * y2 * x3 * y3 * y3 * d - y1 * y1 * y1 * x2 * x3 * x3 * x3 * y3 * y3 * d - y1 * y1 * y1 * x2 * x3 * x3 * x3 + y1 * y1 * y1 * x2 * x3 * y3 * y3 - y1 * y1 * y1 * x2 * x3 - y1 * y1 * y1 * y2 * x3 * x3 * y3 * y3 * y3 * d - y1 * y1 * y1 * y2 * x3 * x3 * y3 + y1 * y1 * y1 * y2 * y3 * y3 * y3 - y1 * y1 * y1 * y2 * y3 + y1 * x2 * x2 * y2 * x3 * x3 * y3 * d + y1 * x2 * y2 * y2 * x3 * y3 * y3 * d + y1 * x2 * x3 * x3 * x3 * y3 * y3 * d + y1 * x2 * x3 * x3 * x3 - y1 * x2 * x3 * y3 * y3 + y1 * x2 * x3 + y1 * y2 * x3 * x3 * y3 * y3 * y3 * d + y1 * y2 * x3 * x3 * y3 - y1 * y2 * y3 * y3 * y3 + y1 * y2 * y3) * (y2 * y2 - x2 * x2 - (1 + d * (x2 * x2) * (y2 * y2))) + (- x1 * x1 * x1 * x2 * x2 * x2 * y3 - x1 * x1 * x1 * x2 * x2 * y2 * x3 + x1 * x1 * x1 * x2 * y2 * y2 * y3 - x1 * x1 * x1 * x2 * y3 + x1 * x1 * x1 * y2 * y2 * y2 * x3 - x1 * x1 * x1 * y2 * x3 - x1 * x1 * y1 * x2 * x2 * x2 * x3 - x1 * x1 * y1 * x2 * x2 * y2 * y3 * d - x1 * x1 * y1 * x2 * x2 * y2 * y3 + x1 * x1 * y1 * x2 * y2 * y2 * x3 * d + x1 * x1 * y1 * x2 * y2 * y2 * x3 - x1 * x1 * y1 * x2 * x3 + x1 * x1 * y1 * y2 * y2 * y2 * y3 - x1 * x1 * y1 * y2 * y3 + x1 * y1 * y1 * x2 * x2 * x2 * y3 + x1 * y1 * y1 * x2 * x2 * y2 * x3 * d + x1 * y1 * y1 * x2 * x2 * y2 * x3 - x1 * y1 * y1 * x2 * y2 * y2 * y3 * d - x1 * y1 * y1 * x2 * y2 * y2 * y3 + x1 * y1 * y1 * x2 * y3 - x1 * y1 * y1 * y2 * y2 * y2 * x3 + x1 * y1 * y1 * y2 * x3 - x1 * x2 * x2 * x2 * y3 - x1 * x2 * x2 * y2 * x3 + x1 * x2 * y2 * y2 * y3 - x1 * x2 * y3 + x1 * y2 * y2 * y2 * x3 - x1 * y2 * x3 + y1 * y1 * y1 * x2 * x2 * x2 * x3 + y1 * y1 * y1 * x2 * x2 * y2 * y3 - y1 * y1 * y1 * x2 * y2 * y2 * x3 + y1 * y1 * y1 * x2 * x3 - y1 * y1 * y1 * y2 * y2 * y2 * y3 + y1 * y1 * y1 * y2 * y3 - y1 * x2 * x2 * x2 * x3 - y1 * x2 * x2 * y2 * y3 + y1 * x2 * y2 * y2 * x3 - y1 * x2 * x3 + y1 * y2 * y2 * y2 * y3 - y1 * y2 * y3) * (y3 * y3 - x3 * x3 - (1 + d * (x3 * x3) * (y3 * y3))) := by grind
end Sx

namespace Sx
open Go
theorem z_frac {a b c e : Zp} (hb : b ≠ 0) (he : e ≠ 0) (h : a * e = c * b) : a * zinv b = c * zinv e := by
  have h1 := mul_zinv prP hb
  have h2 := mul_zinv prP he
  have e1 : a * zinv b = a * e * (zinv b * zinv e) + a * zinv b * (1 - e * zinv e) := by grind
  have e2 : c * zinv e = c * b * (zinv b * zinv e) + c * zinv e * (1 - b * zinv b) := by grind
  rw [e1, e2, h, h1, h2, z_sub_self]
  grind
theorem z_ne_mul {a b : Zp} (ha : a ≠ 0) (hb : b ≠ 0) : a * b ≠ 0 := fun h => (zdom prP h).elim ha hb
theorem z_inv_one {a : Zp} (h : a ≠ 0) : a * zinv a = 1 := mul_zinv prP h
def tE (x1 y1 x2 y2 : Zp) : Zp := dZ * x1 * x2 * y1 * y2
theorem div_ne {x1 y1 x2 y2 : Zp} (h1 : onE x1 y1) (h2 : onE x2 y2) : 1 + tE x1 y1 x2 y2 ≠ 0 ∧ 1 - tE x1 y1 x2 y2 ≠ 0 := by
  have h := edge_ne h1 h2
  refine ⟨fun e => h ?_, fun e => h ?_⟩
  · have e1 : tE x1 y1 x2 y2 = -1 := by
      have : tE x1 y1 x2 y2 = (1 + tE x1 y1 x2 y2) - 1 := by grind
      rw [this, e]; grind
    show tE x1 y1 x2 y2 * tE x1 y1 x2 y2 = 1
    rw [e1]; grind
  · have e1 : tE x1 y1 x2 y2 = 1 := by
      have : tE x1 y1 x2 y2 = 1 - (1 - tE x1 y1 x2 y2) := by grind
      rw [this, e]; grind
    show tE x1 y1 x2 y2 * tE x1 y1 x2 y2 = 1
    rw [e1]; grind
def edX (x1 y1 x2 y2 : Zp) : Zp := (x1 * y2 + x2 * y1) * zinv (1 + tE x1 y1 x2 y2)
def edY (x1 y1 x2 y2 : Zp) : Zp := (y1 * y2 + x1 * x2) * zinv (1 - tE x1 y1 x2 y2)
theorem z_onend (w r s : Zp) : w + r * (1 - 1 * 1) - s * (1 - 1 * 1) = w + (1 - 1 * 1 * (1 * 1)) := by grind
theorem on_frac {A B u v p q : Zp} (hu : p * u = 1) (hv : q * v = 1) (h : B * B * (p * p) - A * A * (q * q) = p * q * (p * q) + dZ * (A * A) * (B * B)) : onE (A * u) (B * v) := by
  unfold onE
  generalize dZ = d at *
  have e1 : B * v * (B * v) - A * u * (A * u) = (B * B * (p * p) - A * A * (q * q)) * (u * u * (v * v)) + (B * v * (B * v)) * (1 - p * u * (p * u)) - A * u * (A * u) * (1 - q * v * (q * v)) := by grind
  have e2 : 1 + d * (A * u * (A * u)) * (B * v * (B * v)) = (p * q * (p * q) + d * (A * A) * (B * B)) * (u * u * (v * v)) + (1 - p * u * (p * u) * (q * v * (q * v))) := by grind
  rw [e1, e2, h, hu, hv]
  exact z_onend _ _ _
theorem z_cancel {a b : Zp} (h : a - b = 0) : a = b := by
  have e : a = (a - b) + b := by grind
  rw [e, h]; grind
theorem ed_zero2 (q1 q2 : Zp) : q1 * 0 + q2 * 0 = 0 := by grind
theorem ed_zero3 (q1 q2 q3 : Zp) : q1 * 0 + q2 * 0 + q3 * 0 = 0 := by grind
theorem add_on {x1 y1 x2 y2 : Zp} (h1 : onE x1 y1) (h2 : onE x2 y2) : onE (edX x1 y1 x2 y2) (edY x1 y1 x2 y2) := by
  obtain ⟨n1, n2⟩ := div_ne h1 h2
  refine on_frac (z_inv_one n1) (z_inv_one n2) ?_
  have e := ed_on dZ x1 y1 x2 y2
  unfold onE at h1 h2
  rw [h1, h2, z_sub_self, z_sub_self, ed_zero2] at e
  exact z_cancel e
theorem sum3_x {A B u v p q x3 y3 : Zp} (hu : p * u = 1) (hv : q * v = 1) (d : Zp) : (A * u * y3 + x3 * (B * v)) * (p * q) = A * q * y3 + x3 * B * p ∧ (1 + d * (A * u) * x3 * (B * v) * y3) * (p * q) = p * q + d * A * x3 * B * y3 := by
  constructor
  · have e : (A * u * y3 + x3 * (B * v)) * (p * q) = A * q * y3 * (p * u) + x3 * B * p * (q * v) := by grind
    rw [e, hu, hv]; grind
  · have e : (1 + d * (A * u) * x3 * (B * v) * y3) * (p * q) = p * q + d * A * x3 * B * y3 * (p * u) * (q * v) := by grind
    rw [e, hu, hv]; grind
theorem sum3_y {A B u v p q x3 y3 : Zp} (hu : p * u = 1) (hv : q * v = 1) (d : Zp) : (B * v * y3 + A * u * x3) * (p * q) = B * p * y3 + A * q * x3 ∧ (1 - d * (A * u) * x3 * (B * v) * y3) * (p * q) = p * q - d * A * x3 * B * y3 := by
  constructor
  · have e : (B * v * y3 + A * u * x3) * (p * q) = B * p * y3 * (q * v) + A * q * x3 * (p * u) := by grind
    rw [e, hu, hv]; grind
  · have e : (1 - d * (A * u) * x3 * (B * v) * y3) * (p * q) = p * q - d * A * x3 * B * y3 * (p * u) * (q * v) := by grind
    rw [e, hu, hv]; grind
theorem z_scale {a b k : Zp} (hb : b ≠ 0) (hk : k ≠ 0) : a * zinv b = (a * k) * zinv (b * k) := by
  refine z_frac hb (z_ne_mul hb hk) ?_
  grind
theorem tE_comm (x1 y1 x2 y2 : Zp) : tE x2 y2 x1 y1 = tE x1 y1 x2 y2 := by unfold tE; grind
theorem edX_comm (x1 y1 x2 y2 : Zp) : edX x1 y1 x2 y2 = edX x2 y2 x1 y1 := by
  unfold edX
  rw [tE_comm x1 y1 x2 y2]
  congr 1
  grind
theorem edY_comm (x1 y1 x2 y2 : Zp) : edY x1 y1 x2 y2 = edY x2 y2 x1 y1 := by
  unfold edY
  rw [tE_comm x1 y1 x2 y2]
  congr 1
  grind
end Sx

namespace Sx
open Go
theorem sum3_xr {A B u v p q x1 y1 : Zp} (hu : p * u = 1) (hv : q * v = 1) (d : Zp) : (x1 * (B * v) + A * u * y1) * (p * q) = x1 * B * p + A * q * y1 ∧ (1 + d * x1 * (A * u) * y1 * (B * v)) * (p * q) = p * q + d * x1 * A * y1 * B := by
  constructor
  · have e : (x1 * (B * v) + A * u * y1) * (p * q) = x1 * B * p * (q * v) + A * q * y1 * (p * u) := by grind
    rw [e, hu, hv]; grind
  · have e : (1 + d * x1 * (A * u) * y1 * (B * v)) * (p * q) = p * q + d * x1 * A * y1 * B * (p * u) * (q * v) := by grind
    rw [e, hu, hv]; grind
theorem sum3_yr {A B u v p q x1 y1 : Zp} (hu : p * u = 1) (hv : q * v = 1) (d : Zp) : (y1 * (B * v) + x1 * (A * u)) * (p * q) = y1 * B * p + x1 * A * q ∧ (1 - d * x1 * (A * u) * y1 * (B * v)) * (p * q) = p * q - d * x1 * A * y1 * B := by
  constructor
  · have e : (y1 * (B * v) + x1 * (A * u)) * (p * q) = y1 * B * p * (q * v) + x1 * A * q * (p * u) := by grind
    rw [e, hu, hv]; grind
  · have e : (1 - d * x1 * (A * u) * y1 * (B * v)) * (p * q) = p * q - d * x1 * A * y1 * B * (p * u) * (q * v) := by grind
    rw [e, hu, hv]; grind
section
variable {x1 y1 x2 y2 x3 y3 : Zp} (h1 : onE x1 y1) (h2 : onE x2 y2) (h3 : onE x3 y3)
include h1 h2 h3
theorem edX_assoc : edX (edX x1 y1 x2 y2) (edY x1 y1 x2 y2) x3 y3 = edX x1 y1 (edX x2 y2 x3 y3) (edY x2 y2 x3 y3) := by
  obtain ⟨n1, n2⟩ := div_ne h1 h2
  obtain ⟨m1, m2⟩ := div_ne h2 h3
  have dl := (div_ne (add_on h1 h2) h3).1
  have dr := (div_ne h1 (add_on h2 h3)).1
  have sl := sum3_x (A := x1 * y2 + x2 * y1) (B := y1 * y2 + x1 * x2) (x3 := x3) (y3 := y3) (z_inv_one n1) (z_inv_one n2) dZ
  have sr := sum3_xr (A := x2 * y3 + x3 * y2) (B := y2 * y3 + x2 * x3) (x1 := x1) (y1 := y1) (z_inv_one m1) (z_inv_one m2) dZ
  have kl := z_ne_mul n1 n2
  have kr := z_ne_mul m1 m2
  have id := ed_ax dZ x1 y1 x2 y2 x3 y3
  unfold onE at h1 h2 h3
  rw [h1, h2, h3, z_sub_self, z_sub_self, z_sub_self, ed_zero3] at id
  have id2 := z_cancel id
  have eL : edX (edX x1 y1 x2 y2) (edY x1 y1 x2 y2) x3 y3 = ((x1 * y2 + x2 * y1) * (1 - tE x1 y1 x2 y2) * y3 + x3 * (y1 * y2 + x1 * x2) * (1 + tE x1 y1 x2 y2)) * zinv ((1 + tE x1 y1 x2 y2) * (1 - tE x1 y1 x2 y2) + dZ * (x1 * y2 + x2 * y1) * x3 * (y1 * y2 + x1 * x2) * y3) := by
    rw [← sl.1, ← sl.2]
    exact z_scale dl kl
  have eR : edX x1 y1 (edX x2 y2 x3 y3) (edY x2 y2 x3 y3) = (x1 * (y2 * y3 + x2 * x3) * (1 + tE x2 y2 x3 y3) + (x2 * y3 + x3 * y2) * (1 - tE x2 y2 x3 y3) * y1) * zinv ((1 + tE x2 y2 x3 y3) * (1 - tE x2 y2 x3 y3) + dZ * x1 * (x2 * y3 + x3 * y2) * y1 * (y2 * y3 + x2 * x3)) := by
    rw [← sr.1, ← sr.2]
    exact z_scale dr kr
  rw [eL, eR]
  refine z_frac ?_ ?_ id2
  · rw [← sl.2]
    exact z_ne_mul dl kl
  · rw [← sr.2]
    exact z_ne_mul dr kr
theorem edY_assoc : edY (edX x1 y1 x2 y2) (edY x1 y1 x2 y2) x3 y3 = edY x1 y1 (edX x2 y2 x3 y3) (edY x2 y2 x3 y3) := by
  obtain ⟨n1, n2⟩ := div_ne h1 h2
  obtain ⟨m1, m2⟩ := div_ne h2 h3
  have dl := (div_ne (add_on h1 h2) h3).2
  have dr := (div_ne h1 (add_on h2 h3)).2
  have sl := sum3_y (A := x1 * y2 + x2 * y1) (B := y1 * y2 + x1 * x2) (x3 := x3) (y3 := y3) (z_inv_one n1) (z_inv_one n2) dZ
  have sr := sum3_yr (A := x2 * y3 + x3 * y2) (B := y2 * y3 + x2 * x3) (x1 := x1) (y1 := y1) (z_inv_one m1) (z_inv_one m2) dZ
  have kl := z_ne_mul n1 n2
  have kr := z_ne_mul m1 m2
  have id := ed_ay dZ x1 y1 x2 y2 x3 y3
  unfold onE at h1 h2 h3
  rw [h1, h2, h3, z_sub_self, z_sub_self, z_sub_self, ed_zero3] at id
  have id2 := z_cancel id
  have eL : edY (edX x1 y1 x2 y2) (edY x1 y1 x2 y2) x3 y3 = ((y1 * y2 + x1 * x2) * (1 + tE x1 y1 x2 y2) * y3 + (x1 * y2 + x2 * y1) * (1 - tE x1 y1 x2 y2) * x3) * zinv ((1 + tE x1 y1 x2 y2) * (1 - tE x1 y1 x2 y2) - dZ * (x1 * y2 + x2 * y1) * x3 * (y1 * y2 + x1 * x2) * y3) := by
    rw [← sl.1, ← sl.2]
    exact z_scale dl kl
  have eR : edY x1 y1 (edX x2 y2 x3 y3) (edY x2 y2 x3 y3) = (y1 * (y2 * y3 + x2 * x3) * (1 + tE x2 y2 x3 y3) + x1 * (x2 * y3 + x3 * y2) * (1 - tE x2 y2 x3 y3)) * zinv ((1 + tE x2 y2 x3 y3) * (1 - tE x2 y2 x3 y3) - dZ * x1 * (x2 * y3 + x3 * y2) * y1 * (y2 * y3 + x2 * x3)) := by
    rw [← sr.1, ← sr.2]
    exact z_scale dr kr
  rw [eL, eR]
  refine z_frac ?_ ?_ id2
  · rw [← sl.2]
    exact z_ne_mul dl kl
  · rw [← sr.2]
    exact z_ne_mul dr kr
end
structure Pt where
  x : Zp
  y : Zp
  on : onE x y
theorem Pt.ext' {P Q : Pt} (hx : P.x = Q.x) (hy : P.y = Q.y) : P = Q := by
  cases P; cases Q; cases hx; cases hy; rfl
def Pt.add (P Q : Pt) : Pt := ⟨edX P.x P.y Q.x Q.y, edY P.x P.y Q.x Q.y, add_on P.on Q.on⟩
def Pt.zero : Pt := ⟨0, 1, by unfold onE; grind⟩
def Pt.neg (P : Pt) : Pt := ⟨-P.x, P.y, by have := P.on; unfold onE at this ⊢; have e : -P.x * -P.x = P.x * P.x := by grind
                                           rw [e]; exact this⟩
theorem Pt.add_assoc (P Q R : Pt) : (P.add Q).add R = P.add (Q.add R) := Pt.ext' (edX_assoc P.on Q.on R.on) (edY_assoc P.on Q.on R.on)
theorem Pt.add_comm (P Q : Pt) : P.add Q = Q.add P := Pt.ext' (edX_comm ..) (edY_comm ..)
theorem z_inv1 : zinv (1 : Zp) = 1 := by
  have h := z_inv_one one_ne_z
  have e : zinv (1 : Zp) = 1 * zinv 1 := by grind
  rw [e, h]
theorem Pt.zero_add (P : Pt) : Pt.zero.add P = P := by
  have t0 : tE 0 1 P.x P.y = 0 := by unfold tE; grind
  refine Pt.ext' ?_ ?_
  · show edX 0 1 P.x P.y = P.x
    unfold edX
    rw [t0, (by grind : (1 : Zp) + 0 = 1), z_inv1]; grind
  · show edY 0 1 P.x P.y = P.y
    unfold edY
    rw [t0, (by grind : (1 : Zp) - 0 = 1), z_inv1]; grind
theorem Pt.add_zero (P : Pt) : P.add Pt.zero = P := by rw [Pt.add_comm, Pt.zero_add]
theorem Pt.neg_add (P : Pt) : P.neg.add P = Pt.zero := by
  have hd := (div_ne P.neg.on P.on).2
  refine Pt.ext' ?_ ?_
  · show edX (-P.x) P.y P.x P.y = 0
    unfold edX
    have e : -P.x * P.y + P.x * P.y = 0 := by grind
    rw [e]; grind
  · show edY (-P.x) P.y P.x P.y = 1
    have h := P.on
    unfold onE at h
    have e : P.y * P.y + -P.x * P.x = 1 - tE (-P.x) P.y P.x P.y := by
      have e1 : P.y * P.y + -P.x * P.x = P.y * P.y - P.x * P.x := by grind
      rw [e1, h]
      unfold tE
      grind
    unfold edY
    rw [e]
    exact z_inv_one hd
theorem Pt.add_neg (P : Pt) : P.add P.neg = Pt.zero := by rw [Pt.add_comm, Pt.neg_add]
theorem Pt.add4 (a b c e : Pt) : (a.add b).add (c.add e) = (a.add c).add (b.add e) := by
  rw [Pt.add_assoc a b, ← Pt.add_assoc b c e, Pt.add_comm b c, Pt.add_assoc c b e, ← Pt.add_assoc a c]
attribute [irreducible] Pt.add Pt.neg Pt.zero
def Pt.mul : Nat → Pt → Pt
  | 0, _ => Pt.zero
  | n + 1, P => (Pt.mul n P).add P
theorem Pt.mul_zero (P : Pt) : Pt.mul 0 P = Pt.zero := rfl
theorem Pt.mul_succ (n : Nat) (P : Pt) : Pt.mul (n + 1) P = (Pt.mul n P).add P := rfl
attribute [irreducible] Pt.mul
theorem Pt.mul_one (P : Pt) : Pt.mul 1 P = P := by
  rw [Pt.mul_succ 0 P, Pt.mul_zero, Pt.zero_add]
theorem Pt.mul_add (m : Nat) (P : Pt) (n : Nat) : Pt.mul (m + n) P = (Pt.mul m P).add (Pt.mul n P) := by
  induction n with
  | zero => rw [Nat.add_zero, Pt.mul_zero, Pt.add_zero]
  | succ n ih => rw [← Nat.add_assoc, Pt.mul_succ, ih, Pt.add_assoc, ← Pt.mul_succ]
theorem Pt.mul_mul (m : Nat) (P : Pt) (n : Nat) : Pt.mul (n * m) P = Pt.mul n (Pt.mul m P) := by
  induction n with
  | zero => rw [Nat.zero_mul, Pt.mul_zero, Pt.mul_zero]
  | succ n ih => rw [Nat.succ_mul, Pt.mul_add, ih, Pt.mul_succ n]
theorem Pt.mul_of_zero (n : Nat) : Pt.mul n Pt.zero = Pt.zero := by
  induction n with
  | zero => rw [Pt.mul_zero]
  | succ n ih => rw [Pt.mul_succ, ih, Pt.zero_add]
end Sx

namespace Sx
open Go
structure Spd where
  X : Zp
  Y : Zp
  Z : Zp
  T : Zp
def Spd.join (e f g h : Zp) : Spd := ⟨e * f, g * h, f * g, e * h⟩
def Spd.sum (s t : Spd) : Spd :=
  let a := (s.Y - s.X) * (t.Y - t.X)
  let b := (s.Y + s.X) * (t.Y + t.X)
  let c := (s.T + s.T) * dZ * t.T
  let d := (s.Z + s.Z) * t.Z
  Spd.join (b - a) (d - c) (d + c) (b + a)
def Spd.twice (s : Spd) : Spd :=
  let a := s.X * s.X
  let b := s.Y * s.Y
  let c := s.Z * s.Z
  let h := a + b
  let e := h - (s.X + s.Y) * (s.X + s.Y)
  let g := a - b
  Spd.join e (c + c + g) g h
def Spd.neg (s : Spd) : Spd := ⟨-s.X, s.Y, s.Z, -s.T⟩
def Spd.of (x y : Zp) : Spd := ⟨x, y, 1, x * y⟩
structure Rep (s : Spd) (P : Pt) : Prop where
  z : s.Z ≠ 0
  x : s.X = P.x * s.Z
  y : s.Y = P.y * s.Z
  t : s.T = P.x * P.y * s.Z
theorem rep_of (P : Pt) : Rep (Spd.of P.x P.y) P := ⟨one_ne_z, by show P.x = P.x * 1; grind, by show P.y = P.y * 1; grind, by show P.x * P.y = P.x * P.y * 1; grind⟩
theorem rep_neg {s : Spd} {P : Pt} (h : Rep s P) : Rep s.neg P.neg := by
  obtain ⟨z, x, y, t⟩ := h
  unfold Pt.neg
  refine ⟨z, ?_, y, ?_⟩
  · show -s.X = -P.x * s.Z
    rw [x]; grind
  · show -s.T = -P.x * P.y * s.Z
    rw [t]; grind
theorem rep_join {k l n1 n2 t u v e f g h : Zp} (hk : k ≠ 0) (hl : l ≠ 0) (h1 : 1 + t ≠ 0) (h2 : 1 - t ≠ 0) (hu : (1 + t) * u = 1) (hv : (1 - t) * v = 1)
    (he : e = k * n1) (hf : f = l * (1 - t)) (hg : g = k * (1 + t)) (hh : h = l * n2) {P : Pt} (hx : P.x = n1 * u) (hy : P.y = n2 * v) : Rep (Spd.join e f g h) P := by
  subst he hf hg hh
  refine ⟨z_ne_mul (z_ne_mul hl h2) (z_ne_mul hk h1), ?_, ?_, ?_⟩
  · show k * n1 * (l * (1 - t)) = P.x * (l * (1 - t) * (k * (1 + t)))
    have e : P.x * (l * (1 - t) * (k * (1 + t))) = n1 * k * (l * (1 - t)) * ((1 + t) * u) := by rw [hx]; grind
    rw [e, hu]; grind
  · show k * (1 + t) * (l * n2) = P.y * (l * (1 - t) * (k * (1 + t)))
    have e : P.y * (l * (1 - t) * (k * (1 + t))) = n2 * l * (k * (1 + t)) * ((1 - t) * v) := by rw [hy]; grind
    rw [e, hv]; grind
  · show k * n1 * (l * n2) = P.x * P.y * (l * (1 - t) * (k * (1 + t)))
    have e : P.x * P.y * (l * (1 - t) * (k * (1 + t))) = n1 * n2 * k * l * ((1 + t) * u) * ((1 - t) * v) := by rw [hx, hy]; grind
    rw [e, hu, hv]; grind
theorem add_x (P Q : Pt) : (P.add Q).x = edX P.x P.y Q.x Q.y := by unfold Pt.add; rfl
theorem add_y (P Q : Pt) : (P.add Q).y = edY P.x P.y Q.x Q.y := by unfold Pt.add; rfl
theorem rep_sum {s r : Spd} {P Q : Pt} (h : Rep s P) (h' : Rep r Q) : Rep (s.sum r) (P.add Q) := by
  obtain ⟨z, x, y, t⟩ := h
  obtain ⟨z', x', y', t'⟩ := h'
  obtain ⟨n1, n2⟩ := div_ne P.on Q.on
  refine rep_join (k := 2 * (s.Z * r.Z)) (l := 2 * (s.Z * r.Z)) (n1 := P.x * Q.y + Q.x * P.y) (n2 := P.y * Q.y + P.x * Q.x) (t := tE P.x P.y Q.x Q.y) (z_ne_mul z_two_ne (z_ne_mul z z')) (z_ne_mul z_two_ne (z_ne_mul z z')) n1 n2 (z_inv_one n1) (z_inv_one n2) ?_ ?_ ?_ ?_ (add_x P Q) (add_y P Q)
  · rw [x, y, x', y']; grind
  · rw [t, t']; unfold tE; grind
  · rw [t, t']; unfold tE; grind
  · rw [x, y, x', y']; grind
theorem rep_twice {s : Spd} {P : Pt} (h : Rep s P) : Rep s.twice (P.add P) := by
  obtain ⟨z, x, y, t⟩ := h
  obtain ⟨n1, n2⟩ := div_ne P.on P.on
  have o := P.on
  have ht : tE P.x P.y P.x P.y = P.y * P.y - P.x * P.x - 1 := by
    unfold onE at o
    rw [o]; unfold tE; grind
  have hk : - (s.Z * s.Z) ≠ 0 := by
    intro e
    refine z_ne_mul z z ?_
    have : s.Z * s.Z = - - (s.Z * s.Z) := by grind
    rw [this, e]; grind
  refine rep_join (k := - (s.Z * s.Z)) (l := s.Z * s.Z) (n1 := P.x * P.y + P.x * P.y) (n2 := P.y * P.y + P.x * P.x) (t := tE P.x P.y P.x P.y) hk (z_ne_mul z z) n1 n2 (z_inv_one n1) (z_inv_one n2) ?_ ?_ ?_ ?_ (add_x P P) (add_y P P)
  · rw [x, y]; grind
  · rw [ht, x, y]; grind
  · rw [ht, x, y]; grind
  · rw [x, y]; grind
end Sx

namespace Sx
open Go
def IsM (P : Pt) (v : Int) (Q : Pt) : Prop := ∃ a b : Nat, (a : Int) - b = v ∧ Q.add (Pt.mul b P) = Pt.mul a P
theorem Pt.cancel {A B C : Pt} (h : A.add C = B.add C) : A = B := by
  have h1 := congrArg (fun X => X.add C.neg) h
  simp only [Pt.add_assoc, Pt.add_neg, Pt.add_zero] at h1
  exact h1
theorem isM_zero (P : Pt) : IsM P 0 Pt.zero := ⟨0, 0, by omega, by rw [Pt.zero_add]⟩
theorem isM_nat (P : Pt) (n : Nat) : IsM P n (Pt.mul n P) := ⟨n, 0, by omega, by rw [Pt.mul_zero, Pt.add_zero]⟩
theorem isM_add {P Q R : Pt} {v w : Int} (h : IsM P v Q) (h' : IsM P w R) : IsM P (v + w) (Q.add R) := by
  obtain ⟨a, b, e, h⟩ := h
  obtain ⟨c, d, e', h'⟩ := h'
  refine ⟨a + c, b + d, by omega, ?_⟩
  rw [Pt.mul_add, Pt.mul_add, Pt.add4, h, h']
theorem isM_neg {P Q : Pt} {v : Int} (h : IsM P v Q) : IsM P (-v) Q.neg := by
  obtain ⟨a, b, e, h⟩ := h
  refine ⟨b, a, by omega, ?_⟩
  rw [← h, ← Pt.add_assoc, Pt.neg_add, Pt.zero_add]
theorem isM_eq {P Q : Pt} {n : Nat} (h : IsM P n Q) : Q = Pt.mul n P := by
  obtain ⟨a, b, e, h⟩ := h
  have : a = n + b := by omega
  subst this
  rw [Pt.mul_add] at h
  exact Pt.cancel h
def RepM (P : Pt) (v : Int) (s : Spd) : Prop := ∃ Q, Rep s Q ∧ IsM P v Q
theorem repM_zero (P : Pt) : RepM P 0 (Spd.of 0 1) := ⟨Pt.zero, by have h := rep_of Pt.zero; unfold Pt.zero at h ⊢; exact h, isM_zero P⟩
theorem repM_one {P : Pt} {s : Spd} (h : Rep s P) : RepM P 1 s := ⟨P, h, by have := isM_nat P 1; rw [Pt.mul_one] at this; exact this⟩
theorem repM_sum {P : Pt} {v w : Int} {s r : Spd} (h : RepM P v s) (h' : RepM P w r) : RepM P (v + w) (s.sum r) := by
  obtain ⟨Q, h1, h2⟩ := h
  obtain ⟨R, h3, h4⟩ := h'
  exact ⟨_, rep_sum h1 h3, isM_add h2 h4⟩
theorem repM_twice {P : Pt} {v : Int} {s : Spd} (h : RepM P v s) : RepM P (2 * v) s.twice := by
  obtain ⟨Q, h1, h2⟩ := h
  refine ⟨_, rep_twice h1, ?_⟩
  have := isM_add h2 h2
  rw [show 2 * v = v + v from by omega]
  exact this
theorem repM_neg {P : Pt} {v : Int} {s : Spd} (h : RepM P v s) : RepM P (-v) s.neg := by
  obtain ⟨Q, h1, h2⟩ := h
  exact ⟨_, rep_neg h1, isM_neg h2⟩
theorem repM_nat {P : Pt} {n : Nat} {s : Spd} (h : RepM P n s) : Rep s (Pt.mul n P) := by
  obtain ⟨Q, h1, h2⟩ := h
  rw [← isM_eq h2]
  exact h1
def oddS (s : Spd) : Nat → Spd
  | 0 => s
  | i + 1 => (oddS s i).sum s.twice
theorem odd_rep {P : Pt} {s : Spd} (h : RepM P 1 s) : ∀ i : Nat, RepM P (2 * i + 1 : Int) (oddS s i)
  | 0 => h
  | i + 1 => by
    have h1 := repM_sum (odd_rep h i) (repM_twice h)
    have e : (2 * ((i + 1 : Nat) : Int) + 1) = (2 * (i : Int) + 1) + 2 * 1 := by omega
    rw [e]
    exact h1
def nafS (s r : Spd) (begun : Bool) (d : Int) : Spd :=
  let r2 := if begun then r.twice else r
  if 0 < d then r2.sum (oddS s (d.toNat / 2)) else if d < 0 then r2.sum (oddS s ((-d).toNat / 2)).neg else r2
def nafG (begun : Bool) (d : Int) : Bool := begun || decide (d ≠ 0)
def nafR (s : Spd) (D : Nat → Int) : Nat → Spd × Bool
  | 0 => (Spd.of 0 1, false)
  | k + 1 => (nafS s (nafR s D k).1 (nafR s D k).2 (D (256 - k)), nafG (nafR s D k).2 (D (256 - k)))
def mulS (D : Nat → Int) (s : Spd) : Spd := (nafR s D 257).1
theorem nafS_rep {P : Pt} {s r : Spd} (h : RepM P 1 s) {v d : Int} {b : Bool} (hr : RepM P v r) (hb : b = false → v = 0) (hd : d = 0 ∨ d % 2 = 1) :
    RepM P (2 * v + d) (nafS s r b d) ∧ (nafG b d = false → 2 * v + d = 0) := by
  have h2 : RepM P (2 * v) (if b then r.twice else r) := by
    cases b
    · have := hb rfl
      subst this
      exact hr
    · exact repM_twice hr
  constructor
  · unfold nafS
    dsimp only
    by_cases h0 : 0 < d
    · rw [if_pos h0]
      have e : d = 2 * ((d.toNat / 2 : Nat) : Int) + 1 := by omega
      conv => lhs; rw [e]
      simpa using repM_sum h2 (odd_rep h (d.toNat / 2))
    · rw [if_neg h0]
      by_cases h1 : d < 0
      · rw [if_pos h1]
        have e : d = -(2 * (((-d).toNat / 2 : Nat) : Int) + 1) := by omega
        have h3 := repM_sum h2 (repM_neg (odd_rep h ((-d).toNat / 2)))
        rw [← e] at h3
        exact h3
      · rw [if_neg h1]
        have : d = 0 := by omega
        subst this
        rw [Int.add_zero]
        exact h2
  · intro hg
    unfold nafG at hg
    simp only [Bool.or_eq_false_iff, decide_eq_false_iff_not, ne_eq, Decidable.not_not] at hg
    rw [hb hg.1, hg.2]
    rfl
end Sx

namespace Sx
open Go
theorem naf_back {w : Nat} (h : Wid w) (N : Int) (i : Nat) : 2 * nafN w N (i + 1) + nafF w N i = nafN w N i := by
  have h2 := (nafD_range h (nafN w N i)).2.2
  show 2 * ((nafN w N i - nafD w (nafN w N i)) / 2) + nafD w (nafN w N i) = _
  omega
theorem naf_odd {w : Nat} (h : Wid w) (N : Int) (i : Nat) : nafF w N i = 0 ∨ nafF w N i % 2 = 1 := (naf_form h (nafN w N i)).elim .inl fun h => .inr h.1
theorem wid5 : Wid 5 := ⟨by decide⟩
theorem nafR_rep {P : Pt} {s : Spd} (h : RepM P 1 s) {N : Int} (h0 : 0 ≤ N) (h1 : N < q256) : ∀ k, k ≤ 257 →
    RepM P (nafN 5 N (257 - k)) (nafR s (nafF 5 N) k).1 ∧ ((nafR s (nafF 5 N) k).2 = false → nafN 5 N (257 - k) = 0)
  | 0, _ => by
    rw [Nat.sub_zero, naf_end wid5 h0 h1]
    exact ⟨repM_zero P, fun _ => rfl⟩
  | k + 1, hk => by
    obtain ⟨h2, h3⟩ := nafR_rep h h0 h1 k (by omega)
    have e1 : 257 - k = 256 - k + 1 := by omega
    have e2 : 257 - (k + 1) = 256 - k := by omega
    rw [e1] at h2 h3
    rw [e2, ← naf_back wid5 N (256 - k)]
    exact nafS_rep h h2 h3 (naf_odd wid5 N _)
theorem mulS_rep {P : Pt} {s : Spd} (h : RepM P 1 s) {N : Int} (h0 : 0 ≤ N) (h1 : N < q256) : RepM P N (mulS (nafF 5 N) s) := by
  have h2 := (nafR_rep h h0 h1 257 (by decide)).1
  rw [Nat.sub_self] at h2
  exact h2
def tabS (s : Spd) : Nat → Spd
  | 0 => Spd.of 0 1
  | i + 1 => (tabS s i).sum s
theorem tab_rep {P : Pt} {s : Spd} (h : RepM P 1 s) : ∀ i : Nat, RepM P (i : Int) (tabS s i)
  | 0 => repM_zero P
  | i + 1 => by
    have h1 := repM_sum (tab_rep h i) h
    have e : ((i + 1 : Nat) : Int) = (i : Int) + 1 := by omega
    rw [e]
    exact h1
def shS (s : Spd) : Spd := s.twice.twice.twice.twice
theorem sh_rep {P : Pt} {s : Spd} {v : Int} (h : RepM P v s) : RepM P (16 * v) (shS s) := by
  have := repM_twice (repM_twice (repM_twice (repM_twice h)))
  have e : (16 * v) = 2 * (2 * (2 * (2 * v))) := by omega
  rw [e]
  exact this
def hexS (s r : Spd) (x : Int) : Spd := (shS ((shS r).sum (tabS s (x / 16).toNat))).sum (tabS s (x % 16).toNat)
theorem hex_rep {P : Pt} {s r : Spd} (h : RepM P 1 s) {v x : Int} (hr : RepM P v r) (hx : 0 ≤ x) : RepM P (x + 256 * v) (hexS s r x) := by
  have h1 := repM_sum (sh_rep (repM_sum (sh_rep hr) (tab_rep h (x / 16).toNat))) (tab_rep h (x % 16).toNat)
  have e : x + 256 * v = 16 * (16 * v + ((x / 16).toNat : Int)) + ((x % 16).toNat : Int) := by omega
  rw [e]
  exact h1
def bmS (s : Spd) (n : Nat → Int) : Nat → Spd
  | 0 => tabS s 0
  | k + 1 => hexS s (bmS s n k) (n (31 - k))
theorem bm_rep {P : Pt} {s : Spd} (h : RepM P 1 s) {n : Nat → Int} (hn : IsBytes 32 n) : ∀ k, k ≤ 32 → RepM P (num k fun i => n (32 - k + i)) (bmS s n k)
  | 0, _ => repM_zero P
  | k + 1, hk => by
    have h1 := hex_rep h (bm_rep h hn k (by omega)) (hn (31 - k) (by omega)).1
    have e : (num (k + 1) fun i => n (32 - (k + 1) + i)) = n (31 - k) + 256 * num k fun i => n (32 - k + i) := by
      simp only [num]
      have e1 : 32 - (k + 1) = 31 - k := by omega
      rw [e1, Nat.add_zero]
      congr 2
      congr 1
      funext i
      congr 1
      omega
    rw [e]
    exact h1
theorem bmS_rep {P : Pt} {s : Spd} (h : RepM P 1 s) {n : Nat → Int} (hn : IsBytes 32 n) : RepM P (num 32 n) (bmS s n 32) := by
  have h1 := bm_rep h hn 32 (by decide)
  simp only [Nat.sub_self, Nat.zero_add] at h1
  exact h1
end Sx

namespace Sx
open Go
set_option maxRecDepth 100000
instance (x y : Zp) : Decidable (onE x y) := by unfold onE; infer_instance
def zn (n : Nat) : Zp := zi pN n
def stOK (a b c : Nat × Nat) : Bool :=
  let t := 37095705934669439343138083508754565189542113879843219016388785533085940283555 * a.1 * b.1 * a.2 * b.2 % pN
  ((c.1 * (1 + t)) % pN == (a.1 * b.2 + b.1 * a.2) % pN) && ((c.2 * (1 + (pN - t))) % pN == (a.2 * b.2 + a.1 * b.1) % pN)
structure At (P : Pt) (a : Nat × Nat) : Prop where
  x : P.x = zn a.1
  y : P.y = zn a.2
theorem At.same {P Q : Pt} {a : Nat × Nat} (h : At P a) (h' : At Q a) : P = Q := Pt.ext' (h.x.trans h'.x.symm) (h.y.trans h'.y.symm)
theorem zn_mul (a b : Nat) : zn (a * b) = zn a * zn b := by unfold zn; rw [← zi_mul]; congr 1
theorem zn_add (a b : Nat) : zn (a + b) = zn a + zn b := by unfold zn; rw [← zi_add]; congr 1
theorem zn_eq {a b : Nat} (h : a % pN = b % pN) : zn a = zn b := by
  unfold zn
  refine zi_eq.2 ?_
  rw [← Int.natCast_emod, ← Int.natCast_emod, h]
theorem zn_mod (a : Nat) : zn (a % pN) = zn a := zn_eq (Nat.mod_mod _ _)
theorem zn_one : zn 1 = 1 := zi_one
theorem zn_zero : zn 0 = 0 := zi_zero
theorem zn_p : zn pN = 0 := by rw [← zn_zero]; exact zn_eq (by decide +kernel)
theorem z_div_eq {a b c u : Zp} (hu : b * u = 1) (h : c * b = a) : a * u = c := by
  rw [← h]
  have : c * b * u = c * (b * u) := by grind
  rw [this, hu]; grind
theorem st_add {P Q : Pt} {a b c : Nat × Nat} (hP : At P a) (hQ : At Q b) (h : stOK a b c = true) : At (P.add Q) c := by
  unfold stOK at h
  simp only [Bool.and_eq_true, beq_iff_eq] at h
  obtain ⟨h1, h2⟩ := h
  obtain ⟨n1, n2⟩ := div_ne P.on Q.on
  have ht : zn (37095705934669439343138083508754565189542113879843219016388785533085940283555 * a.1 * b.1 * a.2 * b.2 % pN) = tE P.x P.y Q.x Q.y := by
    rw [zn_mod, zn_mul, zn_mul, zn_mul, zn_mul, hP.x, hP.y, hQ.x, hQ.y]
    rfl
  have htl : 37095705934669439343138083508754565189542113879843219016388785533085940283555 * a.1 * b.1 * a.2 * b.2 % pN < pN := Nat.mod_lt _ (by decide)
  generalize 37095705934669439343138083508754565189542113879843219016388785533085940283555 * a.1 * b.1 * a.2 * b.2 % pN = t at h1 h2 ht htl
  refine ⟨?_, ?_⟩
  · rw [add_x]
    unfold edX
    refine z_div_eq (z_inv_one n1) ?_
    have e := zn_eq h1
    rw [zn_mul, zn_add, zn_add, zn_mul, zn_mul, zn_one, ht, ← hP.x, ← hP.y, ← hQ.x, ← hQ.y] at e
    exact e
  · rw [add_y]
    unfold edY
    refine z_div_eq (z_inv_one n2) ?_
    have e := zn_eq h2
    have hm : zn (pN - t) = - tE P.x P.y Q.x Q.y := by
      have h3 : zn (pN - t) + zn t = 0 := by rw [← zn_add, Nat.sub_add_cancel (Nat.le_of_lt htl), zn_p]
      rw [ht] at h3
      have : zn (pN - t) = (zn (pN - t) + tE P.x P.y Q.x Q.y) - tE P.x P.y Q.x Q.y := by grind
      rw [this, h3]; grind
    rw [zn_mul, zn_add, zn_add, zn_mul, zn_mul, zn_one, hm, ← hP.x, ← hP.y, ← hQ.x, ← hQ.y] at e
    have e2 : (1 : Zp) - tE P.x P.y Q.x Q.y = 1 + - tE P.x P.y Q.x Q.y := by grind
    rw [e2]
    exact e
def chOK (g : Nat × Nat) : List (Bool × Nat × Nat) → Nat × Nat → Nat → Option (Nat × Nat × Nat)
  | [], a, m => some (a.1, a.2, m)
  | (false, c) :: l, a, m => if stOK a a c = true then chOK g l c (2 * m) else none
  | (true, c) :: l, a, m => if stOK a g c = true then chOK g l c (m + 1) else none
theorem ch_ok {P : Pt} {g : Nat × Nat} (hP : At P g) : ∀ (l : List (Bool × Nat × Nat)) (a : Nat × Nat) (m : Nat) (x y k : Nat), At (Pt.mul m P) a → chOK g l a m = some (x, y, k) → At (Pt.mul k P) (x, y)
  | [], a, m, x, y, k, ha, h => by
    simp only [chOK, Option.some.injEq, Prod.mk.injEq] at h
    obtain ⟨rfl, rfl, rfl⟩ := h
    exact ha
  | (false, c) :: l, a, m, x, y, k, ha, h => by
    simp only [chOK] at h
    split at h
    · rename_i hs
      refine ch_ok hP l c (2 * m) x y k ?_ h
      rw [Nat.two_mul, Pt.mul_add]
      exact st_add ha ha hs
    · cases h
  | (true, c) :: l, a, m, x, y, k, ha, h => by
    simp only [chOK] at h
    split at h
    · rename_i hs
      refine ch_ok hP l c (m + 1) x y k ?_ h
      rw [Pt.mul_succ]
      exact st_add ha hP hs
    · cases h
def baseXY : Nat × Nat := (15112221349535400772501151409588531511454012693041857206046113283949847762202, 46316835694926478169428394003475163141307993866256225615783033603165251855960)
def basePt : Pt := ⟨zn baseXY.1, zn baseXY.2, by decide +kernel⟩
theorem base_at : At basePt baseXY := ⟨rfl, rfl⟩
def lNat : Nat := 7237005577332262213973186563042994240857116359379907606001950938285454250989
def chainL : List (Bool × Nat × Nat) := [
  (false, 24727413235106541002554574571675588834622768167397638456726423682521233608206, 15549675580280190176352668710449542251549572066445060580507079593062643049417),
  (false, 14582954232372986451776170844943001818709880559417862259286374126315108956272, 32483318716863467900234833297694612235682047836132991208333042722294373421359),
  (false, 46706390780465557264338673484185971070529246228527338942042475661633188627656, 15299170165656271974649334809062094114079726227711063015095704409550798436788),
  (false, 16121637619009607773439840283436156467545443443832420589584197780484295031288, 50925107901044861941301590032293890690813323578124472818968980802518735333355),
  (false, 26148317933504540005443173402042326458672162458767831815669826413036406984486, 30850316547316149219369061290562558254923949145644564178378051444253659681385),
  (false, 2703967047724422927942795606844806438471095130334849099131707700624039388171, 27636351750987415494008535949645960827550590090960186204735008729987540453670),
  (false, 25155917782814837260398069725241853231864729763246304429004555936282046356871, 18508826420441071939750277538143617204571229748311242415842946762595677996796),
  (false, 42740085206947573681423002599456489563927820004573071834350074001818321593686, 6935684722522267618220753829624209639984359598320562595061366101608187623111),
  (false, 21224688672439988911666787158810613738323773477623112347883957939967013762058, 38366836778969845606589656703794235990595431744668605526092433715493688021992),
  (false, 48427913736837608266186835246980452511660467837864105011084951035203551898472, 12175353081024358281744367214419414005476983323671937693306148471852937756989),
  (false, 27186305465236551749842573802124445331552679641832078930108365447931276498935, 2312041997451586708872587523550236508157965803316305389071105927566014363214),
  (false, 56574002287690562566387008107654176112985293065528815433473093068153251878634, 40555259698712479228142211631679471073561232444601298047972603499607234388181),
  (false, 10780707225527799223727042055056551995903319194379151477081117380874163309022, 52019749602470059668344983068026172384793681144736228079710257376320252456841),
  (false, 3464320599267112696879288753247079893959896359625474425290602150960671705994, 51694133746787581571724731688211103718833232899104586370422228323317173487873),
  (false, 41301554414245700419639718923570458390119154231634759147665520927567584100098, 29364674778601018936997556626806786174514088488710242926018946766714482756934),
  (false, 42474966419402231471674152001358115696747244471432888578155981280875302200677, 20182938281251249849712136486927848134532420155649429100890386875073412000822),
  (false, 52869748631960986034856376238747990075784338722812323924650009680084842073895, 3796174517710171698598804855217198428321733657889201949428151222167600506353),
  (false, 48142588613070057936665739918694510016346910601601381787709232357287830656052, 10385474060292222039643213821294435966838835008701008210657350549376377214577),
  (false, 16394032366096881154453202042718985456910765089875944486157716261812202804788, 25091281840661552205135748393579341584120703124592003105179293019326456324854),
  (false, 3030652980257820293954590240644581873411659236202283991563565950415750739437, 3449896845806921515373747351251070124616437120332303971385432452490848855288),
  (false, 32641263228758150355667687431806095122956256108730064648049172982697192869757, 52273704419139405159775014317290835933664475552332708366394330415164319248459),
  (false, 26993053454492735757774095526931594398941435313067218024451801426996192317244, 20756573878643363325793821026438350840612369149764266371668034898098235986297),
  (false, 31520167665919384194696730538735098277674977480128774019718915946563876798036, 48871947419602552330465379555019735272161840172752412330071639916632071437120),
  (false, 4953187230743962930662113245944254306680232166954327932822645132912059759223, 14955570584878506545981286824704959560776362796341363640094685063311756888261),
  (false, 19657949635683093185289569710211585343964433529222332533539288290160154185011, 56892661656082980073316383795158683496393820909924608301927348333889896713218),
  (false, 46976510156322507137269201780554059652401452413839958562844701649608332008299, 25448670393978825583576233442397517457541692536451699283561630611656102572950),
  (false, 18958742773298937073755619970621164217249748928981220693078384958060703810681, 49060669014889618634034845030820105181036997350936347239322049348217814945797),
  (false, 13692443628628542482398138298848103782249043847728748207160598387591474036267, 6535661448952062909216951562535374120699607245381865810845630213621355776630),
  (false, 44073126145632928819502260833325828264688543470827754699842109261297194996573, 25708642289863751966302024225237904726630733908921048717331198880892436709901),
  (false, 32998196372564612992359818786763423324015994136376432300157753889179321890705, 22310901527710631603180993315816672899331474004376446475717230095796374000992),
  (false, 54882909907635354958311263340029521311980981711637644057731212095996500430552, 42932185445836734984879765196158360688663229692937278561535355964359997581186),
  (false, 34881215023217925273427507880129132732978197777830040111026122875038460546235, 49417579777138232809020590461442191010157021293872759678974198530760482863386),
  (false, 34085450069500794510152409520807677869950508039913904939590977699961040436501, 52278291416665193925925829527972181593462278765769350530558236265859287513035),
  (false, 23406589806172960174851795884335653806454241620752476244917220156478142938335, 37854925133430588252830311134599570623631025784885083249593544768206604501465),
  (false, 30886537925985998524254955874096819652783119677955825045199375216769416949702, 54037904725904619508111005987774813902206702994070596763696498304265167397445),
  (false, 19639451821147740670698624700272734820894813909735291580470206199768700605392, 57494903421850047051437277431621495081848935660098712752929417894600320224466),
  (false, 12469452200683121609960440379957844757586634886744101850068664139886892025012, 10489147278187110362134995111963226564141046001348941075622680658741593532648),
  (false, 549689331659327561605194692422602825769416452111816234011461274565005995655, 51469744701391552480837245041655791053255331145812797331218148961728035441779),
  (false, 45113617814944202352153583642261178502360614596484279216729123193977391993714, 1980278042691965713981149139930452264163076071667628639090250557504770174587),
  (false, 6975916580616431138430993573433071747917420592434172169347774209021880766693, 27729946105412964655112236315850267932468036882545041507320998583854342562650),
  (false, 26721402367527682574942110461580517411213448744716771766358148163877301105728, 9288387344892172799170744310978976179910527092723579902952158489343272868948),
  (false, 10988524301762373242246727351929902921498129982664316002800509126742121162784, 28440719635374571293396157229875541269413226941353902928329788578666889313331),
  (false, 40716425138725944745186331899970009610267626729218118393270956274853491203124, 46769152930682528968583401401235025295039214644177585564512426226384755878073),
  (false, 37510741031459341378829814964903502667912927266993467424549080808057139144766, 57303500313920857781889356400330248464357243021787478340933447880777082073539),
  (false, 36241354563762173459705108462830400635564419268406145900966660417613821977637, 21485101354679558701669270959816344644464678765615788190638683578533731429966),
  (false, 20584796599643323532861987265526248228488799407283500188808238372131189701480, 26478740800733269288198131365468684670960535144929794027484143547518195267108),
  (false, 39134758420864184254969116302644788663556954029588642642423917089530226989597, 5124259569483350729196958378822907526496602783247669422492733697864938451662),
  (false, 37386868568128681599499830859763869162133292900805977973436494315455022169426, 36563616321823734465666870349235432940379598201907262626645125270466793116054),
  (false, 28582163575878071020286779611073458927627633926762077980797377317166201949523, 29517287490576008752010229265386725675942288741512148107897703457428460766064),
  (false, 6664938945656958224937745274414537263586471401885907820916253978327430063844, 2126634075982654318590492885153132310981526013601685661016577258450272533730),
  (false, 26893906638378427820269402226975745300041457754729633179574373243303786072539, 23888113636819035429926907107258444263090323522691660954731306854220582218409),
  (false, 189355175404241672738129259114556965478340615081311091777345303360588540836, 51767299105794865359908754261640899704919154549996018629901376258684159289317),
  (false, 14160459449409432346176007562822108240728702992215244509282193488000767962072, 40953833938605278231697173707354259912669188943485919940833211413684494670284),
  (false, 4068261697406638961935849621742963533803537470089883744480903389537982658853, 17740693327176817854801454122587194558819032432129012706849247534385017891832),
  (false, 11823766772564295466429875255239566661981081448176083546584427805840615152756, 54040755356101629851791062456974045253014690287858169301317937866514626344693),
  (false, 51502639449004291622700088031154688719483163480862436225495097465744471100900, 25964330211653062987717188781243886463821901684982951650673786718455132103697),
  (false, 21734724549841690193090842476809076716419456331211857741265759957945129922704, 29304975373538996048835671269729647815982116853415896625128567603603329907841),
  (false, 30001687184291412988809724842551122044758922095287536204847335704949115767033, 50835770704986724242436677611718431048705647431520755367710246538243619075335),
  (false, 48882273411393669122044540803817352985557027118982854238955416614908556491266, 11407218847596422755991434262659321162615585973279975075808294900032260014207),
  (false, 39468567782001629845469931291703114351231301360810771182933666088696363117813, 48520602033621835552297087477366344329736087438136796734023135166735240273716),
  (false, 14634154268926673608900308779686697918188551795673908169701089186353020356853, 22635139240448021868201029866848773426210620100937671088354264929878430660010),
  (false, 40334547811194980222132355507048888492367411465942395326465999366654848330295, 30141215867806221944935945054462736214036523470954538064480540475644488758752),
  (false, 1858744241653336215343795677286102722518125133862047495966642301222759149346, 51688159461706094879304629140765766764511202268320054417312410136779795003785),
  (false, 44388040078108422381599858079345000847427885062711346041771517276226329616898, 1423604317745427322790381226394774763053130405907994130724317794966956167955),
  (false, 1010247752756362260881243234901448331704228065985397871388404881884689704343, 34905110436806704375115117043721051740842418404017689336019589974414716422638),
  (false, 49444157831517844751255683186086055092391671187830014667142777982061391761769, 38325651754372413483217343763106935496036760575967773049932675282070249514007),
  (false, 48577842308630573365019333121847151099247213871386595032531930153824808034985, 11698818496297094926714371527533498792080572905846263409223249541482347665093),
  (false, 51416308261230323791972553180748498853602467457543596950952167188234310296102, 26500516396956780220658887122604521806411632574870530108424521362596479422245),
  (false, 15426476579153824640063748107939638128818377676814173710932605230473017653035, 54874201845107823946446372651255629171375058352614330916365376676602781150596),
  (false, 12712558393922043510311116546282894497829799292545297912541506421626765270056, 39685799954857566999031473139583267673043941812564928655249869908845569230293),
  (false, 35966709613487039836771455641568151899303686490727459701589928757130906345287, 4590715909301946484670322652103488894781039724476604802293138388114824244525),
  (false, 14209203893922473311723595664823042609383238336090280855951284872268697714335, 54096248485646036580969450637608332943982160324686939405543494070853926149657),
  (false, 50225331128728478106780859889537807505048902429356838599409066831481056211564, 48567226733225781276449566422287543329128010889111409895804967816670485558982),
  (false, 14277504181738407774235093378032955288190316525985673811547794837958257411428, 44871378086723879356737413210653521226866440740474535279860816276104559603579),
  (false, 32418571708367977452352489589045334204504079160877254915429124079150328663559, 18387148233383658620287056230463085911877635595024572348568551271925735393572),
  (false, 15779270961168218795229828090701533240215204226023372799860239005869904877004, 44830166261951740603279398495576682241725607809926503424472229723689170610363),
  (false, 11934888751358376585367388605542262864084187912753477682625882954803615290685, 14214449243666306908341928066213895894989764915988732118960193112150360243653),
  (false, 24745401508182352002952447462187517145313719592095512250459315231990663674346, 12605203304109359736839575646170095420028150170075032505021828813425976392506),
  (false, 7139742008745815782467698207918707217570867389629573492211592981809669859250, 10391024330052931068916219853641704524060189883573610974407450960946334497572),
  (false, 43672721813094808158322153823698981319419680095264823938511427045013292716276, 26774469600843634339468622105851699981555180542412972644232493480876266571002),
  (false, 3989370560455708984633793475698444523747174347184717690382157232120584787329, 32505703979076959151485506556792486289027941138272760644562679672175933443866),
  (false, 5059886806144239654386250234132239322534981646959530787642810205204823263599, 44781990901350621119000479168942884261150661419375333506507720470732519651804),
  (false, 5034499113101539419171195675489016129397586213000300161297322761474792468007, 38984291250628169793609367006953049629309747617110716218706415095166866209475),
  (false, 28701589195663402661877848408121388944364705228705833837290335451947214372354, 7204387230095814289155112784314167486479491389461677700039482462117900149790),
  (false, 4043104448796842162745666493312998641829351915822871392692138036596732345587, 25583947464430871653586840964872231498494354583644780039898113211018348195426),
  (false, 16967413801548701797242886843680090165318588349974756792262810250234279035069, 44697289841450513164033704384247986028022748316827147885385602092788632953231),
  (false, 2579649274306548849837733000395332723289589758529702916422942026934274000925, 15903853772550703579537912563242422228297542773675645660330868481778530607407),
  (false, 47877216812782924174466763867175181383956969618415943364604849026510454529253, 28112003636980376946454994616205437214785284325558286572284790568403397987982),
  (false, 44624650523877827989751820302168351134993681066479444271153806569668535957209, 27714478525736819310693039843449131161995095049081766735341612278922679271227),
  (false, 35329897255136253373431638007078284535646557446689786639069168126562061520510, 48102472413184753722918898271017592259334671993463580839736558443832467501512),
  (false, 57854637032597121065424460477283781507211162156907553379809587845807142677871, 8595708305423838218427337239184970131694134488607489845436010670114592093907),
  (false, 13661732206155304631473207485375887840040863051006406460921523783662717752866, 18702667302471406267943646186561629076477578914690077859029294500205891615865),
  (false, 34678801872141263131717568048919688293891458498596049038512335591958388269398, 14051700864432503195603174423174243178139259455397278969489826247036072519711),
  (false, 56271287709999114249430521279143619599708294450613804315340758418615759138947, 26709183970593361440546052460951843372876673094798344582055628577437062451),
  (false, 4941794609987678981879188000114348043986995390085707309908914207158224370220, 11393072468401385903230649060352828887982933982104030268046685519118680025095),
  (false, 37070215148198071430799085968753265750032279687669442199535644547659159008720, 24277510719184982406390712670096807578634110983235809048632298767886642985665),
  (false, 39149621700212626749621435400351405351231184907008598760301451381081013983041, 34503224398479003962600496102980592214075457369331528461237883842917276072424),
  (false, 23185922985978961765525879604265755828711139395011139482900477285540574790618, 36367764535089816925445391884049081669258296710246889978535540710889807755205),
  (false, 23334028275166191184164139591657077754376896079733520656064186218287653342618, 41978652946500496924928875394389872458253357230394695728294241695963720135571),
  (false, 28796363583862847668812044605178507244825877227342242014774155208318462834757, 55234959353662462202983325031925176159492936554011128458548182362800408727260),
  (false, 22152377815713073885123024134220181662013025517934765653685593051807730951109, 20210740406512502967027943336656788111164148198915921899551468572151061000341),
  (false, 43620949520144324161844112921540314179791160756548604822571317354672290688656, 55960850383955117084497078728968100220583635988916106362750056582565381170825),
  (false, 13910242112313529748247338058346265735204793031963188360415155111564876935229, 28026033346964984143781324810989054090462624756509060308165423548333335784666),
  (false, 11371879162373812903597632893053130771100210169456679508604354695621139343631, 5678923034335803499854193512949185707312411812586470592763075824256665264606),
  (false, 18362839244894279592215249911553963787851060777743113998886545263569847927955, 4210807820446419651105742493190316853815492326276504789502512130186582234685),
  (false, 23921107455925441612550629086478938150848187330668405596858230151041390475098, 12599238266398634998434556842240768274292438963378237556139324609460374067494),
  (false, 34696320127735655402512265767697602636168153659137920083789137692959599647944, 42120638134327975966011272240411516459099234670144041314385743337890494036069),
  (false, 33227521516354605999830589514515865710822327852925376114255137871690735587244, 22681039011760707337500602565057111277108423406256855863837270100715275112616),
  (false, 45816511225176877996140255040609219587091107439457578341038316968132283752617, 36549853415134963004198791385929027950142848447981419764990803009399724054934),
  (false, 4109725613230504426324669336546893204699348150375590650961079986402263006479, 13548220015390787328262599706228652778399536104956932282542935971617933593799),
  (false, 31674252996734707212481088088643240141425643801543286253248344469973004656554, 6786196619175573608309283443380719738877074976577908471831120085453336700494),
  (false, 30407400204072033917609480172618297228059702465168718418817308450301417256315, 49315877793598952090227901245738270288685983126601288875006392048674637302542),
  (false, 44417092014879103586055534704850737242542372632022894149816268053224964424171, 28092835439062208164608941398448814112137896638247692330991965419364853280613),
  (false, 55913645708648454082380885333952414587415523972517829512720425474171989429039, 4170341877731070479064719941590894238873155105706772330803492495594024043916),
  (false, 57358306754892087581061482960601343272150180511706384027111409727530014615872, 7501227636099754662821696917164574092234190941956901631865902241653090361542),
  (false, 48782782515836871628938299209492917508321674529612667649282153140637733656059, 20014236295691833912353873433172840618145541540180033958100959161035845143094),
  (false, 11618050754323719385443732951567856244563825728122233676622712000620990083402, 42578444816027188744577909552774348432010679314070739170427174452067063733643),
  (false, 31547400550276104307900899036819671847265416450370273588479799778844560833009, 37367989165521616201930780541222369146292023138676617257266389707008216833638),
  (false, 25956985989161136316235961527236916457717926829394295299028523314216733689351, 50364565591067077996626372578228644798066456462962263809084137884269951378152),
  (false, 35118750000941396177384144572236461584765045922296921590426241445782749078564, 22276559719444846469370701617737789620267379936674566170770241509797286014565),
  (false, 15495667847963519095070902975254013254054297059438951355864834066532640060236, 44548947909159043917403409442457288878516759169055680620236387754235369409972),
  (false, 1871107102280547590065037923261765627391729441701934941391723968422325914548, 2197280331012323570322413448915527766660864684378650497684553118254920260348),
  (false, 45090698995977474290632961691477301097024747374015152515190560720018468165568, 12254579022675596810231884862276069575540423112673550018377525848277481401878),
  (false, 5054797618327281071443738716493596768237980643463800357794684862056619267462, 32528688704343641313631911710448027152095479374942741660511292005602282822378),
  (false, 3116396207800974126741352651042756943303008617071878591507809562704911510205, 51997965663228500457050430249387147003714475761347555819390336249670266088570),
  (false, 14055490458127722535889980752338964994832593866234835702288268286656839412260, 46226773486422651493508693434203867574287052738705572908570241545752789081928),
  (false, 13255665929656146281080449887007641909509999304849491744738638209813853897619, 55705207129829464869897097349416518624188726193119147708421062336186161442401),
  (false, 34445898214599204196824587830670445739267303633182408050117152659121903233060, 43048524062920118298805915568484795959327268000798232147099016825120495085163),
  (true, 49932680846730765880533179156762681844729764660303290282431838816456080660122, 25436089807757778647346428845003824853559812566485633362966320115826425843867),
  (false, 45845635456993680877874570622767193015359724682723034542109229243268624991385, 14906051268862452619194289072522337966404639265274421987706965009373385014011),
  (false, 50412905269872468201606962024865812625821008958274146366492674513135294034459, 41340301024210643977268782884999423105620272384844862766448241307131736671351),
  (true, 57287386626394774113138642367524579237642912431093605397008543154920470742987, 53034412112453024451555980813444223768796676148163660906444619035861838582367),
  (false, 19116843779388832953239487290352966440392542320173648942287117641758470389515, 25488289157064646651594096343608121960962033258311311893140349779412757921655),
  (false, 18498329282623250392098226507012794913375033583563504655804061550556098950901, 41279984179417285780657987301543487999306998951695814509490041373997411205442),
  (false, 14621198854137609352185386775297015418456171262585965701722812123582990923450, 33937705450845299837390715378349635587930408361541413706760981795318198807960),
  (true, 27877563148636166296583294313130482326244455833426469144258226879776221768882, 56480669708456234018729618168058262420089375595568892252833829453556394352379),
  (false, 7181545153153658992490409873721432091519160302102083578082316776455721205806, 30124551327989883748844865177565059155945571811946707080541867253947019832129),
  (true, 55660204125881035873450010420822442695295268816026090290732757797478260026784, 41953128703760247731795518423853730188813635863000597912660838984699085041553),
  (false, 45340448844476955606121183183790380756329997751998089644027756915405812468754, 87218061823437062862524815159498314920337631806933426226619702735567148666),
  (false, 37847067547736812907613392178316615709320464223749883799397257470128482073281, 55635828216023469306926131801644175454036345660854447591928505339137426199365),
  (true, 57545990244224688421572221211126488057580714605475232348723459436708012890204, 35687759351612237211236719554375743390279023673868451052610253484044299090849),
  (false, 25505436711441821349224520623107218615185855420401250367390122961195493794301, 10834264678591212176408020173122028602766981354020079086933210599053296751427),
  (true, 5951660249397061052838907657352874682530068772392159092747818845053982748366, 383492649047447492132876812637389019540975490061146958416779088910438222177),
  (false, 39420117311695778002754389671734815539648133358847459765785141429581430649532, 57263608508551927592209812425632193522298652320133510630284797669641859026319),
  (true, 54957028674345625386292104491866298896631989815821660862623363705384700723356, 39280216741068718864247843185427530508037596380663197934973601941874015924352),
  (false, 28498209533750886880708622333780873119282470982510598449329597170505239338536, 33209755268966469203241440138855714524204106697467375813453458661585326051113),
  (true, 47665411179420988199152695816139026835228442965515613043269557029774361999958, 40908640816570166830668392336996678150383855343728565389933924782170062846764),
  (false, 53011014817224097919821535701825386355148612634680166929673301417710634291120, 17822171030124132882905675502759293263064695569656206798606987611841664385142),
  (false, 8696358334141002097446952723756445933336158382040018733145859827398848667418, 49914493966203379105677895045971336036193560656021944568162311710992010284313),
  (true, 20003058431961547951497558378328913927630366611825520932737951555670178101694, 41711661583115221338664852699981923362593820736584798088137966721947159977737),
  (false, 48361799481732452258310008605251695646839394849197599993193540983467408139089, 28850018310685785537724921971788550702123068128843119852870584222088729439683),
  (true, 6524136925382497845497990750620719219972309053138269261620455642650257696179, 32687756102173419839738327621345076281640632553782164119018581021130387120530),
  (false, 19723872438064333015929157217746717740626330217824660321675774613946615010670, 21303058035315253966641959758337918704060649694381899939773433418985170655356),
  (true, 5700462861304222720211358789181151713673062822807622547646952396858314580476, 56311582959803724590613789277351838386338983009212439841190491760668280263837),
  (false, 47214667442132870039466560671630717999127855303762461079108938381861003867556, 2428761846637101439049808510545357031527352040189891179774799491635762890900),
  (true, 12680069865085673657364980716583914121526263284386501750244750949353272907776, 29189507275317351527673672757469484306572559378073767741755834378979921331658),
  (false, 54816600594738306420286682143143620712680911767461230060916008255668003262777, 16209310812522612296589866303659665155382191529397976157135582126063987450639),
  (true, 9236868749522475433794884665054858661075400880844910072807125839065565934169, 53534573944258633740297998628247868840752349263625163209795551774449998643276),
  (false, 32807492278451714518024242747678992964510574890744187687700940251621586338769, 40453238950094755533905636755029630710955410361198424601326306779390904129628),
  (false, 3173557203866977758930918142168074842609526964066679682373632983669999625528, 8954205231232762621913306626095315593824658619748111029230214390750799667638),
  (false, 4975281576403062120541725238804772750745349865914664607763268745188977783680, 36130638114638380033291301790050328464138816635864625910333182520635167934796),
  (true, 4494930324297705238928315781281950089124660224002781989033932708575865903552, 19033705974236780840128659864685083296059595886141308798561595460433839772284),
  (false, 42736300586347337527673401514686043119112405254552907449394366408818202814323, 37415531055014906191276277580949249280505028007338226955517247790858995285108),
  (true, 1745966718743928534882433221199639114489728795043925531037180933237776953618, 27551202652941532664438277638267618745815767233958923708527360089602785054678),
  (false, 6325106324328923875334157443714861701031812246251669767632808791238195422299, 37013090868973522862327582104646724282912696314668626334458182903256646562842),
  (true, 48274040955167243620615632892235520449680682176662995315326980845032333470994, 29349566237275668693845590060395141512822641094558767637846043978629211356274),
  (false, 33299318657402391076189670885073565614607611514577447881234553940466351503359, 27036001545307066290331638876295109330997141591964008343711275830162213453425),
  (false, 21100643038311570825460518721661591154866501983810839492487611895868151017842, 6965955738465159294542530618170607979179371982733204655515325933591485603364),
  (true, 57587860629326703910348865271655242652316958815152756415581081694806604527534, 5956384283592027817810417263546127891376223789932719839086892494800798068047),
  (false, 15166065459516624714937921526938291997144197479455259554370747081019562696090, 53516782788221748965783119446205476306219340060040153882600850294703229442331),
  (true, 16947582654287120705139077674872603070130500593782557302156536283747266056542, 32444640192851423343593227593215780685698499572163294396331914729190673298619),
  (false, 27565562340830960021300504704140132117450922267726861166191304821153164724818, 56587268284476076025326926206139307494756410468266648764991227526919622662842),
  (true, 36594509101607685444143145351273771217631668124095778819123196011822457300705, 10062317462881503222237389853715870619905910492408973806852928756161359391022),
  (false, 24212505518564374803770329768920966332889223972393874900041213620574924429370, 821011036284524145049993947379913613933264190969427422587629806035329929263),
  (true, 47644912502939530382359701638589880653790537994592361529115457060242217249769, 37284250659358192310948175616937262349477083080106127936244343020712085663572),
  (false, 16141687387880132514068786843488823486526529975638266225420353395087229188939, 51374989975681168649272189396038456273500400051367613109295671102719039749130),
  (false, 18274922276918964952578507571894065478826777477480902085797603658111838472277, 53383320646283222191225385821786623071157441667112969733967699327836746093139),
  (true, 4421209796543816737945832095169827929321829883655335141629864975900701071152, 18881394321546789232653723012706754561547162527590205182188611750345511727587),
  (false, 37233243637644635886484444231942479829511118969561751824492630132131652594808, 35716134568041981073915865194045950335392175990310485314945566560269182124760),
  (false, 24096867884023311703676343571826367693095074372676533961657325893634564663022, 48840458543553667040747453853382823868399279356356279314183331141507991866416),
  (true, 7101013764181857221469411635023371419982929742177865615485145664565034020814, 25100303233440515294907358208048928369648285879095887028887101799012100541157),
  (false, 53408905309115804121594073890693190338668643613776928652792734171959268815793, 26483783170820254269247772943573845581745577449426428630935316615510250579427),
  (false, 11204901660007146097635782991627139458299335402172885422977940875802867618905, 36942444326890742571743156249884644698204962760366454599975305440929898478453),
  (false, 51048747630529511839803579679101694524274710854628509194748325267846176738410, 34785133162986051122207142014404093044404547312893108922996096204964038334053),
  (false, 38447436415520228730318655948007036615162944990665611450841878511050912814562, 43226023682789180894875564242548572743382562615766922785903075213201218164758),
  (true, 36253365327508524168327475278594622190197624296806891398655908051179136010934, 38182556675339376168532434969117332378792094434931356290158978755564755239789),
  (false, 36470187828176730787690773519897088750218511127693597254697914208494429909451, 14289315859350520889735269757835766235125379915083913646700927110445618995880),
  (false, 36242719547386367832092709090365289091310188186370592785764569521386442689665, 22801451611581524946006030768697689912587225703047036705318993451432822540772),
  (true, 17977687200378766520469855506185426433244603964387150153831268803065788620999, 23829798240367299117482332870122674492589616894605558674963680955362637185181),
  (false, 48043343536172139435196906553186576664235951167462051256955606494226539371365, 28074312453822650681200990644777641663801131291702889797533929640980940669016),
  (true, 6718121287919759270692202190471620706227207625049064646828695707523574943721, 10581737216253995200824244887115323533449877297429941709184113590567564488270),
  (false, 21272228237420306519524510949909448175283051436036579507101838866096980217099, 13699638219252845177998177070027743899677877202898228156131160510746757635314),
  (true, 31422791588605148127480284556997324743049164154876866685716933492750258541693, 36833338935696003000431725558863866260308351327193223244017775142391106574013),
  (false, 50547723143105343873705362138856521156801824478478595786187059310424494155640, 48727162311385565690249055687868181294657450924389329331668217083584726297269),
  (true, 45072847051770582852677904397233237900608742669196365493300256298962420134960, 3313965178810964140045143880238958989160085499802132147086326439306858510190),
  (false, 33164609487726988682635751979433197387281571469612430005465509922041589747683, 46058148429821750338458264942922861838899167103652096408274888061081207097702),
  (false, 37883734501405162496687231761161735944733767219730337919411773834546124344961, 28489712405073648492736526177834487860465506473193375274838680684822891367565),
  (true, 52122569193539170509907653839149966985910306175727007350525768166852472709154, 49642474924334789352151903836107790837956900622954848004851656057486785850165),
  (false, 32520233469089850074396062145445549845446230779983103410803641664622336703620, 13236398305289721393420813698022438044469856831616409749656312681143025679211),
  (true, 37627931935021761482704569153252389389089808816308089192902312385114312996502, 42795954838054511369627665874370894386069809627892147428379503057845542347625),
  (false, 9372910703001367764504881945900723668793127580713374801032126535556155951588, 47458370499355176847250307961660708075136169068240206536411520530882530713620),
  (true, 42486912344109881166137482647792600304169956637962093098215458926868988697928, 16586477326572747629164652926135993329397808048155564689111664503700123034858),
  (false, 49591747201784275946112184045747094430858561845254385591559863304493539355595, 14738411143204505100293040353176933809879947010122064958650536609829833027238),
  (true, 25642617154688694782683584096778241258047849052791524465859825264430943054453, 11944319465707052963627734564822561830341555968206873257523078761283489919070),
  (false, 49626519104615782636461673506839644991766269466049547832608512919430059762862, 5497443879606017388126645566956597823844182433267009051391897920469032444321),
  (false, 31480752397025564694247816226876651691785264586090852770071192750515267479274, 55116015393685266842364943097694836093668791922548169601515429150914097604109),
  (false, 29707555633416399197301393273435295307406394544358281180759695095383496277064, 44506112060121558473101940915810747367683008126742387616070465765470525891639),
  (true, 28011345793104222541411892069606517383511935464533680311720643938952373222920, 52704116657848168108849387445173680171518028498198701666310674034085738511176),
  (false, 49353785906577151898022427047153101020095498874332043076739115814840327628444, 52320361446721183978012038413085851240738767850764734026973844171436026511285),
  (true, 51290802721813768416660444149951597393996215275993725630667521719902509409495, 35381548807883153399885066021202252524612354858435607086589095409881686197224),
  (false, 14910951248545249454087686907326638166962553328327524545672823441378494468261, 5421491214895433453294363164902074669642310507112482223999524701382391742533),
  (true, 22099117863755106538735530764060004613157866850517076057667690246164956557830, 785495364037636087310003685321122387638403543618727422741813996180127394678),
  (false, 31026703742185374618485082949821731230709165413863141516654419053735671792272, 37241772735327170643246908160350648444781752334006528059498772819509655010622),
  (false, 39118270552832779624660189756944654802583303827645786142883129881328360291615, 56369328790041725851357775274451092705729152700639970495966246858166523159832),
  (false, 27343817540998960862162013541640585396187784652925542086983099250793879578768, 43649302063445602409811987528767732391982280180390537625697051690931684796309),
  (true, 30554204909796683808099133764424976088249324170489316970666310281790807539802, 10117919832648649270147282553060447803121663747516745210900521371290313102025),
  (false, 10950113157765468567880379036581688966647656506851898087076985522071645199127, 26371577427737249637332322679329188789882387014033670513732553243270610048620),
  (true, 36476630206220356812664536890580105726017369562043821218479578882572298256105, 32463397277693549799477155252098896379156441205142596837932313448612820694820),
  (false, 23439499719140888596059716453684320736473547521337625074624875727317601235927, 55487378001520788752909848249088949715837252676707524947615649479631097418743),
  (false, 29101740107165328779289898146620948296435339898791707777757327352776143205406, 33087688527030325700225304504556825421303992384298990272585372829606877606433),
  (true, 35773991173264228330058040176377463597902356043074975501516802543889720080682, 27321923990433253382170255787847336983739376902274204720564515684984515071800),
  (false, 30388176730912152420367414077002040141107926867141623309896608102819075344778, 15742675219236997690172616893011859797038150913669579714319550839750172297309),
  (false, 47874622032957938312982104383318577006024427794041316055325789274471186837794, 19056198757102973308842849740484068364756409390293038103369998072139031458508),
  (true, 5860110492963201981856826760885980745013111881863117920430046883062743275455, 40500563407256977558648635231407271141602471220772873576961693089472641954953),
  (false, 44513467393311629882219681278549454448452645554949374393926954149795086478912, 21564308064597749689501092161846402216840028171023694803145132256262125421042),
  (true, 48225605231701453106823918160491809341169977847209719186338761785639688200030, 30288425779799683707918205956190588053803212843770298177904220309486244324014),
  (false, 18485897695379219479251896618958576321301971785790935937486305432984567540853, 5135115013356098684513319122605950125998461865111178353048299996305560522489),
  (false, 16339528236496691939590721682649823247685028605055816977317060602486908857975, 46912073065785929873180278986697487381563322510766422184469136375330933898906),
  (false, 9422300342174524535148235573337221172757009586604872706425046381849786434397, 53901441408313695849221648591935008568638912998192699214422862715959583962048),
  (true, 32914972624431858797876721902444315681841508241160289231587954857579826506229, 737725485047049417543065231757893202303905156444528531050424694599830111533),
  (false, 13570168504664276947452866115781809515343961375472577212827339906740801897588, 32316583099159130187777584522396779712188715834565581627682555495253243358566),
  (false, 31961187902138024331987063265119082511841779020706932216365125386497243608924, 51485858820657006325143143247408615096775519400504352977603889057187114012570),
  (true, 57079556726555812321218398179692440968416760101177303346808530885432012225165, 39485694343387990765806775054015137112882334580391309392671481259694407400002),
  (false, 26270273178380303867716622946619189516232811290750045112590069406779274417556, 6819201919878899432256775948016138296805239893095651982895950986108398389825),
  (true, 46516069351215928195723824531537446578796494241378432717070545182826119238584, 2593572258169826836315182778159545680380166261027146287436179586520916660317),
  (false, 32080808650729089712689836685165055626969319743689461596394593581647775563400, 22322086262095604931589943350594634795260992548807119827695177526400995207186),
  (false, 50904227614069973077619089724579555230659690712761492275383683064085126711148, 24337072882872450992312182431122328840252124559719762743561524975961913237673),
  (false, 34282795379400204901608762835670460043884582036916316514833081028176241702263, 24497205706531260742345875906375877421980725255924459479322111501730016531675),
  (false, 45207237250579875287010383350935072580776376899334672728075445674857248128957, 39496403936422486459992131965206754953856236350836269560288891189196379720652),
  (false, 9892520292109483162572564166578499435656583822902843799552226239812497413752, 9008749611818964087347399449852483827934081256811672802427903721465208423428),
  (false, 26450955390802645953664691021712693689080146882962175223139059409733634075108, 7029650407934620676104484191732264441212876711085723728871113250616960456461),
  (false, 53225446781400123981637113255338407782598344362863930321378839546324471726739, 27503260717915990209811022232029524814432321788172091784122867413129178028382),
  (true, 47638900093209241086500703960377163963752889572894534682165132697181666283116, 9414796038546579272882302064801099789234076811809801703463649773311016487315),
  (false, 52707699458219734912636431914815688423041032854204147085330656849257502128785, 52586691772534450039728846841482686455362345716854665075727080296838771706547),
  (false, 2673402932148531547107587101725952916967954612901684150676566424992611920626, 31655839118409182644619130518795716063027509376645458296855566994938982546265),
  (false, 26931898706660821378425676654164295381909143220003310721896831866299589966997, 27161039048821407706094934906532111534963157263474457588061893131751394556670),
  (true, 6007178557758863974497699739583902112067564387995961943234209455561371622117, 48542331631091881365046212303379963747331365514249702488391522452460280112193),
  (false, 30379295610005895885873551476443218142662634496355608369107386881925725826212, 15711646161003209074385637007322689994056268571472675329254925485257620334900),
  (false, 19618558156598118238544061018918908007199299033605490404590045955165031735621, 55108462981749255908326986482108205328185594408017535509722063598025571702263),
  (false, 1772049106821383432228774107145018979097305770153729527744653108524867992021, 28504177405642424407412692300342345308069558964449570503349411535145208144323),
  (true, 49042154037322794099334427497096733299310378285418259489083413912747779908133, 53866831023813293732834314221503321339224643019687842646564963495742984033470),
  (false, 34176151585086268872575892940100855868029275509244201496247284808788520171881, 664410718797386863613291445030950771941023795186902931500380433267895438400),
  (true, 27691254005517608749097760316010025698746731598567634159107660816925038401567, 48096188549525518152463405152899299260784975857470836686159698307190462908230),
  (false, 4183424385098056479091527886468513445986396722568748155859335171152264882143, 56859640691828592856089311954044441851848874316674061461239559209907989611052),
  (false, 16543882880562123313899933023136451188033879104484481943921987163200044858969, 26240645358455929895830302924190089779128465020963339268628074434922973607409),
  (false, 48354901946900536552788200233915163657251902760056735011531930345400365880798, 10379905066273012143075641691220052577901014669586258503183312161873057363892),
  (false, 34817962774408924004609728842069097757243237204805353665363852609461556030501, 34480212789599307767426641486036494500413052572798616032060881553362380660124),
  (true, 24226895374618106659116131195679280819576462891801018587051468913665352423618, 10657744473042264316917654138142245039141681680294090143512408778128701078179),
  (false, 47127129882912222334612223425190246482250204454372596025710040209991759164515, 37207836472573605657027629452996536732768279341854132325361500055974684701242),
  (true, 25850291702385039089705815863301593243824270257295058013194416816645428824643, 52862340791569726939521175492245091512308466285024913160457364284197473719333),
  (false, 47668506025256424057880501778284614458459873968470420885894048734073685034598, 22777209261683400770356490794144172479419291288539475263999903657459202638785),
  (false, 39203128155213677977345552687042741019723081864488185449160336017169539406297, 53429556324878822811492669075039719846484716734628412067323585715668216287328),
  (false, 17179928634608776335855279116398590624439681128104293081511127752604250091313, 2065434119168113416192914070849982498875745002896447428818405040074261326135),
  (false, 41970059443255629436746040121147474181782205244688557244624197442527986126946, 2749566447724481074810875257022618188845693891279486039555405916380591399505),
  (true, 51692698283830926969327739432498620873191069779333547088749148276845332165653, 39825539986436554910525940381600580530878942910780759385059752163392448836256),
  (false, 3609047266958342264993655834425064837628322803713904465248745425201916620095, 36819707691922247039763420342983000657693468670778352051107521710083395294508),
  (true, 10298583590938875153164971391064236052137420539887998460421844841791697024261, 39721747537701931533897904886531262321975515991640029014413414299453786492482),
  (false, 41624762869133589161707553839250387869259934796874863605569802240756500874970, 34359104419271605801232395358121429974130969143944266532131005602166841500771),
  (false, 18771153336795610656729609871300248964384786801083351631412664812400623823017, 527216025600113533795188917339950037295425176681845975472807790961107518504),
  (true, 57291545147455937577630001586804989029099866304158534730175833414665057309549, 52947328827721870730609407849680071456032189476974766600300213089895134876974),
  (false, 46563948444541997288735240497800228441980342344995145248860956090451607482341, 10029233439667061374595826967338523812887179514540457251339864559030767171290),
  (false, 33683050213653020648278182468628761847364229033008629272528878908605765257871, 37331029606741395365081079808422202610273205539470024307491581876433078389304),
  (false, 1290143439815768707560230374421511508363318719548980579159130470153901944962, 29925096225485849262161601611834714714444292527669886531649988065020832755901),
  (true, 10647496459789907889841911993901846947665068050556686536976710827039461549130, 41468085144731360108487144473386467541613981209325428781306989290744839980699),
  (false, 33545777270781970816846392840559806609800458560842515073889883007380097530079, 38770330194197131230986231004903401676867012024676671413093324368428121063957),
  (false, 10249851094992890276461163221183007043252792971195400933895904811896838397872, 57379744134713207714001444210530995972202117068904428508159584865550341213869),
  (true, 35676768864117116956288014429314487628588473484725353558495975046987171879557, 18871604518867651548056898693869455120274890510894453785979109042847284411078),
  (false, 4947258978508634401443377430765445144928401367669557285691355574816121444229, 21121279374181869361115637925514818365051779124511815966017700697277607915301),
  (true, 42776685266588708067526227503599860784731445751316951848994669870455819838933, 3834698150254463617327759397064941500725928903016397929928140544581549714898),
  (false, 47286174134070855786543341154707284721224923384334543339918546056786543845161, 1440202793720337178644104369878532272314368088435659799191261277769424010232),
  (true, 35659851890152512044796678277464580590585547479394426467727999487167010446979, 57673746985498339841710763531772135533147976006905136807480650877135249691020),
  (false, 20332050815655288025906297227560576373010587982413805215759228307698247796721, 53922350819820610022582763428601644454111909928749845684575526777602540373518),
  (false, 50242507862864045129014291616323898158028095038543557661265311507345511726180, 28738936282848908552861297545615226914652032367012226095504241913487766328668),
  (false, 47213513768989031318709365191837782997224605700942164799012088457145018428121, 24647234324866477227857489006549381762340335359561312152584915517753859285788),
  (true, 10780657088011873692095173863374486613782177310246218511429659787704742976020, 9960583645259155079940220988912608018877849146799766322875488219803080217478),
  (false, 19520993289593675301791621986498411775641279234603098012999461043033004474604, 49399524639183804229508180840786175836824236055816958990961529669334933379373),
  (true, 52866022374841985227542485789639896387365144822978864966374991526001521859937, 42272207255388275542905021813636668585854440978608851353251886416287774516488),
  (false, 4551203492515922517329503580567040517420236449880047851609665108631079977147, 33914370255970765644914294603488346863090483971190990106199516017054965386083),
  (true, 24898072446730875058324464635274744103231412362742814476939893381529870263761, 3572356243712331394584431853448279708448240053539060300675007062115761895219),
  (false, 28007100554162193911497947825404195673766719981092104748154988957757924298310, 1892464663442303264481743150687121542294508656958639699621386618021879303569),
  (true, 43726857591729232589671160113458785147323062147537873899967101955184611880434, 14654457685681891066229743770206199244034052426290092959431900339011514259484),
  (false, 45239298867352071971455422187424767329835932237310608488394325826843554540902, 24032635060160304593507287691654709661832266283965059758020181900559423689442),
  (false, 48817293213565226808069124748884300379850778142562498499897636027429603761404, 30367277722626747756509043029546041452780372217781070443500528112750390987582),
  (true, 29150837971814916930324087917526669383155322011530539339262964580447859181202, 20886027445211448205564169565203056936974939987073881925517524440748670628303),
  (false, 25335157397224064810727546649077329020987306241188701084484325885278230524487, 56499352931851677030934307074909205277494527853910966412453122714500355443528),
  (false, 33468246251091802277162750893010513158038490179708009519437843300632902611014, 19990701531033070754536670780678670244859385900952709280885457965823267921360),
  (true, 22447166499508127474527842120993333846123081520558669137059332898312327054959, 54265590371628899450116391776266978716474793025414165819494953341467286072549),
  (false, 28453374248227000866266897595044367308303262490350169015129684846287635579551, 50392920836618097506333891712514152469691514477864711348785880132440819315019),
  (true, 1621326940781623262197234775215568553749203287001246320490367674196489544318, 32080098788136790842617678490038203060280651919491355901586274469046175576345),
  (false, 34384238182073006178069933254488639127672314385114214494712529299097683811614, 34251516519615103235380146423070665924645835872818708078242511792528492253171),
  (true, 28842322866662695101697430760900425762679659409644402323439306366411147837946, 9761178027016640074682791369973620950860201088524020599458394503989755496560),
  (false, 37506276807084222626353825328018893399078232438955536360852282380883455200981, 2492126853213382445177156677230850023112426627203254834806236867597778582191),
  (false, 22847219772423635185681153393094833246866319033157594545808682649676972131368, 24427505239755214185516880459940309536382996784490331653087388143460021280905),
  (true, 15607491374204947381801637572098982197401030839946607366513930992352658701411, 26091167286181408863558197301785676569014798891055641832243596720412745066288),
  (false, 8339407891475578256109406314033389688077825897931079265545181224721380128309, 14411104097030611677840457467204474875789736621984749864130968427849626073984),
  (false, 39264564646777584416147252555802575144227215801683492967450929427167060917054, 40065731243285388296861411513965264594756594454614871647746646604496551058896),
  (false, 44880989264414195861500069738921222519456978269966649804517089717879672848313, 1546339169748125145722901462106044967887532546555657227775867959589051460664),
  (true, 18053222263634361305855105219809109573232490017589156119389911819071556298256, 1634416155515521967732387716334528856130276468544269853481625711525712847514),
  (false, 34144957097517302969900519650324142526391146976073663008844441055809135266959, 13477872844461983576805325086849635354223631478547208319393978535174704114081),
  (true, 25036327314646752809446091612251300931583514095727444226340371576570197130530, 20718649112110971591101687240541283720274203768004015509479259840302106251880),
  (false, 48602127682807241686792544930334912770734280407262349510648378981754656774796, 14896546008551902507861833581581249897269383101427497819164763597328000121031),
  (true, 25452525139586193577814080180147294761845195363170810351692420795700209202037, 9955479218950249630024612020081751001364681705065937858489586508707314000519),
  (false, 38823202192124254823219545279976819572354035081847699169591199256710391515063, 26488032689393992913822052743315664127874533080011939685237019824962035270410),
  (true, 29480407674484881991165473992333333532656185409511787335224061812275946374726, 8047385049404066477546574034471471023683495617186820188619048946815956201004),
  (false, 40723064091278394470160226633226033255871972153633611957575699319485813703775, 52428304004418591725394878486448937626966356733106605391415261096087565531150),
  (true, 14468465919551656594788940210003176114366628755067019173999132446022708953956, 14365702671583615013167551189811344678142067377534549506927962054433563455958),
  (false, 33908238402890978490375835200266742769172485184974421439498022467306534363207, 11561374258965942087571714298305826102868468939589988506543073232105665007373),
  (false, 51807256109180004044237420629385641666284612334529300788108844370624048629136, 6703519720479716095729827217348405258395122028821743400690375244702634681232),
  (true, 15289731748132165646149198412199763807897871159798043259304613122779778607251, 14236063193093128168129286054882270282460430183359107066080112890724734685857),
  (false, 50312939540898636350818742489147235214811487820615099797501150463460839580994, 55386695404241615358924637345021854539715644425831568808103224120380294194155),
  (true, 51872155851566556063538290990191317148460249988409666650861039146474861596918, 11802273043629714068065006270029927896359548511386885817262733898970000288062),
  (false, 21899774947921560910852297759271069639382909542664740987399982237893057430496, 50991681853204441562074798379791702070647292781544839766488688163191875246508),
  (false, 42783823269122696939284341094755422415180979639778424813682678720006717057747, 46316835694926478169428394003475163141307993866256225615783033603165251855960),
  (true, 0, 1)]
theorem zero_at : At Pt.zero (0, 1) := by unfold Pt.zero; exact ⟨zn_zero.symm, zn_one.symm⟩
theorem base_order : Pt.mul lNat basePt = Pt.zero :=
  At.same (ch_ok base_at chainL baseXY 1 0 1 lNat (by rw [Pt.mul_one]; exact base_at) (by decide +kernel)) zero_at
end Sx

namespace Sx
open Go
instance : DecidableEq Pt := fun P Q => if h : P.x = Q.x ∧ P.y = Q.y then isTrue (Pt.ext' h.1 h.2) else isFalse (fun e => h (by rw [e]; exact ⟨rfl, rfl⟩))
def nx (k : Nat) (f : Nat → Int) : Nat → Int := fun j => f (k + j)
def ptB (x y : Zp) : Nat → Int := fun i => if i < 32 then fb x i else fb y (i - 32)
def pb (P : Pt) : Nat → Int := ptB P.x P.y
def spB (s : Spd) : Nat → Int := fun i => if i < 32 then fb s.X i else if i < 64 then fb s.Y (i - 32) else if i < 96 then fb s.Z (i - 64) else fb s.T (i - 96)
def spO (f : Nat → Int) : Spd := ⟨fe f, fe (nx 32 f), fe (nx 64 f), fe (nx 96 f)⟩
theorem fe_same {f g : Nat → Int} (h : ∀ i, i < 32 → f i = g i) : fe f = fe g := by unfold fe; rw [num_congr 32 h]
theorem fe_of {f : Nat → Int} {x : Zp} (h : ∀ i, i < 32 → f i = fb x i) : fe f = x := by rw [fe_same h, fe_fb]
theorem spO_congr {f g : Nat → Int} (h : ∀ i, i < 128 → f i = g i) : spO f = spO g := by
  unfold spO
  rw [fe_same (f := f) (g := g) (fun i hi => h i (by omega)), fe_same (f := nx 32 f) (g := nx 32 g) (fun i hi => h _ (by omega)), fe_same (f := nx 64 f) (g := nx 64 g) (fun i hi => h _ (by omega)), fe_same (f := nx 96 f) (g := nx 96 g) (fun i hi => h _ (by omega))]
theorem ptB_x (x y : Zp) {i : Nat} (h : i < 32) : ptB x y i = fb x i := if_pos h
theorem ptB_y (x y : Zp) (i : Nat) : ptB x y (32 + i) = fb y i := by
  unfold ptB
  rw [if_neg (by omega)]
  congr 1
  omega
theorem spB_X (s : Spd) {i : Nat} (h : i < 32) : spB s i = fb s.X i := if_pos h
theorem spB_Y (s : Spd) {i : Nat} (h : i < 32) : spB s (32 + i) = fb s.Y i := by
  unfold spB
  rw [if_neg (by omega), if_pos (by omega)]
  congr 1
  omega
theorem spB_Z (s : Spd) {i : Nat} (h : i < 32) : spB s (64 + i) = fb s.Z i := by
  unfold spB
  rw [if_neg (by omega), if_neg (by omega), if_pos (by omega)]
  congr 1
  omega
theorem spB_T (s : Spd) {i : Nat} (h : i < 32) : spB s (96 + i) = fb s.T i := by
  unfold spB
  rw [if_neg (by omega), if_neg (by omega), if_neg (by omega)]
  congr 1
  omega
theorem spO_of {f : Nat → Int} {s : Spd} (h : ∀ i, i < 128 → f i = spB s i) : spO f = s := by
  rw [spO_congr h]
  unfold spO
  rw [fe_of (fun i hi => spB_X s hi), fe_of (x := s.Y) (f := nx 32 (spB s)) (fun i hi => spB_Y s hi), fe_of (x := s.Z) (f := nx 64 (spB s)) (fun i hi => spB_Z s hi), fe_of (x := s.T) (f := nx 96 (spB s)) (fun i hi => spB_T s hi)]
theorem spO_spB (s : Spd) : spO (spB s) = s := spO_of fun _ _ => rfl
theorem sp4 {s : Spd} {f : Nat → Int} (h1 : ∀ i, i < 32 → f i = fb s.X i) (h2 : ∀ i, i < 32 → f (32 + i) = fb s.Y i) (h3 : ∀ i, i < 32 → f (64 + i) = fb s.Z i) (h4 : ∀ i, i < 32 → f (96 + i) = fb s.T i) : ∀ i, i < 128 → f i = spB s i := by
  intro i hi
  by_cases a1 : i < 32
  · rw [h1 i a1, spB_X s a1]
  by_cases a2 : i < 64
  · have e : i = 32 + (i - 32) := by omega
    rw [e, h2 _ (by omega), spB_Y s (by omega)]
  by_cases a3 : i < 96
  · have e : i = 64 + (i - 64) := by omega
    rw [e, h3 _ (by omega), spB_Z s (by omega)]
  · have e : i = 96 + (i - 96) := by omega
    rw [e, h4 _ (by omega), spB_T s (by omega)]
theorem pt2 {x y : Zp} {f : Nat → Int} (h1 : ∀ i, i < 32 → f i = fb x i) (h2 : ∀ i, i < 32 → f (32 + i) = fb y i) : ∀ i, i < 64 → f i = ptB x y i := by
  intro i hi
  by_cases a1 : i < 32
  · rw [h1 i a1, ptB_x x y a1]
  · have e : i = 32 + (i - 32) := by omega
    rw [e, h2 _ (by omega), ptB_y]
def onB (f : Nat → Int) : Bool := canB f && canB (nx 32 f) && decide (onE (fe f) (fe (nx 32 f)))
def ptO (f : Nat → Int) : Pt := if h : onE (fe f) (fe (nx 32 f)) then ⟨_, _, h⟩ else Pt.zero
theorem nx_pb (x y : Zp) : nx 32 (ptB x y) = fb y := funext fun i => ptB_y x y i
theorem fe_ptB (x y : Zp) : fe (ptB x y) = x := fe_of fun _ hi => ptB_x x y hi
theorem fe_ptB_y (x y : Zp) : fe (nx 32 (ptB x y)) = y := by rw [nx_pb, fe_fb]
theorem ptO_pb (P : Pt) : ptO (pb P) = P := by
  unfold ptO pb
  have h := P.on
  have e1 := fe_ptB P.x P.y
  have e2 := fe_ptB_y P.x P.y
  have h2 : onE (fe (ptB P.x P.y)) (fe (nx 32 (ptB P.x P.y))) := by rw [e1, e2]; exact h
  rw [dif_pos h2]
  exact Pt.ext' e1 e2
theorem canB_congr {f g : Nat → Int} (h : ∀ i, i < 32 → f i = g i) : canB f = canB g := by unfold canB; rw [num_congr 32 h]
theorem canB_fbE (x : Zp) : canB (fb x) = true := by
  unfold canB
  rw [num_fb]
  exact decide_eq_true (zval_bounds x).2
theorem onB_pb (P : Pt) : onB (pb P) = true := by
  unfold onB pb
  rw [nx_pb, canB_fbE, canB_congr (g := fb P.x) fun i hi => ptB_x _ _ hi, canB_fbE, fe_ptB, fe_fb, decide_eq_true P.on]
  rfl
theorem can_fb {f : Nat → Int} (hf : IsBytes 32 f) (h : canB f = true) : ∀ i, i < 32 → f i = fb (fe f) i := by
  have h1 := of_decide_eq_true h
  have hb := num_bounds 32 f hf
  have e : fb (fe f) = byt (num 32 f) := by
    unfold fe
    rw [fb_zi, Int.emod_eq_of_lt hb.1 h1]
  intro i hi
  rw [e]
  exact (byt_num 32 f hf i hi).symm
theorem onB_is {f : Nat → Int} (hf : IsBytes 64 f) (h : onB f = true) : ∀ i, i < 64 → f i = pb (ptO f) i := by
  unfold onB at h
  simp only [Bool.and_eq_true] at h
  obtain ⟨⟨h1, h2⟩, h3⟩ := h
  have h4 := of_decide_eq_true h3
  have ex : (ptO f).x = fe f := by unfold ptO; rw [dif_pos h4]
  have ey : (ptO f).y = fe (nx 32 f) := by unfold ptO; rw [dif_pos h4]
  unfold pb
  rw [ex, ey]
  exact pt2 (can_fb (fun i hi => hf i (by omega)) h1) (can_fb (fun i hi => hf _ (by omega)) h2)
theorem onB_congr {f g : Nat → Int} (h : ∀ i, i < 64 → f i = g i) : onB f = onB g := by
  unfold onB
  have h2 : ∀ i, i < 32 → nx 32 f i = nx 32 g i := fun i hi => h _ (by omega)
  have h1 : ∀ i, i < 32 → f i = g i := fun i hi => h i (by omega)
  rw [canB_congr h1, canB_congr h2, fe_same h1, fe_same h2]
theorem ptO_congr {f g : Nat → Int} (h : ∀ i, i < 64 → f i = g i) : ptO f = ptO g := by
  unfold ptO
  have h2 : ∀ i, i < 32 → nx 32 f i = nx 32 g i := fun i hi => h _ (by omega)
  have h1 : ∀ i, i < 32 → f i = g i := fun i hi => h i (by omega)
  rw [fe_same h1, fe_same h2]
theorem ptO_of {f : Nat → Int} {P : Pt} (h : ∀ i, i < 64 → f i = pb P i) : ptO f = P := by rw [ptO_congr h, ptO_pb]
theorem fb_inj' {x y : Zp} (h : ∀ i, i < 32 → fb x i = fb y i) : x = y := by
  have := fe_of h
  rw [fe_fb] at this
  exact this
theorem pb_eq {P Q : Pt} : realEqA 64 (pb P) (pb Q) = decide (P = Q) := by
  rw [Bool.eq_iff_iff]
  simp only [realEqA, List.all_eq_true, List.mem_range, beq_iff_eq, decide_eq_true_eq]
  constructor
  · intro h
    have := ptO_of (f := pb P) (P := Q) fun i hi => h i hi
    rw [ptO_pb] at this
    exact this
  · rintro rfl i _
    rfl
def plP (s : Spd) : Nat → Int := ptB (s.X * zinv s.Z) (s.Y * zinv s.Z)
theorem rep_plain {s : Spd} {P : Pt} (h : Rep s P) : plP s = pb P := by
  obtain ⟨z, x, y, _⟩ := h
  have hi := z_inv_one z
  unfold plP pb
  have e1 : s.X * zinv s.Z = P.x := by
    have : s.X * zinv s.Z = P.x * (s.Z * zinv s.Z) := by rw [x]; grind
    rw [this, hi]; grind
  have e2 : s.Y * zinv s.Z = P.y := by
    have : s.Y * zinv s.Z = P.y * (s.Z * zinv s.Z) := by rw [y]; grind
    rw [this, hi]; grind
  rw [e1, e2]
end Sx

namespace Sx
open Go
structure IsPt (f : Nat → Int) : Prop where
  h : onB f = true
structure IsSp (f : Nat → Int) : Prop where
  h : ∀ i, i < 128 → f i = spB (spO f) i
theorem isPt_pb (P : Pt) : IsPt (pb P) := ⟨onB_pb P⟩
theorem isPt_of {f : Nat → Int} {P : Pt} (h : ∀ i, i < 64 → f i = pb P i) : IsPt f := ⟨by rw [onB_congr h]; exact onB_pb P⟩
theorem isSp_of {f : Nat → Int} {s : Spd} (h : ∀ i, i < 128 → f i = spB s i) : IsSp f := ⟨fun i hi => by rw [spO_of h]; exact h i hi⟩
def spOfC (R : (Nat → Int) → Nat → Int) : Contract := fun vs => match vs with
  | [.arr .u8 64 f] => some ([IsPt f], .arr .u8 128 (R f))
  | _ => none
def plC (R : (Nat → Int) → Nat → Int) : Contract := fun vs => match vs with
  | [.arr .u8 128 f] => some ([], .arr .u8 64 (R f))
  | _ => none
def joinC (R : (Nat → Int) → (Nat → Int) → (Nat → Int) → (Nat → Int) → Nat → Int) : Contract := fun vs => match vs with
  | [.arr .u8 32 a, .arr .u8 32 b, .arr .u8 32 c, .arr .u8 32 d] => some ([], .arr .u8 128 (R a b c d))
  | _ => none
def sp2C (R : (Nat → Int) → (Nat → Int) → Nat → Int) : Contract := fun vs => match vs with
  | [.arr .u8 128 f, .arr .u8 128 g] => some ([], .arr .u8 128 (R f g))
  | _ => none
def sp1C (R : (Nat → Int) → Nat → Int) : Contract := fun vs => match vs with
  | [.arr .u8 128 f] => some ([], .arr .u8 128 (R f))
  | _ => none
def oppC (R : (Nat → Int) → Nat → Int) : Contract := fun vs => match vs with
  | [.arr .u8 128 f] => some ([IsSp f], .arr .u8 128 (R f))
  | _ => none
def tabC (R : (Nat → Int) → Nat → Int) : Contract := fun vs => match vs with
  | [.arr .u8 128 f] => some ([], .arr .u8 2048 (R f))
  | _ => none
def multC (R : (Nat → Int) → (Nat → Int) → Nat → Int) : Contract := fun vs => match vs with
  | [.arr .u8 32 n, .arr .u8 128 f] => some ([IsSp f], .arr .u8 128 (R n f))
  | _ => none
def bmulC (R : (Nat → Int) → Nat → Int) : Contract := fun vs => match vs with
  | [.arr .u8 32 n] => some ([], .arr .u8 128 (R n))
  | _ => none
def ptKC (R : Nat → Int) : Contract := fun vs => match vs with
  | [] => some ([], .arr .u8 64 R)
  | _ => none
def onPC (R : (Nat → Int) → Bool) : Contract := fun vs => match vs with
  | [.arr .u8 64 f] => some ([], .bool (.sym (R f)))
  | _ => none
def encC (R : (Nat → Int) → Nat → Int) (E : (Nat → Int) → Int) : Contract := fun vs => match vs with
  | [.arr .u8 64 f] => some ([], .tup [.arr .u8 32 (R f), .int .i64 (.sym (E f))])
  | _ => none
def decC (R : (Nat → Int) → Nat → Int) (E : (Nat → Int) → Int) : Contract := fun vs => match vs with
  | [.arr .u8 32 f] => some ([], .tup [.arr .u8 64 (R f), .int .i64 (.sym (E f))])
  | _ => none
def pt1C (R : (Nat → Int) → Nat → Int) (E : (Nat → Int) → Int) : Contract := fun vs => match vs with
  | [.arr .u8 64 f] => some ([], .tup [.arr .u8 64 (R f), .int .i64 (.sym (E f))])
  | _ => none
def ptBC (R : (Nat → Int) → Nat → Int) : Contract := fun vs => match vs with
  | [.arr .u8 32 n] => some ([], .arr .u8 64 (R n))
  | _ => none
def ptCC (R : (Nat → Int) → (Nat → Int) → (Nat → Int) → Nat → Int) (E : (Nat → Int) → Int) : Contract := fun vs => match vs with
  | [.arr .u8 32 n, .arr .u8 64 f, .arr .u8 32 m] => some ([], .tup [.arr .u8 64 (R n f m), .int .i64 (.sym (E f))])
  | _ => none
theorem isB64 {f : Nat → Int} (h : wfV (.arr .u8 64 f)) : IsBytes 64 f := fun i hi => inR_u8.1 (h i hi)
theorem spl_lo {f g : Nat → Int} {o n i : Nat} (h : i < o) : splice f o n g i = f i := if_pos h
theorem spl_hi {f g : Nat → Int} {o n i : Nat} (h : o + n ≤ i) : splice f o n g i = f i := by
  unfold splice
  by_cases h1 : i < o
  · rw [if_pos h1]
  · rw [if_neg h1, if_neg (by omega)]
theorem spl_in {f g : Nat → Int} {o n i : Nat} (h : i < n) : splice f o n g (o + i) = g i := by
  unfold splice
  rw [if_neg (by omega), if_pos (by omega), Nat.add_sub_cancel_left]
theorem spl_in0 {f g : Nat → Int} {n i : Nat} (h : i < n) : splice f 0 n g i = g i := by
  have := spl_in (f := f) (g := g) (o := 0) h
  rw [Nat.zero_add] at this
  exact this
theorem ptl_is {z a b : Nat → Int} {x y : Zp} (h1 : ∀ i, i < 32 → a i = fb x i) (h2 : ∀ i, i < 32 → b i = fb y i) : ∀ i, i < 64 → splice (splice z 0 32 a) 32 32 b i = ptB x y i :=
  pt2 (fun i hi => by rw [spl_lo hi, spl_in0 hi, h1 i hi]) (fun i hi => by rw [spl_in hi, h2 i hi])
theorem spl_is {z f g h : Nat → Int} {s : Spd} (h1 : ∀ i, i < 32 → f i = fb s.X i) (h2 : ∀ i, i < 32 → f (32 + i) = fb s.Y i) (h3 : ∀ i, i < 32 → g i = fb s.Z i) (h4 : ∀ i, i < 32 → h i = fb s.T i) :
    ∀ i, i < 128 → splice (splice (splice z 0 64 f) 64 32 g) 96 32 h i = spB s i :=
  sp4 (fun i hi => by rw [spl_lo (by omega), spl_lo (by omega), spl_in0 (by omega), h1 i hi])
    (fun i hi => by rw [spl_lo (by omega), spl_lo (by omega), spl_in0 (by omega), h2 i hi])
    (fun i hi => by rw [spl_lo (by omega), spl_in hi, h3 i hi]) (fun i hi => by rw [spl_in hi, h4 i hi])
theorem opp_is {f a d : Nat → Int} (hf : IsSp f) (h1 : ∀ i, i < 32 → a i = fb (-fe f) i) (h4 : ∀ i, i < 32 → d i = fb (-fe (nx 96 f)) i) : ∀ i, i < 128 → splice (splice f 0 32 a) 96 32 d i = spB (spO f).neg i :=
  sp4 (fun i hi => by rw [spl_lo (by omega), spl_in0 hi, h1 i hi]; rfl)
    (fun i hi => by rw [spl_lo (by omega), spl_hi (by omega), hf.h _ (by omega), spB_Y _ hi]; rfl)
    (fun i hi => by rw [spl_lo (by omega), spl_hi (by omega), hf.h _ (by omega), spB_Z _ hi]; rfl)
    (fun i hi => by rw [spl_in hi, h4 i hi]; rfl)
theorem spB_congr {s t : Spd} (h : s = t) : ∀ i, i < 128 → spB s i = spB t i := fun _ _ => by rw [h]
theorem sum_is {c f g : Nat → Int} (hc : fe c = dZ) :
    Spd.join (fe (fb (fe (fb (fe (fb (fe (nx 32 f) + fe f)) * fe (fb (fe (nx 32 g) + fe g)))) - fe (fb (fe (fb (fe (nx 32 f) - fe f)) * fe (fb (fe (nx 32 g) - fe g)))))))
      (fe (fb (fe (fb (fe (fb (fe (nx 64 f) + fe (nx 64 f))) * fe (nx 64 g))) - fe (fb (fe (fb (fe (fb (fe (nx 96 f) + fe (nx 96 f))) * fe c)) * fe (nx 96 g))))))
      (fe (fb (fe (fb (fe (fb (fe (nx 64 f) + fe (nx 64 f))) * fe (nx 64 g))) + fe (fb (fe (fb (fe (fb (fe (nx 96 f) + fe (nx 96 f))) * fe c)) * fe (nx 96 g))))))
      (fe (fb (fe (fb (fe (fb (fe (nx 32 f) + fe f)) * fe (fb (fe (nx 32 g) + fe g)))) + fe (fb (fe (fb (fe (nx 32 f) - fe f)) * fe (fb (fe (nx 32 g) - fe g)))))))
      = Spd.sum (spO f) (spO g) := by
  simp only [fe_fb, hc]
  rfl
theorem twice_is (f : Nat → Int) :
    Spd.join (fe (fb (fe (fb (fe (fb (fe f * fe f)) + fe (fb (fe (nx 32 f) * fe (nx 32 f))))) - fe (fb (fe (fb (fe f + fe (nx 32 f))) * fe (fb (fe f + fe (nx 32 f))))))))
      (fe (fb (fe (fb (fe (fb (fe (nx 64 f) * fe (nx 64 f))) + fe (fb (fe (nx 64 f) * fe (nx 64 f))))) + fe (fb (fe (fb (fe f * fe f)) - fe (fb (fe (nx 32 f) * fe (nx 32 f))))))))
      (fe (fb (fe (fb (fe f * fe f)) - fe (fb (fe (nx 32 f) * fe (nx 32 f))))))
      (fe (fb (fe (fb (fe f * fe f)) + fe (fb (fe (nx 32 f) * fe (nx 32 f))))))
      = Spd.twice (spO f) := by
  simp only [fe_fb]
  rfl
theorem pt_x {f : Nat → Int} (h : IsPt f) : (ptO f).x = fe f ∧ (ptO f).y = fe (nx 32 f) := by
  have h1 := h.h
  unfold onB at h1
  simp only [Bool.and_eq_true] at h1
  have h2 := of_decide_eq_true h1.2
  unfold ptO
  rw [dif_pos h2]
  exact ⟨rfl, rfl⟩
theorem pt_lo {f : Nat → Int} (h : IsPt f) (hb : IsBytes 64 f) : (∀ i, i < 32 → f i = fb (ptO f).x i) ∧ (∀ i, i < 32 → f (32 + i) = fb (ptO f).y i) := by
  have e := onB_is hb h.h
  exact ⟨fun i hi => by rw [e i (by omega)]; exact ptB_x _ _ hi, fun i hi => by rw [e _ (by omega)]; exact ptB_y _ _ i⟩
def offE (f : Nat → Int) : Int := if onB f = true then 0 else 43
def none64 : Nat → Int := fun _ => 0
def negF (f : Nat → Int) : Nat → Int := if onB f = true then pb (ptO f).neg else none64
def nN (n : Nat → Int) : Nat := (num 32 n).toNat
def bmulF (n : Nat → Int) : Nat → Int := pb (Pt.mul (nN n) basePt)
def combF (n f m : Nat → Int) : Nat → Int := if onB f = true then pb ((Pt.mul (nN n) (ptO f)).add (Pt.mul (nN m) basePt)) else none64
def formB (x y : Zp) : Nat → Int := fun i => if i = 31 then fb y 31 + 128 * (fb x 0 % 2) else fb y i
def encF (f : Nat → Int) : Nat → Int := if onB f = true then formB (ptO f).x (ptO f).y else fun _ => 0
def dcY (b : Nat → Int) : Nat → Int := fun i => if i = 31 then b 31 % 128 else b i
def dcS (b : Nat → Int) : Bool := decide (128 ≤ b 31)
def dcR (b : Nat → Int) : Zp × Bool := let y := fe (dcY b); sqrtZ (y * y - 1) (dZ * (y * y) + 1)
def decE (b : Nat → Int) : Int := if canB (dcY b) = false then 40 else if (dcR b).2 = false then 41 else if dcS b = true ∧ (dcR b).1 = 0 then 42 else 0
def decF (b : Nat → Int) : Nat → Int := if decE b = 0 then ptB (if dcS b = true then -(dcR b).1 else (dcR b).1) (fe (dcY b)) else none64
end Sx

namespace Sx
open Go
theorem fb_top (y : Zp) : fb y 31 < 128 := by
  have h := zval_bounds y
  show (y.val : Int) / 256 ^ 31 % 256 < 128
  simp only [p25] at h
  have e : (256 : Int) ^ 31 = 452312848583266388373324160190187140051835877600158453279131187530910662656 := by decide
  rw [e]
  omega
theorem fb_low (x : Zp) : fb x 0 % 2 = ((x.val % 2 : Nat) : Int) := by
  show (x.val : Int) / 256 ^ 0 % 256 % 2 = _
  rw [Int.pow_zero, Int.ediv_one]
  omega
theorem den_ne (y : Zp) : dZ * (y * y) + 1 ≠ 0 := by
  intro h
  have h1 : iZ * iZ = dZ * (y * y) := by
    rw [iZ_sq]
    have : dZ * (y * y) = (dZ * (y * y) + 1) - 1 := by grind
    rw [this, h]; grind
  have hy := dZ_ratio h1
  rw [hy] at h
  have : (1 : Zp) = 0 := by
    have e : (1 : Zp) = dZ * (0 * 0) + 1 := by grind
    rw [e]; exact h
  exact one_ne_z this
theorem on_den {x y : Zp} : onE x y ↔ (dZ * (y * y) + 1) * x * x = y * y - 1 := by
  unfold onE
  constructor
  · intro h
    have e : (dZ * (y * y) + 1) * x * x = (1 + dZ * (x * x) * (y * y)) + x * x - 1 := by grind
    rw [e, ← h]; grind
  · intro h
    have e : y * y - x * x = (y * y - 1) + 1 - x * x := by grind
    rw [e, ← h]; grind
theorem leg_sq1 {v : Zp} (hv : v ≠ 0) : legZ v * legZ v = 1 := by
  rcases legZ_cases v with ⟨h, _⟩ | ⟨_, _, h⟩ | ⟨_, _, h⟩
  · exact absurd h hv
  · rw [h]; rfl
  · rw [h]; rfl
theorem sqrt_pt {x y : Zp} (h : onE x y) : (sqrtZ (y * y - 1) (dZ * (y * y) + 1)).2 = true ∧ (if x.val % 2 = 1 then -(sqrtZ (y * y - 1) (dZ * (y * y) + 1)).1 else (sqrtZ (y * y - 1) (dZ * (y * y) + 1)).1) = x := by
  have h1 := on_den.1 h
  have hv := den_ne y
  generalize dZ * (y * y) + 1 = v at *
  generalize y * y - 1 = u at *
  by_cases hx : x = 0
  · subst hx
    have hu : u = 0 := by rw [← h1]; grind
    subst hu
    rw [sqrt_u0]
    exact ⟨rfl, rfl⟩
  have hu : u ≠ 0 := by
    rw [← h1]
    exact z_ne_mul (z_ne_mul hv hx) hx
  have hl : legZ (u * v) = 1 := by
    have e : u * v = (v * x) * (v * x) := by rw [← h1]; grind
    rw [e, leg_mul]
    exact leg_sq1 (z_ne_mul hv hx)
  have ht : (sqrtZ u v).2 = true := by rw [sqrt_ok hu hv, hl]; rfl
  refine ⟨ht, ?_⟩
  obtain ⟨r1, r2⟩ := sqrt_root ht
  generalize (sqrtZ u v).1 = r at *
  have hr : r = x ∨ r = -x := by
    have e : v * ((r - x) * (r + x)) = 0 := by
      have : v * ((r - x) * (r + x)) = v * r * r - v * x * x := by grind
      rw [this, r1, h1]; grind
    rcases zdom prP ((zdom prP e).resolve_left hv) with h2 | h2
    · left
      have : r = (r - x) + x := by grind
      rw [this, h2]; grind
    · right
      have : r = (r + x) - x := by grind
      rw [this, h2]; grind
  have hn := zneg_val hx
  have hxl := x.isLt
  have hp : pN % 2 = 1 := by decide
  rcases hr with rfl | rfl
  · rw [if_neg (by omega)]
  · have e : x.val % 2 = 1 := by omega
    rw [if_pos e]
    grind
theorem dcY_form {b : Nat → Int} {x y : Zp} (h : ∀ i, i < 32 → b i = formB x y i) : ∀ i, i < 32 → dcY b i = fb y i := by
  intro i hi
  unfold dcY
  have hb := fb_isBytes y 31 (by decide)
  have ht := fb_top y
  by_cases e : i = 31
  · subst e
    rw [if_pos rfl, h 31 hi]
    unfold formB
    rw [if_pos rfl]
    omega
  · rw [if_neg e, h i hi]
    unfold formB
    rw [if_neg e]
theorem dcS_form {b : Nat → Int} {x y : Zp} (h : ∀ i, i < 32 → b i = formB x y i) : dcS b = decide (x.val % 2 = 1) := by
  unfold dcS
  rw [h 31 (by decide)]
  unfold formB
  rw [if_pos rfl, fb_low]
  have hb := fb_isBytes y 31 (by decide)
  have ht := fb_top y
  rw [Bool.eq_iff_iff]
  simp only [decide_eq_true_eq]
  omega
theorem dec_form {b : Nat → Int} {P : Pt} (h : ∀ i, i < 32 → b i = formB P.x P.y i) : decE b = 0 ∧ decF b = pb P := by
  have hy := dcY_form h
  have hs := dcS_form h
  have hfe : fe (dcY b) = P.y := fe_of hy
  have hc : canB (dcY b) = true := by rw [canB_congr hy, canB_fb]
  obtain ⟨s1, s2⟩ := sqrt_pt P.on
  have hR : dcR b = sqrtZ (P.y * P.y - 1) (dZ * (P.y * P.y) + 1) := by unfold dcR; rw [hfe]
  have hE : decE b = 0 := by
    unfold decE
    rw [hc, hR, s1, hs]
    simp only [Bool.true_eq_false, if_false, decide_eq_true_eq]
    rw [if_neg]
    rintro ⟨h1, h2⟩
    rw [if_pos h1, h2] at s2
    have : P.x = 0 := by rw [← s2]; grind
    rw [this] at h1
    exact absurd h1 (by decide)
  refine ⟨hE, ?_⟩
  unfold decF pb
  rw [if_pos hE, hfe, hR, hs]
  simp only [decide_eq_true_eq]
  rw [s2]
end Sx

namespace Sx
open Go
theorem mnot_no {a : Bool} (h : (match a with | true => false | false => true) = false) : a = true := by cases a <;> simp_all
theorem mnot_yes {a : Bool} (h : (match a with | true => false | false => true) = true) : a = false := by cases a <;> simp_all
theorem mor_no {a b : Bool} (h : (match (match a with | true => false | false => true) with | true => true | false => match b with | true => false | false => true) = false) : a = true ∧ b = true := by cases a <;> cases b <;> simp_all
theorem mor_yes {a b : Bool} (h : (match (match a with | true => false | false => true) with | true => true | false => match b with | true => false | false => true) = true) : ¬ (a = true ∧ b = true) := by cases a <;> cases b <;> simp_all
theorem on_is {c o f : Nat → Int} (hc : fe c = dZ) (ho : fe o = 1) (h : canB f = true ∧ canB (nx 32 f) = true) :
    realEqA 32 (fb (fe (fb (fe (nx 32 f) * fe (nx 32 f))) - fe (fb (fe f * fe f)))) (fb (fe o + fe (fb (fe c * fe (fb (fe (fb (fe f * fe f)) * fe (fb (fe (nx 32 f) * fe (nx 32 f))))))))) = onB f := by
  unfold onB
  rw [h.1, h.2, fb_inj]
  simp only [fe_fb, hc, ho, Bool.and_self, Bool.true_and]
  rw [Bool.eq_iff_iff]
  simp only [decide_eq_true_eq]
  unfold onE
  rw [show dZ * (fe f * fe f * (fe (nx 32 f) * fe (nx 32 f))) = dZ * (fe f * fe f) * (fe (nx 32 f) * fe (nx 32 f)) from by grind]
theorem on_no {f : Nat → Int} (h : ¬ (canB f = true ∧ canB (nx 32 f) = true)) : false = onB f := by
  unfold onB
  cases h1 : canB f <;> cases h2 : canB (nx 32 f) <;> simp_all
theorem or_top : ∀ x : Fin 128, ∀ b : Fin 2, realBin .or .u8 (x.val : Int) (realBin .shl .u8 (b.val : Int) 7) = (x.val : Int) + 128 * (b.val : Int) := by decide +kernel
theorem or_top' {x b : Int} (hx : 0 ≤ x ∧ x < 128) (hb : 0 ≤ b ∧ b < 2) : realBin .or .u8 x (realBin .shl .u8 b 7) = x + 128 * b := by
  have h := or_top ⟨x.toNat, by omega⟩ ⟨b.toNat, by omega⟩
  simp only at h
  rw [Int.toNat_of_nonneg hx.1, Int.toNat_of_nonneg hb.1] at h
  exact h
theorem and_low7 : ∀ x : Fin 256, realBin .and .u8 (x.val : Int) 127 = (x.val : Int) % 128 := by decide +kernel
theorem and_low7' {x : Int} (hx : 0 ≤ x ∧ x < 256) : realBin .and .u8 x 127 = x % 128 := by
  have h := and_low7 ⟨x.toNat, by omega⟩
  simp only at h
  rw [Int.toNat_of_nonneg hx.1] at h
  exact h
theorem enc_is {f : Nat → Int} (hf : IsPt f) (hb : IsBytes 64 f) : ∀ i, i < 32 → upd (nx 32 f) 31 (realBin .or .u8 (f (32 + 31)) (realBin .shl .u8 (realBin .and .u8 (f 0) 1) 7)) i = encF f i := by
  intro i hi
  have l := pt_lo hf hb
  unfold encF
  rw [if_pos hf.h]
  unfold formB upd
  by_cases e : i = 31
  · rw [if_pos e, if_pos e, and_one_u8 (hb 0 (by decide)), l.2 31 (by decide), l.1 0 (by decide)]
    have h1 := fb_isBytes (ptO f).y 31 (by decide)
    have h2 := fb_top (ptO f).y
    exact or_top' ⟨h1.1, h2⟩ ⟨by omega, by omega⟩
  · rw [if_neg e, if_neg e]
    exact l.2 i hi
theorem off_off {f : Nat → Int} (h : onB f = false) : (∀ i, i < 32 → 0 = encF f i) ∧ 43 = offE f ∧ True := by
  unfold encF offE
  rw [h]
  exact ⟨fun _ _ => rfl, rfl, trivial⟩
theorem off_on {f : Nat → Int} (h : onB f = true) : 0 = offE f := by
  unfold offE
  rw [if_pos h]
theorem dcY_is {f : Nat → Int} (hf : IsBytes 32 f) : upd f 31 (realBin .and .u8 (f 31) 127) = dcY f := by
  funext i
  unfold upd dcY
  rw [and_low7' (hf 31 (by decide))]
theorem dc_sb {c o f : Nat → Int} (hc : fe c = dZ) (ho : fe o = 1) :
    sqrtB (fb (fe (fb (fe (dcY f) * fe (dcY f))) - fe o)) (fb (fe (fb (fe c * fe (fb (fe (dcY f) * fe (dcY f))))) + fe o)) = (dcR f).2 := by
  unfold sqrtB dcR
  simp only [fe_fb, hc, ho]
theorem dc_sr {c o f : Nat → Int} (hc : fe c = dZ) (ho : fe o = 1) :
    sqrtR (fb (fe (fb (fe (dcY f) * fe (dcY f))) - fe o)) (fb (fe (fb (fe c * fe (fb (fe (dcY f) * fe (dcY f))))) + fe o)) = fb (dcR f).1 := by
  unfold sqrtR dcR
  simp only [fe_fb, hc, ho]
theorem dec_40 {f : Nat → Int} (h : canB (dcY f) = false) : (∀ i, i < 64 → 0 = decF f i) ∧ 40 = decE f ∧ True := by
  have e : decE f = 40 := by unfold decE; rw [if_pos h]
  refine ⟨fun i _ => ?_, e.symm, trivial⟩
  unfold decF
  rw [e]
  rfl
theorem dec_41 {f : Nat → Int} (h : canB (dcY f) = true) (h1 : (dcR f).2 = false) : (∀ i, i < 64 → 0 = decF f i) ∧ 41 = decE f ∧ True := by
  have e : decE f = 41 := by unfold decE; rw [h, h1]; rfl
  refine ⟨fun i _ => ?_, e.symm, trivial⟩
  unfold decF
  rw [e]
  rfl
theorem dec_42 {f : Nat → Int} (h : canB (dcY f) = true) (h1 : (dcR f).2 = true) (h2 : dcS f = true) (h3 : (dcR f).1 = 0) : (∀ i, i < 64 → 0 = decF f i) ∧ 42 = decE f ∧ True := by
  have e : decE f = 42 := by unfold decE; rw [h, h1, h2, h3]; rfl
  refine ⟨fun i _ => ?_, e.symm, trivial⟩
  unfold decF
  rw [e]
  rfl
theorem dec_00 {f : Nat → Int} (hf : IsBytes 32 f) (h : canB (dcY f) = true) (h1 : (dcR f).2 = true) (h2 : ¬ (dcS f = true ∧ (dcR f).1 = 0)) {x : Nat → Int} (hx : ∀ i, i < 32 → x i = fb (if dcS f = true then -(dcR f).1 else (dcR f).1) i) :
    (∀ i, i < 64 → splice (splice (fun _ => 0) 0 32 x) 32 32 (dcY f) i = decF f i) ∧ 0 = decE f ∧ True := by
  have e : decE f = 0 := by
    unfold decE
    rw [h, h1, if_neg (by simp), if_neg (by simp), if_neg h2]
  have hD : IsBytes 32 (dcY f) := by
    intro i hi
    unfold dcY
    split
    · omega
    · exact hf i hi
  refine ⟨?_, e.symm, trivial⟩
  unfold decF
  rw [if_pos e]
  exact ptl_is hx (can_fb hD h)
theorem of_zero32 {x : Zp} {z : Nat → Int} (hz : ∀ i, i < 32 → z i = fb 0 i) (h : realEqA 32 (fb x) z = true) : x = 0 := by
  refine fb_inj' fun i hi => ?_
  simp only [realEqA, List.all_eq_true, List.mem_range, beq_iff_eq] at h
  rw [h i hi, hz i hi]
theorem of_zero32' {x : Zp} {z : Nat → Int} (hz : ∀ i, i < 32 → z i = fb 0 i) (h : realEqA 32 (fb x) z = false) : x ≠ 0 := by
  rintro rfl
  have : realEqA 32 (fb 0) z = true := by
    simp only [realEqA, List.all_eq_true, List.mem_range, beq_iff_eq]
    exact fun i hi => (hz i hi).symm
  rw [this] at h
  cases h
end Sx

namespace Sx
open Go
def rowP (T : Nat → Spd) (n : Nat) : Nat → Int := fun c => if c < 128 * n then spB (T (c / 128)) (c % 128) else 0
theorem rowP_at {T : Nat → Spd} {n i : Nat} (h : i < n) : ∀ j, j < 128 → rowP T n (128 * i + j) = spB (T i) j := by
  intro j hj
  unfold rowP
  rw [if_pos (by omega)]
  have e1 : (128 * i + j) / 128 = i := by omega
  have e2 : (128 * i + j) % 128 = j := by omega
  rw [e1, e2]
theorem rowP_sp {T : Nat → Spd} {n i : Nat} (h : i < n) : spO (fun j => rowP T n (128 * i + j)) = T i := spO_of (rowP_at h)
theorem rowP_step {T : Nat → Spd} {n : Nat} {g : Nat → Int} (hg : ∀ j, j < 128 → g j = spB (T n) j) (c : Nat) : splice (rowP T n) (128 * n) 128 g c = rowP T (n + 1) c := by
  unfold splice
  by_cases h1 : c < 128 * n
  · rw [if_pos h1]
    unfold rowP
    rw [if_pos h1, if_pos (by omega)]
  rw [if_neg h1]
  by_cases h2 : c < 128 * n + 128
  · rw [if_pos h2, hg _ (by omega)]
    unfold rowP
    rw [if_pos (by omega)]
    have e1 : c / 128 = n := by omega
    have e2 : c % 128 = c - 128 * n := by omega
    rw [e1, e2]
  · rw [if_neg h2]
    unfold rowP
    rw [if_neg h1, if_neg (by omega)]
theorem rowP_zero {T : Nat → Spd} {g : Nat → Int} (hg : ∀ j, j < 128 → g j = spB (T 0) j) (c : Nat) : splice (fun _ => 0) 0 128 g c = rowP T 1 c := by
  have h := rowP_step (n := 0) hg c
  rw [Nat.mul_zero] at h
  rw [← h]
  congr 1
theorem quo_u8 {x : Int} (hx : 0 ≤ x ∧ x < 256) : realBin .quo .u8 x 16 = x / 16 := by
  show IntKind.wrap .u8 (x.tdiv 16) = _
  rw [Int.tdiv_eq_ediv_of_nonneg hx.1, wrap_u8]
  omega
theorem quo_i8 {x : Int} (hx : 0 ≤ x ∧ x < 128) : realBin .quo .i8 x 2 = x / 2 := by
  show IntKind.wrap .i8 (x.tdiv 2) = _
  rw [Int.tdiv_eq_ediv_of_nonneg hx.1, wrap_i8 (by omega)]
theorem neg_i8 {x : Int} (hx : -128 < x ∧ x < 128) : realUn .neg .i8 x = -x := by
  show IntKind.wrap .i8 (0 - x) = _
  rw [wrap_i8 (by omega)]
  omega
def dig5 (n : Nat → Int) : Nat → Int := nafF 5 (num 32 n)
theorem dig5_form (n : Nat → Int) (i : Nat) : dig5 n i = 0 ∨ (dig5 n i % 2 = 1 ∧ dig5 n i < 16 ∧ -16 < dig5 n i) := by
  have h := naf_form wid5 (nafN 5 (num 32 n) i)
  have e : dig5 n i = nafD 5 (nafN 5 (num 32 n) i) := rfl
  rw [e]
  rcases h with h | ⟨h1, h2, h3⟩
  · exact .inl h
  · exact .inr ⟨h1, by simpa using h2, by simpa using h3⟩
theorem digL5 : digL 5 = 257 := by decide
section
variable {s : Spd} {D : Nat → Int} {k : Nat}
theorem naf_pos (h : 0 < D (256 - k)) : (nafR s D (k + 1)).1 = (if (nafR s D k).2 = true then (nafR s D k).1.twice else (nafR s D k).1).sum (oddS s ((D (256 - k)).toNat / 2)) ∧ (nafR s D (k + 1)).2 = true := by
  constructor
  · show nafS _ _ _ _ = _
    unfold nafS
    rw [if_pos h]
  · show nafG _ _ = true
    unfold nafG
    rw [decide_eq_true (by omega), Bool.or_true]
theorem naf_neg (h : D (256 - k) < 0) : (nafR s D (k + 1)).1 = (if (nafR s D k).2 = true then (nafR s D k).1.twice else (nafR s D k).1).sum (oddS s ((-D (256 - k)).toNat / 2)).neg ∧ (nafR s D (k + 1)).2 = true := by
  constructor
  · show nafS _ _ _ _ = _
    unfold nafS
    rw [if_neg (by omega), if_pos h]
  · show nafG _ _ = true
    unfold nafG
    rw [decide_eq_true (by omega), Bool.or_true]
theorem naf_nil (h : D (256 - k) = 0) : (nafR s D (k + 1)).1 = (if (nafR s D k).2 = true then (nafR s D k).1.twice else (nafR s D k).1) ∧ (nafR s D (k + 1)).2 = (nafR s D k).2 := by
  constructor
  · show nafS _ _ _ _ = _
    unfold nafS
    rw [if_neg (by omega), if_neg (by omega)]
  · show nafG _ _ = _
    unfold nafG
    rw [decide_eq_false (by omega), Bool.or_false]
end
def mulF (n f : Nat → Int) : Nat → Int := spB (mulS (dig5 n) (spO f))
def baseF (n : Nat → Int) : Nat → Int := spB (bmS (Spd.of basePt.x basePt.y) n 32)
theorem rep_base : Rep (Spd.of basePt.x basePt.y) basePt := rep_of basePt
theorem baseF_plain {n : Nat → Int} (hn : IsBytes 32 n) : plP (spO (baseF n)) = pb (Pt.mul (nN n) basePt) := by
  unfold baseF
  rw [spO_spB]
  refine rep_plain (repM_nat ?_)
  have h := bmS_rep (repM_one rep_base) hn
  have e : num 32 n = (nN n : Int) := (Int.toNat_of_nonneg (num_bounds 32 n hn).1).symm
  rw [e] at h
  exact h
theorem mulF_rep {n f : Nat → Int} (hn : IsBytes 32 n) {P : Pt} (hs : Rep (spO f) P) : Rep (spO (mulF n f)) (Pt.mul (nN n) P) := by
  unfold mulF
  rw [spO_spB]
  refine repM_nat ?_
  have hb := num_q256 hn
  have h := mulS_rep (repM_one hs) hb.1 hb.2
  have e : num 32 n = (nN n : Int) := (Int.toNat_of_nonneg hb.1).symm
  rw [show dig5 n = nafF 5 (num 32 n) from rfl]
  conv at h => lhs; rw [e]
  exact h
theorem baseF_rep {n : Nat → Int} (hn : IsBytes 32 n) : Rep (spO (baseF n)) (Pt.mul (nN n) basePt) := by
  unfold baseF
  rw [spO_spB]
  refine repM_nat ?_
  have h := bmS_rep (repM_one rep_base) hn
  have e : num 32 n = (nN n : Int) := (Int.toNat_of_nonneg (num_bounds 32 n hn).1).symm
  rw [e] at h
  exact h
end Sx

namespace Sx
open Go
theorem rep_so (f : Nat → Int) : Rep (spO (spB (Spd.of (ptO f).x (ptO f).y))) (ptO f) := by rw [spO_spB]; exact rep_of _
theorem sp_so (f : Nat → Int) : IsSp (spB (Spd.of (ptO f).x (ptO f).y)) := isSp_of fun _ _ => rfl
theorem add_rep {f g : Nat → Int} {P Q : Pt} (h : Rep (spO f) P) (h' : Rep (spO g) Q) : Rep (spO (spB (Spd.sum (spO f) (spO g)))) (P.add Q) := by rw [spO_spB]; exact rep_sum h h'
theorem plain_rep {f : Nat → Int} {P : Pt} (h : Rep (spO f) P) : plP (spO f) = pb P := rep_plain h
theorem comb_calc {n f m : Nat → Int} (hn : IsBytes 32 n) (hm : IsBytes 32 m) (hf : onB f = true) : plP (spO (spB (Spd.sum (spO (mulF n (spB (Spd.of (ptO f).x (ptO f).y)))) (spO (baseF m))))) = combF n f m := by
  rw [plain_rep (add_rep (mulF_rep hn (rep_so f)) (baseF_rep hm))]
  unfold combF
  rw [if_pos hf]
theorem neg_calc {f : Nat → Int} (hb : IsBytes 64 f) (hf : onB f = true) : ∀ i, i < 64 → splice (splice (fun _ => 0) 0 32 (fb (-fe f))) 32 32 (nx 32 f) i = negF f i := by
  have e := pt_x ⟨hf⟩
  have l := pt_lo ⟨hf⟩ hb
  unfold negF pb Pt.neg
  rw [if_pos hf]
  exact ptl_is (fun i _ => by show fb (-fe f) i = fb (-(ptO f).x) i; rw [e.1]) l.2
theorem off_neg {f : Nat → Int} (h : onB f = false) : (∀ i, i < 64 → 0 = negF f i) ∧ 43 = offE f ∧ True := by unfold negF offE; rw [h]; exact ⟨fun _ _ => rfl, rfl, trivial⟩
theorem off_comb {n f m : Nat → Int} (h : onB f = false) : (∀ i, i < 64 → 0 = combF n f m i) ∧ 43 = offE f ∧ True := by unfold combF offE; rw [h]; exact ⟨fun _ _ => rfl, rfl, trivial⟩
end Sx

namespace Sx
open Go
structure IsForm (b : Nat → Int) : Prop where
  h : decE b = 0
structure Small48 (x : Int) : Prop where
  h : 0 ≤ x ∧ x < 281474976710656
section
variable {P : Program} {G : Nat → AV} {i : FuncId}
end
theorem base_dbl : Pt.add basePt basePt ≠ basePt := by
  intro h
  have h1 : basePt = Pt.zero := by
    have h2 : basePt.add basePt = Pt.zero.add basePt := by rw [h, Pt.zero_add]
    exact Pt.cancel h2
  have h3 := congrArg Pt.x h1
  have h4 : zn baseXY.1 = zn 0 := h3.trans zero_at.x
  exact absurd h4 (by decide +kernel)
end Sx

namespace Sx
open Go
theorem base_mod (n : Nat) : Pt.mul n basePt = Pt.mul (n % lNat) basePt := by
  conv => lhs; rw [← Nat.div_add_mod n lNat, Pt.mul_add, Nat.mul_comm, Pt.mul_mul, base_order, Pt.mul_of_zero, Pt.zero_add]
theorem base_ne : basePt ≠ Pt.zero := by
  intro h
  refine base_dbl ?_
  conv => lhs; rw [h, Pt.zero_add]
  exact h.symm
end Sx

namespace Sx
open Go
noncomputable def verF (K : (Nat → Int) → (Nat → Int) → Nat → (Nat → Int) → Nat → Int) (p : Nat → Int) (n : Nat) (f s : Nat → Int) : Int :=
  if canS (fun j => s (32 + j)) = false then 50
  else if decE p ≠ 0 then 51
  else if decE s ≠ 0 then 52
  else if realEqA 64 (combF (K s p n f) (negF (decF p)) (fun j => s (32 + j))) (decF s) = true then 0 else 53
def verC (V : (Nat → Int) → Nat → (Nat → Int) → (Nat → Int) → Int) : Contract := fun vs => match vs with
  | [.arr .u8 32 p, .xsl .u8 1 (.sym n) _ f, .arr .u8 64 s] => some ([], .int .i64 (.sym (V p n f s)))
  | _ => none
end Sx
namespace Sx
open Go
def halS (f g : Nat → Int) (a : Nat) : Nat → Int := fun j => if j < a then f j else if 32 ≤ j ∧ j < 32 + a then g (j - 32) else 0
theorem hal_s (f g : Nat → Int) {a : Nat} (h : a < 32) (j : Nat) : upd (upd (halS f g a) a (f a)) (32 + a) (g a) j = halS f g (a + 1) j := by
  simp only [upd, halS]
  by_cases h1 : j = 32 + a
  · subst h1
    rw [if_pos rfl, if_neg (by omega), if_pos (by omega), show 32 + a - 32 = a by omega]
  · rw [if_neg h1]
    by_cases h2 : j = a
    · subst h2
      rw [if_pos rfl, if_pos (by omega)]
    · rw [if_neg h2]
      by_cases h3 : j < a
      · rw [if_pos h3, if_pos (by omega)]
      · rw [if_neg h3]
        by_cases h4 : 32 ≤ j ∧ j < 32 + a
        · rw [if_pos h4, if_neg (by omega), if_pos (by omega)]
        · rw [if_neg h4, if_neg (by omega), if_neg (by omega)]
theorem hal_e (f g : Nat → Int) (j : Nat) (h : j < 64) : halS f g 32 j = joinF 32 f g j := by
  simp only [halS, joinF]
  by_cases h1 : j < 32
  · rw [if_pos h1, if_pos h1]
  · rw [if_neg h1, if_neg h1, if_pos (by omega)]
theorem hal_0 (f g : Nat → Int) (j : Nat) : 0 = halS f g 0 j := by
  simp only [halS]
  rw [if_neg (by omega), if_neg (by omega)]
def halC (R : (Nat → Int) → (Nat → Int) → Nat → Int) : Contract := fun vs => match vs with
  | [.arr .u8 32 f, .arr .u8 32 g] => some ([], .arr .u8 64 (R f g))
  | _ => none
def sm0C (R : Nat → Int) : Contract := fun vs => match vs with
  | [.int .i64 (.lit 0)] => some ([], .arr .u8 32 R)
  | _ => none
def oneB : Nat → Int := upd (fun _ => 0) 0 1
end Sx
namespace Sx
open Go
section
variable {K : (Nat → Int) → (Nat → Int) → Nat → (Nat → Int) → Nat → Int} {p : Nat → Int} {n : Nat} {f s : Nat → Int}
theorem ver_50 (h : canS (fun j => s (32 + j)) = false) : 50 = verF K p n f s := by unfold verF; rw [if_pos h]
theorem ver_51 (h : canS (fun j => s (32 + j)) = true) (h1 : decE p ≠ 0) : 51 = verF K p n f s := by unfold verF; rw [if_neg (by rw [h]; decide), if_pos h1]
theorem ver_52 (h : canS (fun j => s (32 + j)) = true) (h1 : decE p = 0) (h2 : decE s ≠ 0) : 52 = verF K p n f s := by unfold verF; rw [if_neg (by rw [h]; decide), if_neg (by rw [h1]; decide), if_pos h2]
theorem ver_53 (h : canS (fun j => s (32 + j)) = true) (h1 : decE p = 0) (h2 : decE s = 0) (h3 : realEqA 64 (combF (K s p n (fun j => f (0 + j))) (negF (decF p)) (fun j => s (32 + j))) (decF s) = false) : 53 = verF K p n f s := by
  have e : (fun j => f (0 + j)) = f := funext fun j => congrArg f (Nat.zero_add j)
  rw [e] at h3
  unfold verF
  rw [if_neg (by rw [h]; decide), if_neg (by rw [h1]; decide), if_neg (by rw [h2]; decide), if_neg (by rw [h3]; decide)]
theorem ver_00 (h : canS (fun j => s (32 + j)) = true) (h1 : decE p = 0) (h2 : decE s = 0) (h3 : realEqA 64 (combF (K s p n (fun j => f (0 + j))) (negF (decF p)) (fun j => s (32 + j))) (decF s) = true) : 0 = verF K p n f s := by
  have e : (fun j => f (0 + j)) = f := funext fun j => congrArg f (Nat.zero_add j)
  rw [e] at h3
  unfold verF
  rw [if_neg (by rw [h]; decide), if_neg (by rw [h1]; decide), if_neg (by rw [h2]; decide), if_pos h3]
end
end Sx
namespace Sx
open Go
def nobC : Contract := fun vs => match vs with
  | [.arr .u8 32 _, .xsl .u8 1 (.sym _) _ _] => some ([], .bool (.sym true))
  | _ => none
end Sx

namespace Sx
open Go
theorem one_form : ∀ i, i < 32 → oneB i = formB Pt.zero.x Pt.zero.y i := by decide +kernel
theorem one_dec : decE oneB = 0 ∧ decF oneB = pb Pt.zero := dec_form one_form
theorem enc_pb (P : Pt) : encF (pb P) = formB P.x P.y := by unfold encF; rw [if_pos (onB_pb P), ptO_pb]
theorem half_dec (P : Pt) (t : Nat → Int) : decE (joinF 32 (encF (pb P)) t) = 0 ∧ decF (joinF 32 (encF (pb P)) t) = pb P := dec_form fun i hi => by
  rw [enc_pb]
  simp only [joinF]
  rw [if_pos hi]
theorem halves_last (r t : Nat → Int) : (fun j => joinF 32 r t (32 + j)) = t := funext fun j => by
  simp only [joinF]
  rw [if_neg (by omega), show 32 + j - 32 = j by omega]
theorem comb_one (k t : Nat → Int) : combF k (negF (pb Pt.zero)) t = pb (Pt.mul (nN t) basePt) := by
  unfold negF
  rw [if_pos (onB_pb _), ptO_pb]
  unfold combF
  rw [if_pos (onB_pb _), ptO_pb, show Pt.zero.neg = Pt.zero from by decide +kernel, Pt.mul_of_zero, Pt.zero_add]
theorem ver_one (K : (Nat → Int) → (Nat → Int) → Nat → (Nat → Int) → Nat → Int) (m : Nat) (F n : Nat → Int) (z : Zl) :
    verF K oneB m F (joinF 32 (encF (bmulF n)) (sb z)) = if Pt.mul z.val basePt = Pt.mul (nN n) basePt then 0 else 53 := by
  obtain ⟨h1, h2⟩ := one_dec
  have h3 : decE (joinF 32 (encF (bmulF n)) (sb z)) = 0 := (half_dec (Pt.mul (nN n) basePt) (sb z)).1
  have h4 : decF (joinF 32 (encF (bmulF n)) (sb z)) = pb (Pt.mul (nN n) basePt) := (half_dec (Pt.mul (nN n) basePt) (sb z)).2
  have h5 := halves_last (encF (bmulF n)) (sb z)
  have e : nN (sb z) = z.val := by unfold nN; rw [num_sb]; rfl
  generalize joinF 32 (encF (bmulF n)) (sb z) = s at h3 h4 h5 ⊢
  unfold verF
  rw [h5, can_sb, if_neg (by decide), h1, if_neg (by decide), h3, if_neg (by decide), h2, comb_one, h4, e, pb_eq]
  by_cases h : Pt.mul z.val basePt = Pt.mul (nN n) basePt
  · rw [if_pos h, decide_eq_true h, if_pos rfl]
  · rw [if_neg h, decide_eq_false h, if_neg (by decide)]
theorem se_val {n : Nat → Int} (hn : IsBytes 32 n) : (se n).val = nN n % lNat := by
  have h := zi_val (n := lN) (num 32 n)
  have h0 := (num_bounds 32 n hn).1
  have h2 : ((se n).val : Int) = num 32 n % (lN : Nat) := h
  have h3 : ((nN n : Nat) : Int) = num 32 n := Int.toNat_of_nonneg h0
  have h5 : (((se n).val : Nat) : Int) = ((nN n % lNat : Nat) : Int) := by
    rw [h2, ← h3]
    rfl
  exact Int.ofNat.inj h5
theorem nob_00 (K : (Nat → Int) → (Nat → Int) → Nat → (Nat → Int) → Nat → Int) (m : Nat) (F : Nat → Int) {n : Nat → Int} (hn : IsBytes 32 n) : verF K oneB m F (joinF 32 (encF (bmulF n)) (sb (se n + se fun _ => 0))) = 0 := by
  rw [ver_one, se_zero, Fin.add_zero, if_pos]
  rw [se_val hn, ← base_mod]
theorem se_one : se (upd (fun _ => 0) 0 1) = 1 := by decide +kernel
theorem se_val1 {n : Nat → Int} (hn : IsBytes 32 n) : (se n + 1).val = (nN n + 1) % lNat := by
  have h1 : se n + 1 = zi lN (num 32 n + 1) := by
    rw [zi_add, zi_one]
    rfl
  have h := zi_val (n := lN) (num 32 n + 1)
  have h0 := (num_bounds 32 n hn).1
  have h3 : ((nN n : Nat) : Int) = num 32 n := Int.toNat_of_nonneg h0
  have h5 : (((se n + 1).val : Nat) : Int) = (((nN n + 1) % lNat : Nat) : Int) := by
    rw [h1, h, ← h3]
    rfl
  exact Int.ofNat.inj h5
theorem nob_53 (K : (Nat → Int) → (Nat → Int) → Nat → (Nat → Int) → Nat → Int) (m : Nat) (F : Nat → Int) {n : Nat → Int} (hn : IsBytes 32 n) : verF K oneB m F (joinF 32 (encF (bmulF n)) (sb (se n + se (upd (fun _ => 0) 0 1)))) = 53 := by
  rw [ver_one, se_one, if_neg]
  rw [se_val1 hn, ← base_mod, Pt.mul_succ]
  intro h
  refine base_ne ?_
  have h2 : ((Pt.mul (nN n) basePt).neg.add ((Pt.mul (nN n) basePt).add basePt)) = (Pt.mul (nN n) basePt).neg.add (Pt.mul (nN n) basePt) := by rw [h]
  rw [← Pt.add_assoc, Pt.neg_add, Pt.zero_add] at h2
  exact h2
theorem off_bmul (n : Nat → Int) : offE (bmulF n) = 0 := by
  unfold offE
  exact if_pos (onB_pb (Pt.mul (nN n) basePt))
end Sx

