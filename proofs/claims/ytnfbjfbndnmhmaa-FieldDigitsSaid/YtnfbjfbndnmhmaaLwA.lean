/-
  What FieldCanon asks, in plain numbers.
-/
import Derived.Test.YtnfbjfbndnmhmaaSpD
namespace Sx
open Go

theorem num_p : num 32 (byt p25) = p25 := num_byt 32 p25 (by decide) (by decide)
theorem num_small {n : Int} (h0 : 0 ≤ n) (h : n < 115792089237316195423570985008687907853269984665640564039457584007913129639936) : num 32 (byt n) = n := by
  refine num_byt 32 n h0 ?_
  have e : (256 : Int) ^ 32 = 115792089237316195423570985008687907853269984665640564039457584007913129639936 := by decide
  rw [e]; exact h
theorem num_lt {f : Nat → Int} (hf : IsBytes 32 f) : 0 ≤ num 32 f ∧ num 32 f < 115792089237316195423570985008687907853269984665640564039457584007913129639936 := by
  have h := num_bounds 32 f hf
  have e : (256 : Int) ^ 32 = 115792089237316195423570985008687907853269984665640564039457584007913129639936 := by decide
  rw [e] at h; exact h
theorem eqA_true {n : Nat} {f g : Nat → Int} (h : ∀ i, i < n → f i = g i) : realEqA n f g = true := by
  simp only [realEqA, List.all_eq_true, List.mem_range, beq_iff_eq]
  exact h

variable {a : Nat → Int} (ha : IsBytes 32 a)
include ha

omit ha in
theorem canon_1 : ltB (byt (redN a)) (byt p25) = true := by
  unfold ltB
  rw [num_p, num_red]
  exact decide_eq_true (modp _).2
omit ha in
theorem canon_2 : canB a = ltB a (byt p25) := by
  unfold ltB canB
  rw [num_p]
omit ha in
theorem canon_3 : canB (byt (redN a)) = true := by
  unfold canB
  rw [num_red]
  exact decide_eq_true (modp _).2
omit ha in
theorem canon_once : num 32 (byt (sumN (byt (redN a)) (byt p25))) = num 32 a % p25 + p25 := by
  have h := modp (num 32 a)
  have e : sumN (byt (redN a)) (byt p25) = num 32 a % p25 + p25 := by unfold sumN; rw [num_red, num_p]
  rw [e]
  simp only [p25] at h ⊢
  exact num_small (by omega) (by omega)
theorem canon_4 : realEqA 32 a (byt (redN a)) = true ∨ realEqA 32 a (byt (sumN (byt (redN a)) (byt p25))) = true ∨ realEqA 32 a (byt (sumN (byt (sumN (byt (redN a)) (byt p25))) (byt p25))) = true := by
  have hb := num_lt ha
  have e2 : sumN (byt (redN a)) (byt p25) = num 32 a % p25 + p25 := by unfold sumN; rw [num_red, num_p]
  have e3 : sumN (byt (sumN (byt (redN a)) (byt p25))) (byt p25) = num 32 a % p25 + p25 + p25 := by unfold sumN; rw [num_p]; show num 32 (byt (sumN (byt (redN a)) (byt p25))) + p25 = _; rw [canon_once]
  have hk : num 32 a = num 32 a % p25 ∨ num 32 a = num 32 a % p25 + p25 ∨ num 32 a = num 32 a % p25 + p25 + p25 := by
    simp only [p25]
    omega
  rcases hk with h | h | h
  · left
    refine eqA_true fun i hi => ?_
    unfold redN
    rw [← h, byt_num 32 a ha i hi]
  · right; left
    refine eqA_true fun i hi => ?_
    rw [e2, ← h, byt_num 32 a ha i hi]
  · right; right
    refine eqA_true fun i hi => ?_
    rw [e3, ← h, byt_num 32 a ha i hi]
omit ha in
theorem canon_5 : oddB a = realCmp .eql (realBin .rem .u8 (byt (redN a) 0) 2) 1 := by
  have hb := byt_isBytes (redN a) 32 0 (by decide)
  rw [rem_i64 hb.1]
  unfold oddB redN
  rw [Bool.eq_iff_iff]
  simp only [realCmp, byt, Int.pow_zero, Int.ediv_one, beq_iff_eq, decide_eq_true_eq]
  omega
omit ha in
theorem canon_6 : eqB a (byt (redN a)) = true := by
  unfold eqB
  rw [num_red]
  simp
omit ha in
theorem canon_7 : eqB (byt (redN a)) (byt (sumN (byt (redN a)) (byt p25))) = true := by
  unfold eqB
  rw [canon_once, num_red]
  simp
omit ha in
theorem canon_8 : eqB a (byt (addN a (byt 1))) = false := by
  unfold eqB
  rw [num_add, num_small (n := 1) (by decide) (by decide)]
  refine decide_eq_false ?_
  simp only [p25]
  omega
omit ha in
theorem canon_9 : realEqA 32 (byt (redN (byt (sumN (byt (redN a)) (byt p25))))) (byt (redN a)) = true := by
  refine eqA_true fun i _ => ?_
  have e : redN (byt (sumN (byt (redN a)) (byt p25))) = redN a := by
    unfold redN
    rw [show num 32 (byt (sumN (byt (num 32 a % p25)) (byt p25))) = num 32 a % p25 + p25 from canon_once]
    simp
  rw [e]
end Sx
