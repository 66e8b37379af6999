/-
  Loading, sums, differences, products and the form as bytes: what they come to.
-/
import Derived.Test.YtnfbjfbndnmhmaaMaB
namespace Sx
open Go

def wordF (f : Nat → Int) : Int := f 0 + 256 * (f 1 + 256 * (f 2 + 256 * (f 3 + 256 * (f 4 + 256 * (f 5 + 256 * (f 6 + 256 * f 7))))))

theorem wordF_bounds {f : Nat → Int} (h : IsBytes 8 f) : 0 ≤ wordF f ∧ wordF f < 18446744073709551616 := by
  have h0 := h 0 (by omega)
  have h1 := h 1 (by omega)
  have h2 := h 2 (by omega)
  have h3 := h 3 (by omega)
  have h4 := h 4 (by omega)
  have h5 := h 5 (by omega)
  have h6 := h 6 (by omega)
  have h7 := h 7 (by omega)
  unfold wordF
  omega

theorem word_step {x y : Int} (hx : 0 ≤ x ∧ x < 72057594037927936) (hy : 0 ≤ y ∧ y < 256) : uor (ushl x 8) (u64of y) = 256 * x + y := by
  show realBin .or .u64 (realBin .shl .u64 x (8 : Nat)) (IntKind.wrap .u64 y) = _
  rw [shl_u64 _ 8 (by decide), wrap_u64, Int.emod_eq_of_lt (a := y) (by omega) (by omega), Int.emod_eq_of_lt (by omega) (by omega), or_apart rfl 8 (by simp [IntKind.bits]; omega) (by simp) (by simp; omega) (by decide)]
  omega

theorem word_first {y : Int} (hy : 0 ≤ y ∧ y < 256) : uor 0 (u64of y) = y := by
  show realBin .or .u64 0 (IntKind.wrap .u64 y) = _
  rw [wrap_u64, Int.emod_eq_of_lt (by omega) (by omega), or_apart rfl 8 (by decide) (by decide) (by omega) (by decide), Int.zero_add]

def wordR (f : Nat → Int) : Int := uor (ushl (uor (ushl (uor (ushl (uor (ushl (uor (ushl (uor (ushl (uor (ushl (uor 0 (u64of (f 7))) 8) (u64of (f 6))) 8) (u64of (f 5))) 8) (u64of (f 4))) 8) (u64of (f 3))) 8) (u64of (f 2))) 8) (u64of (f 1))) 8) (u64of (f 0))

theorem wordR_eq {f : Nat → Int} (h : IsBytes 8 f) : wordR f = wordF f := by
  have h0 := h 0 (by omega)
  have h1 := h 1 (by omega)
  have h2 := h 2 (by omega)
  have h3 := h 3 (by omega)
  have h4 := h 4 (by omega)
  have h5 := h 5 (by omega)
  have h6 := h 6 (by omega)
  have h7 := h 7 (by omega)
  unfold wordR
  rw [word_first h7, word_step (by omega) h6, word_step (by omega) h5, word_step (by omega) h4, word_step (by omega) h3, word_step (by omega) h2, word_step (by omega) h1, word_step (by omega) h0]
  unfold wordF
  omega

/-! Loading. -/

def loadP (w0 w1 w2 w3 : Int) : Nat → Int := fnOf [uand w0 2251799813685247, uand (uor (ushr w0 51) (ushl w1 13)) 2251799813685247, uand (uor (ushr w1 38) (ushl w2 26)) 2251799813685247, uand (uor (ushr w2 25) (ushl w3 39)) 2251799813685247, ushr w3 12]

theorem or_shift {x y : Int} (s t : Nat) (hs : s + t = 64) (hx : 0 ≤ x ∧ x < 18446744073709551616) (_hy : 0 ≤ y ∧ y < 18446744073709551616) (ht : 0 < t) :
    uor (ushr x s) (ushl y t) = x / 2 ^ s + (y * 2 ^ t) % 18446744073709551616 := by
  show realBin .or .u64 (realBin .shr .u64 x s) (realBin .shl .u64 y t) = _
  rw [shr_any _ _ s (by simp [IntKind.bits]; omega), shl_u64 _ t (by omega), or_comm']
  have hp : (0 : Int) < 2 ^ s := Int.pow_pos (by decide)
  have e : (18446744073709551616 : Int) = 2 ^ t * 2 ^ s := by
    rw [← Int.pow_add, Nat.add_comm t s, hs]; rfl
  rw [or_apart rfl t]
  · omega
  · exact ⟨Int.emod_nonneg _ (by decide), by simpa [IntKind.bits] using Int.emod_lt_of_pos _ (by decide)⟩
  · rw [e, Int.emod_emod_of_dvd _ (Int.dvd_mul_right _ _)]
    simp
  · refine ⟨Int.ediv_nonneg hx.1 (Int.le_of_lt hp), ?_⟩
    apply Int.ediv_lt_of_lt_mul hp
    rw [← e]; exact hx.2
  · simp [IntKind.bits]; omega

def loadF (f : Nat → Int) : Nat → Int := settleF (loadP (wordF f) (wordF fun i => f (8 + i)) (wordF fun i => f (16 + i)) (wordF fun i => f (24 + i)))

theorem loadP_eq {w0 w1 w2 w3 : Int} (h0 : 0 ≤ w0 ∧ w0 < 18446744073709551616) (h1 : 0 ≤ w1 ∧ w1 < 18446744073709551616) (h2 : 0 ≤ w2 ∧ w2 < 18446744073709551616) (h3 : 0 ≤ w3 ∧ w3 < 18446744073709551616) :
    loadP w0 w1 w2 w3 = fnOf [w0 % 2251799813685248, (w0 / 2251799813685248 + (w1 * 8192) % 18446744073709551616) % 2251799813685248, (w1 / 274877906944 + (w2 * 67108864) % 18446744073709551616) % 2251799813685248,
      (w2 / 33554432 + (w3 * 549755813888) % 18446744073709551616) % 2251799813685248, w3 / 4096] := by
  have a1 : uor (ushr w0 51) (ushl w1 13) = w0 / 2251799813685248 + (w1 * 8192) % 18446744073709551616 := or_shift 51 13 rfl h0 h1 (by decide)
  have a2 : uor (ushr w1 38) (ushl w2 26) = w1 / 274877906944 + (w2 * 67108864) % 18446744073709551616 := or_shift 38 26 rfl h1 h2 (by decide)
  have a3 : uor (ushr w2 25) (ushl w3 39) = w2 / 33554432 + (w3 * 549755813888) % 18446744073709551616 := or_shift 25 39 rfl h2 h3 (by decide)
  have a4 : ushr w3 12 = w3 / 4096 := shr_any .u64 w3 12 (by decide)
  unfold loadP
  rw [a1, a2, a3, a4, uand51 h0, uand51 (by omega), uand51 (by omega), uand51 (by omega)]

theorem num32 (f : Nat → Int) : num 32 f = wordF f + 18446744073709551616 * (wordF (fun i => f (8 + i)) + 18446744073709551616 * (wordF (fun i => f (16 + i)) + 18446744073709551616 * wordF fun i => f (24 + i))) := by
  simp only [num, wordF, Nat.reduceAdd, Nat.add_zero]
  omega

theorem loadP_lim {w0 w1 w2 w3 : Int} (h0 : 0 ≤ w0 ∧ w0 < 18446744073709551616) (h1 : 0 ≤ w1 ∧ w1 < 18446744073709551616) (h2 : 0 ≤ w2 ∧ w2 < 18446744073709551616) (h3 : 0 ≤ w3 ∧ w3 < 18446744073709551616) :
    lim (loadP w0 w1 w2 w3) = w0 + 18446744073709551616 * (w1 + 18446744073709551616 * (w2 + 18446744073709551616 * w3)) ∧ LFit (loadP w0 w1 w2 w3) := by
  rw [loadP_eq h0 h1 h2 h3]
  constructor
  · simp only [lim, fnOf_0, fnOf_1, fnOf_2, fnOf_3, fnOf_4]
    omega
  · exact each5 (by rw [fnOf_0]; omega) (by rw [fnOf_1]; omega) (by rw [fnOf_2]; omega) (by rw [fnOf_3]; omega) (by rw [fnOf_4]; omega)

theorem IsBytes.part {f : Nat → Int} (h : IsBytes 32 f) (o : Nat) (ho : o + 8 ≤ 32) : IsBytes 8 fun i => f (o + i) := fun i hi => h (o + i) (by omega)

theorem load_fit {f : Nat → Int} (h : IsBytes 32 f) : LFit (loadP (wordF f) (wordF fun i => f (8 + i)) (wordF fun i => f (16 + i)) (wordF fun i => f (24 + i))) :=
  (loadP_lim (wordF_bounds fun i hi => h i (by omega)) (wordF_bounds (h.part 8 (by omega))) (wordF_bounds (h.part 16 (by omega))) (wordF_bounds (h.part 24 (by omega)))).2

theorem load_spec {f : Nat → Int} (h : IsBytes 32 f) : lim (loadF f) % p25 = num 32 f % p25 ∧ Tidy (loadF f) := by
  obtain ⟨a, b⟩ := loadP_lim (wordF_bounds fun i hi => h i (by omega)) (wordF_bounds (h.part 8 (by omega))) (wordF_bounds (h.part 16 (by omega))) (wordF_bounds (h.part 24 (by omega)))
  obtain ⟨c, d⟩ := settle_spec b
  refine ⟨?_, d⟩
  rw [num32, ← a]
  exact c

/-! Sums and differences. -/

def addP (l m : Nat → Int) : Nat → Int := fnOf [uadd (l 0) (m 0), uadd (l 1) (m 1), uadd (l 2) (m 2), uadd (l 3) (m 3), uadd (l 4) (m 4)]
def subP (l m : Nat → Int) : Nat → Int := fnOf [uadd (l 0) (usub 4503599627370458 (m 0)), uadd (l 1) (usub 4503599627370494 (m 1)), uadd (l 2) (usub 4503599627370494 (m 2)), uadd (l 3) (usub 4503599627370494 (m 3)), uadd (l 4) (usub 4503599627370494 (m 4))]

theorem uadd_eq {a b : Int} (h : 0 ≤ a + b ∧ a + b < 18446744073709551616) : uadd a b = a + b := by rw [uadd, add_u64]; omega
theorem usub_eq {a b : Int} (h : 0 ≤ a - b ∧ a - b < 18446744073709551616) : usub a b = a - b := by rw [usub, sub_u64]; omega

theorem Tidy.all {l : Nat → Int} (h : Tidy l) : (0 ≤ l 0 ∧ l 0 < 2251799813685267) ∧ (0 ≤ l 1 ∧ l 1 < 2251799813685248) ∧ (0 ≤ l 2 ∧ l 2 < 2251799813685248) ∧ (0 ≤ l 3 ∧ l 3 < 2251799813685248) ∧ (0 ≤ l 4 ∧ l 4 < 2251799813685248) :=
  ⟨h.1, h.2 1 (by omega) (by omega), h.2 2 (by omega) (by omega), h.2 3 (by omega) (by omega), h.2 4 (by omega) (by omega)⟩

theorem addP_spec {l m : Nat → Int} (hl : Tidy l) (hm : Tidy m) : LFit (addP l m) ∧ lim (addP l m) = lim l + lim m := by
  obtain ⟨a0, a1, a2, a3, a4⟩ := hl.all
  obtain ⟨b0, b1, b2, b3, b4⟩ := hm.all
  unfold addP
  rw [uadd_eq (by omega), uadd_eq (by omega), uadd_eq (by omega), uadd_eq (by omega), uadd_eq (by omega)]
  refine ⟨each5 (by rw [fnOf_0]; omega) (by rw [fnOf_1]; omega) (by rw [fnOf_2]; omega) (by rw [fnOf_3]; omega) (by rw [fnOf_4]; omega), ?_⟩
  simp only [lim, fnOf_0, fnOf_1, fnOf_2, fnOf_3, fnOf_4]
  omega

theorem subP_spec {l m : Nat → Int} (hl : Tidy l) (hm : Tidy m) : LFit (subP l m) ∧ lim (subP l m) = lim l - lim m + 2 * p25 := by
  obtain ⟨a0, a1, a2, a3, a4⟩ := hl.all
  obtain ⟨b0, b1, b2, b3, b4⟩ := hm.all
  unfold subP
  rw [usub_eq (by omega), usub_eq (by omega), usub_eq (by omega), usub_eq (by omega), usub_eq (by omega), uadd_eq (by omega), uadd_eq (by omega), uadd_eq (by omega), uadd_eq (by omega), uadd_eq (by omega)]
  refine ⟨each5 (by rw [fnOf_0]; omega) (by rw [fnOf_1]; omega) (by rw [fnOf_2]; omega) (by rw [fnOf_3]; omega) (by rw [fnOf_4]; omega), ?_⟩
  simp only [lim, fnOf_0, fnOf_1, fnOf_2, fnOf_3, fnOf_4, p25]
  omega
end Sx
