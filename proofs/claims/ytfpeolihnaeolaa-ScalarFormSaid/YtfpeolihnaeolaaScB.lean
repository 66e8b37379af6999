/-
  Package scalar's wide numbers: what each step of its code yields.
-/
import Derived.Test.YtfpeolihnaeolaaScA
namespace Sx
open Go Go.RowKit

abbrev q64 : Int := 18446744073709551616
abbrev lI : Int := 7237005577332262213973186563042994240857116359379907606001950938285454250989
def W5 (a : Nat → Int) : Int := sumB q64 5 a
def plusW (a b : Nat → Int) : Nat → Int := dgt q64 (W5 a + W5 b)
def minusW (a b : Nat → Int) : Nat → Int := dgt q64 (W5 a - W5 b)
def ltW (a b : Nat → Int) : Bool := decide (W5 a < W5 b)
def shiftW (a : Nat → Int) (n : Int) : Nat → Int := dgt q64 (16 * W5 a + n)
def foldW (a : Nat → Int) : Nat → Int := dgt q64 (W5 a % lI)
def Is5 (a : Nat → Int) : Prop := IsDig q64 5 a

theorem q64_pos : 0 < q64 := by decide
theorem is5_dgt (N : Int) : Is5 (dgt q64 N) := dgt_isDig q64_pos N 5
theorem W5_range {a : Nat → Int} (h : Is5 a) : 0 ≤ W5 a ∧ W5 a < 2135987035920910082395021706169552114602704522356652769947041607822219725780640550022962086936576 := sumB_range q64_pos h
theorem W5_dgt {N : Int} (h0 : 0 ≤ N) (h1 : N < 2135987035920910082395021706169552114602704522356652769947041607822219725780640550022962086936576) : W5 (dgt q64 N) = N := sumB_dgt_lt q64_pos h0 h1

section
variable {a b : Nat → Int} (ha : Is5 a) (hb : Is5 b)

theorem adc_step {x y c : Int} (hx : 0 ≤ x ∧ x < q64) (hy : 0 ≤ y ∧ y < q64) (hc : 0 ≤ c ∧ c ≤ 1) : adcC x y c = (x + y + c) / q64 ∧ (0 ≤ adcC x y c ∧ adcC x y c ≤ 1) := by
  simp only [q64] at *
  unfold adcC
  split <;> omega
theorem sbb_step {x y c : Int} (hx : 0 ≤ x ∧ x < q64) (hy : 0 ≤ y ∧ y < q64) (hc : 0 ≤ c ∧ c ≤ 1) : sbbC x y c = - ((x - y - c) / q64) ∧ (0 ≤ sbbC x y c ∧ sbbC x y c ≤ 1) := by
  simp only [q64] at *
  unfold sbbC
  split <;> omega

include ha hb in
theorem plus_cars : ∀ i, i ≤ 5 → 0 ≤ carB q64 (fun i => a i + b i) 0 i ∧ carB q64 (fun i => a i + b i) 0 i ≤ 1 ∧ (i < 5 → adcC (a i) (b i) (carB q64 (fun i => a i + b i) 0 i) = carB q64 (fun i => a i + b i) 0 (i + 1)) := by
  have step : ∀ i, i < 5 → 0 ≤ carB q64 (fun i => a i + b i) 0 i ∧ carB q64 (fun i => a i + b i) 0 i ≤ 1 → adcC (a i) (b i) (carB q64 (fun i => a i + b i) 0 i) = carB q64 (fun i => a i + b i) 0 (i + 1) ∧ (0 ≤ carB q64 (fun i => a i + b i) 0 (i + 1) ∧ carB q64 (fun i => a i + b i) 0 (i + 1) ≤ 1) := by
    intro i hi hc
    obtain ⟨h1, h2⟩ := adc_step (ha i hi) (hb i hi) hc
    rw [carB_succ q64_pos, ← h1]
    exact ⟨rfl, h2⟩
  intro i
  induction i with
  | zero =>
    intro _
    have h0 : 0 ≤ carB q64 (fun i => a i + b i) 0 0 ∧ carB q64 (fun i => a i + b i) 0 0 ≤ 1 := by rw [carB_zero]; decide
    exact ⟨h0.1, h0.2, fun hi => (step 0 hi h0).1⟩
  | succ i ih =>
    intro hi
    obtain ⟨h1, h2, _⟩ := ih (by omega)
    have h3 := (step i (by omega) ⟨h1, h2⟩).2
    exact ⟨h3.1, h3.2, fun hj => (step (i + 1) hj h3).1⟩

theorem plus_eqs : ∀ i, i < 5 → plusW a b i = adcS (a i) (b i) (carB q64 (fun i => a i + b i) 0 i) := by
  intro i hi
  have h := dgt_car q64_pos (fun i => a i + b i) 0 hi
  rw [Int.add_zero, sumB_add] at h
  exact h

include ha hb in
theorem plus_each : (adcS (a 0) (b 0) 0 = plusW a b 0 ∧ adcS (a 1) (b 1) (adcC (a 0) (b 0) 0) = plusW a b 1 ∧ adcS (a 2) (b 2) (adcC (a 1) (b 1) (adcC (a 0) (b 0) 0)) = plusW a b 2 ∧ adcS (a 3) (b 3) (adcC (a 2) (b 2) (adcC (a 1) (b 1) (adcC (a 0) (b 0) 0))) = plusW a b 3 ∧ adcS (a 4) (b 4) (adcC (a 3) (b 3) (adcC (a 2) (b 2) (adcC (a 1) (b 1) (adcC (a 0) (b 0) 0)))) = plusW a b 4) := by
  have hc := plus_cars ha hb
  have c0 : carB q64 (fun i => a i + b i) 0 0 = 0 := carB_zero ..
  have c1 := (hc 0 (by decide)).2.2 (by decide)
  rw [c0] at c1
  have c2 := (hc 1 (by decide)).2.2 (by decide)
  have c3 := (hc 2 (by decide)).2.2 (by decide)
  have c4 := (hc 3 (by decide)).2.2 (by decide)
  have e := plus_eqs (a := a) (b := b)
  refine ⟨?_, ?_, ?_, ?_, ?_⟩
  · rw [e 0 (by decide), c0]
  · rw [e 1 (by decide), c1]
  · rw [e 2 (by decide), c1, c2]
  · rw [e 3 (by decide), c1, c2, c3]
  · rw [e 4 (by decide), c1, c2, c3, c4]

include ha hb in
theorem minus_cars : ∀ i, i ≤ 5 → 0 ≤ - carB q64 (fun i => a i - b i) 0 i ∧ - carB q64 (fun i => a i - b i) 0 i ≤ 1 ∧ (i < 5 → sbbC (a i) (b i) (- carB q64 (fun i => a i - b i) 0 i) = - carB q64 (fun i => a i - b i) 0 (i + 1)) := by
  have step : ∀ i, i < 5 → 0 ≤ - carB q64 (fun i => a i - b i) 0 i ∧ - carB q64 (fun i => a i - b i) 0 i ≤ 1 → sbbC (a i) (b i) (- carB q64 (fun i => a i - b i) 0 i) = - carB q64 (fun i => a i - b i) 0 (i + 1) ∧ (0 ≤ - carB q64 (fun i => a i - b i) 0 (i + 1) ∧ - carB q64 (fun i => a i - b i) 0 (i + 1) ≤ 1) := by
    intro i hi hc
    obtain ⟨h1, h2⟩ := sbb_step (ha i hi) (hb i hi) hc
    have e : a i - b i - - carB q64 (fun i => a i - b i) 0 i = a i - b i + carB q64 (fun i => a i - b i) 0 i := by omega
    rw [carB_succ q64_pos]
    rw [e] at h1
    rw [← h1]
    exact ⟨rfl, h2⟩
  intro i
  induction i with
  | zero =>
    intro _
    have h0 : 0 ≤ - carB q64 (fun i => a i - b i) 0 0 ∧ - carB q64 (fun i => a i - b i) 0 0 ≤ 1 := by rw [carB_zero]; decide
    exact ⟨h0.1, h0.2, fun hi => (step 0 hi h0).1⟩
  | succ i ih =>
    intro hi
    obtain ⟨h1, h2, _⟩ := ih (by omega)
    have h3 := (step i (by omega) ⟨h1, h2⟩).2
    exact ⟨h3.1, h3.2, fun hj => (step (i + 1) hj h3).1⟩

theorem minus_eqs : ∀ i, i < 5 → minusW a b i = sbbS (a i) (b i) (- carB q64 (fun i => a i - b i) 0 i) := by
  intro i hi
  have h := dgt_car q64_pos (fun i => a i - b i) 0 hi
  rw [Int.add_zero, sumB_sub] at h
  have e : a i - b i - - carB q64 (fun i => a i - b i) 0 i = a i - b i + carB q64 (fun i => a i - b i) 0 i := by omega
  unfold sbbS
  rw [e]
  exact h

include ha hb in
theorem minus_each : (sbbS (a 0) (b 0) 0 = minusW a b 0 ∧ sbbS (a 1) (b 1) (sbbC (a 0) (b 0) 0) = minusW a b 1 ∧ sbbS (a 2) (b 2) (sbbC (a 1) (b 1) (sbbC (a 0) (b 0) 0)) = minusW a b 2 ∧ sbbS (a 3) (b 3) (sbbC (a 2) (b 2) (sbbC (a 1) (b 1) (sbbC (a 0) (b 0) 0))) = minusW a b 3 ∧ sbbS (a 4) (b 4) (sbbC (a 3) (b 3) (sbbC (a 2) (b 2) (sbbC (a 1) (b 1) (sbbC (a 0) (b 0) 0)))) = minusW a b 4) ∧
    realCmp .neq (sbbC (a 4) (b 4) (sbbC (a 3) (b 3) (sbbC (a 2) (b 2) (sbbC (a 1) (b 1) (sbbC (a 0) (b 0) 0))))) 0 = ltW a b := by
  have hc := minus_cars ha hb
  have c0 : - carB q64 (fun i => a i - b i) 0 0 = 0 := by rw [carB_zero]; rfl
  have c1 := (hc 0 (by decide)).2.2 (by decide)
  rw [c0] at c1
  have c2 := (hc 1 (by decide)).2.2 (by decide)
  have c3 := (hc 2 (by decide)).2.2 (by decide)
  have c4 := (hc 3 (by decide)).2.2 (by decide)
  have c5 := (hc 4 (by decide)).2.2 (by decide)
  have e := minus_eqs (a := a) (b := b)
  refine ⟨⟨?_, ?_, ?_, ?_, ?_⟩, ?_⟩
  · rw [e 0 (by decide), c0]
  · rw [e 1 (by decide), c1]
  · rw [e 2 (by decide), c1, c2]
  · rw [e 3 (by decide), c1, c2, c3]
  · rw [e 4 (by decide), c1, c2, c3, c4]
  · rw [c1, c2, c3, c4, c5]
    have ra := W5_range ha
    have rb := W5_range hb
    have e5 : carB q64 (fun i => a i - b i) 0 5 = (W5 a - W5 b) / 2135987035920910082395021706169552114602704522356652769947041607822219725780640550022962086936576 := by
      unfold carB
      rw [sumB_sub, Int.add_zero]
      rfl
    show (- carB q64 (fun i => a i - b i) 0 (4 + 1) != 0) = decide (W5 a < W5 b)
    rw [show (4 + 1) = 5 from rfl, e5, Bool.eq_iff_iff, bne_iff_ne, decide_eq_true_iff]
    omega

theorem shift_or {x c : Int} (_hx : 0 ≤ x ∧ x < q64) (hc : 0 ≤ c ∧ c < 16) : realBin .or .u64 (realBin .shl .u64 x 4) c = (16 * x + c) % q64 := by
  have e : realBin .shl .u64 x 4 = (x * 16) % q64 := shl_u64 x 4 (by decide)
  simp only [q64] at *
  rw [e, or_apart (k := .u64) rfl (x := x * 16 % 18446744073709551616) (y := c) 4 ⟨by omega, by show _ < (18446744073709551616 : Int); omega⟩ (by show x * 16 % 18446744073709551616 % 16 = 0; omega) ⟨hc.1, by show c < 16; omega⟩ (by decide)]
  omega
theorem shift_high {x c : Int} (hx : 0 ≤ x ∧ x < q64) (hc : 0 ≤ c ∧ c < 16) : realBin .shr .u64 x 60 = (16 * x + c) / q64 ∧ (0 ≤ realBin .shr .u64 x 60 ∧ realBin .shr .u64 x 60 < 16) := by
  have e : realBin .shr .u64 x 60 = x / 1152921504606846976 := shr_any .u64 x 60 (by decide)
  simp only [q64] at *
  rw [e]
  omega

include ha in
theorem shift_each {n : Int} (hn : 0 ≤ n ∧ n < 16) : (realBin .or .u64 (realBin .shl .u64 (a 0) 4) n = shiftW a n 0 ∧ realBin .or .u64 (realBin .shl .u64 (a 1) 4) (realBin .shr .u64 (a 0) 60) = shiftW a n 1 ∧ realBin .or .u64 (realBin .shl .u64 (a 2) 4) (realBin .shr .u64 (a 1) 60) = shiftW a n 2 ∧ realBin .or .u64 (realBin .shl .u64 (a 3) 4) (realBin .shr .u64 (a 2) 60) = shiftW a n 3 ∧ realBin .or .u64 (realBin .shl .u64 (a 4) 4) (realBin .shr .u64 (a 3) 60) = shiftW a n 4) := by
  have e : ∀ i, i < 5 → shiftW a n i = (16 * a i + carB q64 (fun i => 16 * a i) n i) % q64 := by
    intro i hi
    have h := dgt_car q64_pos (fun i => 16 * a i) n hi
    rw [sumB_mul] at h
    exact h
  have c0 : carB q64 (fun i => 16 * a i) n 0 = n := carB_zero ..
  have s0 := shift_high (ha 0 (by decide)) hn
  have c1 : carB q64 (fun i => 16 * a i) n 1 = realBin .shr .u64 (a 0) 60 := by rw [carB_succ q64_pos, c0, s0.1]
  have s1 := shift_high (ha 1 (by decide)) s0.2
  have c2 : carB q64 (fun i => 16 * a i) n 2 = realBin .shr .u64 (a 1) 60 := by rw [carB_succ q64_pos, c1, s1.1]
  have s2 := shift_high (ha 2 (by decide)) s1.2
  have c3 : carB q64 (fun i => 16 * a i) n 3 = realBin .shr .u64 (a 2) 60 := by rw [carB_succ q64_pos, c2, s2.1]
  have s3 := shift_high (ha 3 (by decide)) s2.2
  have c4 : carB q64 (fun i => 16 * a i) n 4 = realBin .shr .u64 (a 3) 60 := by rw [carB_succ q64_pos, c3, s3.1]
  refine ⟨?_, ?_, ?_, ?_, ?_⟩
  · rw [e 0 (by decide), c0]; exact shift_or (ha 0 (by decide)) hn
  · rw [e 1 (by decide), c1]; exact shift_or (ha 1 (by decide)) s0.2
  · rw [e 2 (by decide), c2]; exact shift_or (ha 2 (by decide)) s1.2
  · rw [e 3 (by decide), c3]; exact shift_or (ha 3 (by decide)) s2.2
  · rw [e 4 (by decide), c4]; exact shift_or (ha 4 (by decide)) s3.2

/-- The multiple that fold takes off. -/
def topW (a : Nat → Int) : Int := W5 a / 7237005577332262213973186563042994240829374041602535252466099000494570602496
include ha in
theorem fold_index (h : W5 a < 16 * lI) : realBin .or .u64 (realBin .shr .u64 (a 3) 60) (realBin .shl .u64 (a 4) 4) = topW a ∧ 0 ≤ topW a ∧ topW a < 17 := by
  have h0 := ha 0 (by decide)
  have h1 := ha 1 (by decide)
  have h2 := ha 2 (by decide)
  have h3 := ha 3 (by decide)
  have h4 := ha 4 (by decide)
  have ew : W5 a = a 0 + 18446744073709551616 * a 1 + 340282366920938463463374607431768211456 * a 2 + 6277101735386680763835789423207666416102355444464034512896 * a 3 + 115792089237316195423570985008687907853269984665640564039457584007913129639936 * a 4 := by
    show 0 + 1 * a 0 + 18446744073709551616 * a 1 + 340282366920938463463374607431768211456 * a 2 + 6277101735386680763835789423207666416102355444464034512896 * a 3 + 115792089237316195423570985008687907853269984665640564039457584007913129639936 * a 4 = _
    omega
  have e1 : realBin .shr .u64 (a 3) 60 = a 3 / 1152921504606846976 := shr_any .u64 (a 3) 60 (by decide)
  have e2 : realBin .shl .u64 (a 4) 4 = (a 4 * 16) % q64 := shl_u64 (a 4) 4 (by decide)
  simp only [q64, lI] at *
  have h4' : a 4 ≤ 1 := by omega
  have h5 : topW a = a 3 / 1152921504606846976 + 16 * a 4 := by
    unfold topW
    rw [ew]
    omega
  have hx : a 4 * 16 % 18446744073709551616 = 16 * a 4 := by omega
  rw [e1, e2, hx, or_comm', or_apart (k := .u64) rfl (x := 16 * a 4) (y := a 3 / 1152921504606846976) 4 ⟨by omega, by show _ < (18446744073709551616 : Int); omega⟩ (by show 16 * a 4 % 16 = 0; omega) ⟨by omega, by show _ < (16 : Int); omega⟩ (by decide), h5]
  refine ⟨by omega, by omega, ?_⟩
  rw [← h5]
  unfold topW
  omega
theorem fold_parts (h0 : 0 ≤ W5 a) (h : W5 a < 16 * lI) : (topW a * lI ≤ W5 a → W5 a - topW a * lI = W5 a % lI) ∧ (W5 a < topW a * lI → W5 a - topW a * lI + lI = W5 a % lI) := by
  have h1 : topW a = W5 a / 7237005577332262213973186563042994240829374041602535252466099000494570602496 := rfl
  generalize W5 a = w at *
  generalize topW a = t at *
  simp only [lI] at *
  have key : ∀ k : Int, 0 ≤ w - k * 7237005577332262213973186563042994240857116359379907606001950938285454250989 → w - k * 7237005577332262213973186563042994240857116359379907606001950938285454250989 < 7237005577332262213973186563042994240857116359379907606001950938285454250989 → w - k * 7237005577332262213973186563042994240857116359379907606001950938285454250989 = w % 7237005577332262213973186563042994240857116359379907606001950938285454250989 := by
    intro k h2 h3
    omega
  refine ⟨fun h2 => key t (by omega) (by omega), fun h2 => ?_⟩
  have := key (t - 1) (by omega) (by omega)
  omega
end
end Sx
