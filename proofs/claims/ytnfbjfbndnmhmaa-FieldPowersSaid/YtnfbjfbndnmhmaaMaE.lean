/-
  Products of five digits.
-/
import Derived.Test.YtnfbjfbndnmhmaaMaD
namespace Sx
open Go

def wideR (h l a b : Int) : Nat → Int := fnOf [adcS h (mulH a b) (adcC l (umul a b) 0), adcS l (umul a b) 0]

theorem wideR_eq {h l a b : Int} (hh : 0 ≤ h ∧ h < 18446744073709551616) (hl : 0 ≤ l ∧ l < 18446744073709551616) (ha : 0 ≤ a ∧ a < 18446744073709551616) (hb : 0 ≤ b ∧ b < 18446744073709551616)
    (hs : h * 18446744073709551616 + l + a * b < 340282366920938463463374607431768211456) :
    ∃ h' l', wideR h l a b = fnOf [h', l'] ∧ h' * 18446744073709551616 + l' = h * 18446744073709551616 + l + a * b ∧ (0 ≤ h' ∧ h' < 18446744073709551616) ∧ (0 ≤ l' ∧ l' < 18446744073709551616) := by
  refine ⟨_, _, rfl, ?_⟩
  have hp : 0 ≤ a * b := Int.mul_nonneg ha.1 hb.1
  rw [mulH_eq ha hb, umul, mul_u64]
  generalize a * b = p at *
  unfold adcS adcC
  split <;> omega

def tstep (w : Nat → Int) (a b : Int) : Nat → Int := wideR (w 0) (w 1) a b
def tzero : Nat → Int := fun _ => 0
def tsum (a0 b0 a1 b1 a2 b2 a3 b3 a4 b4 : Int) : Nat → Int := tstep (tstep (tstep (tstep (tstep tzero a0 b0) a1 b1) a2 b2) a3 b3) a4 b4

theorem tsum_eq {a0 b0 a1 b1 a2 b2 a3 b3 a4 b4 : Int} (hR : ∀ x ∈ [a0, b0, a1, b1, a2, b2, a3, b3, a4, b4], 0 ≤ x ∧ x < 18446744073709551616)
    (hs : a0 * b0 + a1 * b1 + a2 * b2 + a3 * b3 + a4 * b4 < 340282366920938463463374607431768211456) :
    ∃ h l, tsum a0 b0 a1 b1 a2 b2 a3 b3 a4 b4 = fnOf [h, l] ∧ h * 18446744073709551616 + l = a0 * b0 + a1 * b1 + a2 * b2 + a3 * b3 + a4 * b4 ∧ (0 ≤ h ∧ h < 18446744073709551616) ∧ (0 ≤ l ∧ l < 18446744073709551616) := by
  have A0 := hR a0 (by simp)
  have B0 := hR b0 (by simp)
  have A1 := hR a1 (by simp)
  have B1 := hR b1 (by simp)
  have A2 := hR a2 (by simp)
  have B2 := hR b2 (by simp)
  have A3 := hR a3 (by simp)
  have B3 := hR b3 (by simp)
  have A4 := hR a4 (by simp)
  have B4 := hR b4 (by simp)
  have p0 : 0 ≤ a0 * b0 := Int.mul_nonneg A0.1 B0.1
  have p1 : 0 ≤ a1 * b1 := Int.mul_nonneg A1.1 B1.1
  have p2 : 0 ≤ a2 * b2 := Int.mul_nonneg A2.1 B2.1
  have p3 : 0 ≤ a3 * b3 := Int.mul_nonneg A3.1 B3.1
  have p4 : 0 ≤ a4 * b4 := Int.mul_nonneg A4.1 B4.1
  have s : ∀ (w : Nat → Int) (h l a b : Int), w = fnOf [h, l] → tstep w a b = wideR h l a b := fun w h l a b e => by rw [e]; rfl
  obtain ⟨h0, l0, e0, v0, r0, q0⟩ := wideR_eq (h := 0) (l := 0) (by omega) (by omega) A0 B0 (by omega)
  have f0 : tstep tzero a0 b0 = fnOf [h0, l0] := e0
  obtain ⟨h1, l1, e1, v1, r1, q1⟩ := wideR_eq r0 q0 A1 B1 (by omega)
  have f1 := (s _ h0 l0 a1 b1 f0).trans e1
  obtain ⟨h2, l2, e2, v2, r2, q2⟩ := wideR_eq r1 q1 A2 B2 (by omega)
  have f2 := (s _ h1 l1 a2 b2 f1).trans e2
  obtain ⟨h3, l3, e3, v3, r3, q3⟩ := wideR_eq r2 q2 A3 B3 (by omega)
  have f3 := (s _ h2 l2 a3 b3 f2).trans e3
  obtain ⟨h4, l4, e4, v4, r4, q4⟩ := wideR_eq r3 q3 A4 B4 (by omega)
  have f4 := (s _ h3 l3 a4 b4 f3).trans e4
  exact ⟨h4, l4, f4, by omega, r4, q4⟩

/-- What is carried on. -/
def cLow (w : Nat → Int) (c : Int) : Int := adcS (w 1) c 0
def cHigh (w : Nat → Int) (c : Int) : Int := uadd (w 0) (adcC (w 1) c 0)
def cOut (w : Nat → Int) (c : Int) : Int := uand (cLow w c) 2251799813685247
def cNext (w : Nat → Int) (c : Int) : Int := uor (ushl (cHigh w c) 13) (ushr (cLow w c) 51)

theorem carry_eq {w : Nat → Int} {h l c : Int} (e : w = fnOf [h, l]) (hh : 0 ≤ h ∧ h < 1125899906842624) (hl : 0 ≤ l ∧ l < 18446744073709551616) (hc : 0 ≤ c ∧ c < 9223372036854775808) :
    cOut w c = (h * 18446744073709551616 + l + c) % 2251799813685248 ∧ cNext w c = (h * 18446744073709551616 + l + c) / 2251799813685248 := by
  subst e
  have e0 : fnOf [h, l] 0 = h := rfl
  have e1 : fnOf [h, l] 1 = l := rfl
  have hlow : 0 ≤ adcS l c 0 ∧ adcS l c 0 < 18446744073709551616 := by unfold adcS; omega
  have hcar : (adcC l c 0 = 0 ∨ adcC l c 0 = 1) ∧ l + c = adcC l c 0 * 18446744073709551616 + adcS l c 0 := by
    unfold adcC adcS
    split <;> omega
  have hhi : uadd h (adcC l c 0) = h + adcC l c 0 := uadd_eq (by omega)
  have hshl : ushl (h + adcC l c 0) 13 = (h + adcC l c 0) * 8192 := by
    show realBin .shl .u64 _ ((13 : Nat) : Int) = _
    rw [shl_u64 _ 13 (by decide)]
    omega
  constructor
  · simp only [cOut, cLow, e1]
    rw [uand51 hlow]
    omega
  · simp only [cNext, cHigh, cLow, e0, e1]
    rw [hhi, hshl, ushr51]
    have := or_apart (k := .u64) rfl (x := (h + adcC l c 0) * 8192) (y := adcS l c 0 / 2251799813685248) 13 ⟨by omega, by rw [two64]; omega⟩ (by omega) ⟨by omega, by omega⟩ (by decide)
    show realBin .or .u64 _ _ = _
    rw [this]
    omega

def timesP (l m : Nat → Int) : Nat → Int :=
  let s0 := tsum (l 0) (m 0) (l 1) (umul 19 (m 4)) (l 2) (umul 19 (m 3)) (l 3) (umul 19 (m 2)) (l 4) (umul 19 (m 1))
  let s1 := tsum (l 0) (m 1) (l 1) (m 0) (l 2) (umul 19 (m 4)) (l 3) (umul 19 (m 3)) (l 4) (umul 19 (m 2))
  let s2 := tsum (l 0) (m 2) (l 1) (m 1) (l 2) (m 0) (l 3) (umul 19 (m 4)) (l 4) (umul 19 (m 3))
  let s3 := tsum (l 0) (m 3) (l 1) (m 2) (l 2) (m 1) (l 3) (m 0) (l 4) (umul 19 (m 4))
  let s4 := tsum (l 0) (m 4) (l 1) (m 3) (l 2) (m 2) (l 3) (m 1) (l 4) (m 0)
  let c1 := cNext s0 0
  let c2 := cNext s1 c1
  let c3 := cNext s2 c2
  let c4 := cNext s3 c3
  let c5 := cNext s4 c4
  fnOf [uadd (cOut s0 0) (umul 19 c5), cOut s1 c1, cOut s2 c2, cOut s3 c3, cOut s4 c4]

def timesF (l m : Nat → Int) : Nat → Int := settleF (timesP l m)

theorem prod_bound {a b : Int} (ha : 0 ≤ a ∧ a < 2251799813685267) (hb : 0 ≤ b ∧ b < 2251799813685267) : 0 ≤ a * b ∧ a * b ≤ 5070602400913003174379732861289 := by
  refine ⟨Int.mul_nonneg ha.1 hb.1, ?_⟩
  have h1 : a * b ≤ 2251799813685267 * 2251799813685267 := Int.mul_le_mul (by omega) (by omega) hb.1 (by omega)
  omega

theorem mul_id (t x0 x1 x2 x3 x4 y0 y1 y2 y3 y4 : Int) :
    x0 * y0 + 19 * (x1 * y4) + 19 * (x2 * y3) + 19 * (x3 * y2) + 19 * (x4 * y1) + 2251799813685248 * (x0 * y1 + x1 * y0 + 19 * (x2 * y4) + 19 * (x3 * y3) + 19 * (x4 * y2) + 2251799813685248 * (x0 * y2 + x1 * y1 + x2 * y0 + 19 * (x3 * y4) + 19 * (x4 * y3) +
        2251799813685248 * (x0 * y3 + x1 * y2 + x2 * y1 + x3 * y0 + 19 * (x4 * y4) + 2251799813685248 * (x0 * y4 + x1 * y3 + x2 * y2 + x3 * y1 + x4 * y0)))) - 57896044618658097711785492504343953926634992332820282019728792003956564819949 * t =
      (x0 + 2251799813685248 * (x1 + 2251799813685248 * (x2 + 2251799813685248 * (x3 + 2251799813685248 * x4)))) * (y0 + 2251799813685248 * (y1 + 2251799813685248 * (y2 + 2251799813685248 * (y3 + 2251799813685248 * y4)))) -
      57896044618658097711785492504343953926634992332820282019728792003956564819949 * (t + ((x1 * y4 + x2 * y3 + x3 * y2 + x4 * y1) + 2251799813685248 * ((x2 * y4 + x3 * y3 + x4 * y2) + 2251799813685248 * ((x3 * y4 + x4 * y3) + 2251799813685248 * (x4 * y4))))) := by
  grind

theorem timesP_spec {l m : Nat → Int} (hl : Tidy l) (hm : Tidy m) : LFit (timesP l m) ∧ ∃ q, lim (timesP l m) = lim l * lim m - p25 * q := by
  obtain ⟨a0, a1, a2, a3, a4⟩ := hl.all
  obtain ⟨b0, b1, b2, b3, b4⟩ := hm.all
  have u : ∀ x : Int, 0 ≤ x ∧ x < 2251799813685267 → umul 19 x = 19 * x := fun x hx => by rw [umul, mul_u64]; omega
  have w : ∀ x y : Int, x * (19 * y) = 19 * (x * y) := fun x y => by rw [Int.mul_left_comm]
  generalize hx0 : l 0 = x0 at *
  generalize hx1 : l 1 = x1 at *
  generalize hx2 : l 2 = x2 at *
  generalize hx3 : l 3 = x3 at *
  generalize hx4 : l 4 = x4 at *
  generalize hy0 : m 0 = y0 at *
  generalize hy1 : m 1 = y1 at *
  generalize hy2 : m 2 = y2 at *
  generalize hy3 : m 3 = y3 at *
  generalize hy4 : m 4 = y4 at *
  have P00 := prod_bound (a := x0) (b := y0) (by omega) (by omega)
  have P01 := prod_bound (a := x0) (b := y1) (by omega) (by omega)
  have P02 := prod_bound (a := x0) (b := y2) (by omega) (by omega)
  have P03 := prod_bound (a := x0) (b := y3) (by omega) (by omega)
  have P04 := prod_bound (a := x0) (b := y4) (by omega) (by omega)
  have P10 := prod_bound (a := x1) (b := y0) (by omega) (by omega)
  have P11 := prod_bound (a := x1) (b := y1) (by omega) (by omega)
  have P12 := prod_bound (a := x1) (b := y2) (by omega) (by omega)
  have P13 := prod_bound (a := x1) (b := y3) (by omega) (by omega)
  have P14 := prod_bound (a := x1) (b := y4) (by omega) (by omega)
  have P20 := prod_bound (a := x2) (b := y0) (by omega) (by omega)
  have P21 := prod_bound (a := x2) (b := y1) (by omega) (by omega)
  have P22 := prod_bound (a := x2) (b := y2) (by omega) (by omega)
  have P23 := prod_bound (a := x2) (b := y3) (by omega) (by omega)
  have P24 := prod_bound (a := x2) (b := y4) (by omega) (by omega)
  have P30 := prod_bound (a := x3) (b := y0) (by omega) (by omega)
  have P31 := prod_bound (a := x3) (b := y1) (by omega) (by omega)
  have P32 := prod_bound (a := x3) (b := y2) (by omega) (by omega)
  have P33 := prod_bound (a := x3) (b := y3) (by omega) (by omega)
  have P34 := prod_bound (a := x3) (b := y4) (by omega) (by omega)
  have P40 := prod_bound (a := x4) (b := y0) (by omega) (by omega)
  have P41 := prod_bound (a := x4) (b := y1) (by omega) (by omega)
  have P42 := prod_bound (a := x4) (b := y2) (by omega) (by omega)
  have P43 := prod_bound (a := x4) (b := y3) (by omega) (by omega)
  have P44 := prod_bound (a := x4) (b := y4) (by omega) (by omega)
  have rng : ∀ z : Int, 0 ≤ z ∧ z < 2251799813685267 → 0 ≤ z ∧ z < 18446744073709551616 := fun z hz => by omega
  have rng' : ∀ z : Int, 0 ≤ z ∧ z < 2251799813685267 → 0 ≤ 19 * z ∧ 19 * z < 18446744073709551616 := fun z hz => by omega
  obtain ⟨h0, l0, e0, v0, r0, q0⟩ := tsum_eq (a0 := x0) (b0 := y0) (a1 := x1) (b1 := 19 * y4) (a2 := x2) (b2 := 19 * y3) (a3 := x3) (b3 := 19 * y2) (a4 := x4) (b4 := 19 * y1)
    (by simp only [List.mem_cons, List.not_mem_nil, or_false, forall_eq_or_imp, forall_eq]; omega) (by simp only [w]; omega)
  obtain ⟨h1, l1, e1, v1, r1, q1⟩ := tsum_eq (a0 := x0) (b0 := y1) (a1 := x1) (b1 := y0) (a2 := x2) (b2 := 19 * y4) (a3 := x3) (b3 := 19 * y3) (a4 := x4) (b4 := 19 * y2)
    (by simp only [List.mem_cons, List.not_mem_nil, or_false, forall_eq_or_imp, forall_eq]; omega) (by simp only [w]; omega)
  obtain ⟨h2, l2, e2, v2, r2, q2⟩ := tsum_eq (a0 := x0) (b0 := y2) (a1 := x1) (b1 := y1) (a2 := x2) (b2 := y0) (a3 := x3) (b3 := 19 * y4) (a4 := x4) (b4 := 19 * y3)
    (by simp only [List.mem_cons, List.not_mem_nil, or_false, forall_eq_or_imp, forall_eq]; omega) (by simp only [w]; omega)
  obtain ⟨h3, l3, e3, v3, r3, q3⟩ := tsum_eq (a0 := x0) (b0 := y3) (a1 := x1) (b1 := y2) (a2 := x2) (b2 := y1) (a3 := x3) (b3 := y0) (a4 := x4) (b4 := 19 * y4)
    (by simp only [List.mem_cons, List.not_mem_nil, or_false, forall_eq_or_imp, forall_eq]; omega) (by simp only [w]; omega)
  obtain ⟨h4, l4, e4, v4, r4, q4⟩ := tsum_eq (a0 := x0) (b0 := y4) (a1 := x1) (b1 := y3) (a2 := x2) (b2 := y2) (a3 := x3) (b3 := y1) (a4 := x4) (b4 := y0)
    (by simp only [List.mem_cons, List.not_mem_nil, or_false, forall_eq_or_imp, forall_eq]; omega) (by omega)
  simp only [w] at v0 v1 v2 v3
  obtain ⟨o0, n0⟩ := carry_eq e0 (c := 0) (by omega) q0 (by omega)
  generalize hT0 : h0 * 18446744073709551616 + l0 + 0 = T0 at *
  obtain ⟨o1, n1⟩ := carry_eq e1 (c := T0 / 2251799813685248) (by omega) q1 (by omega)
  generalize hT1 : h1 * 18446744073709551616 + l1 + T0 / 2251799813685248 = T1 at *
  obtain ⟨o2, n2⟩ := carry_eq e2 (c := T1 / 2251799813685248) (by omega) q2 (by omega)
  generalize hT2 : h2 * 18446744073709551616 + l2 + T1 / 2251799813685248 = T2 at *
  obtain ⟨o3, n3⟩ := carry_eq e3 (c := T2 / 2251799813685248) (by omega) q3 (by omega)
  generalize hT3 : h3 * 18446744073709551616 + l3 + T2 / 2251799813685248 = T3 at *
  obtain ⟨o4, n4⟩ := carry_eq e4 (c := T3 / 2251799813685248) (by omega) q4 (by omega)
  generalize hT4 : h4 * 18446744073709551616 + l4 + T3 / 2251799813685248 = T4 at *
  have hP : timesP l m = fnOf [T0 % 2251799813685248 + 19 * (T4 / 2251799813685248), T1 % 2251799813685248, T2 % 2251799813685248, T3 % 2251799813685248, T4 % 2251799813685248] := by
    simp only [timesP, hx0, hx1, hx2, hx3, hx4, hy0, hy1, hy2, hy3, hy4]
    rw [u y1 (by omega), u y2 (by omega), u y3 (by omega), u y4 (by omega), n0, n1, n2, n3, n4, o0, o1, o2, o3, o4]
    have e19 : umul 19 (T4 / 2251799813685248) = 19 * (T4 / 2251799813685248) := by rw [umul, mul_u64]; omega
    rw [e19, uadd_eq (by omega)]
  rw [hP]
  refine ⟨each5 (by rw [fnOf_0]; omega) (by rw [fnOf_1]; omega) (by rw [fnOf_2]; omega) (by rw [fnOf_3]; omega) (by rw [fnOf_4]; omega), ?_⟩
  have hsum : lim (fnOf [T0 % 2251799813685248 + 19 * (T4 / 2251799813685248), T1 % 2251799813685248, T2 % 2251799813685248, T3 % 2251799813685248, T4 % 2251799813685248]) =
      (x0 * y0 + 19 * (x1 * y4) + 19 * (x2 * y3) + 19 * (x3 * y2) + 19 * (x4 * y1)) + 2251799813685248 * ((x0 * y1 + x1 * y0 + 19 * (x2 * y4) + 19 * (x3 * y3) + 19 * (x4 * y2)) + 2251799813685248 * ((x0 * y2 + x1 * y1 + x2 * y0 + 19 * (x3 * y4) + 19 * (x4 * y3)) +
        2251799813685248 * ((x0 * y3 + x1 * y2 + x2 * y1 + x3 * y0 + 19 * (x4 * y4)) + 2251799813685248 * (x0 * y4 + x1 * y3 + x2 * y2 + x3 * y1 + x4 * y0)))) - p25 * (T4 / 2251799813685248) := by
    simp only [lim, fnOf_0, fnOf_1, fnOf_2, fnOf_3, fnOf_4, p25]
    omega
  refine ⟨T4 / 2251799813685248 + ((x1 * y4 + x2 * y3 + x3 * y2 + x4 * y1) + 2251799813685248 * ((x2 * y4 + x3 * y3 + x4 * y2) + 2251799813685248 * ((x3 * y4 + x4 * y3) + 2251799813685248 * (x4 * y4)))), ?_⟩
  rw [hsum]
  simp only [lim, hx0, hx1, hx2, hx3, hx4, hy0, hy1, hy2, hy3, hy4, p25]
  exact mul_id _ _ _ _ _ _ _ _ _ _ _

theorem times_spec {l m : Nat → Int} (hl : Tidy l) (hm : Tidy m) : lim (timesF l m) % p25 = (lim l * lim m) % p25 ∧ Tidy (timesF l m) := by
  obtain ⟨h1, q, h2⟩ := timesP_spec hl hm
  obtain ⟨h3, h4⟩ := settle_spec h1
  refine ⟨?_, h4⟩
  show lim (settleF _) % _ = _
  rw [h3, h2]
  simp [Int.sub_emod]

/-- The sums row by row. -/
def rowsT (l m : Nat → Int) : Nat → Nat → Nat → Int
  | 0, _ => tzero
  | i + 1, k => tstep (rowsT l m i k) (l i) (if i ≤ k then m (k - i) else umul 19 (m (k + 5 - i)))
/-- The same, side by side. -/
def sumsT (l m : Nat → Int) (i : Nat) : Nat → Int := fun j => rowsT l m i (j / 2) (j % 2)

def carT (s : Nat → Int) : Nat → Int :=
  let w (k : Nat) : Nat → Int := fnOf [s (2 * k), s (2 * k + 1)]
  let c1 := cNext (w 0) 0
  let c2 := cNext (w 1) c1
  let c3 := cNext (w 2) c2
  let c4 := cNext (w 3) c3
  let c5 := cNext (w 4) c4
  fnOf [uadd (cOut (w 0) 0) (umul 19 c5), cOut (w 1) c1, cOut (w 2) c2, cOut (w 3) c3, cOut (w 4) c4]

theorem timesP_rows (l m : Nat → Int) : timesP l m = carT (sumsT l m 5) := by
  have e : ∀ h : Nat → Int, ∀ c, cNext (fnOf [h 0, h 1]) c = cNext h c := fun _ _ => rfl
  have e' : ∀ h : Nat → Int, ∀ c, cOut (fnOf [h 0, h 1]) c = cOut h c := fun _ _ => rfl
  have f0 : tsum (l 0) (m 0) (l 1) (umul 19 (m 4)) (l 2) (umul 19 (m 3)) (l 3) (umul 19 (m 2)) (l 4) (umul 19 (m 1)) = rowsT l m 5 0 := rfl
  have f1 : tsum (l 0) (m 1) (l 1) (m 0) (l 2) (umul 19 (m 4)) (l 3) (umul 19 (m 3)) (l 4) (umul 19 (m 2)) = rowsT l m 5 1 := rfl
  have f2 : tsum (l 0) (m 2) (l 1) (m 1) (l 2) (m 0) (l 3) (umul 19 (m 4)) (l 4) (umul 19 (m 3)) = rowsT l m 5 2 := rfl
  have f3 : tsum (l 0) (m 3) (l 1) (m 2) (l 2) (m 1) (l 3) (m 0) (l 4) (umul 19 (m 4)) = rowsT l m 5 3 := rfl
  have f4 : tsum (l 0) (m 4) (l 1) (m 3) (l 2) (m 2) (l 3) (m 1) (l 4) (m 0) = rowsT l m 5 4 := rfl
  unfold timesP
  rw [f0, f1, f2, f3, f4]
  unfold carT
  have g : ∀ k, k < 5 → (fnOf [sumsT l m 5 (2 * k), sumsT l m 5 (2 * k + 1)]) = fnOf [rowsT l m 5 k 0, rowsT l m 5 k 1] := by
    intro k _
    have a1 : (2 * k) / 2 = k := by omega
    have a2 : (2 * k) % 2 = 0 := by omega
    have a3 : (2 * k + 1) / 2 = k := by omega
    have a4 : (2 * k + 1) % 2 = 1 := by omega
    unfold sumsT
    rw [a1, a2, a3, a4]
  dsimp only
  rw [g 0 (by decide), g 1 (by decide), g 2 (by decide), g 3 (by decide), g 4 (by decide)]
  simp only [e, e']
end Sx
