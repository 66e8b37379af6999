/-
  The form as bytes of five digits.
-/
import Derived.Test.YtnfbjfbndnmhmaaMaE
namespace Sx
open Go

def frzR (l : Nat → Int) : Nat → Int :=
  let q0 := ushr (uadd (l 0) 19) 51
  let q1 := ushr (uadd (l 1) q0) 51
  let q2 := ushr (uadd (l 2) q1) 51
  let q3 := ushr (uadd (l 3) q2) 51
  let q4 := ushr (uadd (l 4) q3) 51
  let t0 := uadd (l 0) (umul 19 q4)
  let t1 := uadd (l 1) (ushr t0 51)
  let t2 := uadd (l 2) (ushr t1 51)
  let t3 := uadd (l 3) (ushr t2 51)
  let t4 := uadd (l 4) (ushr t3 51)
  fnOf [uand t0 2251799813685247, uand t1 2251799813685247, uand t2 2251799813685247, uand t3 2251799813685247, uand t4 2251799813685247]

def wrdR (m : Nat → Int) : Nat → Int :=
  fnOf [uor (m 0) (ushl (m 1) 51), uor (ushr (m 1) 13) (ushl (m 2) 38), uor (ushr (m 2) 26) (ushl (m 3) 25), uor (ushr (m 3) 39) (ushl (m 4) 12)]

def outR (w : Nat → Int) : Nat → Int := fun i => u8of (ushr (w (i / 8)) ((8 * (i % 8) : Nat) : Int))

def bytesF (l : Nat → Int) : Nat → Int := outR (wrdR (frzR (settleF l)))

theorem frz_eq {l : Nat → Int} (h : Tidy l) : ∃ m0 m1 m2 m3 m4, frzR l = fnOf [m0, m1, m2, m3, m4] ∧ (0 ≤ m0 ∧ m0 < 2251799813685248) ∧ (0 ≤ m1 ∧ m1 < 2251799813685248) ∧ (0 ≤ m2 ∧ m2 < 2251799813685248) ∧ (0 ≤ m3 ∧ m3 < 2251799813685248) ∧ (0 ≤ m4 ∧ m4 < 2251799813685248) ∧
    m0 + 2251799813685248 * (m1 + 2251799813685248 * (m2 + 2251799813685248 * (m3 + 2251799813685248 * m4))) = lim l % p25 := by
  obtain ⟨a0, a1, a2, a3, a4⟩ := h.all
  have g0 : uadd (l 0) 19 = l 0 + 19 := uadd_eq (by omega)
  generalize hq0 : (l 0 + 19) / 2251799813685248 = q0
  have g1 : uadd (l 1) q0 = l 1 + q0 := uadd_eq (by omega)
  generalize hq1 : (l 1 + q0) / 2251799813685248 = q1
  have g2 : uadd (l 2) q1 = l 2 + q1 := uadd_eq (by omega)
  generalize hq2 : (l 2 + q1) / 2251799813685248 = q2
  have g3 : uadd (l 3) q2 = l 3 + q2 := uadd_eq (by omega)
  generalize hq3 : (l 3 + q2) / 2251799813685248 = q3
  have g4 : uadd (l 4) q3 = l 4 + q3 := uadd_eq (by omega)
  generalize hq4 : (l 4 + q3) / 2251799813685248 = q4
  have m19 : umul 19 q4 = 19 * q4 := by rw [umul, mul_u64]; omega
  have k0 : uadd (l 0) (19 * q4) = l 0 + 19 * q4 := uadd_eq (by omega)
  generalize ht0 : l 0 + 19 * q4 = t0 at *
  have k1 : uadd (l 1) (t0 / 2251799813685248) = l 1 + t0 / 2251799813685248 := uadd_eq (by omega)
  generalize ht1 : l 1 + t0 / 2251799813685248 = t1 at *
  have k2 : uadd (l 2) (t1 / 2251799813685248) = l 2 + t1 / 2251799813685248 := uadd_eq (by omega)
  generalize ht2 : l 2 + t1 / 2251799813685248 = t2 at *
  have k3 : uadd (l 3) (t2 / 2251799813685248) = l 3 + t2 / 2251799813685248 := uadd_eq (by omega)
  generalize ht3 : l 3 + t2 / 2251799813685248 = t3 at *
  have k4 : uadd (l 4) (t3 / 2251799813685248) = l 4 + t3 / 2251799813685248 := uadd_eq (by omega)
  generalize ht4 : l 4 + t3 / 2251799813685248 = t4 at *
  refine ⟨t0 % 2251799813685248, t1 % 2251799813685248, t2 % 2251799813685248, t3 % 2251799813685248, t4 % 2251799813685248, ?_, by omega, by omega, by omega, by omega, by omega, ?_⟩
  · simp only [frzR, ushr51, g0, hq0, g1, hq1, g2, hq2, g3, hq3, g4, hq4, m19, k0, k1, k2, k3, k4]
    rw [uand51 (by omega), uand51 (by omega), uand51 (by omega), uand51 (by omega), uand51 (by omega)]
  · simp only [lim, p25]
    have hL : l 0 + 2251799813685248 * (l 1 + 2251799813685248 * (l 2 + 2251799813685248 * (l 3 + 2251799813685248 * l 4))) + 19 * q4 = t0 % 2251799813685248 + 2251799813685248 * (t1 % 2251799813685248 + 2251799813685248 * (t2 % 2251799813685248 + 2251799813685248 * (t3 % 2251799813685248 + 2251799813685248 * (t4 % 2251799813685248)))) + 57896044618658097711785492504343953926634992332820282019728792003956564819968 * (t4 / 2251799813685248) := by omega
    have hQ : q4 = (l 0 + 2251799813685248 * (l 1 + 2251799813685248 * (l 2 + 2251799813685248 * (l 3 + 2251799813685248 * l 4))) + 19) / 57896044618658097711785492504343953926634992332820282019728792003956564819968 := by omega
    generalize l 0 + 2251799813685248 * (l 1 + 2251799813685248 * (l 2 + 2251799813685248 * (l 3 + 2251799813685248 * l 4))) = N at *
    have hN : 0 ≤ N ∧ N < 57896044618658097711785492504343953926634992332820282019728792003956564819968 + 19 := by omega
    have hR : 0 ≤ t0 % 2251799813685248 + 2251799813685248 * (t1 % 2251799813685248 + 2251799813685248 * (t2 % 2251799813685248 + 2251799813685248 * (t3 % 2251799813685248 + 2251799813685248 * (t4 % 2251799813685248)))) ∧
      t0 % 2251799813685248 + 2251799813685248 * (t1 % 2251799813685248 + 2251799813685248 * (t2 % 2251799813685248 + 2251799813685248 * (t3 % 2251799813685248 + 2251799813685248 * (t4 % 2251799813685248)))) < 57896044618658097711785492504343953926634992332820282019728792003956564819968 := by omega
    generalize t0 % 2251799813685248 + 2251799813685248 * (t1 % 2251799813685248 + 2251799813685248 * (t2 % 2251799813685248 + 2251799813685248 * (t3 % 2251799813685248 + 2251799813685248 * (t4 % 2251799813685248)))) = R at *
    generalize t4 / 2251799813685248 = z at *
    clear k0 k1 k2 k3 k4 ht0 ht1 ht2 ht3 ht4 hq4 hq3 hq2 hq1 hq0 a0 a1 a2 a3 a4 g0 g1 g2 g3 g4 m19
    have hq : q4 = 0 ∨ q4 = 1 := by omega
    rcases hq with rfl | rfl
    · have hz : z = 0 := by omega
      rw [Int.emod_eq_of_lt hN.1 (by omega)]
      omega
    · have hz : z = 1 := by omega
      have e : N % 57896044618658097711785492504343953926634992332820282019728792003956564819949 = N - 57896044618658097711785492504343953926634992332820282019728792003956564819949 := by omega
      omega

theorem wrd_eq {m0 m1 m2 m3 m4 : Int} (h0 : 0 ≤ m0 ∧ m0 < 2251799813685248) (h1 : 0 ≤ m1 ∧ m1 < 2251799813685248) (h2 : 0 ≤ m2 ∧ m2 < 2251799813685248) (h3 : 0 ≤ m3 ∧ m3 < 2251799813685248) (h4 : 0 ≤ m4 ∧ m4 < 2251799813685248) :
    ∃ w0 w1 w2 w3, wrdR (fnOf [m0, m1, m2, m3, m4]) = fnOf [w0, w1, w2, w3] ∧ (0 ≤ w0 ∧ w0 < 18446744073709551616) ∧ (0 ≤ w1 ∧ w1 < 18446744073709551616) ∧ (0 ≤ w2 ∧ w2 < 18446744073709551616) ∧ (0 ≤ w3 ∧ w3 < 18446744073709551616) ∧
    w0 + 18446744073709551616 * (w1 + 18446744073709551616 * (w2 + 18446744073709551616 * w3)) = m0 + 2251799813685248 * (m1 + 2251799813685248 * (m2 + 2251799813685248 * (m3 + 2251799813685248 * m4))) := by
  have sh : ∀ (y : Int) (t : Nat), t ≤ 64 → ushl y t = (y * 2 ^ t) % 18446744073709551616 := fun y t ht => shl_u64 y t ht
  have c0 : uor m0 (ushl m1 51) = m0 + (m1 * 2251799813685248) % 18446744073709551616 := by
    have e : ushl m1 51 = (m1 * 2251799813685248) % 18446744073709551616 := sh m1 51 (by decide)
    rw [e]
    show realBin .or .u64 _ _ = _
    rw [or_comm', or_apart (k := .u64) rfl 51 ⟨by omega, by rw [two64]; omega⟩ (by omega) ⟨h0.1, h0.2⟩ (by decide)]
    omega
  have c1 : uor (ushr m1 13) (ushl m2 38) = m1 / 8192 + (m2 * 274877906944) % 18446744073709551616 := by
    have e : ushl m2 38 = (m2 * 274877906944) % 18446744073709551616 := sh m2 38 (by decide)
    have e' : ushr m1 13 = m1 / 8192 := shr_any .u64 m1 13 (by decide)
    rw [e, e']
    show realBin .or .u64 _ _ = _
    rw [or_comm', or_apart (k := .u64) rfl 38 ⟨by omega, by rw [two64]; omega⟩ (by omega) ⟨by omega, by omega⟩ (by decide)]
    omega
  have c2 : uor (ushr m2 26) (ushl m3 25) = m2 / 67108864 + (m3 * 33554432) % 18446744073709551616 := by
    have e : ushl m3 25 = (m3 * 33554432) % 18446744073709551616 := sh m3 25 (by decide)
    have e' : ushr m2 26 = m2 / 67108864 := shr_any .u64 m2 26 (by decide)
    rw [e, e']
    show realBin .or .u64 _ _ = _
    rw [or_comm', or_apart (k := .u64) rfl 25 ⟨by omega, by rw [two64]; omega⟩ (by omega) ⟨by omega, by omega⟩ (by decide)]
    omega
  have c3 : uor (ushr m3 39) (ushl m4 12) = m3 / 549755813888 + (m4 * 4096) % 18446744073709551616 := by
    have e : ushl m4 12 = (m4 * 4096) % 18446744073709551616 := sh m4 12 (by decide)
    have e' : ushr m3 39 = m3 / 549755813888 := shr_any .u64 m3 39 (by decide)
    rw [e, e']
    show realBin .or .u64 _ _ = _
    rw [or_comm', or_apart (k := .u64) rfl 12 ⟨by omega, by rw [two64]; omega⟩ (by omega) ⟨by omega, by omega⟩ (by decide)]
    omega
  refine ⟨m0 + (m1 * 2251799813685248) % 18446744073709551616, m1 / 8192 + (m2 * 274877906944) % 18446744073709551616, m2 / 67108864 + (m3 * 33554432) % 18446744073709551616, m3 / 549755813888 + (m4 * 4096) % 18446744073709551616, ?_, by omega, by omega, by omega, by omega, by omega⟩
  simp only [wrdR, fnOf_0, fnOf_1, fnOf_2, fnOf_3, fnOf_4, c0, c1, c2, c3]

theorem fn4_0 (a b c d : Int) : fnOf [a, b, c, d] 0 = a := rfl
theorem fn4_1 (a b c d : Int) : fnOf [a, b, c, d] 1 = b := rfl
theorem fn4_2 (a b c d : Int) : fnOf [a, b, c, d] 2 = c := rfl
theorem fn4_3 (a b c d : Int) : fnOf [a, b, c, d] 3 = d := rfl

theorem out_one (w : Int) (k : Nat) (hk : k < 8) : u8of (ushr w ((8 * k : Nat) : Int)) = w / 256 ^ k % 256 := by
  show IntKind.wrap .u8 (realBin .shr .u64 w ((8 * k : Nat) : Int)) = _
  rw [wrap_u8, shr_any .u64 w (8 * k) (by simp [IntKind.bits]; omega), Int.pow_mul]
  rfl

theorem out_eq {w0 w1 w2 w3 : Int} (h0 : 0 ≤ w0 ∧ w0 < 18446744073709551616) (h1 : 0 ≤ w1 ∧ w1 < 18446744073709551616) (h2 : 0 ≤ w2 ∧ w2 < 18446744073709551616) (h3 : 0 ≤ w3 ∧ w3 < 18446744073709551616) :
    ∀ i, i < 32 → outR (fnOf [w0, w1, w2, w3]) i = byt (w0 + 18446744073709551616 * (w1 + 18446744073709551616 * (w2 + 18446744073709551616 * w3))) i := by
  intro i hi
  have key : ∀ (j k : Nat) (w N r : Int), k < 8 → 0 ≤ w ∧ w < 18446744073709551616 → N / 256 ^ (8 * j) = w + 18446744073709551616 * r → w / 256 ^ k % 256 = N / 256 ^ (8 * j + k) % 256 := by
    intro j k w N r hk hw hN
    rw [Int.pow_add, ← Int.ediv_ediv_of_nonneg (Int.le_of_lt (Int.pow_pos (by decide))), hN]
    match k, hk with
    | 0, _ => simp only [Int.pow_zero, Int.ediv_one]; omega
    | 1, _ => simp only [Int.reducePow]; omega
    | 2, _ => simp only [Int.reducePow]; omega
    | 3, _ => simp only [Int.reducePow]; omega
    | 4, _ => simp only [Int.reducePow]; omega
    | 5, _ => simp only [Int.reducePow]; omega
    | 6, _ => simp only [Int.reducePow]; omega
    | 7, _ => simp only [Int.reducePow]; omega
  have hi8 : i = 8 * (i / 8) + i % 8 := by omega
  have hk : i % 8 < 8 := Nat.mod_lt _ (by decide)
  simp only [outR, byt]
  rw [out_one _ _ hk]
  generalize hN : w0 + 18446744073709551616 * (w1 + 18446744073709551616 * (w2 + 18446744073709551616 * w3)) = N
  have hj : i / 8 < 4 := by omega
  conv => rhs; rw [hi8]
  generalize i / 8 = j at *
  generalize i % 8 = k at *
  match j, hj with
  | 0, _ => rw [fn4_0]; exact key 0 k w0 N (w1 + 18446744073709551616 * (w2 + 18446744073709551616 * w3)) hk h0 (by simp only [Nat.mul_zero, Int.pow_zero, Int.ediv_one]; omega)
  | 1, _ => rw [fn4_1]; exact key 1 k w1 N (w2 + 18446744073709551616 * w3) hk h1 (by simp only [Int.reducePow, Nat.reduceMul]; omega)
  | 2, _ => rw [fn4_2]; exact key 2 k w2 N w3 hk h2 (by simp only [Int.reducePow, Nat.reduceMul]; omega)
  | 3, _ => rw [fn4_3]; exact key 3 k w3 N 0 hk h3 (by simp only [Int.reducePow, Nat.reduceMul]; omega)

theorem bytes_spec {l : Nat → Int} (h : LFit l) : ∀ i, i < 32 → bytesF l i = byt (lim l % p25) i := by
  obtain ⟨e, t⟩ := settle_spec h
  obtain ⟨m0, m1, m2, m3, m4, f, b0, b1, b2, b3, b4, s⟩ := frz_eq t
  obtain ⟨w0, w1, w2, w3, g, d0, d1, d2, d3, v⟩ := wrd_eq b0 b1 b2 b3 b4
  intro i hi
  show outR (wrdR (frzR (settleF l))) i = _
  rw [f, g, out_eq d0 d1 d2 d3 i hi, v, s, e]
end Sx
