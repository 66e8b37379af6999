/-
  Numbers modulo 2^255 - 19 as five digits to the base 2^51: what settling, loading and the form as bytes come to.
-/
import Derived.Test.YtnfbjfbndnmhmaaMaA
namespace Sx
open Go

abbrev uadd (a b : Int) : Int := realBin .add .u64 a b
abbrev usub (a b : Int) : Int := realBin .sub .u64 a b
abbrev umul (a b : Int) : Int := realBin .mul .u64 a b
abbrev ushr (a b : Int) : Int := realBin .shr .u64 a b
abbrev ushl (a b : Int) : Int := realBin .shl .u64 a b
abbrev uand (a b : Int) : Int := realBin .and .u64 a b
abbrev uor (a b : Int) : Int := realBin .or .u64 a b
abbrev u8of (a : Int) : Int := IntKind.wrap .u8 a
abbrev u64of (a : Int) : Int := IntKind.wrap .u64 a

/-- p = 2^255 - 19. -/
abbrev p25 : Int := 57896044618658097711785492504343953926634992332820282019728792003956564819949

/-- A function given by a list of its first values. -/
def fnOf (l : List Int) : Nat → Int := fun i => l.getD i 0

/-- The number of the first bytes, the lowest first. -/
def num : Nat → (Nat → Int) → Int
  | 0, _ => 0
  | n + 1, f => f 0 + 256 * num n (fun i => f (i + 1))

/-- The bytes of a number. -/
def byt (n : Int) : Nat → Int := fun i => n / 256 ^ i % 256

def IsBytes (n : Nat) (f : Nat → Int) : Prop := ∀ i, i < n → 0 ≤ f i ∧ f i < 256

theorem num_bounds : ∀ (n : Nat) (f : Nat → Int), IsBytes n f → 0 ≤ num n f ∧ num n f < 256 ^ n
  | 0, f, _ => by simp [num]
  | n + 1, f, h => by
    obtain ⟨h1, h2⟩ := num_bounds n (fun i => f (i + 1)) (fun i hi => h (i + 1) (by omega))
    have h0 := h 0 (by omega)
    simp only [num]
    rw [Int.pow_succ]
    omega

theorem byt_num : ∀ (n : Nat) (f : Nat → Int), IsBytes n f → ∀ i, i < n → byt (num n f) i = f i
  | 0, _, _, i, hi => by omega
  | n + 1, f, h, i, hi => by
    have hb := num_bounds n (fun i => f (i + 1)) (fun i hi => h (i + 1) (by omega))
    have h0 := h 0 (by omega)
    cases i with
    | zero => simp only [byt, num, Int.pow_zero, Int.ediv_one]; omega
    | succ i =>
      have ih := byt_num n (fun i => f (i + 1)) (fun i hi => h (i + 1) (by omega)) i (by omega)
      simp only [byt, num] at ih ⊢
      rw [Int.pow_succ', ← Int.ediv_ediv_of_nonneg (by decide)]
      have e : (f 0 + 256 * num n (fun i => f (i + 1))) / 256 = num n (fun i => f (i + 1)) := by omega
      rw [e, ih]

theorem byt_isBytes (m : Int) (n : Nat) : IsBytes n (byt m) := fun i _ => by simp only [byt]; omega

theorem num_byt : ∀ (n : Nat) (m : Int), 0 ≤ m → m < 256 ^ n → num n (byt m) = m
  | 0, m, h0, h => by simp only [num]; simp at h; omega
  | n + 1, m, h0, h => by
    simp only [num]
    have e : (fun i => byt m (i + 1)) = byt (m / 256) := by
      funext i
      simp only [byt]
      rw [Int.pow_succ', ← Int.ediv_ediv_of_nonneg (by decide)]
    rw [Int.pow_succ] at h
    rw [e, num_byt n (m / 256) (by omega) (by omega)]
    simp only [byt, Int.pow_zero, Int.ediv_one]
    omega

theorem num_congr : ∀ (n : Nat) {f g : Nat → Int}, (∀ i, i < n → f i = g i) → num n f = num n g
  | 0, _, _, _ => rfl
  | n + 1, f, g, h => by
    simp only [num]
    rw [h 0 (by omega), num_congr n (fun i hi => h (i + 1) (by omega))]

theorem num_inj {n : Nat} {f g : Nat → Int} (hf : IsBytes n f) (hg : IsBytes n g) (h : num n f = num n g) : ∀ i, i < n → f i = g i := fun i hi => by
  rw [← byt_num n f hf i hi, h, byt_num n g hg i hi]

theorem eqA_num {n : Nat} {f g : Nat → Int} (hf : IsBytes n f) (hg : IsBytes n g) : realEqA n f g = (num n f == num n g) := by
  rw [Bool.eq_iff_iff]
  simp only [realEqA, List.all_eq_true, List.mem_range, beq_iff_eq]
  exact ⟨fun h => num_congr n h, fun h => num_inj hf hg h⟩

/-! Settling. -/

def rnd (l : Nat → Int) : Nat → Int :=
  let s1 := uadd (l 1) (ushr (l 0) 51)
  let s2 := uadd (l 2) (ushr s1 51)
  let s3 := uadd (l 3) (ushr s2 51)
  let s4 := uadd (l 4) (ushr s3 51)
  fnOf [uadd (uand (l 0) 2251799813685247) (umul 19 (ushr s4 51)), uand s1 2251799813685247, uand s2 2251799813685247, uand s3 2251799813685247, uand s4 2251799813685247]

def settleF (l : Nat → Int) : Nat → Int := rnd (rnd l)

def lim (l : Nat → Int) : Int := l 0 + 2251799813685248 * (l 1 + 2251799813685248 * (l 2 + 2251799813685248 * (l 3 + 2251799813685248 * l 4)))

/-- Digits that are not too great. -/
def LFit (l : Nat → Int) : Prop := ∀ i, i < 5 → 0 ≤ l i ∧ l i ≤ 9223372036854775808
/-- Digits as they are behind settling. -/
def Tidy (l : Nat → Int) : Prop := (0 ≤ l 0 ∧ l 0 < 2251799813685267) ∧ ∀ i, 0 < i → i < 5 → 0 ≤ l i ∧ l i < 2251799813685248

theorem Tidy.fit {l : Nat → Int} (h : Tidy l) : LFit l := fun i hi => by
  obtain ⟨h0, h1⟩ := h
  rcases Nat.eq_zero_or_pos i with rfl | hp
  · omega
  · have := h1 i hp hi; omega

theorem ushr51 (a : Int) : ushr a 51 = a / 2251799813685248 := shr_any .u64 a 51 (by decide)
theorem uand51 {a : Int} (h : 0 ≤ a ∧ a < 18446744073709551616) : uand a 2251799813685247 = a % 2251799813685248 := and_mask (k := .u64) rfl h 51 (by decide)

/-- One round, in plain numbers. -/
theorem rnd_eq {l : Nat → Int} (h : LFit l) : ∃ s1 s2 s3 s4, s1 = l 1 + l 0 / 2251799813685248 ∧ s2 = l 2 + s1 / 2251799813685248 ∧ s3 = l 3 + s2 / 2251799813685248 ∧ s4 = l 4 + s3 / 2251799813685248 ∧
    rnd l = fnOf [l 0 % 2251799813685248 + 19 * (s4 / 2251799813685248), s1 % 2251799813685248, s2 % 2251799813685248, s3 % 2251799813685248, s4 % 2251799813685248] := by
  have h0 := h 0 (by omega)
  have h1 := h 1 (by omega)
  have h2 := h 2 (by omega)
  have h3 := h 3 (by omega)
  have h4 := h 4 (by omega)
  refine ⟨_, _, _, _, rfl, rfl, rfl, rfl, ?_⟩
  have e1 : uadd (l 1) (ushr (l 0) 51) = l 1 + l 0 / 2251799813685248 := by rw [ushr51, uadd, add_u64]; omega
  have e2 : uadd (l 2) (ushr (l 1 + l 0 / 2251799813685248) 51) = l 2 + (l 1 + l 0 / 2251799813685248) / 2251799813685248 := by rw [ushr51, uadd, add_u64]; omega
  generalize hs1 : l 1 + l 0 / 2251799813685248 = s1 at *
  have e3 : uadd (l 3) (ushr (l 2 + s1 / 2251799813685248) 51) = l 3 + (l 2 + s1 / 2251799813685248) / 2251799813685248 := by rw [ushr51, uadd, add_u64]; omega
  generalize hs2 : l 2 + s1 / 2251799813685248 = s2 at *
  have e4 : uadd (l 4) (ushr (l 3 + s2 / 2251799813685248) 51) = l 4 + (l 3 + s2 / 2251799813685248) / 2251799813685248 := by rw [ushr51, uadd, add_u64]; omega
  generalize hs3 : l 3 + s2 / 2251799813685248 = s3 at *
  generalize hs4 : l 4 + s3 / 2251799813685248 = s4 at *
  have e0 : uadd (uand (l 0) 2251799813685247) (umul 19 (ushr s4 51)) = l 0 % 2251799813685248 + 19 * (s4 / 2251799813685248) := by
    rw [uand51 (by omega), ushr51, umul, mul_u64, uadd, add_u64]; omega
  simp only [rnd]
  rw [e1, e2, e3, e4, e0, uand51 (by omega), uand51 (by omega), uand51 (by omega), uand51 (by omega)]

theorem fnOf_0 (a b c d e : Int) : fnOf [a, b, c, d, e] 0 = a := rfl
theorem fnOf_1 (a b c d e : Int) : fnOf [a, b, c, d, e] 1 = b := rfl
theorem fnOf_2 (a b c d e : Int) : fnOf [a, b, c, d, e] 2 = c := rfl
theorem fnOf_3 (a b c d e : Int) : fnOf [a, b, c, d, e] 3 = d := rfl
theorem fnOf_4 (a b c d e : Int) : fnOf [a, b, c, d, e] 4 = e := rfl

theorem each5 {q : Nat → Prop} (h0 : q 0) (h1 : q 1) (h2 : q 2) (h3 : q 3) (h4 : q 4) : ∀ i, i < 5 → q i := fun i hi =>
  match i, hi with
  | 0, _ => h0
  | 1, _ => h1
  | 2, _ => h2
  | 3, _ => h3
  | 4, _ => h4

theorem rnd_lim {l : Nat → Int} (h : LFit l) : lim (rnd l) % p25 = lim l % p25 := by
  obtain ⟨s1, s2, s3, s4, r1, r2, r3, r4, hr⟩ := rnd_eq h
  rw [hr]
  have e : lim (fnOf [l 0 % 2251799813685248 + 19 * (s4 / 2251799813685248), s1 % 2251799813685248, s2 % 2251799813685248, s3 % 2251799813685248, s4 % 2251799813685248]) = lim l - p25 * (s4 / 2251799813685248) := by
    simp only [lim, fnOf_0, fnOf_1, fnOf_2, fnOf_3, fnOf_4, p25]
    omega
  rw [e]
  simp [Int.sub_emod]

theorem rnd_tame {l : Nat → Int} (h : LFit l) : (0 ≤ rnd l 0 ∧ rnd l 0 < 2251799813763091) ∧ ∀ i, 0 < i → i < 5 → 0 ≤ rnd l i ∧ rnd l i < 2251799813685248 := by
  obtain ⟨s1, s2, s3, s4, r1, r2, r3, r4, hr⟩ := rnd_eq h
  have h0 := h 0 (by omega)
  have h1 := h 1 (by omega)
  have h2 := h 2 (by omega)
  have h3 := h 3 (by omega)
  have h4 := h 4 (by omega)
  rw [hr]
  refine ⟨by rw [fnOf_0]; omega, fun i hp hi => ?_⟩
  match i, hp, hi with
  | 1, _, _ => rw [fnOf_1]; omega
  | 2, _, _ => rw [fnOf_2]; omega
  | 3, _, _ => rw [fnOf_3]; omega
  | 4, _, _ => rw [fnOf_4]; omega

theorem settle_spec {l : Nat → Int} (h : LFit l) : lim (settleF l) % p25 = lim l % p25 ∧ Tidy (settleF l) := by
  obtain ⟨t0, t1⟩ := rnd_tame h
  have hf : LFit (rnd l) := each5 (by omega) (by have := t1 1; omega) (by have := t1 2; omega) (by have := t1 3; omega) (by have := t1 4; omega)
  refine ⟨(rnd_lim hf).trans (rnd_lim h), ?_⟩
  obtain ⟨s1, s2, s3, s4, r1, r2, r3, r4, hr⟩ := rnd_eq hf
  have h1 := t1 1 (by omega) (by omega)
  have h2 := t1 2 (by omega) (by omega)
  have h3 := t1 3 (by omega) (by omega)
  have h4 := t1 4 (by omega) (by omega)
  show Tidy (rnd (rnd l))
  rw [hr]
  refine ⟨by rw [fnOf_0]; omega, fun i hp hi => ?_⟩
  match i, hp, hi with
  | 1, _, _ => rw [fnOf_1]; omega
  | 2, _, _ => rw [fnOf_2]; omega
  | 3, _, _ => rw [fnOf_3]; omega
  | 4, _, _ => rw [fnOf_4]; omega
end Sx
