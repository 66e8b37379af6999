/-
  Plain arithmetic that the proofs share: first part. No condition.
-/
import Derived.Test.YtbiialpakchjgaaDoorZEA
import Derived.Lib.Mul64
import Derived.Test.YtbiialpakchjgaaDoorZEB
import Derived.Laws.Externs

/-
  What the model's arithmetic of numbers without a sign comes to, in plain arithmetic.
-/
namespace Sx
open Go

theorem inR_u64 {n : Int} : inR .u64 n ↔ 0 ≤ n ∧ n < 18446744073709551616 := by
  simp [inR, IntKind.min, IntKind.max, IntKind.signed, IntKind.bits]; omega
theorem inR_u8 {n : Int} : inR .u8 n ↔ 0 ≤ n ∧ n < 256 := by
  simp [inR, IntKind.min, IntKind.max, IntKind.signed, IntKind.bits]; omega
theorem inR_i64 {n : Int} : inR .i64 n ↔ -9223372036854775808 ≤ n ∧ n < 9223372036854775808 := by
  simp [inR, IntKind.min, IntKind.max, IntKind.signed, IntKind.bits]; omega
theorem inR_i8 {n : Int} : inR .i8 n ↔ -128 ≤ n ∧ n < 128 := by
  simp [inR, IntKind.min, IntKind.max, IntKind.signed, IntKind.bits]; omega

theorem wrap_u64 (n : Int) : IntKind.wrap .u64 n = n % 18446744073709551616 := by simp [IntKind.wrap, IntKind.signed, IntKind.bits]
theorem wrap_u8 (n : Int) : IntKind.wrap .u8 n = n % 256 := by simp [IntKind.wrap, IntKind.signed, IntKind.bits]
theorem wrap_i64 {n : Int} (h : -9223372036854775808 ≤ n ∧ n < 9223372036854775808) : IntKind.wrap .i64 n = n := by
  simp only [IntKind.wrap, IntKind.signed, IntKind.bits, Bool.true_and, Int.reducePow]
  split <;> simp at * <;> omega
theorem wrap_i8 {n : Int} (h : -128 ≤ n ∧ n < 128) : IntKind.wrap .i8 n = n := by
  simp only [IntKind.wrap, IntKind.signed, IntKind.bits, Bool.true_and, Int.reducePow]
  split <;> simp at * <;> omega

theorem add_u64 (a b : Int) : realBin .add .u64 a b = (a + b) % 18446744073709551616 := wrap_u64 _
theorem sub_u64 (a b : Int) : realBin .sub .u64 a b = (a - b) % 18446744073709551616 := wrap_u64 _
theorem mul_u64 (a b : Int) : realBin .mul .u64 a b = (a * b) % 18446744073709551616 := wrap_u64 _

theorem shl_u64 (a : Int) (s : Nat) (h : s ≤ 64) : realBin .shl .u64 a s = (a * 2 ^ s) % 18446744073709551616 := by
  have e : min (Int.toNat (s : Int)) (IntKind.bits .u64) = s := by simp [IntKind.bits]; omega
  simp only [realBin, e, wrap_u64]
theorem shr_any (k : IntKind) (a : Int) (s : Nat) (h : s ≤ k.bits) : realBin .shr k a s = a / 2 ^ s := by
  have e : min (Int.toNat (s : Int)) k.bits = s := by simp; omega
  have hp : (0 : Int) ≤ 2 ^ s := Int.le_of_lt (Int.pow_pos (by decide))
  simp only [realBin, e, Int.fdiv_eq_ediv_of_nonneg _ hp]

theorem ofInt_nat {w : Nat} {a : Int} (h0 : 0 ≤ a) (h : a < 2 ^ w) : (BitVec.ofInt w a).toNat = a.toNat := by
  rw [BitVec.toNat_ofInt]
  congr 1
  exact Int.emod_eq_of_lt h0 (by simpa using h)

theorem and_nat {k : IntKind} (hk : k.signed = false) {a b : Int} (ha : 0 ≤ a ∧ a < 2 ^ k.bits) (hb : 0 ≤ b ∧ b < 2 ^ k.bits) : realBin .and k a b = ((a.toNat &&& b.toNat : Nat) : Int) := by
  have h1 : a.toNat &&& b.toNat < 2 ^ k.bits := Nat.and_lt_two_pow _ ((Int.toNat_lt hb.1).2 (by simpa using hb.2))
  simp only [realBin, IntKind.wrap, hk, BitVec.toNat_and, ofInt_nat ha.1 ha.2, ofInt_nat hb.1 hb.2, Bool.false_and, Bool.false_eq_true, if_false]
  exact Int.emod_eq_of_lt (Int.natCast_nonneg _) (by exact_mod_cast h1)

theorem or_nat {k : IntKind} (hk : k.signed = false) {a b : Int} (ha : 0 ≤ a ∧ a < 2 ^ k.bits) (hb : 0 ≤ b ∧ b < 2 ^ k.bits) : realBin .or k a b = ((a.toNat ||| b.toNat : Nat) : Int) := by
  have h1 : a.toNat ||| b.toNat < 2 ^ k.bits := Nat.or_lt_two_pow ((Int.toNat_lt ha.1).2 (by simpa using ha.2)) ((Int.toNat_lt hb.1).2 (by simpa using hb.2))
  simp only [realBin, IntKind.wrap, hk, BitVec.toNat_or, ofInt_nat ha.1 ha.2, ofInt_nat hb.1 hb.2, Bool.false_and, Bool.false_eq_true, if_false]
  exact Int.emod_eq_of_lt (Int.natCast_nonneg _) (by exact_mod_cast h1)

theorem and_mask {k : IntKind} (hk : k.signed = false) {a : Int} (ha : 0 ≤ a ∧ a < 2 ^ k.bits) (s : Nat) (hs : s ≤ k.bits) : realBin .and k a (2 ^ s - 1) = a % 2 ^ s := by
  have hp : (0 : Int) < 2 ^ s := Int.pow_pos (by decide)
  have hle : (2 : Int) ^ s ≤ 2 ^ k.bits := by exact_mod_cast Nat.pow_le_pow_right (by decide) hs
  rw [and_nat hk ha ⟨by omega, by omega⟩]
  obtain ⟨n, rfl⟩ := Int.eq_ofNat_of_zero_le ha.1
  have e : ((2 : Int) ^ s - 1).toNat = 2 ^ s - 1 := by
    have : ((2 : Int) ^ s) = ((2 ^ s : Nat) : Int) := by simp
    rw [this]
    have h1 : 1 ≤ 2 ^ s := Nat.one_le_two_pow
    omega
  rw [e, Int.toNat_natCast, Nat.and_two_pow_sub_one_eq_mod]
  simp

theorem or_apart {k : IntKind} (hk : k.signed = false) {x y : Int} (s : Nat) (hx : 0 ≤ x ∧ x < 2 ^ k.bits) (hd : x % 2 ^ s = 0) (hy : 0 ≤ y ∧ y < 2 ^ s) (hs : s ≤ k.bits) : realBin .or k x y = x + y := by
  have hle : (2 : Int) ^ s ≤ 2 ^ k.bits := by exact_mod_cast Nat.pow_le_pow_right (by decide) hs
  rw [or_nat hk hx ⟨hy.1, by omega⟩]
  obtain ⟨n, rfl⟩ := Int.eq_ofNat_of_zero_le hx.1
  obtain ⟨m, rfl⟩ := Int.eq_ofNat_of_zero_le hy.1
  have hm : m < 2 ^ s := by
    have := hy.2
    exact_mod_cast this
  have hd' : n % 2 ^ s = 0 := by exact_mod_cast hd
  have e : n = 2 ^ s * (n / 2 ^ s) := by
    have := Nat.div_add_mod n (2 ^ s)
    omega
  simp only [Int.toNat_natCast]
  conv => lhs; rw [e]
  rw [← Nat.two_pow_add_eq_or_of_lt hm, ← e]
  simp

theorem or_comm' {k : IntKind} (x y : Int) : realBin .or k x y = realBin .or k y x := by
  simp only [realBin, BitVec.or_comm]

theorem quo_i64 {a b : Int} (ha : 0 ≤ a ∧ a < 9223372036854775808) (hb : 0 < b) : realBin .quo .i64 a b = a / b := by
  have h1 : a.tdiv b = a / b := Int.tdiv_eq_ediv_of_nonneg ha.1
  have h2 : 0 ≤ a / b := Int.ediv_nonneg ha.1 (by omega)
  have h3 : a / b ≤ a := Int.ediv_le_self b ha.1
  show IntKind.wrap .i64 (a.tdiv b) = _
  rw [h1, wrap_i64 (by omega)]
theorem rem_i64 {k : IntKind} {a b : Int} (ha : 0 ≤ a) : realBin .rem k a b = a % b := Int.tmod_eq_emod_of_nonneg ha
theorem add_i64 {a b : Int} (h : -9223372036854775808 ≤ a + b ∧ a + b < 9223372036854775808) : realBin .add .i64 a b = a + b := wrap_i64 h
theorem sub_i64 {a b : Int} (h : -9223372036854775808 ≤ a - b ∧ a - b < 9223372036854775808) : realBin .sub .i64 a b = a - b := wrap_i64 h
theorem mul_i64 {a b : Int} (h : -9223372036854775808 ≤ a * b ∧ a * b < 9223372036854775808) : realBin .mul .i64 a b = a * b := wrap_i64 h
end Sx

/-
  Numbers modulo 2^255 - 19 as five digits to the base 2^51: what settling, loading and the form as bytes come to.
-/
namespace Sx
open Go

abbrev uadd (a b : Int) : Int := realBin .add .u64 a b
abbrev usub (a b : Int) : Int := realBin .sub .u64 a b
abbrev umul (a b : Int) : Int := realBin .mul .u64 a b
abbrev ushr (a b : Int) : Int := realBin .shr .u64 a b
abbrev ushl (a b : Int) : Int := realBin .shl .u64 a b
abbrev uand (a b : Int) : Int := realBin .and .u64 a b
abbrev uor (a b : Int) : Int := realBin .or .u64 a b
abbrev u8of (a : Int) : Int := IntKind.wrap .u8 a
abbrev u64of (a : Int) : Int := IntKind.wrap .u64 a

/-- p = 2^255 - 19. -/
abbrev p25 : Int := 57896044618658097711785492504343953926634992332820282019728792003956564819949

/-- A function given by a list of its first values. -/
def fnOf (l : List Int) : Nat → Int := fun i => l.getD i 0

/-- The number of the first bytes, the lowest first. -/
def num : Nat → (Nat → Int) → Int
  | 0, _ => 0
  | n + 1, f => f 0 + 256 * num n (fun i => f (i + 1))

/-- The bytes of a number. -/
def byt (n : Int) : Nat → Int := fun i => n / 256 ^ i % 256

def IsBytes (n : Nat) (f : Nat → Int) : Prop := ∀ i, i < n → 0 ≤ f i ∧ f i < 256

theorem num_bounds : ∀ (n : Nat) (f : Nat → Int), IsBytes n f → 0 ≤ num n f ∧ num n f < 256 ^ n
  | 0, f, _ => by simp [num]
  | n + 1, f, h => by
    obtain ⟨h1, h2⟩ := num_bounds n (fun i => f (i + 1)) (fun i hi => h (i + 1) (by omega))
    have h0 := h 0 (by omega)
    simp only [num]
    rw [Int.pow_succ]
    omega

theorem byt_num : ∀ (n : Nat) (f : Nat → Int), IsBytes n f → ∀ i, i < n → byt (num n f) i = f i
  | 0, _, _, i, hi => by omega
  | n + 1, f, h, i, hi => by
    have hb := num_bounds n (fun i => f (i + 1)) (fun i hi => h (i + 1) (by omega))
    have h0 := h 0 (by omega)
    cases i with
    | zero => simp only [byt, num, Int.pow_zero, Int.ediv_one]; omega
    | succ i =>
      have ih := byt_num n (fun i => f (i + 1)) (fun i hi => h (i + 1) (by omega)) i (by omega)
      simp only [byt, num] at ih ⊢
      rw [Int.pow_succ', ← Int.ediv_ediv_of_nonneg (by decide)]
      have e : (f 0 + 256 * num n (fun i => f (i + 1))) / 256 = num n (fun i => f (i + 1)) := by omega
      rw [e, ih]

theorem byt_isBytes (m : Int) (n : Nat) : IsBytes n (byt m) := fun i _ => by simp only [byt]; omega

theorem num_byt : ∀ (n : Nat) (m : Int), 0 ≤ m → m < 256 ^ n → num n (byt m) = m
  | 0, m, h0, h => by simp only [num]; simp at h; omega
  | n + 1, m, h0, h => by
    simp only [num]
    have e : (fun i => byt m (i + 1)) = byt (m / 256) := by
      funext i
      simp only [byt]
      rw [Int.pow_succ', ← Int.ediv_ediv_of_nonneg (by decide)]
    rw [Int.pow_succ] at h
    rw [e, num_byt n (m / 256) (by omega) (by omega)]
    simp only [byt, Int.pow_zero, Int.ediv_one]
    omega

theorem num_congr : ∀ (n : Nat) {f g : Nat → Int}, (∀ i, i < n → f i = g i) → num n f = num n g
  | 0, _, _, _ => rfl
  | n + 1, f, g, h => by
    simp only [num]
    rw [h 0 (by omega), num_congr n (fun i hi => h (i + 1) (by omega))]

theorem num_inj {n : Nat} {f g : Nat → Int} (hf : IsBytes n f) (hg : IsBytes n g) (h : num n f = num n g) : ∀ i, i < n → f i = g i := fun i hi => by
  rw [← byt_num n f hf i hi, h, byt_num n g hg i hi]

theorem eqA_num {n : Nat} {f g : Nat → Int} (hf : IsBytes n f) (hg : IsBytes n g) : realEqA n f g = (num n f == num n g) := by
  rw [Bool.eq_iff_iff]
  simp only [realEqA, List.all_eq_true, List.mem_range, beq_iff_eq]
  exact ⟨fun h => num_congr n h, fun h => num_inj hf hg h⟩

/-! Settling. -/

def rnd (l : Nat → Int) : Nat → Int :=
  let s1 := uadd (l 1) (ushr (l 0) 51)
  let s2 := uadd (l 2) (ushr s1 51)
  let s3 := uadd (l 3) (ushr s2 51)
  let s4 := uadd (l 4) (ushr s3 51)
  fnOf [uadd (uand (l 0) 2251799813685247) (umul 19 (ushr s4 51)), uand s1 2251799813685247, uand s2 2251799813685247, uand s3 2251799813685247, uand s4 2251799813685247]

def settleF (l : Nat → Int) : Nat → Int := rnd (rnd l)

def lim (l : Nat → Int) : Int := l 0 + 2251799813685248 * (l 1 + 2251799813685248 * (l 2 + 2251799813685248 * (l 3 + 2251799813685248 * l 4)))

/-- Digits that are not too great. -/
def LFit (l : Nat → Int) : Prop := ∀ i, i < 5 → 0 ≤ l i ∧ l i ≤ 9223372036854775808
/-- Digits as they are behind settling. -/
def Tidy (l : Nat → Int) : Prop := (0 ≤ l 0 ∧ l 0 < 2251799813685267) ∧ ∀ i, 0 < i → i < 5 → 0 ≤ l i ∧ l i < 2251799813685248

theorem Tidy.fit {l : Nat → Int} (h : Tidy l) : LFit l := fun i hi => by
  obtain ⟨h0, h1⟩ := h
  rcases Nat.eq_zero_or_pos i with rfl | hp
  · omega
  · have := h1 i hp hi; omega

theorem ushr51 (a : Int) : ushr a 51 = a / 2251799813685248 := shr_any .u64 a 51 (by decide)
theorem uand51 {a : Int} (h : 0 ≤ a ∧ a < 18446744073709551616) : uand a 2251799813685247 = a % 2251799813685248 := and_mask (k := .u64) rfl h 51 (by decide)

/-- One round, in plain numbers. -/
theorem rnd_eq {l : Nat → Int} (h : LFit l) : ∃ s1 s2 s3 s4, s1 = l 1 + l 0 / 2251799813685248 ∧ s2 = l 2 + s1 / 2251799813685248 ∧ s3 = l 3 + s2 / 2251799813685248 ∧ s4 = l 4 + s3 / 2251799813685248 ∧
    rnd l = fnOf [l 0 % 2251799813685248 + 19 * (s4 / 2251799813685248), s1 % 2251799813685248, s2 % 2251799813685248, s3 % 2251799813685248, s4 % 2251799813685248] := by
  have h0 := h 0 (by omega)
  have h1 := h 1 (by omega)
  have h2 := h 2 (by omega)
  have h3 := h 3 (by omega)
  have h4 := h 4 (by omega)
  refine ⟨_, _, _, _, rfl, rfl, rfl, rfl, ?_⟩
  have e1 : uadd (l 1) (ushr (l 0) 51) = l 1 + l 0 / 2251799813685248 := by rw [ushr51, uadd, add_u64]; omega
  have e2 : uadd (l 2) (ushr (l 1 + l 0 / 2251799813685248) 51) = l 2 + (l 1 + l 0 / 2251799813685248) / 2251799813685248 := by rw [ushr51, uadd, add_u64]; omega
  generalize hs1 : l 1 + l 0 / 2251799813685248 = s1 at *
  have e3 : uadd (l 3) (ushr (l 2 + s1 / 2251799813685248) 51) = l 3 + (l 2 + s1 / 2251799813685248) / 2251799813685248 := by rw [ushr51, uadd, add_u64]; omega
  generalize hs2 : l 2 + s1 / 2251799813685248 = s2 at *
  have e4 : uadd (l 4) (ushr (l 3 + s2 / 2251799813685248) 51) = l 4 + (l 3 + s2 / 2251799813685248) / 2251799813685248 := by rw [ushr51, uadd, add_u64]; omega
  generalize hs3 : l 3 + s2 / 2251799813685248 = s3 at *
  generalize hs4 : l 4 + s3 / 2251799813685248 = s4 at *
  have e0 : uadd (uand (l 0) 2251799813685247) (umul 19 (ushr s4 51)) = l 0 % 2251799813685248 + 19 * (s4 / 2251799813685248) := by
    rw [uand51 (by omega), ushr51, umul, mul_u64, uadd, add_u64]; omega
  simp only [rnd]
  rw [e1, e2, e3, e4, e0, uand51 (by omega), uand51 (by omega), uand51 (by omega), uand51 (by omega)]

theorem fnOf_0 (a b c d e : Int) : fnOf [a, b, c, d, e] 0 = a := rfl
theorem fnOf_1 (a b c d e : Int) : fnOf [a, b, c, d, e] 1 = b := rfl
theorem fnOf_2 (a b c d e : Int) : fnOf [a, b, c, d, e] 2 = c := rfl
theorem fnOf_3 (a b c d e : Int) : fnOf [a, b, c, d, e] 3 = d := rfl
theorem fnOf_4 (a b c d e : Int) : fnOf [a, b, c, d, e] 4 = e := rfl

theorem each5 {q : Nat → Prop} (h0 : q 0) (h1 : q 1) (h2 : q 2) (h3 : q 3) (h4 : q 4) : ∀ i, i < 5 → q i := fun i hi =>
  match i, hi with
  | 0, _ => h0
  | 1, _ => h1
  | 2, _ => h2
  | 3, _ => h3
  | 4, _ => h4

theorem rnd_lim {l : Nat → Int} (h : LFit l) : lim (rnd l) % p25 = lim l % p25 := by
  obtain ⟨s1, s2, s3, s4, r1, r2, r3, r4, hr⟩ := rnd_eq h
  rw [hr]
  have e : lim (fnOf [l 0 % 2251799813685248 + 19 * (s4 / 2251799813685248), s1 % 2251799813685248, s2 % 2251799813685248, s3 % 2251799813685248, s4 % 2251799813685248]) = lim l - p25 * (s4 / 2251799813685248) := by
    simp only [lim, fnOf_0, fnOf_1, fnOf_2, fnOf_3, fnOf_4, p25]
    omega
  rw [e]
  simp [Int.sub_emod]

theorem rnd_tame {l : Nat → Int} (h : LFit l) : (0 ≤ rnd l 0 ∧ rnd l 0 < 2251799813763091) ∧ ∀ i, 0 < i → i < 5 → 0 ≤ rnd l i ∧ rnd l i < 2251799813685248 := by
  obtain ⟨s1, s2, s3, s4, r1, r2, r3, r4, hr⟩ := rnd_eq h
  have h0 := h 0 (by omega)
  have h1 := h 1 (by omega)
  have h2 := h 2 (by omega)
  have h3 := h 3 (by omega)
  have h4 := h 4 (by omega)
  rw [hr]
  refine ⟨by rw [fnOf_0]; omega, fun i hp hi => ?_⟩
  match i, hp, hi with
  | 1, _, _ => rw [fnOf_1]; omega
  | 2, _, _ => rw [fnOf_2]; omega
  | 3, _, _ => rw [fnOf_3]; omega
  | 4, _, _ => rw [fnOf_4]; omega

theorem settle_spec {l : Nat → Int} (h : LFit l) : lim (settleF l) % p25 = lim l % p25 ∧ Tidy (settleF l) := by
  obtain ⟨t0, t1⟩ := rnd_tame h
  have hf : LFit (rnd l) := each5 (by omega) (by have := t1 1; omega) (by have := t1 2; omega) (by have := t1 3; omega) (by have := t1 4; omega)
  refine ⟨(rnd_lim hf).trans (rnd_lim h), ?_⟩
  obtain ⟨s1, s2, s3, s4, r1, r2, r3, r4, hr⟩ := rnd_eq hf
  have h1 := t1 1 (by omega) (by omega)
  have h2 := t1 2 (by omega) (by omega)
  have h3 := t1 3 (by omega) (by omega)
  have h4 := t1 4 (by omega) (by omega)
  show Tidy (rnd (rnd l))
  rw [hr]
  refine ⟨by rw [fnOf_0]; omega, fun i hp hi => ?_⟩
  match i, hp, hi with
  | 1, _, _ => rw [fnOf_1]; omega
  | 2, _, _ => rw [fnOf_2]; omega
  | 3, _, _ => rw [fnOf_3]; omega
  | 4, _, _ => rw [fnOf_4]; omega
end Sx

/-
  Loading, sums, differences, products and the form as bytes: what they come to.
-/
namespace Sx
open Go

def wordF (f : Nat → Int) : Int := f 0 + 256 * (f 1 + 256 * (f 2 + 256 * (f 3 + 256 * (f 4 + 256 * (f 5 + 256 * (f 6 + 256 * f 7))))))

theorem wordF_bounds {f : Nat → Int} (h : IsBytes 8 f) : 0 ≤ wordF f ∧ wordF f < 18446744073709551616 := by
  have h0 := h 0 (by omega)
  have h1 := h 1 (by omega)
  have h2 := h 2 (by omega)
  have h3 := h 3 (by omega)
  have h4 := h 4 (by omega)
  have h5 := h 5 (by omega)
  have h6 := h 6 (by omega)
  have h7 := h 7 (by omega)
  unfold wordF
  omega

theorem word_step {x y : Int} (hx : 0 ≤ x ∧ x < 72057594037927936) (hy : 0 ≤ y ∧ y < 256) : uor (ushl x 8) (u64of y) = 256 * x + y := by
  show realBin .or .u64 (realBin .shl .u64 x (8 : Nat)) (IntKind.wrap .u64 y) = _
  rw [shl_u64 _ 8 (by decide), wrap_u64, Int.emod_eq_of_lt (a := y) (by omega) (by omega), Int.emod_eq_of_lt (by omega) (by omega), or_apart rfl 8 (by simp [IntKind.bits]; omega) (by simp) (by simp; omega) (by decide)]
  omega

theorem word_first {y : Int} (hy : 0 ≤ y ∧ y < 256) : uor 0 (u64of y) = y := by
  show realBin .or .u64 0 (IntKind.wrap .u64 y) = _
  rw [wrap_u64, Int.emod_eq_of_lt (by omega) (by omega), or_apart rfl 8 (by decide) (by decide) (by omega) (by decide), Int.zero_add]

def wordR (f : Nat → Int) : Int := uor (ushl (uor (ushl (uor (ushl (uor (ushl (uor (ushl (uor (ushl (uor (ushl (uor 0 (u64of (f 7))) 8) (u64of (f 6))) 8) (u64of (f 5))) 8) (u64of (f 4))) 8) (u64of (f 3))) 8) (u64of (f 2))) 8) (u64of (f 1))) 8) (u64of (f 0))

theorem wordR_eq {f : Nat → Int} (h : IsBytes 8 f) : wordR f = wordF f := by
  have h0 := h 0 (by omega)
  have h1 := h 1 (by omega)
  have h2 := h 2 (by omega)
  have h3 := h 3 (by omega)
  have h4 := h 4 (by omega)
  have h5 := h 5 (by omega)
  have h6 := h 6 (by omega)
  have h7 := h 7 (by omega)
  unfold wordR
  rw [word_first h7, word_step (by omega) h6, word_step (by omega) h5, word_step (by omega) h4, word_step (by omega) h3, word_step (by omega) h2, word_step (by omega) h1, word_step (by omega) h0]
  unfold wordF
  omega

/-! Loading. -/

def loadP (w0 w1 w2 w3 : Int) : Nat → Int := fnOf [uand w0 2251799813685247, uand (uor (ushr w0 51) (ushl w1 13)) 2251799813685247, uand (uor (ushr w1 38) (ushl w2 26)) 2251799813685247, uand (uor (ushr w2 25) (ushl w3 39)) 2251799813685247, ushr w3 12]

theorem or_shift {x y : Int} (s t : Nat) (hs : s + t = 64) (hx : 0 ≤ x ∧ x < 18446744073709551616) (_hy : 0 ≤ y ∧ y < 18446744073709551616) (ht : 0 < t) :
    uor (ushr x s) (ushl y t) = x / 2 ^ s + (y * 2 ^ t) % 18446744073709551616 := by
  show realBin .or .u64 (realBin .shr .u64 x s) (realBin .shl .u64 y t) = _
  rw [shr_any _ _ s (by simp [IntKind.bits]; omega), shl_u64 _ t (by omega), or_comm']
  have hp : (0 : Int) < 2 ^ s := Int.pow_pos (by decide)
  have e : (18446744073709551616 : Int) = 2 ^ t * 2 ^ s := by
    rw [← Int.pow_add, Nat.add_comm t s, hs]; rfl
  rw [or_apart rfl t]
  · omega
  · exact ⟨Int.emod_nonneg _ (by decide), by simpa [IntKind.bits] using Int.emod_lt_of_pos _ (by decide)⟩
  · rw [e, Int.emod_emod_of_dvd _ (Int.dvd_mul_right _ _)]
    simp
  · refine ⟨Int.ediv_nonneg hx.1 (Int.le_of_lt hp), ?_⟩
    apply Int.ediv_lt_of_lt_mul hp
    rw [← e]; exact hx.2
  · simp [IntKind.bits]; omega

def loadF (f : Nat → Int) : Nat → Int := settleF (loadP (wordF f) (wordF fun i => f (8 + i)) (wordF fun i => f (16 + i)) (wordF fun i => f (24 + i)))

theorem loadP_eq {w0 w1 w2 w3 : Int} (h0 : 0 ≤ w0 ∧ w0 < 18446744073709551616) (h1 : 0 ≤ w1 ∧ w1 < 18446744073709551616) (h2 : 0 ≤ w2 ∧ w2 < 18446744073709551616) (h3 : 0 ≤ w3 ∧ w3 < 18446744073709551616) :
    loadP w0 w1 w2 w3 = fnOf [w0 % 2251799813685248, (w0 / 2251799813685248 + (w1 * 8192) % 18446744073709551616) % 2251799813685248, (w1 / 274877906944 + (w2 * 67108864) % 18446744073709551616) % 2251799813685248,
      (w2 / 33554432 + (w3 * 549755813888) % 18446744073709551616) % 2251799813685248, w3 / 4096] := by
  have a1 : uor (ushr w0 51) (ushl w1 13) = w0 / 2251799813685248 + (w1 * 8192) % 18446744073709551616 := or_shift 51 13 rfl h0 h1 (by decide)
  have a2 : uor (ushr w1 38) (ushl w2 26) = w1 / 274877906944 + (w2 * 67108864) % 18446744073709551616 := or_shift 38 26 rfl h1 h2 (by decide)
  have a3 : uor (ushr w2 25) (ushl w3 39) = w2 / 33554432 + (w3 * 549755813888) % 18446744073709551616 := or_shift 25 39 rfl h2 h3 (by decide)
  have a4 : ushr w3 12 = w3 / 4096 := shr_any .u64 w3 12 (by decide)
  unfold loadP
  rw [a1, a2, a3, a4, uand51 h0, uand51 (by omega), uand51 (by omega), uand51 (by omega)]

theorem num32 (f : Nat → Int) : num 32 f = wordF f + 18446744073709551616 * (wordF (fun i => f (8 + i)) + 18446744073709551616 * (wordF (fun i => f (16 + i)) + 18446744073709551616 * wordF fun i => f (24 + i))) := by
  simp only [num, wordF, Nat.reduceAdd, Nat.add_zero]
  omega

theorem loadP_lim {w0 w1 w2 w3 : Int} (h0 : 0 ≤ w0 ∧ w0 < 18446744073709551616) (h1 : 0 ≤ w1 ∧ w1 < 18446744073709551616) (h2 : 0 ≤ w2 ∧ w2 < 18446744073709551616) (h3 : 0 ≤ w3 ∧ w3 < 18446744073709551616) :
    lim (loadP w0 w1 w2 w3) = w0 + 18446744073709551616 * (w1 + 18446744073709551616 * (w2 + 18446744073709551616 * w3)) ∧ LFit (loadP w0 w1 w2 w3) := by
  rw [loadP_eq h0 h1 h2 h3]
  constructor
  · simp only [lim, fnOf_0, fnOf_1, fnOf_2, fnOf_3, fnOf_4]
    omega
  · exact each5 (by rw [fnOf_0]; omega) (by rw [fnOf_1]; omega) (by rw [fnOf_2]; omega) (by rw [fnOf_3]; omega) (by rw [fnOf_4]; omega)

theorem IsBytes.part {f : Nat → Int} (h : IsBytes 32 f) (o : Nat) (ho : o + 8 ≤ 32) : IsBytes 8 fun i => f (o + i) := fun i hi => h (o + i) (by omega)

theorem load_fit {f : Nat → Int} (h : IsBytes 32 f) : LFit (loadP (wordF f) (wordF fun i => f (8 + i)) (wordF fun i => f (16 + i)) (wordF fun i => f (24 + i))) :=
  (loadP_lim (wordF_bounds fun i hi => h i (by omega)) (wordF_bounds (h.part 8 (by omega))) (wordF_bounds (h.part 16 (by omega))) (wordF_bounds (h.part 24 (by omega)))).2

theorem load_spec {f : Nat → Int} (h : IsBytes 32 f) : lim (loadF f) % p25 = num 32 f % p25 ∧ Tidy (loadF f) := by
  obtain ⟨a, b⟩ := loadP_lim (wordF_bounds fun i hi => h i (by omega)) (wordF_bounds (h.part 8 (by omega))) (wordF_bounds (h.part 16 (by omega))) (wordF_bounds (h.part 24 (by omega)))
  obtain ⟨c, d⟩ := settle_spec b
  refine ⟨?_, d⟩
  rw [num32, ← a]
  exact c

/-! Sums and differences. -/

def addP (l m : Nat → Int) : Nat → Int := fnOf [uadd (l 0) (m 0), uadd (l 1) (m 1), uadd (l 2) (m 2), uadd (l 3) (m 3), uadd (l 4) (m 4)]
def subP (l m : Nat → Int) : Nat → Int := fnOf [uadd (l 0) (usub 4503599627370458 (m 0)), uadd (l 1) (usub 4503599627370494 (m 1)), uadd (l 2) (usub 4503599627370494 (m 2)), uadd (l 3) (usub 4503599627370494 (m 3)), uadd (l 4) (usub 4503599627370494 (m 4))]

theorem uadd_eq {a b : Int} (h : 0 ≤ a + b ∧ a + b < 18446744073709551616) : uadd a b = a + b := by rw [uadd, add_u64]; omega
theorem usub_eq {a b : Int} (h : 0 ≤ a - b ∧ a - b < 18446744073709551616) : usub a b = a - b := by rw [usub, sub_u64]; omega

theorem Tidy.all {l : Nat → Int} (h : Tidy l) : (0 ≤ l 0 ∧ l 0 < 2251799813685267) ∧ (0 ≤ l 1 ∧ l 1 < 2251799813685248) ∧ (0 ≤ l 2 ∧ l 2 < 2251799813685248) ∧ (0 ≤ l 3 ∧ l 3 < 2251799813685248) ∧ (0 ≤ l 4 ∧ l 4 < 2251799813685248) :=
  ⟨h.1, h.2 1 (by omega) (by omega), h.2 2 (by omega) (by omega), h.2 3 (by omega) (by omega), h.2 4 (by omega) (by omega)⟩

theorem addP_spec {l m : Nat → Int} (hl : Tidy l) (hm : Tidy m) : LFit (addP l m) ∧ lim (addP l m) = lim l + lim m := by
  obtain ⟨a0, a1, a2, a3, a4⟩ := hl.all
  obtain ⟨b0, b1, b2, b3, b4⟩ := hm.all
  unfold addP
  rw [uadd_eq (by omega), uadd_eq (by omega), uadd_eq (by omega), uadd_eq (by omega), uadd_eq (by omega)]
  refine ⟨each5 (by rw [fnOf_0]; omega) (by rw [fnOf_1]; omega) (by rw [fnOf_2]; omega) (by rw [fnOf_3]; omega) (by rw [fnOf_4]; omega), ?_⟩
  simp only [lim, fnOf_0, fnOf_1, fnOf_2, fnOf_3, fnOf_4]
  omega

theorem subP_spec {l m : Nat → Int} (hl : Tidy l) (hm : Tidy m) : LFit (subP l m) ∧ lim (subP l m) = lim l - lim m + 2 * p25 := by
  obtain ⟨a0, a1, a2, a3, a4⟩ := hl.all
  obtain ⟨b0, b1, b2, b3, b4⟩ := hm.all
  unfold subP
  rw [usub_eq (by omega), usub_eq (by omega), usub_eq (by omega), usub_eq (by omega), usub_eq (by omega), uadd_eq (by omega), uadd_eq (by omega), uadd_eq (by omega), uadd_eq (by omega), uadd_eq (by omega)]
  refine ⟨each5 (by rw [fnOf_0]; omega) (by rw [fnOf_1]; omega) (by rw [fnOf_2]; omega) (by rw [fnOf_3]; omega) (by rw [fnOf_4]; omega), ?_⟩
  simp only [lim, fnOf_0, fnOf_1, fnOf_2, fnOf_3, fnOf_4, p25]
  omega
end Sx

/-
  Products by digits, and the form as bytes: what they come to.
-/
namespace Sx
open Go

/-! Sums and products of 64 bits with what is carried. -/
def adcS (x y c : Int) : Int := (x + y + c) % 18446744073709551616
def adcC (x y c : Int) : Int := if 18446744073709551616 ≤ x + y + c then 1 else 0
def sbbS (x y c : Int) : Int := (x - y - c) % 18446744073709551616
def sbbC (x y c : Int) : Int := if x < y + c then 1 else 0
def Bit01 (c : Int) : Prop := c = 0 ∨ c = 1
theorem bit01_0 : Bit01 0 := .inl rfl
theorem bit01_adc (x y c : Int) : Bit01 (adcC x y c) := by unfold Bit01 adcC; split <;> omega
theorem bit01_sbb (x y c : Int) : Bit01 (sbbC x y c) := by unfold Bit01 sbbC; split <;> omega

theorem two64 : (2 : Int) ^ IntKind.bits .u64 = 18446744073709551616 := rfl

def mulH (x y : Int) : Int :=
  let x0 := uand x 4294967295
  let x1 := ushr x 32
  let y0 := uand y 4294967295
  let y1 := ushr y 32
  let w0 := umul x0 y0
  let t := uadd (umul x1 y0) (ushr w0 32)
  let w1 := uand t 4294967295
  let w2 := ushr t 32
  let w3 := uadd w1 (umul x0 y1)
  uadd (uadd (umul x1 y1) w2) (ushr w3 32)

theorem mulH_eq {x y : Int} (hx : 0 ≤ x ∧ x < 18446744073709551616) (hy : 0 ≤ y ∧ y < 18446744073709551616) : mulH x y = x * y / 18446744073709551616 := by
  obtain ⟨X, rfl⟩ := Int.eq_ofNat_of_zero_le hx.1
  obtain ⟨Y, rfl⟩ := Int.eq_ofNat_of_zero_le hy.1
  have hX : X < 18446744073709551616 := by omega
  have hY : Y < 18446744073709551616 := by omega
  obtain ⟨h1, h2, h3, h4⟩ := Go.Lib.mul64_hi X Y hX hY
  have m : ∀ n : Nat, n < 18446744073709551616 → uand (n : Int) 4294967295 = ((n % 4294967296 : Nat) : Int) := fun n hn => by
    have := and_mask (k := .u64) rfl (a := (n : Int)) ⟨by omega, by rw [two64]; omega⟩ 32 (by decide)
    simpa using this
  have s : ∀ n : Nat, ushr (n : Int) 32 = ((n / 4294967296 : Nat) : Int) := fun n => by
    have := shr_any .u64 (n : Int) 32 (by decide)
    simpa using this
  have mu : ∀ a b : Nat, a * b < 18446744073709551616 → umul (a : Int) (b : Int) = ((a * b : Nat) : Int) := fun a b h => by
    rw [umul, mul_u64, Int.emod_eq_of_lt (Int.mul_nonneg (Int.natCast_nonneg _) (Int.natCast_nonneg _)) (by rw [← Int.natCast_mul]; omega)]
    simp
  have ad : ∀ a b : Nat, a + b < 18446744073709551616 → uadd (a : Int) (b : Int) = ((a + b : Nat) : Int) := fun a b h => by
    rw [uadd_eq (by omega)]; simp
  have hX0 := Nat.mod_lt X (show 0 < 4294967296 by decide)
  have hY0 := Nat.mod_lt Y (show 0 < 4294967296 by decide)
  have hX1 : X / 4294967296 ≤ 4294967295 := by omega
  have hY1 : Y / 4294967296 ≤ 4294967295 := by omega
  have b1 := Go.Lib.half_mul_le hX1 hY1
  have b2 := Go.Lib.half_mul_le hX1 (show Y % 4294967296 ≤ 4294967295 by omega)
  have b3 := Go.Lib.half_mul_le (show X % 4294967296 ≤ 4294967295 by omega) hY1
  have b4 := Go.Lib.half_mul_le (show X % 4294967296 ≤ 4294967295 by omega) (show Y % 4294967296 ≤ 4294967295 by omega)
  have hlast : X / 4294967296 * (Y / 4294967296) + (X / 4294967296 * (Y % 4294967296) + X % 4294967296 * (Y % 4294967296) / 4294967296) / 4294967296 < 18446744073709551616 := by omega
  have hfin : X * Y / 18446744073709551616 < 18446744073709551616 := by
    apply Nat.div_lt_of_lt_mul
    exact Nat.mul_lt_mul'' hX hY
  simp only [mulH]
  rw [m X hX, m Y hY, s X, s Y, mu _ _ (by omega), mu _ _ (by omega), mu _ _ (by omega), mu _ _ (by omega), s, ad _ _ h2, m _ h2, s, ad _ _ h3, s, ad _ _ hlast, ad _ _ (by rw [h4]; exact hfin), h4]
  simp
end Sx

/-
  Products of five digits.
-/
namespace Sx
open Go

def wideR (h l a b : Int) : Nat → Int := fnOf [adcS h (mulH a b) (adcC l (umul a b) 0), adcS l (umul a b) 0]

theorem wideR_eq {h l a b : Int} (hh : 0 ≤ h ∧ h < 18446744073709551616) (hl : 0 ≤ l ∧ l < 18446744073709551616) (ha : 0 ≤ a ∧ a < 18446744073709551616) (hb : 0 ≤ b ∧ b < 18446744073709551616)
    (hs : h * 18446744073709551616 + l + a * b < 340282366920938463463374607431768211456) :
    ∃ h' l', wideR h l a b = fnOf [h', l'] ∧ h' * 18446744073709551616 + l' = h * 18446744073709551616 + l + a * b ∧ (0 ≤ h' ∧ h' < 18446744073709551616) ∧ (0 ≤ l' ∧ l' < 18446744073709551616) := by
  refine ⟨_, _, rfl, ?_⟩
  have hp : 0 ≤ a * b := Int.mul_nonneg ha.1 hb.1
  rw [mulH_eq ha hb, umul, mul_u64]
  generalize a * b = p at *
  unfold adcS adcC
  split <;> omega

def tstep (w : Nat → Int) (a b : Int) : Nat → Int := wideR (w 0) (w 1) a b
def tzero : Nat → Int := fun _ => 0
def tsum (a0 b0 a1 b1 a2 b2 a3 b3 a4 b4 : Int) : Nat → Int := tstep (tstep (tstep (tstep (tstep tzero a0 b0) a1 b1) a2 b2) a3 b3) a4 b4

theorem tsum_eq {a0 b0 a1 b1 a2 b2 a3 b3 a4 b4 : Int} (hR : ∀ x ∈ [a0, b0, a1, b1, a2, b2, a3, b3, a4, b4], 0 ≤ x ∧ x < 18446744073709551616)
    (hs : a0 * b0 + a1 * b1 + a2 * b2 + a3 * b3 + a4 * b4 < 340282366920938463463374607431768211456) :
    ∃ h l, tsum a0 b0 a1 b1 a2 b2 a3 b3 a4 b4 = fnOf [h, l] ∧ h * 18446744073709551616 + l = a0 * b0 + a1 * b1 + a2 * b2 + a3 * b3 + a4 * b4 ∧ (0 ≤ h ∧ h < 18446744073709551616) ∧ (0 ≤ l ∧ l < 18446744073709551616) := by
  have A0 := hR a0 (by simp)
  have B0 := hR b0 (by simp)
  have A1 := hR a1 (by simp)
  have B1 := hR b1 (by simp)
  have A2 := hR a2 (by simp)
  have B2 := hR b2 (by simp)
  have A3 := hR a3 (by simp)
  have B3 := hR b3 (by simp)
  have A4 := hR a4 (by simp)
  have B4 := hR b4 (by simp)
  have p0 : 0 ≤ a0 * b0 := Int.mul_nonneg A0.1 B0.1
  have p1 : 0 ≤ a1 * b1 := Int.mul_nonneg A1.1 B1.1
  have p2 : 0 ≤ a2 * b2 := Int.mul_nonneg A2.1 B2.1
  have p3 : 0 ≤ a3 * b3 := Int.mul_nonneg A3.1 B3.1
  have p4 : 0 ≤ a4 * b4 := Int.mul_nonneg A4.1 B4.1
  have s : ∀ (w : Nat → Int) (h l a b : Int), w = fnOf [h, l] → tstep w a b = wideR h l a b := fun w h l a b e => by rw [e]; rfl
  obtain ⟨h0, l0, e0, v0, r0, q0⟩ := wideR_eq (h := 0) (l := 0) (by omega) (by omega) A0 B0 (by omega)
  have f0 : tstep tzero a0 b0 = fnOf [h0, l0] := e0
  obtain ⟨h1, l1, e1, v1, r1, q1⟩ := wideR_eq r0 q0 A1 B1 (by omega)
  have f1 := (s _ h0 l0 a1 b1 f0).trans e1
  obtain ⟨h2, l2, e2, v2, r2, q2⟩ := wideR_eq r1 q1 A2 B2 (by omega)
  have f2 := (s _ h1 l1 a2 b2 f1).trans e2
  obtain ⟨h3, l3, e3, v3, r3, q3⟩ := wideR_eq r2 q2 A3 B3 (by omega)
  have f3 := (s _ h2 l2 a3 b3 f2).trans e3
  obtain ⟨h4, l4, e4, v4, r4, q4⟩ := wideR_eq r3 q3 A4 B4 (by omega)
  have f4 := (s _ h3 l3 a4 b4 f3).trans e4
  exact ⟨h4, l4, f4, by omega, r4, q4⟩

/-- What is carried on. -/
def cLow (w : Nat → Int) (c : Int) : Int := adcS (w 1) c 0
def cHigh (w : Nat → Int) (c : Int) : Int := uadd (w 0) (adcC (w 1) c 0)
def cOut (w : Nat → Int) (c : Int) : Int := uand (cLow w c) 2251799813685247
def cNext (w : Nat → Int) (c : Int) : Int := uor (ushl (cHigh w c) 13) (ushr (cLow w c) 51)

theorem carry_eq {w : Nat → Int} {h l c : Int} (e : w = fnOf [h, l]) (hh : 0 ≤ h ∧ h < 1125899906842624) (hl : 0 ≤ l ∧ l < 18446744073709551616) (hc : 0 ≤ c ∧ c < 9223372036854775808) :
    cOut w c = (h * 18446744073709551616 + l + c) % 2251799813685248 ∧ cNext w c = (h * 18446744073709551616 + l + c) / 2251799813685248 := by
  subst e
  have e0 : fnOf [h, l] 0 = h := rfl
  have e1 : fnOf [h, l] 1 = l := rfl
  have hlow : 0 ≤ adcS l c 0 ∧ adcS l c 0 < 18446744073709551616 := by unfold adcS; omega
  have hcar : (adcC l c 0 = 0 ∨ adcC l c 0 = 1) ∧ l + c = adcC l c 0 * 18446744073709551616 + adcS l c 0 := by
    unfold adcC adcS
    split <;> omega
  have hhi : uadd h (adcC l c 0) = h + adcC l c 0 := uadd_eq (by omega)
  have hshl : ushl (h + adcC l c 0) 13 = (h + adcC l c 0) * 8192 := by
    show realBin .shl .u64 _ ((13 : Nat) : Int) = _
    rw [shl_u64 _ 13 (by decide)]
    omega
  constructor
  · simp only [cOut, cLow, e1]
    rw [uand51 hlow]
    omega
  · simp only [cNext, cHigh, cLow, e0, e1]
    rw [hhi, hshl, ushr51]
    have := or_apart (k := .u64) rfl (x := (h + adcC l c 0) * 8192) (y := adcS l c 0 / 2251799813685248) 13 ⟨by omega, by rw [two64]; omega⟩ (by omega) ⟨by omega, by omega⟩ (by decide)
    show realBin .or .u64 _ _ = _
    rw [this]
    omega

def timesP (l m : Nat → Int) : Nat → Int :=
  let s0 := tsum (l 0) (m 0) (l 1) (umul 19 (m 4)) (l 2) (umul 19 (m 3)) (l 3) (umul 19 (m 2)) (l 4) (umul 19 (m 1))
  let s1 := tsum (l 0) (m 1) (l 1) (m 0) (l 2) (umul 19 (m 4)) (l 3) (umul 19 (m 3)) (l 4) (umul 19 (m 2))
  let s2 := tsum (l 0) (m 2) (l 1) (m 1) (l 2) (m 0) (l 3) (umul 19 (m 4)) (l 4) (umul 19 (m 3))
  let s3 := tsum (l 0) (m 3) (l 1) (m 2) (l 2) (m 1) (l 3) (m 0) (l 4) (umul 19 (m 4))
  let s4 := tsum (l 0) (m 4) (l 1) (m 3) (l 2) (m 2) (l 3) (m 1) (l 4) (m 0)
  let c1 := cNext s0 0
  let c2 := cNext s1 c1
  let c3 := cNext s2 c2
  let c4 := cNext s3 c3
  let c5 := cNext s4 c4
  fnOf [uadd (cOut s0 0) (umul 19 c5), cOut s1 c1, cOut s2 c2, cOut s3 c3, cOut s4 c4]

def timesF (l m : Nat → Int) : Nat → Int := settleF (timesP l m)

theorem prod_bound {a b : Int} (ha : 0 ≤ a ∧ a < 2251799813685267) (hb : 0 ≤ b ∧ b < 2251799813685267) : 0 ≤ a * b ∧ a * b ≤ 5070602400913003174379732861289 := by
  refine ⟨Int.mul_nonneg ha.1 hb.1, ?_⟩
  have h1 : a * b ≤ 2251799813685267 * 2251799813685267 := Int.mul_le_mul (by omega) (by omega) hb.1 (by omega)
  omega

theorem mul_id (t x0 x1 x2 x3 x4 y0 y1 y2 y3 y4 : Int) :
    x0 * y0 + 19 * (x1 * y4) + 19 * (x2 * y3) + 19 * (x3 * y2) + 19 * (x4 * y1) + 2251799813685248 * (x0 * y1 + x1 * y0 + 19 * (x2 * y4) + 19 * (x3 * y3) + 19 * (x4 * y2) + 2251799813685248 * (x0 * y2 + x1 * y1 + x2 * y0 + 19 * (x3 * y4) + 19 * (x4 * y3) +
        2251799813685248 * (x0 * y3 + x1 * y2 + x2 * y1 + x3 * y0 + 19 * (x4 * y4) + 2251799813685248 * (x0 * y4 + x1 * y3 + x2 * y2 + x3 * y1 + x4 * y0)))) - 57896044618658097711785492504343953926634992332820282019728792003956564819949 * t =
      (x0 + 2251799813685248 * (x1 + 2251799813685248 * (x2 + 2251799813685248 * (x3 + 2251799813685248 * x4)))) * (y0 + 2251799813685248 * (y1 + 2251799813685248 * (y2 + 2251799813685248 * (y3 + 2251799813685248 * y4)))) -
      57896044618658097711785492504343953926634992332820282019728792003956564819949 * (t + ((x1 * y4 + x2 * y3 + x3 * y2 + x4 * y1) + 2251799813685248 * ((x2 * y4 + x3 * y3 + x4 * y2) + 2251799813685248 * ((x3 * y4 + x4 * y3) + 2251799813685248 * (x4 * y4))))) := by
  grind

theorem timesP_spec {l m : Nat → Int} (hl : Tidy l) (hm : Tidy m) : LFit (timesP l m) ∧ ∃ q, lim (timesP l m) = lim l * lim m - p25 * q := by
  obtain ⟨a0, a1, a2, a3, a4⟩ := hl.all
  obtain ⟨b0, b1, b2, b3, b4⟩ := hm.all
  have u : ∀ x : Int, 0 ≤ x ∧ x < 2251799813685267 → umul 19 x = 19 * x := fun x hx => by rw [umul, mul_u64]; omega
  have w : ∀ x y : Int, x * (19 * y) = 19 * (x * y) := fun x y => by rw [Int.mul_left_comm]
  generalize hx0 : l 0 = x0 at *
  generalize hx1 : l 1 = x1 at *
  generalize hx2 : l 2 = x2 at *
  generalize hx3 : l 3 = x3 at *
  generalize hx4 : l 4 = x4 at *
  generalize hy0 : m 0 = y0 at *
  generalize hy1 : m 1 = y1 at *
  generalize hy2 : m 2 = y2 at *
  generalize hy3 : m 3 = y3 at *
  generalize hy4 : m 4 = y4 at *
  have P00 := prod_bound (a := x0) (b := y0) (by omega) (by omega)
  have P01 := prod_bound (a := x0) (b := y1) (by omega) (by omega)
  have P02 := prod_bound (a := x0) (b := y2) (by omega) (by omega)
  have P03 := prod_bound (a := x0) (b := y3) (by omega) (by omega)
  have P04 := prod_bound (a := x0) (b := y4) (by omega) (by omega)
  have P10 := prod_bound (a := x1) (b := y0) (by omega) (by omega)
  have P11 := prod_bound (a := x1) (b := y1) (by omega) (by omega)
  have P12 := prod_bound (a := x1) (b := y2) (by omega) (by omega)
  have P13 := prod_bound (a := x1) (b := y3) (by omega) (by omega)
  have P14 := prod_bound (a := x1) (b := y4) (by omega) (by omega)
  have P20 := prod_bound (a := x2) (b := y0) (by omega) (by omega)
  have P21 := prod_bound (a := x2) (b := y1) (by omega) (by omega)
  have P22 := prod_bound (a := x2) (b := y2) (by omega) (by omega)
  have P23 := prod_bound (a := x2) (b := y3) (by omega) (by omega)
  have P24 := prod_bound (a := x2) (b := y4) (by omega) (by omega)
  have P30 := prod_bound (a := x3) (b := y0) (by omega) (by omega)
  have P31 := prod_bound (a := x3) (b := y1) (by omega) (by omega)
  have P32 := prod_bound (a := x3) (b := y2) (by omega) (by omega)
  have P33 := prod_bound (a := x3) (b := y3) (by omega) (by omega)
  have P34 := prod_bound (a := x3) (b := y4) (by omega) (by omega)
  have P40 := prod_bound (a := x4) (b := y0) (by omega) (by omega)
  have P41 := prod_bound (a := x4) (b := y1) (by omega) (by omega)
  have P42 := prod_bound (a := x4) (b := y2) (by omega) (by omega)
  have P43 := prod_bound (a := x4) (b := y3) (by omega) (by omega)
  have P44 := prod_bound (a := x4) (b := y4) (by omega) (by omega)
  have rng : ∀ z : Int, 0 ≤ z ∧ z < 2251799813685267 → 0 ≤ z ∧ z < 18446744073709551616 := fun z hz => by omega
  have rng' : ∀ z : Int, 0 ≤ z ∧ z < 2251799813685267 → 0 ≤ 19 * z ∧ 19 * z < 18446744073709551616 := fun z hz => by omega
  obtain ⟨h0, l0, e0, v0, r0, q0⟩ := tsum_eq (a0 := x0) (b0 := y0) (a1 := x1) (b1 := 19 * y4) (a2 := x2) (b2 := 19 * y3) (a3 := x3) (b3 := 19 * y2) (a4 := x4) (b4 := 19 * y1)
    (by simp only [List.mem_cons, List.not_mem_nil, or_false, forall_eq_or_imp, forall_eq]; omega) (by simp only [w]; omega)
  obtain ⟨h1, l1, e1, v1, r1, q1⟩ := tsum_eq (a0 := x0) (b0 := y1) (a1 := x1) (b1 := y0) (a2 := x2) (b2 := 19 * y4) (a3 := x3) (b3 := 19 * y3) (a4 := x4) (b4 := 19 * y2)
    (by simp only [List.mem_cons, List.not_mem_nil, or_false, forall_eq_or_imp, forall_eq]; omega) (by simp only [w]; omega)
  obtain ⟨h2, l2, e2, v2, r2, q2⟩ := tsum_eq (a0 := x0) (b0 := y2) (a1 := x1) (b1 := y1) (a2 := x2) (b2 := y0) (a3 := x3) (b3 := 19 * y4) (a4 := x4) (b4 := 19 * y3)
    (by simp only [List.mem_cons, List.not_mem_nil, or_false, forall_eq_or_imp, forall_eq]; omega) (by simp only [w]; omega)
  obtain ⟨h3, l3, e3, v3, r3, q3⟩ := tsum_eq (a0 := x0) (b0 := y3) (a1 := x1) (b1 := y2) (a2 := x2) (b2 := y1) (a3 := x3) (b3 := y0) (a4 := x4) (b4 := 19 * y4)
    (by simp only [List.mem_cons, List.not_mem_nil, or_false, forall_eq_or_imp, forall_eq]; omega) (by simp only [w]; omega)
  obtain ⟨h4, l4, e4, v4, r4, q4⟩ := tsum_eq (a0 := x0) (b0 := y4) (a1 := x1) (b1 := y3) (a2 := x2) (b2 := y2) (a3 := x3) (b3 := y1) (a4 := x4) (b4 := y0)
    (by simp only [List.mem_cons, List.not_mem_nil, or_false, forall_eq_or_imp, forall_eq]; omega) (by omega)
  simp only [w] at v0 v1 v2 v3
  obtain ⟨o0, n0⟩ := carry_eq e0 (c := 0) (by omega) q0 (by omega)
  generalize hT0 : h0 * 18446744073709551616 + l0 + 0 = T0 at *
  obtain ⟨o1, n1⟩ := carry_eq e1 (c := T0 / 2251799813685248) (by omega) q1 (by omega)
  generalize hT1 : h1 * 18446744073709551616 + l1 + T0 / 2251799813685248 = T1 at *
  obtain ⟨o2, n2⟩ := carry_eq e2 (c := T1 / 2251799813685248) (by omega) q2 (by omega)
  generalize hT2 : h2 * 18446744073709551616 + l2 + T1 / 2251799813685248 = T2 at *
  obtain ⟨o3, n3⟩ := carry_eq e3 (c := T2 / 2251799813685248) (by omega) q3 (by omega)
  generalize hT3 : h3 * 18446744073709551616 + l3 + T2 / 2251799813685248 = T3 at *
  obtain ⟨o4, n4⟩ := carry_eq e4 (c := T3 / 2251799813685248) (by omega) q4 (by omega)
  generalize hT4 : h4 * 18446744073709551616 + l4 + T3 / 2251799813685248 = T4 at *
  have hP : timesP l m = fnOf [T0 % 2251799813685248 + 19 * (T4 / 2251799813685248), T1 % 2251799813685248, T2 % 2251799813685248, T3 % 2251799813685248, T4 % 2251799813685248] := by
    simp only [timesP, hx0, hx1, hx2, hx3, hx4, hy0, hy1, hy2, hy3, hy4]
    rw [u y1 (by omega), u y2 (by omega), u y3 (by omega), u y4 (by omega), n0, n1, n2, n3, n4, o0, o1, o2, o3, o4]
    have e19 : umul 19 (T4 / 2251799813685248) = 19 * (T4 / 2251799813685248) := by rw [umul, mul_u64]; omega
    rw [e19, uadd_eq (by omega)]
  rw [hP]
  refine ⟨each5 (by rw [fnOf_0]; omega) (by rw [fnOf_1]; omega) (by rw [fnOf_2]; omega) (by rw [fnOf_3]; omega) (by rw [fnOf_4]; omega), ?_⟩
  have hsum : lim (fnOf [T0 % 2251799813685248 + 19 * (T4 / 2251799813685248), T1 % 2251799813685248, T2 % 2251799813685248, T3 % 2251799813685248, T4 % 2251799813685248]) =
      (x0 * y0 + 19 * (x1 * y4) + 19 * (x2 * y3) + 19 * (x3 * y2) + 19 * (x4 * y1)) + 2251799813685248 * ((x0 * y1 + x1 * y0 + 19 * (x2 * y4) + 19 * (x3 * y3) + 19 * (x4 * y2)) + 2251799813685248 * ((x0 * y2 + x1 * y1 + x2 * y0 + 19 * (x3 * y4) + 19 * (x4 * y3)) +
        2251799813685248 * ((x0 * y3 + x1 * y2 + x2 * y1 + x3 * y0 + 19 * (x4 * y4)) + 2251799813685248 * (x0 * y4 + x1 * y3 + x2 * y2 + x3 * y1 + x4 * y0)))) - p25 * (T4 / 2251799813685248) := by
    simp only [lim, fnOf_0, fnOf_1, fnOf_2, fnOf_3, fnOf_4, p25]
    omega
  refine ⟨T4 / 2251799813685248 + ((x1 * y4 + x2 * y3 + x3 * y2 + x4 * y1) + 2251799813685248 * ((x2 * y4 + x3 * y3 + x4 * y2) + 2251799813685248 * ((x3 * y4 + x4 * y3) + 2251799813685248 * (x4 * y4)))), ?_⟩
  rw [hsum]
  simp only [lim, hx0, hx1, hx2, hx3, hx4, hy0, hy1, hy2, hy3, hy4, p25]
  exact mul_id _ _ _ _ _ _ _ _ _ _ _

theorem times_spec {l m : Nat → Int} (hl : Tidy l) (hm : Tidy m) : lim (timesF l m) % p25 = (lim l * lim m) % p25 ∧ Tidy (timesF l m) := by
  obtain ⟨h1, q, h2⟩ := timesP_spec hl hm
  obtain ⟨h3, h4⟩ := settle_spec h1
  refine ⟨?_, h4⟩
  show lim (settleF _) % _ = _
  rw [h3, h2]
  simp [Int.sub_emod]

/-- The sums row by row. -/
def rowsT (l m : Nat → Int) : Nat → Nat → Nat → Int
  | 0, _ => tzero
  | i + 1, k => tstep (rowsT l m i k) (l i) (if i ≤ k then m (k - i) else umul 19 (m (k + 5 - i)))
/-- The same, side by side. -/
def sumsT (l m : Nat → Int) (i : Nat) : Nat → Int := fun j => rowsT l m i (j / 2) (j % 2)

def carT (s : Nat → Int) : Nat → Int :=
  let w (k : Nat) : Nat → Int := fnOf [s (2 * k), s (2 * k + 1)]
  let c1 := cNext (w 0) 0
  let c2 := cNext (w 1) c1
  let c3 := cNext (w 2) c2
  let c4 := cNext (w 3) c3
  let c5 := cNext (w 4) c4
  fnOf [uadd (cOut (w 0) 0) (umul 19 c5), cOut (w 1) c1, cOut (w 2) c2, cOut (w 3) c3, cOut (w 4) c4]

theorem timesP_rows (l m : Nat → Int) : timesP l m = carT (sumsT l m 5) := by
  have e : ∀ h : Nat → Int, ∀ c, cNext (fnOf [h 0, h 1]) c = cNext h c := fun _ _ => rfl
  have e' : ∀ h : Nat → Int, ∀ c, cOut (fnOf [h 0, h 1]) c = cOut h c := fun _ _ => rfl
  have f0 : tsum (l 0) (m 0) (l 1) (umul 19 (m 4)) (l 2) (umul 19 (m 3)) (l 3) (umul 19 (m 2)) (l 4) (umul 19 (m 1)) = rowsT l m 5 0 := rfl
  have f1 : tsum (l 0) (m 1) (l 1) (m 0) (l 2) (umul 19 (m 4)) (l 3) (umul 19 (m 3)) (l 4) (umul 19 (m 2)) = rowsT l m 5 1 := rfl
  have f2 : tsum (l 0) (m 2) (l 1) (m 1) (l 2) (m 0) (l 3) (umul 19 (m 4)) (l 4) (umul 19 (m 3)) = rowsT l m 5 2 := rfl
  have f3 : tsum (l 0) (m 3) (l 1) (m 2) (l 2) (m 1) (l 3) (m 0) (l 4) (umul 19 (m 4)) = rowsT l m 5 3 := rfl
  have f4 : tsum (l 0) (m 4) (l 1) (m 3) (l 2) (m 2) (l 3) (m 1) (l 4) (m 0) = rowsT l m 5 4 := rfl
  unfold timesP
  rw [f0, f1, f2, f3, f4]
  unfold carT
  have g : ∀ k, k < 5 → (fnOf [sumsT l m 5 (2 * k), sumsT l m 5 (2 * k + 1)]) = fnOf [rowsT l m 5 k 0, rowsT l m 5 k 1] := by
    intro k _
    have a1 : (2 * k) / 2 = k := by omega
    have a2 : (2 * k) % 2 = 0 := by omega
    have a3 : (2 * k + 1) / 2 = k := by omega
    have a4 : (2 * k + 1) % 2 = 1 := by omega
    unfold sumsT
    rw [a1, a2, a3, a4]
  dsimp only
  rw [g 0 (by decide), g 1 (by decide), g 2 (by decide), g 3 (by decide), g 4 (by decide)]
  simp only [e, e']
end Sx

/-
  The form as bytes of five digits.
-/
namespace Sx
open Go

def frzR (l : Nat → Int) : Nat → Int :=
  let q0 := ushr (uadd (l 0) 19) 51
  let q1 := ushr (uadd (l 1) q0) 51
  let q2 := ushr (uadd (l 2) q1) 51
  let q3 := ushr (uadd (l 3) q2) 51
  let q4 := ushr (uadd (l 4) q3) 51
  let t0 := uadd (l 0) (umul 19 q4)
  let t1 := uadd (l 1) (ushr t0 51)
  let t2 := uadd (l 2) (ushr t1 51)
  let t3 := uadd (l 3) (ushr t2 51)
  let t4 := uadd (l 4) (ushr t3 51)
  fnOf [uand t0 2251799813685247, uand t1 2251799813685247, uand t2 2251799813685247, uand t3 2251799813685247, uand t4 2251799813685247]

def wrdR (m : Nat → Int) : Nat → Int :=
  fnOf [uor (m 0) (ushl (m 1) 51), uor (ushr (m 1) 13) (ushl (m 2) 38), uor (ushr (m 2) 26) (ushl (m 3) 25), uor (ushr (m 3) 39) (ushl (m 4) 12)]

def outR (w : Nat → Int) : Nat → Int := fun i => u8of (ushr (w (i / 8)) ((8 * (i % 8) : Nat) : Int))

def bytesF (l : Nat → Int) : Nat → Int := outR (wrdR (frzR (settleF l)))

theorem frz_eq {l : Nat → Int} (h : Tidy l) : ∃ m0 m1 m2 m3 m4, frzR l = fnOf [m0, m1, m2, m3, m4] ∧ (0 ≤ m0 ∧ m0 < 2251799813685248) ∧ (0 ≤ m1 ∧ m1 < 2251799813685248) ∧ (0 ≤ m2 ∧ m2 < 2251799813685248) ∧ (0 ≤ m3 ∧ m3 < 2251799813685248) ∧ (0 ≤ m4 ∧ m4 < 2251799813685248) ∧
    m0 + 2251799813685248 * (m1 + 2251799813685248 * (m2 + 2251799813685248 * (m3 + 2251799813685248 * m4))) = lim l % p25 := by
  obtain ⟨a0, a1, a2, a3, a4⟩ := h.all
  have g0 : uadd (l 0) 19 = l 0 + 19 := uadd_eq (by omega)
  generalize hq0 : (l 0 + 19) / 2251799813685248 = q0
  have g1 : uadd (l 1) q0 = l 1 + q0 := uadd_eq (by omega)
  generalize hq1 : (l 1 + q0) / 2251799813685248 = q1
  have g2 : uadd (l 2) q1 = l 2 + q1 := uadd_eq (by omega)
  generalize hq2 : (l 2 + q1) / 2251799813685248 = q2
  have g3 : uadd (l 3) q2 = l 3 + q2 := uadd_eq (by omega)
  generalize hq3 : (l 3 + q2) / 2251799813685248 = q3
  have g4 : uadd (l 4) q3 = l 4 + q3 := uadd_eq (by omega)
  generalize hq4 : (l 4 + q3) / 2251799813685248 = q4
  have m19 : umul 19 q4 = 19 * q4 := by rw [umul, mul_u64]; omega
  have k0 : uadd (l 0) (19 * q4) = l 0 + 19 * q4 := uadd_eq (by omega)
  generalize ht0 : l 0 + 19 * q4 = t0 at *
  have k1 : uadd (l 1) (t0 / 2251799813685248) = l 1 + t0 / 2251799813685248 := uadd_eq (by omega)
  generalize ht1 : l 1 + t0 / 2251799813685248 = t1 at *
  have k2 : uadd (l 2) (t1 / 2251799813685248) = l 2 + t1 / 2251799813685248 := uadd_eq (by omega)
  generalize ht2 : l 2 + t1 / 2251799813685248 = t2 at *
  have k3 : uadd (l 3) (t2 / 2251799813685248) = l 3 + t2 / 2251799813685248 := uadd_eq (by omega)
  generalize ht3 : l 3 + t2 / 2251799813685248 = t3 at *
  have k4 : uadd (l 4) (t3 / 2251799813685248) = l 4 + t3 / 2251799813685248 := uadd_eq (by omega)
  generalize ht4 : l 4 + t3 / 2251799813685248 = t4 at *
  refine ⟨t0 % 2251799813685248, t1 % 2251799813685248, t2 % 2251799813685248, t3 % 2251799813685248, t4 % 2251799813685248, ?_, by omega, by omega, by omega, by omega, by omega, ?_⟩
  · simp only [frzR, ushr51, g0, hq0, g1, hq1, g2, hq2, g3, hq3, g4, hq4, m19, k0, k1, k2, k3, k4]
    rw [uand51 (by omega), uand51 (by omega), uand51 (by omega), uand51 (by omega), uand51 (by omega)]
  · simp only [lim, p25]
    have hL : l 0 + 2251799813685248 * (l 1 + 2251799813685248 * (l 2 + 2251799813685248 * (l 3 + 2251799813685248 * l 4))) + 19 * q4 = t0 % 2251799813685248 + 2251799813685248 * (t1 % 2251799813685248 + 2251799813685248 * (t2 % 2251799813685248 + 2251799813685248 * (t3 % 2251799813685248 + 2251799813685248 * (t4 % 2251799813685248)))) + 57896044618658097711785492504343953926634992332820282019728792003956564819968 * (t4 / 2251799813685248) := by omega
    have hQ : q4 = (l 0 + 2251799813685248 * (l 1 + 2251799813685248 * (l 2 + 2251799813685248 * (l 3 + 2251799813685248 * l 4))) + 19) / 57896044618658097711785492504343953926634992332820282019728792003956564819968 := by omega
    generalize l 0 + 2251799813685248 * (l 1 + 2251799813685248 * (l 2 + 2251799813685248 * (l 3 + 2251799813685248 * l 4))) = N at *
    have hN : 0 ≤ N ∧ N < 57896044618658097711785492504343953926634992332820282019728792003956564819968 + 19 := by omega
    have hR : 0 ≤ t0 % 2251799813685248 + 2251799813685248 * (t1 % 2251799813685248 + 2251799813685248 * (t2 % 2251799813685248 + 2251799813685248 * (t3 % 2251799813685248 + 2251799813685248 * (t4 % 2251799813685248)))) ∧
      t0 % 2251799813685248 + 2251799813685248 * (t1 % 2251799813685248 + 2251799813685248 * (t2 % 2251799813685248 + 2251799813685248 * (t3 % 2251799813685248 + 2251799813685248 * (t4 % 2251799813685248)))) < 57896044618658097711785492504343953926634992332820282019728792003956564819968 := by omega
    generalize t0 % 2251799813685248 + 2251799813685248 * (t1 % 2251799813685248 + 2251799813685248 * (t2 % 2251799813685248 + 2251799813685248 * (t3 % 2251799813685248 + 2251799813685248 * (t4 % 2251799813685248)))) = R at *
    generalize t4 / 2251799813685248 = z at *
    clear k0 k1 k2 k3 k4 ht0 ht1 ht2 ht3 ht4 hq4 hq3 hq2 hq1 hq0 a0 a1 a2 a3 a4 g0 g1 g2 g3 g4 m19
    have hq : q4 = 0 ∨ q4 = 1 := by omega
    rcases hq with rfl | rfl
    · have hz : z = 0 := by omega
      rw [Int.emod_eq_of_lt hN.1 (by omega)]
      omega
    · have hz : z = 1 := by omega
      have e : N % 57896044618658097711785492504343953926634992332820282019728792003956564819949 = N - 57896044618658097711785492504343953926634992332820282019728792003956564819949 := by omega
      omega

theorem wrd_eq {m0 m1 m2 m3 m4 : Int} (h0 : 0 ≤ m0 ∧ m0 < 2251799813685248) (h1 : 0 ≤ m1 ∧ m1 < 2251799813685248) (h2 : 0 ≤ m2 ∧ m2 < 2251799813685248) (h3 : 0 ≤ m3 ∧ m3 < 2251799813685248) (h4 : 0 ≤ m4 ∧ m4 < 2251799813685248) :
    ∃ w0 w1 w2 w3, wrdR (fnOf [m0, m1, m2, m3, m4]) = fnOf [w0, w1, w2, w3] ∧ (0 ≤ w0 ∧ w0 < 18446744073709551616) ∧ (0 ≤ w1 ∧ w1 < 18446744073709551616) ∧ (0 ≤ w2 ∧ w2 < 18446744073709551616) ∧ (0 ≤ w3 ∧ w3 < 18446744073709551616) ∧
    w0 + 18446744073709551616 * (w1 + 18446744073709551616 * (w2 + 18446744073709551616 * w3)) = m0 + 2251799813685248 * (m1 + 2251799813685248 * (m2 + 2251799813685248 * (m3 + 2251799813685248 * m4))) := by
  have sh : ∀ (y : Int) (t : Nat), t ≤ 64 → ushl y t = (y * 2 ^ t) % 18446744073709551616 := fun y t ht => shl_u64 y t ht
  have c0 : uor m0 (ushl m1 51) = m0 + (m1 * 2251799813685248) % 18446744073709551616 := by
    have e : ushl m1 51 = (m1 * 2251799813685248) % 18446744073709551616 := sh m1 51 (by decide)
    rw [e]
    show realBin .or .u64 _ _ = _
    rw [or_comm', or_apart (k := .u64) rfl 51 ⟨by omega, by rw [two64]; omega⟩ (by omega) ⟨h0.1, h0.2⟩ (by decide)]
    omega
  have c1 : uor (ushr m1 13) (ushl m2 38) = m1 / 8192 + (m2 * 274877906944) % 18446744073709551616 := by
    have e : ushl m2 38 = (m2 * 274877906944) % 18446744073709551616 := sh m2 38 (by decide)
    have e' : ushr m1 13 = m1 / 8192 := shr_any .u64 m1 13 (by decide)
    rw [e, e']
    show realBin .or .u64 _ _ = _
    rw [or_comm', or_apart (k := .u64) rfl 38 ⟨by omega, by rw [two64]; omega⟩ (by omega) ⟨by omega, by omega⟩ (by decide)]
    omega
  have c2 : uor (ushr m2 26) (ushl m3 25) = m2 / 67108864 + (m3 * 33554432) % 18446744073709551616 := by
    have e : ushl m3 25 = (m3 * 33554432) % 18446744073709551616 := sh m3 25 (by decide)
    have e' : ushr m2 26 = m2 / 67108864 := shr_any .u64 m2 26 (by decide)
    rw [e, e']
    show realBin .or .u64 _ _ = _
    rw [or_comm', or_apart (k := .u64) rfl 25 ⟨by omega, by rw [two64]; omega⟩ (by omega) ⟨by omega, by omega⟩ (by decide)]
    omega
  have c3 : uor (ushr m3 39) (ushl m4 12) = m3 / 549755813888 + (m4 * 4096) % 18446744073709551616 := by
    have e : ushl m4 12 = (m4 * 4096) % 18446744073709551616 := sh m4 12 (by decide)
    have e' : ushr m3 39 = m3 / 549755813888 := shr_any .u64 m3 39 (by decide)
    rw [e, e']
    show realBin .or .u64 _ _ = _
    rw [or_comm', or_apart (k := .u64) rfl 12 ⟨by omega, by rw [two64]; omega⟩ (by omega) ⟨by omega, by omega⟩ (by decide)]
    omega
  refine ⟨m0 + (m1 * 2251799813685248) % 18446744073709551616, m1 / 8192 + (m2 * 274877906944) % 18446744073709551616, m2 / 67108864 + (m3 * 33554432) % 18446744073709551616, m3 / 549755813888 + (m4 * 4096) % 18446744073709551616, ?_, by omega, by omega, by omega, by omega, by omega⟩
  simp only [wrdR, fnOf_0, fnOf_1, fnOf_2, fnOf_3, fnOf_4, c0, c1, c2, c3]

theorem fn4_0 (a b c d : Int) : fnOf [a, b, c, d] 0 = a := rfl
theorem fn4_1 (a b c d : Int) : fnOf [a, b, c, d] 1 = b := rfl
theorem fn4_2 (a b c d : Int) : fnOf [a, b, c, d] 2 = c := rfl
theorem fn4_3 (a b c d : Int) : fnOf [a, b, c, d] 3 = d := rfl

theorem out_one (w : Int) (k : Nat) (hk : k < 8) : u8of (ushr w ((8 * k : Nat) : Int)) = w / 256 ^ k % 256 := by
  show IntKind.wrap .u8 (realBin .shr .u64 w ((8 * k : Nat) : Int)) = _
  rw [wrap_u8, shr_any .u64 w (8 * k) (by simp [IntKind.bits]; omega), Int.pow_mul]
  rfl

theorem out_eq {w0 w1 w2 w3 : Int} (h0 : 0 ≤ w0 ∧ w0 < 18446744073709551616) (h1 : 0 ≤ w1 ∧ w1 < 18446744073709551616) (h2 : 0 ≤ w2 ∧ w2 < 18446744073709551616) (h3 : 0 ≤ w3 ∧ w3 < 18446744073709551616) :
    ∀ i, i < 32 → outR (fnOf [w0, w1, w2, w3]) i = byt (w0 + 18446744073709551616 * (w1 + 18446744073709551616 * (w2 + 18446744073709551616 * w3))) i := by
  intro i hi
  have key : ∀ (j k : Nat) (w N r : Int), k < 8 → 0 ≤ w ∧ w < 18446744073709551616 → N / 256 ^ (8 * j) = w + 18446744073709551616 * r → w / 256 ^ k % 256 = N / 256 ^ (8 * j + k) % 256 := by
    intro j k w N r hk hw hN
    rw [Int.pow_add, ← Int.ediv_ediv_of_nonneg (Int.le_of_lt (Int.pow_pos (by decide))), hN]
    match k, hk with
    | 0, _ => simp only [Int.pow_zero, Int.ediv_one]; omega
    | 1, _ => simp only [Int.reducePow]; omega
    | 2, _ => simp only [Int.reducePow]; omega
    | 3, _ => simp only [Int.reducePow]; omega
    | 4, _ => simp only [Int.reducePow]; omega
    | 5, _ => simp only [Int.reducePow]; omega
    | 6, _ => simp only [Int.reducePow]; omega
    | 7, _ => simp only [Int.reducePow]; omega
  have hi8 : i = 8 * (i / 8) + i % 8 := by omega
  have hk : i % 8 < 8 := Nat.mod_lt _ (by decide)
  simp only [outR, byt]
  rw [out_one _ _ hk]
  generalize hN : w0 + 18446744073709551616 * (w1 + 18446744073709551616 * (w2 + 18446744073709551616 * w3)) = N
  have hj : i / 8 < 4 := by omega
  conv => rhs; rw [hi8]
  generalize i / 8 = j at *
  generalize i % 8 = k at *
  match j, hj with
  | 0, _ => rw [fn4_0]; exact key 0 k w0 N (w1 + 18446744073709551616 * (w2 + 18446744073709551616 * w3)) hk h0 (by simp only [Nat.mul_zero, Int.pow_zero, Int.ediv_one]; omega)
  | 1, _ => rw [fn4_1]; exact key 1 k w1 N (w2 + 18446744073709551616 * w3) hk h1 (by simp only [Int.reducePow, Nat.reduceMul]; omega)
  | 2, _ => rw [fn4_2]; exact key 2 k w2 N w3 hk h2 (by simp only [Int.reducePow, Nat.reduceMul]; omega)
  | 3, _ => rw [fn4_3]; exact key 3 k w3 N 0 hk h3 (by simp only [Int.reducePow, Nat.reduceMul]; omega)

theorem bytes_spec {l : Nat → Int} (h : LFit l) : ∀ i, i < 32 → bytesF l i = byt (lim l % p25) i := by
  obtain ⟨e, t⟩ := settle_spec h
  obtain ⟨m0, m1, m2, m3, m4, f, b0, b1, b2, b3, b4, s⟩ := frz_eq t
  obtain ⟨w0, w1, w2, w3, g, d0, d1, d2, d3, v⟩ := wrd_eq b0 b1 b2 b3 b4
  intro i hi
  show outR (wrdR (frzR (settleF l))) i = _
  rw [f, g, out_eq d0 d1 d2 d3 i hi, v, s, e]
end Sx

/-
  Prime numbers: Fermat's little theorem, and Pocklington's test.
-/
namespace Sx

/-- A prime number. -/
structure Pr (p : Nat) : Prop where
  two : 2 ≤ p
  only : ∀ m, m ∣ p → m = 1 ∨ m = p

theorem Pr.cop {p a : Nat} (hp : Pr p) (h : ¬ p ∣ a) : Nat.gcd p a = 1 := by
  rcases hp.only _ (Nat.gcd_dvd_left p a) with e | e
  · exact e
  · exact absurd (by have := Nat.gcd_dvd_right p a; rwa [e] at this) h

theorem Pr.dvd_mul {p a b : Nat} (hp : Pr p) (h : p ∣ a * b) : p ∣ a ∨ p ∣ b := by
  by_cases ha : p ∣ a
  · exact .inl ha
  · exact .inr (Nat.Coprime.dvd_of_dvd_mul_left (hp.cop ha) h)

theorem exists_prime : ∀ n, 2 ≤ n → ∃ q, Pr q ∧ q ∣ n := by
  intro n
  induction n using Nat.strongRecOn with
  | ind n ih =>
    intro h2
    by_cases h : ∀ m, m ∣ n → m = 1 ∨ m = n
    · exact ⟨n, ⟨h2, h⟩, Nat.dvd_refl n⟩
    · obtain ⟨m, hm⟩ := Classical.not_forall.1 h
      obtain ⟨hd, hne⟩ := Classical.not_imp.1 hm
      have h1 : m ≠ 1 := fun e => hne (.inl e)
      have h3 : m ≠ n := fun e => hne (.inr e)
      have hle := Nat.le_of_dvd (by omega) hd
      have h0 : m ≠ 0 := fun e => by subst e; have := Nat.eq_zero_of_zero_dvd hd; omega
      obtain ⟨q, hq, hqm⟩ := ih m (by omega) (by omega)
      exact ⟨q, hq, Nat.dvd_trans hqm hd⟩

/-! Lists without a repeat. -/

theorem perm_of_sub {α : Type} [DecidableEq α] : ∀ (l l' : List α), l.Nodup → l'.Nodup → (∀ x ∈ l, x ∈ l') → l.length = l'.length → l.Perm l'
  | [], l', _, _, _, hl => by
    have : l' = [] := List.eq_nil_of_length_eq_zero (by simpa using hl.symm)
    rw [this]
  | a :: l, l', hn, hn', hs, hl => by
    have ha : a ∈ l' := hs a (by simp)
    have hp := List.perm_cons_erase ha
    have hn2 := List.nodup_cons.1 hn
    have ih := perm_of_sub l (l'.erase a) hn2.2 (hn'.erase a) (fun x hx => by
      have h1 : x ∈ l' := hs x (by simp [hx])
      have h2 : x ≠ a := fun e => hn2.1 (e ▸ hx)
      exact (List.mem_erase_of_ne h2).2 h1) (by
      rw [List.length_erase_of_mem ha]
      simp only [List.length_cons] at hl
      omega)
    exact (ih.cons a).trans hp.symm

def prodL : List Nat → Nat
  | [] => 1
  | a :: l => a * prodL l

theorem prodL_perm {l l' : List Nat} (h : l.Perm l') : prodL l = prodL l' := by
  induction h with
  | nil => rfl
  | cons a _ ih => simp [prodL, ih]
  | swap a b l => simp only [prodL]; rw [Nat.mul_left_comm]
  | trans _ _ h1 h2 => exact h1.trans h2

theorem nodup_map_on {α β : Type} {f : α → β} : ∀ {l : List α}, l.Nodup → (∀ x ∈ l, ∀ y ∈ l, f x = f y → x = y) → (l.map f).Nodup
  | [], _, _ => List.nodup_nil
  | a :: l, hn, hf => by
    have h := List.nodup_cons.1 hn
    rw [List.map_cons, List.nodup_cons]
    refine ⟨fun hm => ?_, nodup_map_on h.2 fun x hx y hy => hf x (by simp [hx]) y (by simp [hy])⟩
    obtain ⟨y, hy, e⟩ := List.mem_map.1 hm
    have := hf y (by simp [hy]) a (by simp) e
    exact h.1 (this ▸ hy)

/-- A map of a list into itself that keeps unlikes apart puts it in another order. -/
theorem perm_map {α : Type} [DecidableEq α] {f : α → α} {l : List α} (hn : l.Nodup) (hf : ∀ x ∈ l, ∀ y ∈ l, f x = f y → x = y) (hm : ∀ x ∈ l, f x ∈ l) : (l.map f).Perm l :=
  perm_of_sub _ _ (nodup_map_on hn hf) hn (fun x hx => by obtain ⟨y, hy, rfl⟩ := List.mem_map.1 hx; exact hm y hy) (by simp)

/-- 1, 2, .. n. -/
def upTo (n : Nat) : List Nat := List.range' 1 n
theorem mem_upTo {n i : Nat} : i ∈ upTo n ↔ 1 ≤ i ∧ i ≤ n := by
  unfold upTo
  rw [List.mem_range'_1]
  omega
theorem nodup_upTo (n : Nat) : (upTo n).Nodup := List.nodup_range' (s := 1) (n := n) (step := 1) (by decide)

theorem mod_dvd_sub {p x y : Nat} (h : x % p = y % p) (hle : y ≤ x) : p ∣ x - y := by
  have h1 := Nat.div_add_mod x p
  have h2 := Nat.div_add_mod y p
  refine ⟨x / p - y / p, ?_⟩
  rw [Nat.mul_sub]
  omega
theorem mod_of_dvd_sub {p x y : Nat} (hle : y ≤ x) (h : p ∣ x - y) : x % p = y % p := by
  obtain ⟨c, hc⟩ := h
  have e : x = y + p * c := by omega
  rw [e, Nat.add_mul_mod_self_left]

theorem mul_mod_inj {p a : Nat} (hc : Nat.gcd p a = 1) {x y : Nat} (hx : x < p) (hy : y < p) (h : a * x % p = a * y % p) : x = y := by
  have key : ∀ {x y : Nat}, x < p → y < p → y ≤ x → a * x % p = a * y % p → x = y := by
    intro x y hx hy hle h
    have h1 := mod_dvd_sub h (Nat.mul_le_mul_left a hle)
    rw [← Nat.mul_sub] at h1
    have h2 := Nat.Coprime.dvd_of_dvd_mul_left hc h1
    rcases Nat.eq_zero_or_pos (x - y) with h3 | h3
    · omega
    · have := Nat.le_of_dvd h3 h2
      omega
  rcases Nat.le_total y x with hle | hle
  · exact key hx hy hle h
  · exact (key hy hx hle h.symm).symm

theorem prod_map_mul (p a : Nat) : ∀ l : List Nat, prodL (l.map fun i => a * i % p) % p = a ^ l.length * prodL l % p
  | [] => by simp [prodL]
  | i :: l => by
    simp only [List.map_cons, prodL, List.length_cons]
    rw [Nat.mul_mod, Nat.mod_mod, prod_map_mul p a l, ← Nat.mul_mod, Nat.pow_succ]
    congr 1
    grind

theorem prod_cop {p : Nat} (hp : Pr p) : ∀ l : List Nat, (∀ i ∈ l, ¬ p ∣ i) → ¬ p ∣ prodL l
  | [], _ => fun h => by have := Nat.le_of_dvd (by decide) h; have := hp.two; simp [prodL] at *; omega
  | a :: l, h => fun hd => by
    rcases hp.dvd_mul hd with h1 | h1
    · exact h a (by simp) h1
    · exact prod_cop hp l (fun i hi => h i (by simp [hi])) h1

/-- Fermat's little theorem. -/
theorem fermat {p a : Nat} (hp : Pr p) (ha : ¬ p ∣ a) : a ^ (p - 1) % p = 1 := by
  have h2 := hp.two
  have hc := hp.cop ha
  have hperm : ((upTo (p - 1)).map fun i => a * i % p).Perm (upTo (p - 1)) := by
    refine perm_map (nodup_upTo _) (fun x hx y hy h => ?_) (fun x hx => ?_)
    · rw [mem_upTo] at hx hy
      exact mul_mod_inj hc (by omega) (by omega) h
    · rw [mem_upTo] at hx ⊢
      have h3 := Nat.mod_lt (a * x) (show 0 < p by omega)
      have h4 : a * x % p ≠ 0 := fun h => by
        have hd := Nat.dvd_of_mod_eq_zero h
        rcases hp.dvd_mul hd with h5 | h5
        · exact ha h5
        · have := Nat.le_of_dvd (by omega) h5; omega
      omega
  have h5 := prod_map_mul p a (upTo (p - 1))
  rw [prodL_perm hperm] at h5
  have hlen : (upTo (p - 1)).length = p - 1 := by simp [upTo]
  rw [hlen] at h5
  have h6 : ¬ p ∣ prodL (upTo (p - 1)) := prod_cop hp _ fun i hi h => by
    rw [mem_upTo] at hi
    have := Nat.le_of_dvd (by omega) h
    omega
  generalize prodL (upTo (p - 1)) = Q at h5 h6
  have hpos : 0 < a := by
    rcases Nat.eq_zero_or_pos a with h | h
    · subst h; exact absurd (Nat.dvd_zero p) ha
    · exact h
  have h7 := mod_dvd_sub (p := p) (x := a ^ (p - 1) * Q) (y := Q) h5.symm (Nat.le_mul_of_pos_left _ (Nat.pow_pos hpos))
  have h8 : a ^ (p - 1) * Q - Q = (a ^ (p - 1) - 1) * Q := by rw [Nat.sub_mul, Nat.one_mul]
  rw [h8] at h7
  rcases hp.dvd_mul h7 with h9 | h9
  · have hge : 1 ≤ a ^ (p - 1) := Nat.pow_pos hpos
    rw [mod_of_dvd_sub hge h9, Nat.mod_eq_of_lt (by omega)]
  · exact absurd h9 h6

/-! Powers. -/

/-- a to the power e modulo m, by squares. -/
def pm (m : Nat) : Nat → Nat → Nat → Nat
  | 0, _, _ => 1 % m
  | f + 1, a, e => if e = 0 then 1 % m else if e % 2 = 1 then a * pm m f (a * a % m) (e / 2) % m else pm m f (a * a % m) (e / 2)

theorem pm_eq (m : Nat) : ∀ (f a e : Nat), e < 2 ^ f → pm m f a e = a ^ e % m
  | 0, a, e, h => by
    have : e = 0 := by simpa using h
    subst this; simp [pm]
  | f + 1, a, e, h => by
    have hh : e / 2 < 2 ^ f := by rw [Nat.pow_succ] at h; omega
    have key : ∀ k, (a * a % m) ^ k % m = a ^ (2 * k) % m := fun k => by
      rw [← Nat.pow_mod, Nat.pow_mul, Nat.pow_two]
    simp only [pm]
    split
    · rename_i h0; subst h0; simp
    · split
      · rename_i h1
        rw [pm_eq m f _ _ hh, key, Nat.mul_mod, Nat.mod_mod, ← Nat.mul_mod, ← Nat.pow_succ']
        congr 2
        omega
      · rw [pm_eq m f _ _ hh, key]
        congr 2
        omega

theorem pow_gcd {p b : Nat} (hp : Pr p) : ∀ m n : Nat, b ^ m % p = 1 → b ^ n % p = 1 → b ^ (Nat.gcd m n) % p = 1 := by
  intro m n
  induction m, n using Nat.gcd.induction with
  | H0 n => intro _ h; rw [Nat.gcd_zero_left]; exact h
  | H1 m n hm ih =>
    intro h1 h2
    rw [Nat.gcd_rec]
    refine ih ?_ h1
    have e : n = m * (n / m) + n % m := (Nat.div_add_mod n m).symm
    rw [e, Nat.pow_add, Nat.pow_mul, Nat.mul_mod, Nat.pow_mod, h1, Nat.one_pow, Nat.mod_eq_of_lt (a := 1) (by have := hp.two; omega), Nat.one_mul, Nat.mod_mod] at h2
    exact h2

/-- A prime factor f of N - 1 under Pocklington's conditions goes into q - 1 for every prime factor q of N. -/
theorem pock_step {N f r a b : Nat} (hf : Pr f) (hN : N = f * r + 1) (h1 : a ^ (f * r) % N = 1) (hb : a ^ r % N = b) (hg : Nat.gcd (b + (N - 1)) N = 1) {q : Nat} (hq : Pr q) (hqN : q ∣ N) : f ∣ q - 1 := by
  have q2 := hq.two
  have hpos : 0 < N := by omega
  have hN1 : 1 < N := by
    have := Nat.le_of_dvd hpos hqN
    omega
  have h2 : a ^ (f * r) % q = 1 := by
    have := congrArg (· % q) h1
    simp only [Nat.mod_mod_of_dvd _ hqN] at this
    rw [this, Nat.mod_eq_of_lt (by omega)]
  have hqa : ¬ q ∣ a := fun h => by
    have h0 : f * r ≠ 0 := by omega
    have : q ∣ a ^ (f * r) := Nat.dvd_trans h ⟨a ^ (f * r - 1), by rw [← Nat.pow_succ']; congr 1; omega⟩
    have := Nat.mod_eq_zero_of_dvd this
    omega
  have h3 : (a ^ r) ^ f % q = 1 := by rw [← Nat.pow_mul, Nat.mul_comm r f]; exact h2
  have h4 : (a ^ r) ^ (q - 1) % q = 1 := by
    rw [← Nat.pow_mul, Nat.mul_comm r, Nat.pow_mul, Nat.pow_mod, fermat hq hqa, Nat.one_pow, Nat.mod_eq_of_lt (by omega)]
  by_cases hd : f ∣ q - 1
  · exact hd
  · exfalso
    have h5 := pow_gcd hq f (q - 1) h3 h4
    rw [hf.cop hd, Nat.pow_one] at h5
    have h6 : b % q = 1 := by rw [← hb, Nat.mod_mod_of_dvd _ hqN, h5]
    have h7 : q ∣ b + (N - 1) := by
      apply Nat.dvd_of_mod_eq_zero
      obtain ⟨k, hk⟩ := hqN
      have h8 := Nat.div_add_mod b q
      rw [h6] at h8
      have hk0 : k ≠ 0 := fun e => by subst e; simp at hk; omega
      have h9 : b + (N - 1) = q * (b / q + k) := by rw [Nat.mul_add, ← hk]; omega
      rw [h9, Nat.mul_mod_right]
    have h8 : q ∣ Nat.gcd (b + (N - 1)) N := Nat.dvd_gcd h7 hqN
    rw [hg] at h8
    have := Nat.le_of_dvd (by decide) h8
    omega

/-- No prime factor below the root: a prime. -/
theorem prime_of_big {N F : Nat} (h2 : 2 ≤ N) (hF : N < (F + 1) * (F + 1)) (h : ∀ q, Pr q → q ∣ N → F ∣ q - 1) : Pr N := by
  refine ⟨h2, fun m hm => ?_⟩
  by_cases h1 : m = 1
  · exact .inl h1
  by_cases h3 : m = N
  · exact .inr h3
  exfalso
  obtain ⟨k, hk⟩ := hm
  have hm0 : m ≠ 0 := fun e => by subst e; simp at hk; omega
  have hk0 : k ≠ 0 := fun e => by subst e; simp at hk; omega
  have hk1 : k ≠ 1 := fun e => by subst e; simp at hk; omega
  have big : ∀ x, 2 ≤ x → x ∣ N → F + 1 ≤ x := by
    intro x hx hd
    obtain ⟨q, hq, hqx⟩ := exists_prime x hx
    have := h q hq (Nat.dvd_trans hqx hd)
    have q2 := hq.two
    have h4 := Nat.le_of_dvd (by omega) this
    have h5 := Nat.le_of_dvd (by omega) hqx
    omega
  have a1 := big m (by omega) ⟨k, hk⟩
  have a2 := big k (by omega) ⟨m, by rw [hk, Nat.mul_comm]⟩
  have := Nat.mul_le_mul a1 a2
  omega

/-- One factor. -/
theorem pock1 {N f r b : Nat} (hf : Pr f) (hN : N = f * r + 1) (hbig : N < (f + 1) * (f + 1)) (fu : Nat) (h0 : f * r < 2 ^ fu) (h1 : pm N fu 2 (f * r) = 1) (hr : r < 2 ^ fu) (hb : pm N fu 2 r = b) (hg : Nat.gcd (b + (N - 1)) N = 1) : Pr N := by
  rw [pm_eq _ _ _ _ h0] at h1
  rw [pm_eq _ _ _ _ hr] at hb
  refine prime_of_big ?_ hbig fun q hq hd => pock_step hf hN h1 hb hg hq hd
  have : f * r ≠ 0 := fun e => by rw [e] at h1 hN; subst hN; simp at h1
  omega

/-- Two factors. -/
theorem pock2 {N f f' r r' b b' : Nat} (hf : Pr f) (hf' : Pr f') (hne : Nat.gcd f f' = 1) (hN : N = f * r + 1) (hN' : N = f' * r' + 1) (hbig : N < (f * f' + 1) * (f * f' + 1)) (fu : Nat) (h0 : f * r < 2 ^ fu) (h1 : pm N fu 2 (f * r) = 1)
    (hr : r < 2 ^ fu) (hb : pm N fu 2 r = b) (hg : Nat.gcd (b + (N - 1)) N = 1) (hr' : r' < 2 ^ fu) (hb' : pm N fu 2 r' = b') (hg' : Nat.gcd (b' + (N - 1)) N = 1) : Pr N := by
  rw [pm_eq _ _ _ _ h0] at h1
  rw [pm_eq _ _ _ _ hr] at hb
  rw [pm_eq _ _ _ _ hr'] at hb'
  have h1' : 2 ^ (f' * r') % N = 1 := by
    have : f' * r' = f * r := by omega
    rw [this]; exact h1
  refine prime_of_big ?_ hbig fun q hq hd => Nat.Coprime.mul_dvd_of_dvd_of_dvd hne (pock_step hf hN h1 hb hg hq hd) (pock_step hf' hN' h1' hb' hg' hq hd)
  have : f * r ≠ 0 := fun e => by rw [e] at h1 hN; subst hN; simp at h1
  omega

/-- A small prime, by dividing. -/
theorem small_prime {n : Nat} (k : Nat) (h2 : 2 ≤ n) (hk : n < (k + 2) * (k + 2)) (h : (List.range k).all (fun i => n % (i + 2) != 0) = true) : Pr n := by
  rw [List.all_eq_true] at h
  have no : ∀ x, 2 ≤ x → x < k + 2 → ¬ x ∣ n := fun x hx hlt hd => by
    have := h (x - 2) (List.mem_range.2 (by omega))
    have e : x - 2 + 2 = x := by omega
    rw [e] at this
    have h0 := Nat.mod_eq_zero_of_dvd hd
    rw [h0] at this
    simp at this
  refine ⟨h2, fun m hm => ?_⟩
  by_cases h1 : m = 1
  · exact .inl h1
  by_cases h3 : m = n
  · exact .inr h3
  exfalso
  have hm' := hm
  obtain ⟨c, hc⟩ := hm
  have hm0 : m ≠ 0 := fun e => by subst e; simp at hc; omega
  have hc0 : c ≠ 0 := fun e => by subst e; simp at hc; omega
  have hc1 : c ≠ 1 := fun e => by subst e; simp at hc; omega
  have a1 : k + 2 ≤ m := by
    rcases Nat.lt_or_ge m (k + 2) with h | h
    · exact absurd hm' (no m (by omega) h)
    · exact h
  have a2 : k + 2 ≤ c := by
    rcases Nat.lt_or_ge c (k + 2) with h | h
    · exact absurd ⟨m, by rw [hc, Nat.mul_comm]⟩ (no c (by omega) h)
    · exact h
  have := Nat.mul_le_mul a1 a2
  omega
end Sx

/-
  The two primes: 2^255 - 19 and the order L. Printed by gen_primes.py.
-/
namespace Sx
set_option maxRecDepth 100000

theorem pr_8574133 : Pr 8574133 := small_prime 2928 (by decide +kernel) (by decide +kernel) (by decide +kernel)
theorem pr_127 : Pr 127 := small_prime 11 (by decide +kernel) (by decide +kernel) (by decide +kernel)
theorem pr_1919519569386763 : Pr 1919519569386763 :=
  pock2 (r := 223873314) (r' := 15114327318006) (b := 1059928654987441) (b' := 576774792492622) pr_8574133 pr_127 (by decide +kernel) (by decide +kernel) (by decide +kernel) (by decide +kernel) 51 (by decide +kernel) (by decide +kernel) (by decide +kernel) (by decide +kernel) (by decide +kernel) (by decide +kernel) (by decide +kernel) (by decide +kernel)
theorem pr_569003 : Pr 569003 := small_prime 754 (by decide +kernel) (by decide +kernel) (by decide +kernel)
theorem pr_2773320623 : Pr 2773320623 :=
  pock1 (r := 4874) (b := 2039232613) pr_569003 (by decide +kernel) (by decide +kernel) 32 (by decide +kernel) (by decide +kernel) (by decide +kernel) (by decide +kernel) (by decide +kernel)
theorem pr_72106336199 : Pr 72106336199 :=
  pock1 (r := 26) (b := 67108864) pr_2773320623 (by decide +kernel) (by decide +kernel) 37 (by decide +kernel) (by decide +kernel) (by decide +kernel) (by decide +kernel) (by decide +kernel)
theorem pr_75445702479781427272750846543864801 : Pr 75445702479781427272750846543864801 :=
  pock2 (r := 39304471641247389600) (r' := 1046311689884858398375200) (b := 56747016255153332959347766392083459) (b' := 71619851993489548214160924360205394) pr_1919519569386763 pr_72106336199 (by decide +kernel) (by decide +kernel) (by decide +kernel) (by decide +kernel) 116 (by decide +kernel) (by decide +kernel) (by decide +kernel) (by decide +kernel) (by decide +kernel) (by decide +kernel) (by decide +kernel) (by decide +kernel)
theorem pr_353 : Pr 353 := small_prime 18 (by decide +kernel) (by decide +kernel) (by decide +kernel)
theorem pr_74058212732561358302231226437062788676166966415465897661863160754340907 : Pr 74058212732561358302231226437062788676166966415465897661863160754340907 :=
  pock2 (r := 981609426360740691344999861639072106) (r' := 209796636636151156663544550813209033076960244803019540118592523383402) (b := 69490809710348678725736597923071784769591275419387514694139338586948360) (b' := 8562916886866218785688304546164188478888058893729309188831496247839076) pr_75445702479781427272750846543864801 pr_353 (by decide +kernel) (by decide +kernel) (by decide +kernel) (by decide +kernel) 236 (by decide +kernel) (by decide +kernel) (by decide +kernel) (by decide +kernel) (by decide +kernel) (by decide +kernel) (by decide +kernel) (by decide +kernel)
theorem pr_57896044618658097711785492504343953926634992332820282019728792003956564819949 : Pr 57896044618658097711785492504343953926634992332820282019728792003956564819949 :=
  pock1 (r := 781764) (b := 427094198651976259540344842774561673889945192655078505504941250475370961481) pr_74058212732561358302231226437062788676166966415465897661863160754340907 (by decide +kernel) (by decide +kernel) 255 (by decide +kernel) (by decide +kernel) (by decide +kernel) (by decide +kernel) (by decide +kernel)
theorem pr_1224481 : Pr 1224481 := small_prime 1106 (by decide +kernel) (by decide +kernel) (by decide +kernel)
theorem pr_531581 : Pr 531581 := small_prime 729 (by decide +kernel) (by decide +kernel) (by decide +kernel)
theorem pr_1257559732178653 : Pr 1257559732178653 :=
  pock2 (r := 1027014492) (r' := 2365697292) (b := 1252739704402215) (b' := 1139842034583224) pr_1224481 pr_531581 (by decide +kernel) (by decide +kernel) (by decide +kernel) (by decide +kernel) 51 (by decide +kernel) (by decide +kernel) (by decide +kernel) (by decide +kernel) (by decide +kernel) (by decide +kernel) (by decide +kernel) (by decide +kernel)
theorem pr_4434155615661930479 : Pr 4434155615661930479 :=
  pock1 (r := 3526) (b := 415787812636281767) pr_1257559732178653 (by decide +kernel) (by decide +kernel) 62 (by decide +kernel) (by decide +kernel) (by decide +kernel) (by decide +kernel) (by decide +kernel)
theorem pr_172054593956031949258510691 : Pr 172054593956031949258510691 :=
  pock1 (r := 38802110) (b := 81982237619807054769897707) pr_4434155615661930479 (by decide +kernel) (by decide +kernel) 88 (by decide +kernel) (by decide +kernel) (by decide +kernel) (by decide +kernel) (by decide +kernel)
theorem pr_19757330305831588566944191468367130476339 : Pr 19757330305831588566944191468367130476339 :=
  pock1 (r := 114831751082918) (b := 9148758478138211201771971577098600188172) pr_172054593956031949258510691 (by decide +kernel) (by decide +kernel) 134 (by decide +kernel) (by decide +kernel) (by decide +kernel) (by decide +kernel) (by decide +kernel)
theorem pr_276602624281642239937218680557139826668747 : Pr 276602624281642239937218680557139826668747 :=
  pock1 (r := 14) (b := 16384) pr_19757330305831588566944191468367130476339 (by decide +kernel) (by decide +kernel) 138 (by decide +kernel) (by decide +kernel) (by decide +kernel) (by decide +kernel) (by decide +kernel)
theorem pr_7237005577332262213973186563042994240857116359379907606001950938285454250989 : Pr 7237005577332262213973186563042994240857116359379907606001950938285454250989 :=
  pock1 (r := 26163907866482859529727157400808004) (b := 2975531125133123119648879457563281269120703404158613135195788908093573672641) pr_276602624281642239937218680557139826668747 (by decide +kernel) (by decide +kernel) 253 (by decide +kernel) (by decide +kernel) (by decide +kernel) (by decide +kernel) (by decide +kernel)
end Sx

/-
  Numbers modulo n, as a ring; modulo a prime, as a field.
-/
namespace Sx

section
variable {n : Nat} [NeZero n]

theorem npos : 0 < n := Nat.pos_of_ne_zero (NeZero.ne n)

/-- A whole number modulo n. -/
def zi (n : Nat) [NeZero n] (x : Int) : Fin n := ⟨(x % n).toNat, by
  have h := npos (n := n)
  have h1 := Int.emod_lt_of_pos x (show (0 : Int) < n by omega)
  have h2 := Int.emod_nonneg x (show (n : Int) ≠ 0 by omega)
  omega⟩

theorem zi_val (x : Int) : ((zi n x).val : Int) = x % n := by
  have h := npos (n := n)
  have h2 := Int.emod_nonneg x (show (n : Int) ≠ 0 by omega)
  simp only [zi]
  omega

omit [NeZero n] in
theorem fin_ext_int {a b : Fin n} (h : (a.val : Int) = b.val) : a = b := Fin.ext (by omega)

theorem zi_eq {x y : Int} : zi n x = zi n y ↔ x % n = y % n :=
  ⟨fun h => by rw [← zi_val, ← zi_val, h], fun h => fin_ext_int (by rw [zi_val, zi_val, h])⟩

theorem zi_of_val (a : Fin n) : zi n (a.val : Int) = a := fin_ext_int (by rw [zi_val]; exact Int.emod_eq_of_lt (by omega) (by have := a.isLt; omega))

theorem zi_mod (x : Int) : zi n (x % n) = zi n x := zi_eq.2 (Int.emod_emod_of_dvd _ (Int.dvd_refl _))

theorem zi_add (x y : Int) : zi n (x + y) = zi n x + zi n y := by
  apply fin_ext_int
  rw [zi_val, Fin.val_add, Int.natCast_emod, Int.natCast_add, zi_val, zi_val, ← Int.add_emod]
theorem zi_mul (x y : Int) : zi n (x * y) = zi n x * zi n y := by
  apply fin_ext_int
  rw [zi_val, Fin.val_mul, Int.natCast_emod, Int.natCast_mul, zi_val, zi_val, ← Int.mul_emod]
theorem zi_sub (x y : Int) : zi n (x - y) = zi n x - zi n y := by
  have h := zi_add (n := n) (x - y) y
  have e : x - y + y = x := by omega
  rw [e] at h
  rw [h]
  grind
theorem zi_zero : zi n 0 = 0 := by
  apply fin_ext_int
  rw [zi_val]
  simp
theorem zi_nat (k : Nat) : zi n (k : Int) = Fin.ofNat n k := by
  apply fin_ext_int
  rw [zi_val]
  rfl
theorem zi_one : zi n 1 = 1 := zi_nat 1
theorem zi_neg (x : Int) : zi n (-x) = - zi n x := by
  have h := zi_sub (n := n) 0 x
  rw [zi_zero, Int.zero_sub] at h
  rw [h]
  grind
theorem zi_self : zi n (n : Int) = 0 := by
  rw [← zi_zero, zi_eq]
  simp

/-- Powers. -/
def zp (x : Fin n) : Nat → Fin n
  | 0 => 1
  | k + 1 => zp x k * x

theorem zp_zero (x : Fin n) : zp x 0 = 1 := rfl
theorem zp_succ (x : Fin n) (k : Nat) : zp x (k + 1) = zp x k * x := rfl
theorem zp_one (x : Fin n) : zp x 1 = x := by rw [zp_succ, zp_zero]; grind
theorem zp_two (x : Fin n) : zp x 2 = x * x := by rw [zp_succ, zp_one]
theorem zp_add (x : Fin n) (j : Nat) : ∀ k, zp x (j + k) = zp x j * zp x k
  | 0 => by rw [Nat.add_zero, zp_zero]; grind
  | k + 1 => by rw [← Nat.add_assoc, zp_succ, zp_succ, zp_add x j k]; grind
theorem zp_mul (x : Fin n) (j : Nat) : ∀ k, zp x (j * k) = zp (zp x j) k
  | 0 => rfl
  | k + 1 => by rw [Nat.mul_succ, zp_add, zp_succ, zp_mul x j k]
theorem mul_zp (x y : Fin n) : ∀ k, zp (x * y) k = zp x k * zp y k
  | 0 => by rw [zp_zero, zp_zero, zp_zero]; grind
  | k + 1 => by rw [zp_succ, zp_succ, zp_succ, mul_zp x y k]; grind
theorem one_zp : ∀ k, zp (1 : Fin n) k = 1
  | 0 => rfl
  | k + 1 => by rw [zp_succ, one_zp k]; grind
theorem zero_zp : ∀ k, 0 < k → zp (0 : Fin n) k = 0
  | k + 1, _ => by rw [zp_succ]; grind
theorem zp_sq (x : Fin n) (k : Nat) : zp x (2 * k) = zp x k * zp x k := by rw [Nat.two_mul, zp_add]
theorem zi_zp (x : Int) : ∀ k : Nat, zi n (x ^ k) = zp (zi n x) k
  | 0 => by rw [Int.pow_zero, zi_one]; rfl
  | k + 1 => by rw [Int.pow_succ, zi_mul, zi_zp x k]; rfl
theorem zp_val (x : Fin n) (k : Nat) : (zp x k).val = x.val ^ k % n := by
  have h := congrArg (fun a : Fin n => (a.val : Int)) (zi_zp (n := n) (x.val : Int) k)
  simp only [zi_val, zi_of_val] at h
  have : ((x.val ^ k % n : Nat) : Int) = ((zp x k).val : Int) := by
    rw [← h]
    simp
  omega

variable (hp : Pr n)
include hp

theorem z_one_ne : (1 : Fin n) ≠ 0 := by
  intro h
  have h1 : (1 : Fin n).val = 1 % n := rfl
  have h2 : (0 : Fin n).val = 0 := by simp
  rw [h, h2, Nat.mod_eq_of_lt (by have := hp.two; omega)] at h1
  omega

theorem zdom {x y : Fin n} (h : x * y = 0) : x = 0 ∨ y = 0 := by
  have h1 : (x * y).val = x.val * y.val % n := Fin.val_mul x y
  have h0 : (0 : Fin n).val = 0 := by simp
  rw [h, h0] at h1
  rcases hp.dvd_mul (Nat.dvd_of_mod_eq_zero h1.symm) with h2 | h2
  · left
    apply Fin.ext
    rw [h0]
    rcases Nat.eq_zero_or_pos x.val with h3 | h3
    · exact h3
    · have := Nat.le_of_dvd h3 h2
      have := x.isLt
      omega
  · right
    apply Fin.ext
    rw [h0]
    rcases Nat.eq_zero_or_pos y.val with h3 | h3
    · exact h3
    · have := Nat.le_of_dvd h3 h2
      have := y.isLt
      omega

theorem zcancel {x y z : Fin n} (hx : x ≠ 0) (h : x * y = x * z) : y = z := by
  have h1 : x * (y - z) = 0 := by grind
  rcases zdom hp h1 with h2 | h2
  · exact absurd h2 hx
  · grind

theorem zfermat {x : Fin n} (hx : x ≠ 0) : zp x (n - 1) = 1 := by
  have h : ¬ n ∣ x.val := fun hd => by
    apply hx
    apply Fin.ext
    have h0 : (0 : Fin n).val = 0 := by simp
    rw [h0]
    rcases Nat.eq_zero_or_pos x.val with h3 | h3
    · exact h3
    · have := Nat.le_of_dvd h3 hd
      have := x.isLt
      omega
  apply Fin.ext
  rw [zp_val, fermat hp h]
  show 1 = 1 % n
  rw [Nat.mod_eq_of_lt (by have := hp.two; omega)]

omit hp in
/-- The inverse; 0 of 0. -/
def zinv (x : Fin n) : Fin n := zp x (n - 2)

theorem mul_zinv {x : Fin n} (hx : x ≠ 0) : x * zinv x = 1 := by
  have h := zfermat hp hx
  have h2 := hp.two
  have e : n - 1 = (n - 2) + 1 := by omega
  rw [e, zp_succ] at h
  unfold zinv
  grind
theorem zinv_uniq {x y : Fin n} (h : x * y = 1) : y = zinv x := by
  have hx : x ≠ 0 := fun e => z_one_ne hp (by rw [← h, e]; grind)
  have h1 := mul_zinv hp hx
  exact zcancel hp hx (h.trans h1.symm)
theorem zinv_ne {x : Fin n} (hx : x ≠ 0) : zinv x ≠ 0 := fun h => by
  have h1 := mul_zinv hp hx
  rw [h] at h1
  exact z_one_ne hp (by rw [← h1]; grind)
theorem zinv_zinv' {x : Fin n} (hx : x ≠ 0) : zinv (zinv x) = x :=
  (zinv_uniq hp (by have := mul_zinv hp hx; grind)).symm
omit hp in
theorem zinv_mul (x y : Fin n) : zinv (x * y) = zinv x * zinv y := mul_zp x y _
omit hp in
theorem zinv_zero (h3 : 2 < n) : zinv (0 : Fin n) = 0 := zero_zp _ (by omega)
theorem zmul_ne {x y : Fin n} (hx : x ≠ 0) (hy : y ≠ 0) : x * y ≠ 0 := fun h => by
  rcases zdom hp h with h | h
  · exact hx h
  · exact hy h
theorem zp_ne {x : Fin n} (hx : x ≠ 0) : ∀ k, zp x k ≠ 0
  | 0 => z_one_ne hp
  | k + 1 => zmul_ne hp (zp_ne hx k) hx
theorem zsq_one {x : Fin n} (h : x * x = 1) : x = 1 ∨ x = -1 := by
  have h1 : (x - 1) * (x + 1) = 0 := by grind
  rcases zdom hp h1 with h2 | h2
  · left; grind
  · right; grind
theorem zsq_eq {x y : Fin n} (h : x * x = y * y) : x = y ∨ x = -y := by
  have h1 : (x - y) * (x + y) = 0 := by grind
  rcases zdom hp h1 with h2 | h2
  · left; grind
  · right; grind
end

attribute [irreducible] zp
abbrev pN : Nat := 57896044618658097711785492504343953926634992332820282019728792003956564819949
abbrev lN : Nat := 7237005577332262213973186563042994240857116359379907606001950938285454250989
abbrev Zp := Fin pN
abbrev Zl := Fin lN
theorem prP : Pr pN := pr_57896044618658097711785492504343953926634992332820282019728792003956564819949
theorem prL : Pr lN := pr_7237005577332262213973186563042994240857116359379907606001950938285454250989
end Sx

/-
  Contracts of package field's inner functions, over names for what they reckon.
-/
namespace Sx
open Go

def wordC (W : (Nat → Int) → Int) : Contract := fun vs => match vs with
  | [.xsl .u8 1 (.lit 8) _ f] => some ([], .int .u64 (.sym (W f)))
  | _ => none
/-- Five digits in, five out. -/
def limC (S : (Nat → Int) → Nat → Int) : Contract := fun vs => match vs with
  | [.arr .u64 5 l] => some ([], .arr .u64 5 (S l))
  | _ => none
def lim2C (T : (Nat → Int) → (Nat → Int) → Nat → Int) : Contract := fun vs => match vs with
  | [.arr .u64 5 l, .arr .u64 5 m] => some ([], .arr .u64 5 (T l m))
  | _ => none
def loadC (L : (Nat → Int) → Nat → Int) : Contract := fun vs => match vs with
  | [.arr .u8 32 f] => some ([], .arr .u64 5 (L f))
  | _ => none
def bytesC (B : (Nat → Int) → Nat → Int) : Contract := fun vs => match vs with
  | [.arr .u64 5 l] => some ([], .arr .u8 32 (B l))
  | _ => none
def addC (K : Int → Prop) (S C : Int → Int → Int → Int) : Contract := fun vs => match vs with
  | [.int .u64 x, .int .u64 y, .int .u64 c] => some ([K c.val], .tup [.int .u64 (.sym (S x.val y.val c.val)), .int .u64 (.sym (C x.val y.val c.val))])
  | _ => none
def mulC (H L : Int → Int → Int) : Contract := fun vs => match vs with
  | [.int .u64 x, .int .u64 y] => some ([], .tup [.int .u64 (.sym (H x.val y.val)), .int .u64 (.sym (L x.val y.val))])
  | _ => none
def wideC (V : Int → Int → Int → Int → Nat → Int) : Contract := fun vs => match vs with
  | [.arr .u64 2 w, .int .u64 a, .int .u64 b] => some ([], .arr .u64 2 (V (w 0) (w 1) a.val b.val))
  | _ => none

theorem wordF_congr {f g : Nat → Int} (h : ∀ i, i < 8 → f i = g i) : wordF f = wordF g := by
  unfold wordF
  rw [h 0 (by omega), h 1 (by omega), h 2 (by omega), h 3 (by omega), h 4 (by omega), h 5 (by omega), h 6 (by omega), h 7 (by omega)]
theorem rnd_congr {l m : Nat → Int} (h : ∀ i, i < 5 → l i = m i) : rnd l = rnd m := by
  unfold rnd
  rw [h 0 (by omega), h 1 (by omega), h 2 (by omega), h 3 (by omega), h 4 (by omega)]
theorem settle_congr {l m : Nat → Int} (h : ∀ i, i < 5 → l i = m i) : settleF l = settleF m := by
  unfold settleF
  rw [rnd_congr h]
theorem each4 {q : Nat → Prop} (h0 : q 0) (h1 : q 1) (h2 : q 2) (h3 : q 3) : ∀ i, i < 4 → q i := fun i hi =>
  match i, hi with
  | 0, _ => h0
  | 1, _ => h1
  | 2, _ => h2
  | 3, _ => h3
theorem each2 {q : Nat → Prop} (h0 : q 0) (h1 : q 1) : ∀ i, i < 2 → q i := fun i hi =>
  match i, hi with
  | 0, _ => h0
  | 1, _ => h1
theorem each10 {q : Nat → Prop} (h0 : q 0) (h1 : q 1) (h2 : q 2) (h3 : q 3) (h4 : q 4) (h5 : q 5) (h6 : q 6) (h7 : q 7) (h8 : q 8) (h9 : q 9) : ∀ i, i < 10 → q i := fun i hi =>
  match i, hi with
  | 0, _ => h0
  | 1, _ => h1
  | 2, _ => h2
  | 3, _ => h3
  | 4, _ => h4
  | 5, _ => h5
  | 6, _ => h6
  | 7, _ => h7
  | 8, _ => h8
  | 9, _ => h9
end Sx

/-
  Sums and differences of 64 bits with what is carried: the library's own entries as contracts.
-/
namespace Sx
open Go Go.RowKit

def sub64Entry : Array Value → Sem Value := fun args => do
  let (x, y, b) ← Extern.MathBitsCarry.three "Sub64" args
  pure (Extern.MathBitsCarry.pair ((x + Extern.MathBitsCarry.m64 - y - b) % Extern.MathBitsCarry.m64) (if x < y + b then 1 else 0))

theorem run_sub64 {P : Program} (x y c : Int) (hx : 0 ≤ x ∧ x < 18446744073709551616) (hy : 0 ≤ y ∧ y < 18446744073709551616) (hc0 : 0 ≤ c) (hc : c ≤ 1) (w : World) :
    (sub64Entry #[.int .u64 x, .int .u64 y, .int .u64 c]).run P w = .ok (.tuple #[.int .u64 (sbbS x y c), .int .u64 (sbbC x y c)]) w := by
  have key : ∀ k : Nat, k ≤ 1 → (sub64Entry #[.int .u64 x, .int .u64 y, .int .u64 (k : Int)]).run P w =
      .ok (Extern.MathBitsCarry.pair ((x.toNat + Extern.MathBitsCarry.m64 - y.toNat - k) % Extern.MathBitsCarry.m64) (if x.toNat < y.toNat + k then 1 else 0)) w := by
    intro k hk
    have : k = 0 ∨ k = 1 := by omega
    rcases this with rfl | rfl <;> rfl
  obtain ⟨k, rfl⟩ := Int.eq_ofNat_of_zero_le hc0
  rw [key k (by omega)]
  obtain ⟨X, rfl⟩ := Int.eq_ofNat_of_zero_le hx.1
  obtain ⟨Y, rfl⟩ := Int.eq_ofNat_of_zero_le hy.1
  have hX : X < 18446744073709551616 := by omega
  have hY : Y < 18446744073709551616 := by omega
  simp only [Extern.MathBitsCarry.pair, Extern.MathBitsCarry.m64, Int.toNat_natCast, sbbS, sbbC]
  have e1 : Int.ofNat ((X + 2 ^ 64 - Y - k) % 2 ^ 64) = ((X : Int) - Y - k) % 18446744073709551616 := by
    simp only [Nat.reducePow, Int.ofNat_eq_natCast]
    omega
  have e2 : Int.ofNat (if X < Y + k then 1 else 0) = if (X : Int) < Y + k then 1 else 0 := by
    split <;> split <;> first | rfl | omega
  rw [e1, e2]

theorem args3 {w : World} {x y c : SI} {args : List Value} (h : All2 (ArgR w) [.int .u64 x, .int .u64 y, .int .u64 c] args) : args = [.int .u64 x.val, .int .u64 y.val, .int .u64 c.val] := by
  match args, h with
  | [a, b, d], ⟨h1, h2, h3, _⟩ =>
    simp only [ArgR] at h1 h2 h3
    rw [h1, h2, h3]

theorem ok_add64 {P : Program} {f : FuncId} {fn : Func} (hf : P.funcs[f]? = some fn) (hname : (fn.name == "runtime.NumGoroutine") = false) (hb : fn.body.isNone = true) (hn : Extern.findNext fn = none) (he : Extern.find fn = some add64Entry) (G : Nat → AV) :
    Sound P G f (addC Bit01 adcS adcC) := by
  intro vs cs r h hcs hwf w _ args hargs
  unfold addC at h
  split at h
  · rename_i x y c
    cases h
    have hx := inR_u64.1 (hwf (.int .u64 x) (by simp))
    have hy := inR_u64.1 (hwf (.int .u64 y) (by simp))
    have hc : Bit01 c.val := hcs _ (by simp)
    have ha := args3 hargs
    subst ha
    first | refine .inr ⟨.tuple #[.int .u64 (adcS x.val y.val c.val), .int .u64 (adcC x.val y.val c.val)], ⟨rfl, rfl, ?_⟩, ?_⟩ | refine .inr ⟨.tuple #[.int .u64 (adcS x.val y.val c.val), .int .u64 (adcC x.val y.val c.val)], rfl, ⟨rfl, rfl, ?_⟩, ?_⟩
    · intro z hz
      simp only [List.mem_cons, List.not_mem_nil, or_false] at hz
      rcases hz with rfl | rfl
      · exact inR_u64.2 (by show 0 ≤ adcS _ _ _ ∧ adcS _ _ _ < _; unfold adcS; omega)
      · refine inR_u64.2 ?_
        rcases bit01_adc x.val y.val c.val with e | e <;> (show 0 ≤ adcC _ _ _ ∧ adcC _ _ _ < _; rw [e]; decide)
    · rw [run_callFunc_extern hf hname hb hn he]
      show ((add64Entry #[.int .u64 x.val, .int .u64 y.val, .int .u64 c.val]).run P w).andThen _ = _
      rw [run_add64 _ _ _ hx.1 hy.1 (by rcases hc with e | e <;> omega) (by rcases hc with e | e <;> omega)]
      have e1 : (x.val + y.val + c.val) / 18446744073709551616 = adcC x.val y.val c.val := by
        unfold adcC
        rcases hc with e | e <;> split <;> omega
      rw [e1]
      rfl
  · cases h

theorem ok_sub64 {P : Program} {f : FuncId} {fn : Func} (hf : P.funcs[f]? = some fn) (hname : (fn.name == "runtime.NumGoroutine") = false) (hb : fn.body.isNone = true) (hn : Extern.findNext fn = none) (he : Extern.find fn = some sub64Entry) (G : Nat → AV) :
    Sound P G f (addC Bit01 sbbS sbbC) := by
  intro vs cs r h hcs hwf w _ args hargs
  unfold addC at h
  split at h
  · rename_i x y c
    cases h
    have hx := inR_u64.1 (hwf (.int .u64 x) (by simp))
    have hy := inR_u64.1 (hwf (.int .u64 y) (by simp))
    have hc : Bit01 c.val := hcs _ (by simp)
    have ha := args3 hargs
    subst ha
    first | refine .inr ⟨.tuple #[.int .u64 (sbbS x.val y.val c.val), .int .u64 (sbbC x.val y.val c.val)], ⟨rfl, rfl, ?_⟩, ?_⟩ | refine .inr ⟨.tuple #[.int .u64 (sbbS x.val y.val c.val), .int .u64 (sbbC x.val y.val c.val)], rfl, ⟨rfl, rfl, ?_⟩, ?_⟩
    · intro z hz
      simp only [List.mem_cons, List.not_mem_nil, or_false] at hz
      rcases hz with rfl | rfl
      · exact inR_u64.2 (by show 0 ≤ sbbS _ _ _ ∧ sbbS _ _ _ < _; unfold sbbS; omega)
      · refine inR_u64.2 ?_
        rcases bit01_sbb x.val y.val c.val with e | e <;> (show 0 ≤ sbbC _ _ _ ∧ sbbC _ _ _ < _; rw [e]; decide)
    · rw [run_callFunc_extern hf hname hb hn he]
      show ((sub64Entry #[.int .u64 x.val, .int .u64 y.val, .int .u64 c.val]).run P w).andThen _ = _
      rw [run_sub64 _ _ _ hx hy (by rcases hc with e | e <;> omega) (by rcases hc with e | e <;> omega)]
      rfl
  · cases h
end Sx

/-
  Package field's calls, number by number: what they come to and their contracts.
-/
namespace Sx
open Go

/-- Of two numbers of 32 bytes, one. -/
def bin32C (F : (Nat → Int) → (Nat → Int) → Nat → Int) : Contract := fun vs => match vs with
  | [.arr .u8 32 f, .arr .u8 32 g] => some ([], .arr .u8 32 (F f g))
  | _ => none
def un32C (F : (Nat → Int) → Nat → Int) : Contract := fun vs => match vs with
  | [.arr .u8 32 f] => some ([], .arr .u8 32 (F f))
  | _ => none
def bool32C (F : (Nat → Int) → Bool) : Contract := fun vs => match vs with
  | [.arr .u8 32 f] => some ([], .bool (.sym (F f)))
  | _ => none
def bool232C (F : (Nat → Int) → (Nat → Int) → Bool) : Contract := fun vs => match vs with
  | [.arr .u8 32 f, .arr .u8 32 g] => some ([], .bool (.sym (F f g)))
  | _ => none

def redN (f : Nat → Int) : Int := num 32 f % p25
def mulN (f g : Nat → Int) : Int := num 32 f * num 32 g % p25
def addN (f g : Nat → Int) : Int := (num 32 f + num 32 g) % p25
def subN (f g : Nat → Int) : Int := (num 32 f - num 32 g) % p25

theorem lim_add {a b : Int} {x y : Int} (h1 : a % p25 = x % p25) (h2 : b % p25 = y % p25) : (a + b) % p25 = (x + y) % p25 := by
  rw [Int.add_emod, h1, h2, ← Int.add_emod]
theorem lim_sub {a b : Int} {x y : Int} (h1 : a % p25 = x % p25) (h2 : b % p25 = y % p25) : (a - b) % p25 = (x - y) % p25 := by
  rw [Int.sub_emod, h1, h2, ← Int.sub_emod]
theorem lim_mul {a b : Int} {x y : Int} (h1 : a % p25 = x % p25) (h2 : b % p25 = y % p25) : (a * b) % p25 = (x * y) % p25 := by
  rw [Int.mul_emod, h1, h2, ← Int.mul_emod]

theorem red_bytes {f : Nat → Int} (hf : IsBytes 32 f) : ∀ i, i < 32 → bytesF (loadF f) i = byt (redN f) i := by
  obtain ⟨h1, h2⟩ := load_spec hf
  intro i hi
  rw [bytes_spec h2.fit i hi, h1]
  rfl
theorem mul_bytes {f g : Nat → Int} (hf : IsBytes 32 f) (hg : IsBytes 32 g) : ∀ i, i < 32 → bytesF (timesF (loadF f) (loadF g)) i = byt (mulN f g) i := by
  obtain ⟨h1, h2⟩ := load_spec hf
  obtain ⟨h3, h4⟩ := load_spec hg
  obtain ⟨h5, h6⟩ := times_spec h2 h4
  intro i hi
  rw [bytes_spec h6.fit i hi, h5, lim_mul h1 h3]
  rfl
theorem add_bytes {f g : Nat → Int} (hf : IsBytes 32 f) (hg : IsBytes 32 g) : ∀ i, i < 32 → bytesF (settleF (addP (loadF f) (loadF g))) i = byt (addN f g) i := by
  obtain ⟨h1, h2⟩ := load_spec hf
  obtain ⟨h3, h4⟩ := load_spec hg
  obtain ⟨h5, h6⟩ := addP_spec h2 h4
  obtain ⟨h7, h8⟩ := settle_spec h5
  intro i hi
  rw [bytes_spec h8.fit i hi, h7, h6, lim_add h1 h3]
  rfl
theorem sub_bytes {f g : Nat → Int} (hf : IsBytes 32 f) (hg : IsBytes 32 g) : ∀ i, i < 32 → bytesF (settleF (subP (loadF f) (loadF g))) i = byt (subN f g) i := by
  obtain ⟨h1, h2⟩ := load_spec hf
  obtain ⟨h3, h4⟩ := load_spec hg
  obtain ⟨h5, h6⟩ := subP_spec h2 h4
  obtain ⟨h7, h8⟩ := settle_spec h5
  intro i hi
  rw [bytes_spec h8.fit i hi, h7, h6]
  have e : (lim (loadF f) - lim (loadF g) + 2 * p25) % p25 = (lim (loadF f) - lim (loadF g)) % p25 := by
    rw [Int.add_mul_emod_self_right]
  rw [e, lim_sub h1 h3]
  rfl

theorem modp (n : Int) : 0 ≤ n % p25 ∧ n % p25 < p25 := ⟨Int.emod_nonneg _ (by decide), Int.emod_lt_of_pos _ (by decide)⟩
theorem modp_big (n : Int) : 0 ≤ n % p25 ∧ n % p25 < 256 ^ 32 := by
  have h := modp n
  have e : (256 : Int) ^ 32 = 115792089237316195423570985008687907853269984665640564039457584007913129639936 := by decide
  rw [e]
  simp only [p25] at h ⊢
  omega
theorem num_mod (n : Int) : num 32 (byt (n % p25)) = n % p25 := num_byt 32 _ (modp_big n).1 (modp_big n).2

theorem num_red (f : Nat → Int) : num 32 (byt (redN f)) = num 32 f % p25 := num_mod _
theorem num_mul (f g : Nat → Int) : num 32 (byt (mulN f g)) = num 32 f * num 32 g % p25 := num_mod _
theorem num_add (f g : Nat → Int) : num 32 (byt (addN f g)) = (num 32 f + num 32 g) % p25 := num_mod _
theorem num_sub (f g : Nat → Int) : num 32 (byt (subN f g)) = (num 32 f - num 32 g) % p25 := num_mod _

theorem eqA_congr {n : Nat} {f f' g g' : Nat → Int} (hf : ∀ i, i < n → f i = f' i) (hg : ∀ i, i < n → g i = g' i) : realEqA n f g = realEqA n f' g' := by
  rw [Bool.eq_iff_iff]
  simp only [realEqA, List.all_eq_true, List.mem_range, beq_iff_eq]
  exact ⟨fun h i hi => by rw [← hf i hi, ← hg i hi]; exact h i hi, fun h i hi => by rw [hf i hi, hg i hi]; exact h i hi⟩

def canB (f : Nat → Int) : Bool := decide (num 32 f < p25)
def eqB (f g : Nat → Int) : Bool := decide (num 32 f % p25 = num 32 g % p25)
def oddB (f : Nat → Int) : Bool := decide (num 32 f % p25 % 2 = 1)

theorem can_eq {f : Nat → Int} (hf : IsBytes 32 f) : realEqA 32 (bytesF (loadF f)) f = canB f := by
  rw [eqA_congr (red_bytes hf) (fun _ _ => rfl), eqA_num (byt_isBytes _ _) hf, num_red]
  have hb := (num_bounds 32 f hf).1
  unfold canB
  rw [Bool.eq_iff_iff]
  simp only [beq_iff_eq, decide_eq_true_eq]
  constructor
  · intro h; rw [← h]; exact (modp _).2
  · intro h; exact Int.emod_eq_of_lt hb h
theorem eq_eq {f g : Nat → Int} (hf : IsBytes 32 f) (hg : IsBytes 32 g) : realEqA 32 (bytesF (loadF f)) (bytesF (loadF g)) = eqB f g := by
  rw [eqA_congr (red_bytes hf) (red_bytes hg), eqA_num (byt_isBytes _ _) (byt_isBytes _ _), num_red, num_red]
  unfold eqB
  rw [Bool.eq_iff_iff]
  simp only [beq_iff_eq, decide_eq_true_eq]
theorem and_one_u8 {x : Int} (h : 0 ≤ x ∧ x < 256) : realBin .and .u8 x 1 = x % 2 := and_mask (k := .u8) rfl ⟨h.1, by have e : (2 : Int) ^ IntKind.bits .u8 = 256 := rfl; rw [e]; exact h.2⟩ 1 (by decide)
theorem odd_eq {f : Nat → Int} (hf : IsBytes 32 f) : realCmp .eql (realBin .and .u8 (bytesF (loadF f) 0) 1) 1 = oddB f := by
  rw [red_bytes hf 0 (by decide), and_one_u8 (byt_isBytes _ 32 0 (by decide))]
  unfold oddB redN
  rw [Bool.eq_iff_iff]
  simp only [realCmp, byt, Int.pow_zero, Int.ediv_one, beq_iff_eq, decide_eq_true_eq]
  have := modp (num 32 f)
  omega
theorem isB {f : Nat → Int} (h : wfV (.arr .u8 32 f)) : IsBytes 32 f := fun i hi => inR_u8.1 (h i hi)
theorem num_zero : ∀ n, num n (fun _ => 0) = 0
  | 0 => rfl
  | n + 1 => by simp only [num, num_zero n]; rfl
theorem neg_bytes {f : Nat → Int} (hf : IsBytes 32 f) : ∀ i, i < 32 → bytesF (settleF (subP (fun _ => 0) (loadF f))) i = byt (subN (fun _ => 0) f) i := by
  obtain ⟨h1, h2⟩ := load_spec hf
  have hz : Tidy (fun _ => 0) := by
    refine ⟨⟨Int.le_refl _, ?_⟩, fun _ _ _ => ⟨Int.le_refl _, ?_⟩⟩
    · show (0 : Int) < _
      decide
    · show (0 : Int) < _
      decide
  obtain ⟨h5, h6⟩ := subP_spec hz h2
  obtain ⟨h7, h8⟩ := settle_spec h5
  intro i hi
  rw [bytes_spec h8.fit i hi, h7, h6]
  have e : (lim (fun _ => 0) - lim (loadF f) + 2 * p25) % p25 = (lim (fun _ => 0) - lim (loadF f)) % p25 := by
    rw [Int.add_mul_emod_self_right]
  have h0 : lim (fun _ => 0) % p25 = num 32 (fun _ => 0) % p25 := by rw [num_zero]; rfl
  rw [e, lim_sub h0 h1]
  rfl
end Sx

/-
  What the laws' own helpers reckon: comparing and adding numbers byte by byte.
-/
namespace Sx
open Go

def numberC (N : Int → Nat → Int) : Contract := fun vs => match vs with
  | [.int .u8 x] => some ([], .arr .u8 32 (N x.val))
  | _ => none
def primeC (N : Nat → Int) : Contract := fun vs => match vs with
  | [] => some ([], .arr .u8 32 N)
  | _ => none
def lplusC (S : (Nat → Int) → (Nat → Int) → Nat → Int) (C : (Nat → Int) → (Nat → Int) → Int) : Contract := fun vs => match vs with
  | [.arr .u8 32 f, .arr .u8 32 g] => some ([], .tup [.arr .u8 32 (S f g), .int .i64 (.sym (C f g))])
  | _ => none

def ltB (f g : Nat → Int) : Bool := decide (num 32 f < num 32 g)

theorem num_split : ∀ (k m : Nat) (f : Nat → Int), num (k + m) f = num k f + 256 ^ k * num m (fun i => f (k + i))
  | 0, m, f => by simp [num]
  | k + 1, m, f => by
    have e : k + 1 + m = (k + m) + 1 := by omega
    rw [e]
    simp only [num]
    rw [num_split k m, Int.mul_add, Int.pow_succ', ← Int.mul_assoc, Int.add_assoc]
    congr 2
    congr 1
    apply num_congr
    intro i _
    congr 1
    omega

theorem num_last (k : Nat) (f : Nat → Int) : num (k + 1) f = num k f + 256 ^ k * f k := by
  rw [num_split k 1]
  simp [num]

/-- The highest byte in which two numbers differ tells. -/
theorem lt_at {f g : Nat → Int} (hf : IsBytes 32 f) (hg : IsBytes 32 g) {k : Nat} (hk : k < 32) (he : ∀ j, k < j → j < 32 → f j = g j) (hne : f k ≠ g k) : decide (f k < g k) = ltB f g := by
  have hb := num_bounds k f (fun i hi => hf i (by omega))
  have hb' := num_bounds k g (fun i hi => hg i (by omega))
  have e : 32 = (k + 1) + (31 - k) := by omega
  have t : num (31 - k) (fun i => f (k + 1 + i)) = num (31 - k) (fun i => g (k + 1 + i)) := num_congr _ (fun i hi => he (k + 1 + i) (by omega) (by omega))
  unfold ltB
  rw [e, num_split (k + 1), num_split (k + 1) _ g, t, num_last, num_last]
  generalize 256 ^ (k + 1) * num (31 - k) (fun i => g (k + 1 + i)) = T
  have hp : (0 : Int) < 256 ^ k := Int.pow_pos (by decide)
  rw [decide_eq_decide]
  constructor
  · intro h
    have : 256 ^ k * (f k + 1) ≤ 256 ^ k * g k := Int.mul_le_mul_of_nonneg_left (by omega) (by omega)
    rw [Int.mul_add, Int.mul_one] at this
    omega
  · intro h
    rcases Int.lt_or_gt_of_ne hne with h1 | h1
    · exact h1
    · have : 256 ^ k * (g k + 1) ≤ 256 ^ k * f k := Int.mul_le_mul_of_nonneg_left (by omega) (by omega)
      rw [Int.mul_add, Int.mul_one] at this
      omega
theorem lt_none {f g : Nat → Int} (he : ∀ j, j < 32 → f j = g j) : ltB f g = false := by
  unfold ltB
  rw [num_congr 32 he]
  simp

/-- Where a comparison stands. -/
def LessAt (f g : Nat → Int) : Type := { x : Int // -1 ≤ x ∧ x ≤ 31 ∧ ∀ j : Nat, (x + 1).toNat ≤ j → j < 32 → f j = g j }

/-- Where a sum stands. -/
def sumN (f g : Nat → Int) : Int := num 32 f + num 32 g
theorem sum_step (f g : Nat → Int) (k : Nat) : (num (k + 1) f + num (k + 1) g) / 256 ^ (k + 1) = ((num k f + num k g) / 256 ^ k + f k + g k) / 256 := by
  rw [num_last, num_last, Int.pow_succ, ← Int.ediv_ediv_of_nonneg (Int.le_of_lt (Int.pow_pos (by decide)))]
  congr 1
  have e : num k f + 256 ^ k * f k + (num k g + 256 ^ k * g k) = (num k f + num k g) + 256 ^ k * (f k + g k) := by rw [Int.mul_add]; omega
  rw [e, Int.add_mul_ediv_left _ _ (Int.ne_of_gt (Int.pow_pos (by decide)))]
  omega
theorem sum_byte {f g : Nat → Int} {k : Nat} (hk : k < 32) : byt (sumN f g) k = ((num k f + num k g) / 256 ^ k + f k + g k) % 256 := by
  have e : 32 = (k + 1) + (31 - k) := by omega
  unfold sumN byt
  rw [e, num_split (k + 1), num_split (k + 1) _ g, num_last, num_last]
  have e2 : num k f + 256 ^ k * f k + 256 ^ (k + 1) * num (31 - k) (fun i => f (k + 1 + i)) + (num k g + 256 ^ k * g k + 256 ^ (k + 1) * num (31 - k) (fun i => g (k + 1 + i))) =
      (num k f + num k g) + 256 ^ k * ((f k + g k) + 256 * (num (31 - k) (fun i => f (k + 1 + i)) + num (31 - k) (fun i => g (k + 1 + i)))) := by
    rw [Int.pow_succ]
    grind
  rw [e2, Int.add_mul_ediv_left _ _ (Int.ne_of_gt (Int.pow_pos (by decide)))]
  omega
theorem carry_bounds {f g : Nat → Int} {k : Nat} (hf : IsBytes k f) (hg : IsBytes k g) : 0 ≤ (num k f + num k g) / 256 ^ k ∧ (num k f + num k g) / 256 ^ k ≤ 1 := by
  have h1 := num_bounds k f hf
  have h2 := num_bounds k g hg
  have hp : (0 : Int) < 256 ^ k := Int.pow_pos (by decide)
  constructor
  · exact Int.ediv_nonneg (by omega) (by omega)
  · have : (num k f + num k g) / 256 ^ k < 2 := Int.ediv_lt_of_lt_mul hp (by omega)
    omega
theorem number_bytes {x : Int} (hx : 0 ≤ x ∧ x < 256) : ∀ i, i < 32 → upd (fun _ => 0) 0 x i = byt x i := by
  intro i _
  unfold upd byt
  by_cases h : i = 0
  · subst h; simp only [if_true, Int.pow_zero, Int.ediv_one]; omega
  · rw [if_neg h]
    obtain ⟨k, rfl⟩ : ∃ k, i = k + 1 := ⟨i - 1, by omega⟩
    rw [Int.pow_succ', ← Int.ediv_ediv_of_nonneg (by decide)]
    have e : x / 256 = 0 := by omega
    rw [e]
    simp
theorem prime_bytes : ∀ i, i < 32 → upd (upd (fun i => if i < 32 then 255 else 0) 0 237) 31 127 i = byt p25 i := by decide
/-- What is carried behind k bytes. -/
def sumC (f g : Nat → Int) (k : Nat) : Int := (num k f + num k g) / 256 ^ k
end Sx

/-
  Digits to any base, and what is carried.
-/
namespace Sx
open Go Go.RowKit

/-- The sum of digits to base B. -/
def sumB (B : Int) : Nat → (Nat → Int) → Int
  | 0, _ => 0
  | n + 1, f => sumB B n f + B ^ n * f n
/-- A number's digits to base B. -/
def dgt (B : Int) (N : Int) : Nat → Int := fun i => N / B ^ i % B
/-- What is carried into digit i. -/
def carB (B : Int) (x : Nat → Int) (c : Int) (i : Nat) : Int := (sumB B i x + c) / B ^ i
def IsDig (B : Int) (n : Nat) (f : Nat → Int) : Prop := ∀ i, i < n → 0 ≤ f i ∧ f i < B

theorem sumB_congr {B : Int} : ∀ {n : Nat} {f g : Nat → Int}, (∀ i, i < n → f i = g i) → sumB B n f = sumB B n g
  | 0, _, _, _ => rfl
  | n + 1, f, g, h => by
    simp only [sumB]
    rw [sumB_congr fun i hi => h i (by omega), h n (by omega)]
theorem sumB_add {B : Int} (f g : Nat → Int) : ∀ n, sumB B n (fun i => f i + g i) = sumB B n f + sumB B n g
  | 0 => rfl
  | n + 1 => by
    simp only [sumB]
    rw [sumB_add f g n, Int.mul_add]; omega
theorem sumB_sub {B : Int} (f g : Nat → Int) : ∀ n, sumB B n (fun i => f i - g i) = sumB B n f - sumB B n g
  | 0 => rfl
  | n + 1 => by
    simp only [sumB]
    rw [sumB_sub f g n, Int.mul_sub]; omega
theorem sumB_mul {B : Int} (k : Int) (f : Nat → Int) : ∀ n, sumB B n (fun i => k * f i) = k * sumB B n f
  | 0 => by simp [sumB]
  | n + 1 => by
    simp only [sumB]
    rw [sumB_mul k f n, Int.mul_add, Int.mul_left_comm]
theorem sumB_zero {B : Int} : ∀ n, sumB B n (fun _ => 0) = 0
  | 0 => rfl
  | n + 1 => by simp only [sumB]; rw [sumB_zero n]; simp
theorem sumB_split {B : Int} (f : Nat → Int) (k : Nat) : ∀ m, sumB B (k + m) f = sumB B k f + B ^ k * sumB B m fun j => f (k + j)
  | 0 => by simp [sumB]
  | m + 1 => by
    rw [← Nat.add_assoc]
    simp only [sumB]
    rw [sumB_split f k m, Int.mul_add, Int.pow_add, Int.mul_assoc]; omega
theorem num_sumB (f : Nat → Int) : ∀ n, num n f = sumB 256 n f
  | 0 => rfl
  | n + 1 => by rw [num_last, num_sumB f n]; rfl
theorem byt_dgt (N : Int) : byt N = dgt 256 N := rfl

theorem powB_pos {B : Int} (hB : 0 < B) (n : Nat) : 0 < B ^ n := Int.pow_pos hB

theorem carB_zero (B : Int) (x : Nat → Int) (c : Int) : carB B x c 0 = c := by simp [carB, sumB]
theorem carB_succ {B : Int} (hB : 0 < B) (x : Nat → Int) (c : Int) (i : Nat) : carB B x c (i + 1) = (x i + carB B x c i) / B := by
  have h := powB_pos hB i
  unfold carB
  simp only [sumB]
  have e : sumB B i x + B ^ i * x i + c = sumB B i x + c + B ^ i * x i := by omega
  rw [Int.pow_succ, ← Int.ediv_ediv_of_nonneg (Int.le_of_lt h), e, Int.add_mul_ediv_left _ _ (by omega), Int.add_comm]
theorem dgt_low {B : Int} (hB : 0 < B) (N k : Int) {i n : Nat} (h : i < n) : dgt B (N + B ^ n * k) i = dgt B N i := by
  have hp := powB_pos hB i
  obtain ⟨m, rfl⟩ : ∃ m, n = i + 1 + m := ⟨n - (i + 1), by omega⟩
  unfold dgt
  have e : B ^ (i + 1 + m) * k = B ^ i * (B * (B ^ m * k)) := by
    rw [Int.pow_add, Int.pow_succ, Int.mul_assoc, Int.mul_assoc]
  rw [e, Int.add_mul_ediv_left _ _ (by omega), Int.add_mul_emod_self_left]
theorem dgt_car {B : Int} (hB : 0 < B) (x : Nat → Int) (c : Int) {i n : Nat} (h : i < n) : dgt B (sumB B n x + c) i = (x i + carB B x c i) % B := by
  obtain ⟨m, rfl⟩ : ∃ m, n = (i + 1) + m := ⟨n - (i + 1), by omega⟩
  rw [sumB_split]
  have e : sumB B (i + 1) x + B ^ (i + 1) * sumB B m (fun j => x (i + 1 + j)) + c = sumB B i x + c + B ^ i * x i + B ^ (i + 1) * sumB B m (fun j => x (i + 1 + j)) := by
    simp only [sumB]; omega
  have hp := powB_pos hB i
  rw [e, dgt_low hB _ _ (by omega)]
  unfold dgt carB
  rw [Int.add_mul_ediv_left _ _ (by omega), Int.add_comm]
theorem sumB_range {B : Int} (hB : 0 < B) {f : Nat → Int} : ∀ {n : Nat}, IsDig B n f → 0 ≤ sumB B n f ∧ sumB B n f < B ^ n
  | 0, _ => by simp [sumB]
  | n + 1, h => by
    obtain ⟨h1, h2⟩ := sumB_range hB (n := n) fun i hi => h i (by omega)
    obtain ⟨h3, h4⟩ := h n (by omega)
    have hp := powB_pos hB n
    have h5 : 0 ≤ B ^ n * f n := Int.mul_nonneg (Int.le_of_lt hp) h3
    have h6 : B ^ n * f n ≤ B ^ n * (B - 1) := Int.mul_le_mul_of_nonneg_left (by omega) (Int.le_of_lt hp)
    simp only [sumB]
    rw [Int.pow_succ]
    rw [Int.mul_sub, Int.mul_one] at h6
    exact ⟨by omega, by omega⟩
theorem dgt_isDig {B : Int} (hB : 0 < B) (N : Int) (n : Nat) : IsDig B n (dgt B N) := fun _ _ => ⟨Int.emod_nonneg _ (by omega), Int.emod_lt_of_pos _ hB⟩
theorem carB_dig {B : Int} (hB : 0 < B) {f : Nat → Int} {n : Nat} (h : IsDig B n f) : carB B f 0 n = 0 := by
  obtain ⟨h1, h2⟩ := sumB_range hB h
  unfold carB
  rw [Int.add_zero]
  exact Int.ediv_eq_zero_of_lt h1 h2
theorem dgt_sumB {B : Int} (hB : 0 < B) {f : Nat → Int} {n : Nat} (h : IsDig B n f) {i : Nat} (hi : i < n) : dgt B (sumB B n f) i = f i := by
  have := dgt_car hB f 0 hi
  rw [Int.add_zero, carB_dig hB (fun j hj => h j (by omega)), Int.add_zero] at this
  rw [this]
  exact Int.emod_eq_of_lt (h i hi).1 (h i hi).2
theorem sumB_dgt {B : Int} (hB : 0 < B) (N : Int) : ∀ n, sumB B n (dgt B N) = N % B ^ n
  | 0 => by simp [sumB, Int.emod_one]
  | n + 1 => by
    simp only [sumB]
    rw [sumB_dgt hB N n]
    unfold dgt
    have hp := powB_pos hB n
    rw [Int.pow_succ]
    have h1 := Int.emod_add_mul_ediv N (B ^ n)
    have h2 := Int.emod_add_mul_ediv (N / B ^ n) B
    have h3 := Int.emod_add_mul_ediv N (B ^ n * B)
    have h4 : N / (B ^ n * B) = N / B ^ n / B := (Int.ediv_ediv_of_nonneg (Int.le_of_lt hp)).symm
    rw [h4, Int.mul_assoc] at h3
    have h5 : B ^ n * (N / B ^ n % B) + B ^ n * (B * (N / B ^ n / B)) = B ^ n * (N / B ^ n) := by rw [← Int.mul_add, h2]
    omega
theorem sumB_dgt_lt {B : Int} (hB : 0 < B) {N : Int} {n : Nat} (h0 : 0 ≤ N) (h1 : N < B ^ n) : sumB B n (dgt B N) = N := by
  rw [sumB_dgt hB, Int.emod_eq_of_lt h0 h1]
theorem dgt_mod {B : Int} (hB : 0 < B) (N : Int) {i n : Nat} (h : i < n) : dgt B (N % B ^ n) i = dgt B N i := by
  have h1 := Int.emod_add_mul_ediv N (B ^ n)
  have h2 := dgt_low hB (N % B ^ n) (N / B ^ n) h
  rw [h1] at h2
  exact h2.symm
end Sx

/-
  Package scalar's wide numbers: what each step of its code yields.
-/
namespace Sx
open Go Go.RowKit

abbrev q64 : Int := 18446744073709551616
abbrev lI : Int := 7237005577332262213973186563042994240857116359379907606001950938285454250989
def W5 (a : Nat → Int) : Int := sumB q64 5 a
def plusW (a b : Nat → Int) : Nat → Int := dgt q64 (W5 a + W5 b)
def minusW (a b : Nat → Int) : Nat → Int := dgt q64 (W5 a - W5 b)
def ltW (a b : Nat → Int) : Bool := decide (W5 a < W5 b)
def shiftW (a : Nat → Int) (n : Int) : Nat → Int := dgt q64 (16 * W5 a + n)
def foldW (a : Nat → Int) : Nat → Int := dgt q64 (W5 a % lI)
def Is5 (a : Nat → Int) : Prop := IsDig q64 5 a

theorem q64_pos : 0 < q64 := by decide
theorem is5_dgt (N : Int) : Is5 (dgt q64 N) := dgt_isDig q64_pos N 5
theorem W5_range {a : Nat → Int} (h : Is5 a) : 0 ≤ W5 a ∧ W5 a < 2135987035920910082395021706169552114602704522356652769947041607822219725780640550022962086936576 := sumB_range q64_pos h
theorem W5_dgt {N : Int} (h0 : 0 ≤ N) (h1 : N < 2135987035920910082395021706169552114602704522356652769947041607822219725780640550022962086936576) : W5 (dgt q64 N) = N := sumB_dgt_lt q64_pos h0 h1

section
variable {a b : Nat → Int} (ha : Is5 a) (hb : Is5 b)

theorem adc_step {x y c : Int} (hx : 0 ≤ x ∧ x < q64) (hy : 0 ≤ y ∧ y < q64) (hc : 0 ≤ c ∧ c ≤ 1) : adcC x y c = (x + y + c) / q64 ∧ (0 ≤ adcC x y c ∧ adcC x y c ≤ 1) := by
  simp only [q64] at *
  unfold adcC
  split <;> omega
theorem sbb_step {x y c : Int} (hx : 0 ≤ x ∧ x < q64) (hy : 0 ≤ y ∧ y < q64) (hc : 0 ≤ c ∧ c ≤ 1) : sbbC x y c = - ((x - y - c) / q64) ∧ (0 ≤ sbbC x y c ∧ sbbC x y c ≤ 1) := by
  simp only [q64] at *
  unfold sbbC
  split <;> omega

include ha hb in
theorem plus_cars : ∀ i, i ≤ 5 → 0 ≤ carB q64 (fun i => a i + b i) 0 i ∧ carB q64 (fun i => a i + b i) 0 i ≤ 1 ∧ (i < 5 → adcC (a i) (b i) (carB q64 (fun i => a i + b i) 0 i) = carB q64 (fun i => a i + b i) 0 (i + 1)) := by
  have step : ∀ i, i < 5 → 0 ≤ carB q64 (fun i => a i + b i) 0 i ∧ carB q64 (fun i => a i + b i) 0 i ≤ 1 → adcC (a i) (b i) (carB q64 (fun i => a i + b i) 0 i) = carB q64 (fun i => a i + b i) 0 (i + 1) ∧ (0 ≤ carB q64 (fun i => a i + b i) 0 (i + 1) ∧ carB q64 (fun i => a i + b i) 0 (i + 1) ≤ 1) := by
    intro i hi hc
    obtain ⟨h1, h2⟩ := adc_step (ha i hi) (hb i hi) hc
    rw [carB_succ q64_pos, ← h1]
    exact ⟨rfl, h2⟩
  intro i
  induction i with
  | zero =>
    intro _
    have h0 : 0 ≤ carB q64 (fun i => a i + b i) 0 0 ∧ carB q64 (fun i => a i + b i) 0 0 ≤ 1 := by rw [carB_zero]; decide
    exact ⟨h0.1, h0.2, fun hi => (step 0 hi h0).1⟩
  | succ i ih =>
    intro hi
    obtain ⟨h1, h2, _⟩ := ih (by omega)
    have h3 := (step i (by omega) ⟨h1, h2⟩).2
    exact ⟨h3.1, h3.2, fun hj => (step (i + 1) hj h3).1⟩

theorem plus_eqs : ∀ i, i < 5 → plusW a b i = adcS (a i) (b i) (carB q64 (fun i => a i + b i) 0 i) := by
  intro i hi
  have h := dgt_car q64_pos (fun i => a i + b i) 0 hi
  rw [Int.add_zero, sumB_add] at h
  exact h

include ha hb in
theorem plus_each : (adcS (a 0) (b 0) 0 = plusW a b 0 ∧ adcS (a 1) (b 1) (adcC (a 0) (b 0) 0) = plusW a b 1 ∧ adcS (a 2) (b 2) (adcC (a 1) (b 1) (adcC (a 0) (b 0) 0)) = plusW a b 2 ∧ adcS (a 3) (b 3) (adcC (a 2) (b 2) (adcC (a 1) (b 1) (adcC (a 0) (b 0) 0))) = plusW a b 3 ∧ adcS (a 4) (b 4) (adcC (a 3) (b 3) (adcC (a 2) (b 2) (adcC (a 1) (b 1) (adcC (a 0) (b 0) 0)))) = plusW a b 4) := by
  have hc := plus_cars ha hb
  have c0 : carB q64 (fun i => a i + b i) 0 0 = 0 := carB_zero ..
  have c1 := (hc 0 (by decide)).2.2 (by decide)
  rw [c0] at c1
  have c2 := (hc 1 (by decide)).2.2 (by decide)
  have c3 := (hc 2 (by decide)).2.2 (by decide)
  have c4 := (hc 3 (by decide)).2.2 (by decide)
  have e := plus_eqs (a := a) (b := b)
  refine ⟨?_, ?_, ?_, ?_, ?_⟩
  · rw [e 0 (by decide), c0]
  · rw [e 1 (by decide), c1]
  · rw [e 2 (by decide), c1, c2]
  · rw [e 3 (by decide), c1, c2, c3]
  · rw [e 4 (by decide), c1, c2, c3, c4]

include ha hb in
theorem minus_cars : ∀ i, i ≤ 5 → 0 ≤ - carB q64 (fun i => a i - b i) 0 i ∧ - carB q64 (fun i => a i - b i) 0 i ≤ 1 ∧ (i < 5 → sbbC (a i) (b i) (- carB q64 (fun i => a i - b i) 0 i) = - carB q64 (fun i => a i - b i) 0 (i + 1)) := by
  have step : ∀ i, i < 5 → 0 ≤ - carB q64 (fun i => a i - b i) 0 i ∧ - carB q64 (fun i => a i - b i) 0 i ≤ 1 → sbbC (a i) (b i) (- carB q64 (fun i => a i - b i) 0 i) = - carB q64 (fun i => a i - b i) 0 (i + 1) ∧ (0 ≤ - carB q64 (fun i => a i - b i) 0 (i + 1) ∧ - carB q64 (fun i => a i - b i) 0 (i + 1) ≤ 1) := by
    intro i hi hc
    obtain ⟨h1, h2⟩ := sbb_step (ha i hi) (hb i hi) hc
    have e : a i - b i - - carB q64 (fun i => a i - b i) 0 i = a i - b i + carB q64 (fun i => a i - b i) 0 i := by omega
    rw [carB_succ q64_pos]
    rw [e] at h1
    rw [← h1]
    exact ⟨rfl, h2⟩
  intro i
  induction i with
  | zero =>
    intro _
    have h0 : 0 ≤ - carB q64 (fun i => a i - b i) 0 0 ∧ - carB q64 (fun i => a i - b i) 0 0 ≤ 1 := by rw [carB_zero]; decide
    exact ⟨h0.1, h0.2, fun hi => (step 0 hi h0).1⟩
  | succ i ih =>
    intro hi
    obtain ⟨h1, h2, _⟩ := ih (by omega)
    have h3 := (step i (by omega) ⟨h1, h2⟩).2
    exact ⟨h3.1, h3.2, fun hj => (step (i + 1) hj h3).1⟩

theorem minus_eqs : ∀ i, i < 5 → minusW a b i = sbbS (a i) (b i) (- carB q64 (fun i => a i - b i) 0 i) := by
  intro i hi
  have h := dgt_car q64_pos (fun i => a i - b i) 0 hi
  rw [Int.add_zero, sumB_sub] at h
  have e : a i - b i - - carB q64 (fun i => a i - b i) 0 i = a i - b i + carB q64 (fun i => a i - b i) 0 i := by omega
  unfold sbbS
  rw [e]
  exact h

include ha hb in
theorem minus_each : (sbbS (a 0) (b 0) 0 = minusW a b 0 ∧ sbbS (a 1) (b 1) (sbbC (a 0) (b 0) 0) = minusW a b 1 ∧ sbbS (a 2) (b 2) (sbbC (a 1) (b 1) (sbbC (a 0) (b 0) 0)) = minusW a b 2 ∧ sbbS (a 3) (b 3) (sbbC (a 2) (b 2) (sbbC (a 1) (b 1) (sbbC (a 0) (b 0) 0))) = minusW a b 3 ∧ sbbS (a 4) (b 4) (sbbC (a 3) (b 3) (sbbC (a 2) (b 2) (sbbC (a 1) (b 1) (sbbC (a 0) (b 0) 0)))) = minusW a b 4) ∧
    realCmp .neq (sbbC (a 4) (b 4) (sbbC (a 3) (b 3) (sbbC (a 2) (b 2) (sbbC (a 1) (b 1) (sbbC (a 0) (b 0) 0))))) 0 = ltW a b := by
  have hc := minus_cars ha hb
  have c0 : - carB q64 (fun i => a i - b i) 0 0 = 0 := by rw [carB_zero]; rfl
  have c1 := (hc 0 (by decide)).2.2 (by decide)
  rw [c0] at c1
  have c2 := (hc 1 (by decide)).2.2 (by decide)
  have c3 := (hc 2 (by decide)).2.2 (by decide)
  have c4 := (hc 3 (by decide)).2.2 (by decide)
  have c5 := (hc 4 (by decide)).2.2 (by decide)
  have e := minus_eqs (a := a) (b := b)
  refine ⟨⟨?_, ?_, ?_, ?_, ?_⟩, ?_⟩
  · rw [e 0 (by decide), c0]
  · rw [e 1 (by decide), c1]
  · rw [e 2 (by decide), c1, c2]
  · rw [e 3 (by decide), c1, c2, c3]
  · rw [e 4 (by decide), c1, c2, c3, c4]
  · rw [c1, c2, c3, c4, c5]
    have ra := W5_range ha
    have rb := W5_range hb
    have e5 : carB q64 (fun i => a i - b i) 0 5 = (W5 a - W5 b) / 2135987035920910082395021706169552114602704522356652769947041607822219725780640550022962086936576 := by
      unfold carB
      rw [sumB_sub, Int.add_zero]
      rfl
    show (- carB q64 (fun i => a i - b i) 0 (4 + 1) != 0) = decide (W5 a < W5 b)
    rw [show (4 + 1) = 5 from rfl, e5, Bool.eq_iff_iff, bne_iff_ne, decide_eq_true_iff]
    omega

theorem shift_or {x c : Int} (_hx : 0 ≤ x ∧ x < q64) (hc : 0 ≤ c ∧ c < 16) : realBin .or .u64 (realBin .shl .u64 x 4) c = (16 * x + c) % q64 := by
  have e : realBin .shl .u64 x 4 = (x * 16) % q64 := shl_u64 x 4 (by decide)
  simp only [q64] at *
  rw [e, or_apart (k := .u64) rfl (x := x * 16 % 18446744073709551616) (y := c) 4 ⟨by omega, by show _ < (18446744073709551616 : Int); omega⟩ (by show x * 16 % 18446744073709551616 % 16 = 0; omega) ⟨hc.1, by show c < 16; omega⟩ (by decide)]
  omega
theorem shift_high {x c : Int} (hx : 0 ≤ x ∧ x < q64) (hc : 0 ≤ c ∧ c < 16) : realBin .shr .u64 x 60 = (16 * x + c) / q64 ∧ (0 ≤ realBin .shr .u64 x 60 ∧ realBin .shr .u64 x 60 < 16) := by
  have e : realBin .shr .u64 x 60 = x / 1152921504606846976 := shr_any .u64 x 60 (by decide)
  simp only [q64] at *
  rw [e]
  omega

include ha in
theorem shift_each {n : Int} (hn : 0 ≤ n ∧ n < 16) : (realBin .or .u64 (realBin .shl .u64 (a 0) 4) n = shiftW a n 0 ∧ realBin .or .u64 (realBin .shl .u64 (a 1) 4) (realBin .shr .u64 (a 0) 60) = shiftW a n 1 ∧ realBin .or .u64 (realBin .shl .u64 (a 2) 4) (realBin .shr .u64 (a 1) 60) = shiftW a n 2 ∧ realBin .or .u64 (realBin .shl .u64 (a 3) 4) (realBin .shr .u64 (a 2) 60) = shiftW a n 3 ∧ realBin .or .u64 (realBin .shl .u64 (a 4) 4) (realBin .shr .u64 (a 3) 60) = shiftW a n 4) := by
  have e : ∀ i, i < 5 → shiftW a n i = (16 * a i + carB q64 (fun i => 16 * a i) n i) % q64 := by
    intro i hi
    have h := dgt_car q64_pos (fun i => 16 * a i) n hi
    rw [sumB_mul] at h
    exact h
  have c0 : carB q64 (fun i => 16 * a i) n 0 = n := carB_zero ..
  have s0 := shift_high (ha 0 (by decide)) hn
  have c1 : carB q64 (fun i => 16 * a i) n 1 = realBin .shr .u64 (a 0) 60 := by rw [carB_succ q64_pos, c0, s0.1]
  have s1 := shift_high (ha 1 (by decide)) s0.2
  have c2 : carB q64 (fun i => 16 * a i) n 2 = realBin .shr .u64 (a 1) 60 := by rw [carB_succ q64_pos, c1, s1.1]
  have s2 := shift_high (ha 2 (by decide)) s1.2
  have c3 : carB q64 (fun i => 16 * a i) n 3 = realBin .shr .u64 (a 2) 60 := by rw [carB_succ q64_pos, c2, s2.1]
  have s3 := shift_high (ha 3 (by decide)) s2.2
  have c4 : carB q64 (fun i => 16 * a i) n 4 = realBin .shr .u64 (a 3) 60 := by rw [carB_succ q64_pos, c3, s3.1]
  refine ⟨?_, ?_, ?_, ?_, ?_⟩
  · rw [e 0 (by decide), c0]; exact shift_or (ha 0 (by decide)) hn
  · rw [e 1 (by decide), c1]; exact shift_or (ha 1 (by decide)) s0.2
  · rw [e 2 (by decide), c2]; exact shift_or (ha 2 (by decide)) s1.2
  · rw [e 3 (by decide), c3]; exact shift_or (ha 3 (by decide)) s2.2
  · rw [e 4 (by decide), c4]; exact shift_or (ha 4 (by decide)) s3.2

/-- The multiple that fold takes off. -/
def topW (a : Nat → Int) : Int := W5 a / 7237005577332262213973186563042994240829374041602535252466099000494570602496
include ha in
theorem fold_index (h : W5 a < 16 * lI) : realBin .or .u64 (realBin .shr .u64 (a 3) 60) (realBin .shl .u64 (a 4) 4) = topW a ∧ 0 ≤ topW a ∧ topW a < 17 := by
  have h0 := ha 0 (by decide)
  have h1 := ha 1 (by decide)
  have h2 := ha 2 (by decide)
  have h3 := ha 3 (by decide)
  have h4 := ha 4 (by decide)
  have ew : W5 a = a 0 + 18446744073709551616 * a 1 + 340282366920938463463374607431768211456 * a 2 + 6277101735386680763835789423207666416102355444464034512896 * a 3 + 115792089237316195423570985008687907853269984665640564039457584007913129639936 * a 4 := by
    show 0 + 1 * a 0 + 18446744073709551616 * a 1 + 340282366920938463463374607431768211456 * a 2 + 6277101735386680763835789423207666416102355444464034512896 * a 3 + 115792089237316195423570985008687907853269984665640564039457584007913129639936 * a 4 = _
    omega
  have e1 : realBin .shr .u64 (a 3) 60 = a 3 / 1152921504606846976 := shr_any .u64 (a 3) 60 (by decide)
  have e2 : realBin .shl .u64 (a 4) 4 = (a 4 * 16) % q64 := shl_u64 (a 4) 4 (by decide)
  simp only [q64, lI] at *
  have h4' : a 4 ≤ 1 := by omega
  have h5 : topW a = a 3 / 1152921504606846976 + 16 * a 4 := by
    unfold topW
    rw [ew]
    omega
  have hx : a 4 * 16 % 18446744073709551616 = 16 * a 4 := by omega
  rw [e1, e2, hx, or_comm', or_apart (k := .u64) rfl (x := 16 * a 4) (y := a 3 / 1152921504606846976) 4 ⟨by omega, by show _ < (18446744073709551616 : Int); omega⟩ (by show 16 * a 4 % 16 = 0; omega) ⟨by omega, by show _ < (16 : Int); omega⟩ (by decide), h5]
  refine ⟨by omega, by omega, ?_⟩
  rw [← h5]
  unfold topW
  omega
theorem fold_parts (h0 : 0 ≤ W5 a) (h : W5 a < 16 * lI) : (topW a * lI ≤ W5 a → W5 a - topW a * lI = W5 a % lI) ∧ (W5 a < topW a * lI → W5 a - topW a * lI + lI = W5 a % lI) := by
  have h1 : topW a = W5 a / 7237005577332262213973186563042994240829374041602535252466099000494570602496 := rfl
  generalize W5 a = w at *
  generalize topW a = t at *
  simp only [lI] at *
  have key : ∀ k : Int, 0 ≤ w - k * 7237005577332262213973186563042994240857116359379907606001950938285454250989 → w - k * 7237005577332262213973186563042994240857116359379907606001950938285454250989 < 7237005577332262213973186563042994240857116359379907606001950938285454250989 → w - k * 7237005577332262213973186563042994240857116359379907606001950938285454250989 = w % 7237005577332262213973186563042994240857116359379907606001950938285454250989 := by
    intro k h2 h3
    omega
  refine ⟨fun h2 => key t (by omega) (by omega), fun h2 => ?_⟩
  have := key (t - 1) (by omega) (by omega)
  omega
end
end Sx

/-
  Package field's numbers as members of the field of p: what its calls come to.
-/
namespace Sx
open Go

theorem p25_cast : ((pN : Nat) : Int) = p25 := rfl

/-- 32 bytes as a number modulo p, and back. -/
def fe (f : Nat → Int) : Zp := zi pN (num 32 f)
def fb (x : Zp) : Nat → Int := byt (x.val : Int)
/-- Five digits as a number modulo p. -/
def lz (l : Nat → Int) : Zp := zi pN (lim l)

theorem zval_bounds (x : Zp) : 0 ≤ (x.val : Int) ∧ (x.val : Int) < p25 := ⟨Int.natCast_nonneg _, by have := x.isLt; rw [← p25_cast]; omega⟩
theorem num_fb (x : Zp) : num 32 (fb x) = (x.val : Int) := by
  have h := zval_bounds x
  refine num_byt 32 _ h.1 (Int.lt_trans h.2 (by decide))
theorem fe_fb (x : Zp) : fe (fb x) = x := by unfold fe; rw [num_fb, zi_of_val]
theorem fb_isBytes (x : Zp) : IsBytes 32 (fb x) := byt_isBytes _ _
theorem fb_zi (n : Int) : fb (zi pN n) = byt (n % p25) := by unfold fb; rw [zi_val, p25_cast]
theorem fb_inj {x y : Zp} : realEqA 32 (fb x) (fb y) = decide (x = y) := by
  rw [eqA_num (fb_isBytes x) (fb_isBytes y), num_fb, num_fb, Bool.eq_iff_iff]
  simp only [beq_iff_eq, decide_eq_true_eq]
  exact ⟨fun h => fin_ext_int h, fun h => by rw [h]⟩
theorem fb_same {x y : Zp} (h : x = y) : realEqA 32 (fb x) (fb y) = true := by rw [fb_inj]; exact decide_eq_true h
theorem fb_other {x y : Zp} (h : x ≠ y) : realEqA 32 (fb x) (fb y) = false := by rw [fb_inj]; exact decide_eq_false h
theorem fe_byt {n : Int} (h0 : 0 ≤ n) (h : n < 115792089237316195423570985008687907853269984665640564039457584007913129639936) : fe (byt n) = zi pN n := by
  unfold fe
  rw [num_byt 32 n h0 (by have e : (256 : Int) ^ 32 = 115792089237316195423570985008687907853269984665640564039457584007913129639936 := by decide
                          rw [e]; exact h)]
theorem byt_small {n : Int} (h0 : 0 ≤ n) (h : n < p25) : byt n = fb (zi pN n) := by rw [fb_zi, Int.emod_eq_of_lt h0 h]

theorem red_z (f : Nat → Int) : byt (redN f) = fb (fe f) := (fb_zi _).symm
theorem add_z (f g : Nat → Int) : byt (addN f g) = fb (fe f + fe g) := by unfold fe; rw [← zi_add, fb_zi]; rfl
theorem sub_z (f g : Nat → Int) : byt (subN f g) = fb (fe f - fe g) := by unfold fe; rw [← zi_sub, fb_zi]; rfl
theorem mul_z (f g : Nat → Int) : byt (mulN f g) = fb (fe f * fe g) := by unfold fe; rw [← zi_mul, fb_zi]; rfl
theorem neg_z (f : Nat → Int) : byt (subN (fun _ => 0) f) = fb (- fe f) := by
  unfold fe subN
  rw [num_zero, ← zi_neg, fb_zi, Int.zero_sub]
theorem red_fz : (fun f => byt (redN f)) = fun f => fb (fe f) := funext red_z
theorem add_fz : (fun f g => byt (addN f g)) = fun f g => fb (fe f + fe g) := funext fun f => funext fun g => add_z f g
theorem sub_fz : (fun f g => byt (subN f g)) = fun f g => fb (fe f - fe g) := funext fun f => funext fun g => sub_z f g
theorem mul_fz : (fun f g => byt (mulN f g)) = fun f g => fb (fe f * fe g) := funext fun f => funext fun g => mul_z f g
theorem neg_fz : (fun f => byt (subN (fun _ => 0) f)) = fun f => fb (- fe f) := funext neg_z
theorem sq_fz : (fun f => byt (mulN f f)) = fun f => fb (fe f * fe f) := funext fun f => mul_z f f
theorem eqB_z (f g : Nat → Int) : eqB f g = decide (fe f = fe g) := by
  unfold eqB fe
  rw [Bool.eq_iff_iff]
  simp only [decide_eq_true_eq, zi_eq, p25_cast]
theorem oddB_z (f : Nat → Int) : oddB f = decide ((fe f).val % 2 = 1) := by
  unfold oddB
  rw [Bool.eq_iff_iff]
  simp only [decide_eq_true_eq]
  have h : ((fe f).val : Int) = num 32 f % p25 := zi_val _
  rw [← h]
  omega
theorem ltB_fb {f : Nat → Int} (x : Zp) (hf : f = byt p25) : ltB (fb x) f = true := by
  subst hf
  unfold ltB
  rw [num_fb, num_byt 32 p25 (by decide) (by decide)]
  exact decide_eq_true (zval_bounds x).2

/-! Five digits. -/

theorem lz_load {f : Nat → Int} (hf : IsBytes 32 f) : lz (loadF f) = fe f ∧ Tidy (loadF f) := by
  obtain ⟨h1, h2⟩ := load_spec hf
  exact ⟨zi_eq.2 (by rw [p25_cast]; exact h1), h2⟩
theorem lz_times {l m : Nat → Int} (hl : Tidy l) (hm : Tidy m) : lz (timesF l m) = lz l * lz m ∧ Tidy (timesF l m) := by
  obtain ⟨h1, h2⟩ := times_spec hl hm
  exact ⟨by unfold lz; rw [← zi_mul]; exact zi_eq.2 (by rw [p25_cast]; exact h1), h2⟩
theorem lz_sub {l m : Nat → Int} (hl : Tidy l) (hm : Tidy m) : lz (settleF (subP l m)) = lz l - lz m ∧ Tidy (settleF (subP l m)) := by
  obtain ⟨h1, h2⟩ := subP_spec hl hm
  obtain ⟨h3, h4⟩ := settle_spec h1
  refine ⟨?_, h4⟩
  unfold lz
  rw [← zi_sub]
  refine zi_eq.2 ?_
  rw [p25_cast, h3, h2, Int.add_mul_emod_self_right]
theorem bytes_lz {l : Nat → Int} (h : LFit l) : ∀ i, i < 32 → bytesF l i = fb (lz l) i := fun i hi => by
  rw [bytes_spec h i hi, lz, fb_zi]

/-- The number 1 as five digits. -/
def oneL : Nat → Int := upd (fun _ => 0) 0 1
theorem tidy_const {c : Int} (h : 0 ≤ c ∧ c < 2251799813685248) : Tidy (upd (fun _ => 0) 0 c) := by
  refine ⟨⟨h.1, ?_⟩, fun i hi _ => ?_⟩
  · show c < _
    omega
  · have e : upd (fun _ => (0 : Int)) 0 c i = 0 := if_neg (by omega)
    rw [e]
    omega
theorem lz_one : lz oneL = 1 ∧ Tidy oneL := by
  refine ⟨?_, tidy_const (by decide)⟩
  unfold lz
  have : lim oneL = 1 := by decide
  rw [this, zi_one]
theorem lz_zero : lz (fun _ => 0) = 0 ∧ Tidy (fun _ => 0) := by
  refine ⟨?_, ⟨⟨Int.le_refl _, by show (0 : Int) < _; decide⟩, fun _ _ _ => ⟨Int.le_refl _, by show (0 : Int) < _; decide⟩⟩⟩
  unfold lz
  have : lim (fun _ => 0) = 0 := by decide
  rw [this, zi_zero]

/-! Powers. -/

/-- Bit number i of the bytes. -/
def bitB (e : Nat → Int) (i : Nat) : Bool := decide (e (i / 8) / 2 ^ (i % 8) % 2 = 1)

theorem num_div : ∀ (k n : Nat) (f : Nat → Int), k ≤ n → IsBytes n f → num n f / 256 ^ k = num (n - k) (fun i => f (k + i)) := by
  intro k n f hk hf
  have e : n = k + (n - k) := by omega
  have hb := num_bounds k f (fun i hi => hf i (by omega))
  conv => lhs; rw [e, num_split k (n - k)]
  rw [Int.add_mul_ediv_left _ _ (Int.ne_of_gt (Int.pow_pos (by decide))), Int.ediv_eq_zero_of_lt hb.1 hb.2, Int.zero_add]

theorem bitB_num {e : Nat → Int} (he : IsBytes 32 e) {i : Nat} (hi : i < 256) : bitB e i = decide (num 32 e / 2 ^ i % 2 = 1) := by
  have h1 : (2 : Int) ^ i = 256 ^ (i / 8) * 2 ^ (i % 8) := by
    have e1 : (256 : Int) = 2 ^ 8 := by decide
    rw [e1, ← Int.pow_mul, ← Int.pow_add]
    congr 1
    omega
  have hp : (0 : Int) < 256 ^ (i / 8) := Int.pow_pos (by decide)
  unfold bitB
  rw [Bool.eq_iff_iff]
  simp only [decide_eq_true_eq]
  rw [h1, ← Int.ediv_ediv_of_nonneg (by omega), num_div (i / 8) 32 e (by omega) he]
  have e2 : 32 - i / 8 = (31 - i / 8) + 1 := by omega
  rw [e2]
  simp only [num, Nat.add_zero]
  have hk : i % 8 < 8 := Nat.mod_lt _ (by decide)
  generalize i % 8 = k at hk
  generalize num (31 - i / 8) (fun j => e (i / 8 + (j + 1))) = T
  generalize e (i / 8) = b
  match k, hk with
  | 0, _ => simp only [Int.pow_zero, Int.ediv_one]; omega
  | 1, _ => simp only [Int.reducePow]; omega
  | 2, _ => simp only [Int.reducePow]; omega
  | 3, _ => simp only [Int.reducePow]; omega
  | 4, _ => simp only [Int.reducePow]; omega
  | 5, _ => simp only [Int.reducePow]; omega
  | 6, _ => simp only [Int.reducePow]; omega
  | 7, _ => simp only [Int.reducePow]; omega

theorem num_bit {e : Nat → Int} (he : IsBytes 32 e) {i : Nat} (hi : i < 256) : (num 32 e / 2 ^ i).toNat = 2 * (num 32 e / 2 ^ (i + 1)).toNat + (if bitB e i = true then 1 else 0) := by
  have hb := num_bounds 32 e he
  have hp : (0 : Int) < 2 ^ i := Int.pow_pos (by decide)
  have h0 : 0 ≤ num 32 e / 2 ^ i := Int.ediv_nonneg hb.1 (by omega)
  rw [bitB_num he hi, Int.pow_succ, ← Int.ediv_ediv_of_nonneg (by omega)]
  generalize num 32 e / 2 ^ i = x at h0
  by_cases h : x % 2 = 1
  · rw [if_pos (decide_eq_true h)]; omega
  · rw [if_neg (by simp [h])]; omega

theorem num_top {e : Nat → Int} (he : IsBytes 32 e) : num 32 e / 2 ^ 256 = 0 := by
  have hb := num_bounds 32 e he
  exact Int.ediv_eq_zero_of_lt hb.1 (Int.lt_of_lt_of_le hb.2 (by decide))

/-- Squares and products from the highest bit on: k bits are done. -/
def pwL (l e : Nat → Int) : Nat → Nat → Int
  | 0 => oneL
  | k + 1 => if bitB e (255 - k) = true then timesF (timesF (pwL l e k) (pwL l e k)) l else timesF (pwL l e k) (pwL l e k)

theorem pwL_spec {l e : Nat → Int} (hl : Tidy l) (he : IsBytes 32 e) : ∀ k, k ≤ 256 → lz (pwL l e k) = zp (lz l) (num 32 e / 2 ^ (256 - k)).toNat ∧ Tidy (pwL l e k)
  | 0, _ => by
    refine ⟨?_, lz_one.2⟩
    show lz oneL = _
    rw [lz_one.1, num_top he, Int.toNat_zero, zp_zero]
  | k + 1, hk => by
    obtain ⟨h1, h2⟩ := pwL_spec hl he k (by omega)
    obtain ⟨h3, h4⟩ := lz_times h2 h2
    obtain ⟨h5, h6⟩ := lz_times h4 hl
    have e1 : 256 - (k + 1) = 255 - k := by omega
    have e2 : 256 - k = 255 - k + 1 := by omega
    have hb := num_bit he (i := 255 - k) (by omega)
    rw [e2] at h1
    rw [e1, hb]
    simp only [pwL]
    split
    · rename_i hbit
      refine ⟨?_, h6⟩
      rw [h5, h3, h1, ← zp_sq, ← zp_succ]
    · refine ⟨?_, h4⟩
      rw [h3, h1, ← zp_sq]
      rfl
def powL (l e : Nat → Int) : Nat → Int := pwL l e 256
theorem lz_pow {l e : Nat → Int} (hl : Tidy l) (he : IsBytes 32 e) : lz (powL l e) = zp (lz l) (num 32 e).toNat ∧ Tidy (powL l e) := by
  have h := pwL_spec hl he 256 (by decide)
  rw [Nat.sub_self, Int.pow_zero, Int.ediv_one] at h
  exact h
end Sx

/-
  Powers, inverses, Legendre's symbol and roots in package field: what they come to and their contracts.
-/
namespace Sx
open Go

def powC (P : (Nat → Int) → (Nat → Int) → Nat → Int) : Contract := fun vs => match vs with
  | [.arr .u64 5 l, .arr .u8 32 e] => some ([], .arr .u64 5 (P l e))
  | _ => none
def bool332C (F : (Nat → Int) → (Nat → Int) → (Nat → Int) → Bool) : Contract := fun vs => match vs with
  | [.arr .u8 32 f, .arr .u8 32 g, .arr .u8 32 h] => some ([], .bool (.sym (F f g h)))
  | _ => none
def leg32C (V : (Nat → Int) → Int) : Contract := fun vs => match vs with
  | [.arr .u8 32 f] => some ([], .int .i64 (.sym (V f)))
  | _ => none
def sqrtC (R : (Nat → Int) → (Nat → Int) → Nat → Int) (S : (Nat → Int) → (Nat → Int) → Bool) : Contract := fun vs => match vs with
  | [.arr .u8 32 f, .arr .u8 32 g] => some ([], .tup [.arr .u8 32 (R f g), .bool (.sym (S f g))])
  | _ => none

theorem bitB_congr {e e' : Nat → Int} (h : ∀ i, i < 32 → e i = e' i) {i : Nat} (hi : i < 256) : bitB e i = bitB e' i := by
  unfold bitB
  rw [h (i / 8) (by omega)]
theorem pwL_congr {l e e' : Nat → Int} (h : ∀ i, i < 32 → e i = e' i) : ∀ k, k ≤ 256 → pwL l e k = pwL l e' k
  | 0, _ => rfl
  | k + 1, hk => by simp only [pwL]; rw [pwL_congr h k (by omega), bitB_congr h (i := 255 - k) (by omega)]
theorem powL_congr {l e e' : Nat → Int} (h : ∀ i, i < 32 → e i = e' i) : powL l e = powL l e' := pwL_congr h 256 (Nat.le_refl _)

/-- The bit that the program asks. -/
theorem bit_asked {e : Nat → Int} (he : IsBytes 32 e) {i : Nat} (hi : i < 256) : realCmp .eql (realBin .and .u8 (realBin .shr .u8 (e (i / 8)) ((i % 8 : Nat) : Int)) 1) 1 = bitB e i := by
  have hb := he (i / 8) (by omega)
  have h1 : realBin .shr .u8 (e (i / 8)) ((i % 8 : Nat) : Int) = e (i / 8) / 2 ^ (i % 8) := shr_any .u8 _ _ (by simp [IntKind.bits]; omega)
  have hp : (0 : Int) < 2 ^ (i % 8) := Int.pow_pos (by decide)
  have h2 : 0 ≤ e (i / 8) / 2 ^ (i % 8) := Int.ediv_nonneg hb.1 (by omega)
  have h3 : e (i / 8) / 2 ^ (i % 8) ≤ e (i / 8) := Int.ediv_le_self _ hb.1
  rw [h1, and_one_u8 ⟨h2, by omega⟩]
  unfold bitB
  rw [Bool.eq_iff_iff]
  simp [realCmp]

/-! The four numbers that package field keeps. -/
def twoN : Nat := pN - 2
def eighthN : Nat := (pN - 5) / 8
def halfN : Nat := (pN - 1) / 2
theorem twoN_eq : twoN = 57896044618658097711785492504343953926634992332820282019728792003956564819947 := rfl
theorem eighthN_eq : eighthN = 7237005577332262213973186563042994240829374041602535252466099000494570602493 := rfl
theorem halfN_eq : halfN = 28948022309329048855892746252171976963317496166410141009864396001978282409974 := rfl

/-- The root of -1 that package field keeps. -/
def iZ : Zp := zi pN 19681161376707505956807079304988542015446066515923890162744021073123829784752
theorem iZ_sq : iZ * iZ = -1 := by
  unfold iZ
  rw [← zi_mul, ← zi_one, ← zi_neg, zi_eq]
  decide +kernel

theorem zhalf_sq (x : Zp) : x = 0 ∨ zp x halfN * zp x halfN = 1 := by
  by_cases h : x = 0
  · exact .inl h
  · right
    rw [← zp_sq]
    exact zfermat prP h

/-- Legendre's symbol. -/
def legZ (x : Zp) : Int := if zp x halfN = 0 then 0 else if zp x halfN = 1 then 1 else -1

theorem zhalf_cases (x : Zp) : (x = 0 ∧ zp x halfN = 0) ∨ (x ≠ 0 ∧ zp x halfN = 1) ∨ (x ≠ 0 ∧ zp x halfN = -1) := by
  by_cases h : x = 0
  · subst h
    exact .inl ⟨rfl, zero_zp _ (by decide)⟩
  · right
    rcases zhalf_sq x with h1 | h1
    · exact absurd h1 h
    · rcases zsq_one prP h1 with h2 | h2
      · exact .inl ⟨h, h2⟩
      · exact .inr ⟨h, h2⟩

theorem z_neg_one_ne : (-1 : Zp) ≠ 0 ∧ (-1 : Zp) ≠ 1 := by
  constructor
  · decide +kernel
  · decide +kernel

theorem legZ_zero {x : Zp} : legZ x = 0 ↔ x = 0 := by
  unfold legZ
  rcases zhalf_cases x with ⟨h1, h2⟩ | ⟨h1, h2⟩ | ⟨h1, h2⟩
  · rw [if_pos h2]; simp [h1]
  · rw [if_neg (by rw [h2]; exact z_one_ne prP), if_pos h2]; simp [h1]
  · rw [if_neg (by rw [h2]; exact z_neg_one_ne.1), if_neg (by rw [h2]; exact z_neg_one_ne.2)]; simp [h1]
theorem legZ_one {x : Zp} : legZ x = 1 ↔ zp x halfN = 1 := by
  unfold legZ
  rcases zhalf_cases x with ⟨h1, h2⟩ | ⟨h1, h2⟩ | ⟨h1, h2⟩
  · rw [if_pos h2, h2]; simp [Ne.symm (z_one_ne prP)]
  · rw [if_neg (by rw [h2]; exact z_one_ne prP), if_pos h2]; simp [h2]
  · rw [if_neg (by rw [h2]; exact z_neg_one_ne.1), if_neg (by rw [h2]; exact z_neg_one_ne.2), h2]; simp [z_neg_one_ne.2]
theorem legZ_neg {x : Zp} : legZ x = -1 ↔ zp x halfN = -1 := by
  unfold legZ
  rcases zhalf_cases x with ⟨h1, h2⟩ | ⟨h1, h2⟩ | ⟨h1, h2⟩
  · rw [if_pos h2, h2]; simp [Ne.symm z_neg_one_ne.1]
  · rw [if_neg (by rw [h2]; exact z_one_ne prP), if_pos h2, h2]; simp [Ne.symm z_neg_one_ne.2]
  · rw [if_neg (by rw [h2]; exact z_neg_one_ne.1), if_neg (by rw [h2]; exact z_neg_one_ne.2), h2]; simp
theorem legZ_cases (x : Zp) : (x = 0 ∧ legZ x = 0) ∨ (x ≠ 0 ∧ zp x halfN = 1 ∧ legZ x = 1) ∨ (x ≠ 0 ∧ zp x halfN = -1 ∧ legZ x = -1) := by
  rcases zhalf_cases x with ⟨h1, h2⟩ | ⟨h1, h2⟩ | ⟨h1, h2⟩
  · exact .inl ⟨h1, legZ_zero.2 h1⟩
  · exact .inr (.inl ⟨h1, h2, legZ_one.2 h2⟩)
  · exact .inr (.inr ⟨h1, h2, legZ_neg.2 h2⟩)

/-- Of a number and its opposite the even one. -/
def evZ (x : Zp) : Zp := if x.val % 2 = 1 then -x else x

/-- A root of u/v, and whether there is one. -/
def sqrtZ (u v : Zp) : Zp × Bool :=
  if u = 0 then (0, true) else
    let r := u * (v * v * v) * zp (u * (v * v * v * (v * v * v) * v)) eighthN
    if v * r * r = u then (evZ r, true) else
      let s := r * iZ
      if v * s * s = u then (evZ s, true) else (0, false)
end Sx

/-
  Contracts of package scalar.
-/
namespace Sx
open Go Go.RowKit

structure Top16 (a : Nat → Int) : Prop where
  lt : W5 a < 16 * lI
structure Nib (n : Int) : Prop where
  ok : 0 ≤ n ∧ n < 16
def lMinusC (M : (Nat → Int) → (Nat → Int) → Nat → Int) (B : (Nat → Int) → (Nat → Int) → Bool) : Contract := fun vs => match vs with
  | [.arr .u64 5 a, .arr .u64 5 b] => some ([], .tup [.arr .u64 5 (M a b), .bool (.sym (B a b))])
  | _ => none
def shiftC (S : (Nat → Int) → Int → Nat → Int) : Contract := fun vs => match vs with
  | [.arr .u64 5 a, .int .u64 n] => some ([Nib n.val], .arr .u64 5 (S a n.val))
  | _ => none
def foldC (F : (Nat → Int) → Nat → Int) : Contract := fun vs => match vs with
  | [.arr .u64 5 a] => some ([Top16 a], .arr .u64 5 (F a))
  | _ => none
def redC (R : Nat → (Nat → Int) → Nat → Int) : Contract := fun vs => match vs with
  | [.xsl .u8 1 len _ b] => some ([], .arr .u64 5 (R len.val b))
  | _ => none
def tri32C (F : (Nat → Int) → (Nat → Int) → (Nat → Int) → Nat → Int) : Contract := fun vs => match vs with
  | [.arr .u8 32 a, .arr .u8 32 b, .arr .u8 32 c] => some ([], .arr .u8 32 (F a b c))
  | _ => none
def un64C (F : (Nat → Int) → Nat → Int) : Contract := fun vs => match vs with
  | [.arr .u8 64 a] => some ([], .arr .u8 32 (F a))
  | _ => none

theorem isX {cap : SO} {len : SO} {b : Nat → Int} (h : wfV (.xsl .u8 1 len cap b)) : IsBytes len.val b := fun i hi => inR_u8.1 (h i (by omega))
theorem wfSt_get : ∀ {S : St}, wfSt S → ∀ i, wfAV (get S i)
  | [], _, i => by simp [get, wfAV]
  | x :: S, h, 0 => by simpa [get] using h.1
  | x :: S, h, i + 1 => by simpa [get] using wfSt_get (S := S) h.2 i
theorem n_lt {n : Nat} (h : inR .i64 (n : Int)) : n < 9223372036854775808 := by
  have h1 := h.2
  have e : IntKind.max .i64 = 9223372036854775807 := rfl
  omega
/-- What a number's bytes come to, as five words. -/
def redW (n : Nat) (b : Nat → Int) : Nat → Int := dgt q64 (num n b % lI)
/-- The number of the highest i of n bytes. -/
def topN (n : Nat) (b : Nat → Int) (i : Nat) : Int := num i fun j => b (n - i + j)

theorem is5 {a : Nat → Int} (h : wfV (.arr .u64 5 a)) : Is5 a := fun i hi => inR_u64.1 (h i hi)
theorem lI_pos : (0 : Int) < lI := by decide
theorem modl (n : Int) : 0 ≤ n % lI ∧ n % lI < lI := ⟨Int.emod_nonneg _ (by decide), Int.emod_lt_of_pos _ lI_pos⟩
theorem W5_mod (n : Int) : W5 (dgt q64 (n % lI)) = n % lI := W5_dgt (modl n).1 (Int.lt_trans (modl n).2 (by decide))
theorem W5_fold (a : Nat → Int) : W5 (foldW a) = W5 a % lI := W5_mod _
theorem W5_shift {a : Nat → Int} (h : 0 ≤ W5 a ∧ W5 a < lI) {n : Int} (hn : 0 ≤ n ∧ n < 16) : W5 (shiftW a n) = 16 * W5 a + n ∧ W5 (shiftW a n) < 16 * lI := by
  have e : W5 (shiftW a n) = 16 * W5 a + n := W5_dgt (by omega) (by simp only [lI] at *; omega)
  rw [e]
  exact ⟨rfl, by omega⟩

theorem topN_zero (n : Nat) (b : Nat → Int) : topN n b 0 = 0 := rfl
theorem topN_succ {n i : Nat} (b : Nat → Int) (h : i < n) : topN n b (i + 1) = b (n - 1 - i) + 256 * topN n b i := by
  have e : n - (i + 1) = n - 1 - i := by omega
  unfold topN
  rw [e]
  show b (n - 1 - i + 0) + 256 * num i (fun j => b (n - 1 - i + (j + 1))) = _
  congr 3
  funext j
  congr 1
  omega
theorem topN_all (n : Nat) (b : Nat → Int) : topN n b n = num n b := by
  unfold topN
  congr 1
  funext j
  congr 1
  omega

/-- One byte more: eight bits, four at a time. -/
theorem red_step {n i : Nat} {b : Nat → Int} (h : i < n) {x : Int} (hx : x = b (n - 1 - i)) (hb : 0 ≤ x ∧ x < 256) :
    foldW (shiftW (foldW (shiftW (dgt q64 (topN n b i % lI)) (x / 16))) (x % 16)) = dgt q64 (topN n b (i + 1) % lI) := by
  have h0 := modl (topN n b i)
  have e0 := W5_mod (topN n b i)
  have s1 := W5_shift (a := dgt q64 (topN n b i % lI)) (by rw [e0]; exact h0) (n := x / 16) (by omega)
  have f1 := W5_fold (shiftW (dgt q64 (topN n b i % lI)) (x / 16))
  rw [s1.1, e0] at f1
  have h1 := modl (16 * (topN n b i % lI) + x / 16)
  have s2 := W5_shift (a := foldW (shiftW (dgt q64 (topN n b i % lI)) (x / 16))) (by rw [f1]; exact h1) (n := x % 16) (by omega)
  rw [f1] at s2
  unfold foldW at s2 ⊢
  rw [s2.1, topN_succ b h, ← hx]
  congr 1
  simp only [lI] at *
  omega
theorem red_tops {n i : Nat} {b : Nat → Int} {x : Int} (hb : 0 ≤ x ∧ x < 256) :
    Top16 (shiftW (dgt q64 (topN n b i % lI)) (x / 16)) ∧ Top16 (shiftW (foldW (shiftW (dgt q64 (topN n b i % lI)) (x / 16))) (x % 16)) := by
  have h0 := modl (topN n b i)
  have e0 := W5_mod (topN n b i)
  have s1 := W5_shift (a := dgt q64 (topN n b i % lI)) (by rw [e0]; exact h0) (n := x / 16) (by omega)
  have f1 := W5_fold (shiftW (dgt q64 (topN n b i % lI)) (x / 16))
  have s2 := W5_shift (a := foldW (shiftW (dgt q64 (topN n b i % lI)) (x / 16))) (by rw [f1]; exact modl _) (n := x % 16) (by omega)
  exact ⟨⟨s1.2⟩, ⟨s2.2⟩⟩
theorem nibs {x : Int} (h : 0 ≤ x ∧ x < 256) : realBin .shr .u8 x 4 = x / 16 ∧ realBin .and .u8 x 15 = x % 16 ∧ Nib (x / 16) ∧ Nib (x % 16) :=
  ⟨shr_any .u8 x 4 (by decide), and_mask (k := .u8) rfl ⟨h.1, by show x < 256; omega⟩ 4 (by decide), ⟨by omega⟩, ⟨by omega⟩⟩

theorem fold_take {a m : Nat → Int} (ha : Is5 a) (ht : Top16 a) (hm : W5 m = topW a * lI) (h : ltW a m = false) : ∀ i, i < 5 → minusW a m i = foldW a i := by
  have h0 := (W5_range ha).1
  have h1 := (fold_parts h0 ht.lt).1
  intro i _
  unfold minusW foldW
  unfold ltW at h
  rw [hm] at h ⊢
  have h2 : ¬ (W5 a < topW a * lI) := of_decide_eq_false h
  rw [h1 (by omega)]
theorem fold_back {a m m1 : Nat → Int} (ha : Is5 a) (ht : Top16 a) (hm : W5 m = topW a * lI) (hm1 : W5 m1 = lI) (h : ltW a m = true) : ∀ i, i < 5 → plusW (minusW a m) m1 i = foldW a i := by
  have h0 := (W5_range ha).1
  have h1 := (fold_parts h0 ht.lt).2
  intro i hi
  unfold plusW minusW foldW
  unfold ltW at h
  rw [hm] at h ⊢
  have h2 : W5 a < topW a * lI := of_decide_eq_true h
  have h3 := h1 h2
  have h4 := modl (W5 a)
  have h5 : W5 (dgt q64 (W5 a - topW a * lI)) = (W5 a - topW a * lI) % q64 ^ 5 := sumB_dgt q64_pos _ 5
  have h6 : (W5 a - topW a * lI) % q64 ^ 5 = W5 a - topW a * lI + q64 ^ 5 := by
    have h7 : (q64 : Int) ^ 5 = 2135987035920910082395021706169552114602704522356652769947041607822219725780640550022962086936576 := rfl
    rw [h7]
    generalize W5 a - topW a * lI = d at *
    simp only [lI] at *
    omega
  rw [h5, h6, hm1]
  have h8 : W5 a - topW a * lI + q64 ^ 5 + lI = W5 a % lI + q64 ^ 5 * 1 := by rw [← h3]; omega
  rw [h8, dgt_low q64_pos _ _ hi]

/-- The bytes of five words. -/
def bytesW (a : Nat → Int) : Nat → Int := byt (W5 a)
theorem word_byte {a : Nat → Int} (ha : Is5 a) {i : Nat} (hi : i < 32) : IntKind.wrap .u8 (realBin .shr .u64 (a (i / 8)) ((i % 8 * 8 : Nat) : Int)) = bytesW a i := by
  have h := dgt_sumB q64_pos ha (i := i / 8) (by omega)
  have hp : (0 : Int) < 256 ^ (i % 8) := Int.pow_pos (by decide)
  have e2 : realBin .shr .u64 (a (i / 8)) ((i % 8 * 8 : Nat) : Int) = a (i / 8) / 256 ^ (i % 8) := by
    rw [shr_any .u64 _ _ (by show i % 8 * 8 ≤ 64; omega)]
    congr 1
    rw [Nat.mul_comm, Int.pow_mul]
    rfl
  rw [wrap_u8, e2, ← h]
  unfold bytesW byt dgt
  show sumB q64 5 a / q64 ^ (i / 8) % q64 / 256 ^ (i % 8) % 256 = W5 a / 256 ^ i % 256
  have e3 : (q64 : Int) ^ (i / 8) = 256 ^ (8 * (i / 8)) := by
    rw [Int.pow_mul]; rfl
  have e4 : (256 : Int) ^ i = 256 ^ (8 * (i / 8)) * 256 ^ (i % 8) := by
    rw [← Int.pow_add]; congr 1; omega
  rw [e3, e4, ← Int.ediv_ediv_of_nonneg (Int.le_of_lt (Int.pow_pos (by decide)))]
  show W5 a / 256 ^ (8 * (i / 8)) % q64 / 256 ^ (i % 8) % 256 = _
  generalize W5 a / 256 ^ (8 * (i / 8)) = y
  have e5 : (q64 : Int) = 256 ^ (i % 8) * 256 * 256 ^ (7 - i % 8) := by
    rw [← Int.pow_succ, ← Int.pow_add]
    have : i % 8 + 1 + (7 - i % 8) = 8 := by omega
    rw [this]; rfl
  have h6 := Int.emod_add_mul_ediv y q64
  have e7 : y / 256 ^ (i % 8) = (y % q64) / 256 ^ (i % 8) + 256 * (256 ^ (7 - i % 8) * (y / q64)) := by
    have : y = y % q64 + 256 ^ (i % 8) * (256 * (256 ^ (7 - i % 8) * (y / q64))) := by
      rw [← Int.mul_assoc, ← Int.mul_assoc, ← e5]; omega
    rw [this, Int.add_mul_ediv_left _ _ (by omega), ← this]
  rw [e7, Int.add_mul_emod_self_left]

theorem pow_mono {m n : Nat} (h : m ≤ n) : (256 : Int) ^ m ≤ 256 ^ n := by
  obtain ⟨k, rfl⟩ : ∃ k, n = m + k := ⟨n - m, by omega⟩
  have h1 : 0 < (256 : Int) ^ m := Int.pow_pos (by decide)
  have h2 : 0 < (256 : Int) ^ k := Int.pow_pos (by decide)
  have h3 : (256 : Int) ^ m * 1 ≤ 256 ^ m * 256 ^ k := Int.mul_le_mul_of_nonneg_left (by omega) (Int.le_of_lt h1)
  rw [Int.pow_add]
  omega
theorem num_range {n : Nat} {f : Nat → Int} (h : IsBytes n f) : 0 ≤ num n f ∧ num n f < 256 ^ n := by
  rw [num_sumB]
  exact sumB_range (by decide) h

/-- The words of the lowest i bytes. -/
def numW (b : Nat → Int) (i : Nat) : Nat → Int := dgt q64 (num i b)
theorem numW_zero (b : Nat → Int) (j : Nat) : numW b 0 j = 0 := by
  show 0 / q64 ^ j % q64 = 0
  simp
theorem numW_step {b : Nat → Int} (hb : IsBytes 32 b) {i : Nat} (hi : i < 32) (j : Nat) (_hj : j < 5) :
    (if j = i / 8 then realBin .or .u64 (numW b i (i / 8)) (realBin .shl .u64 (b i) ((i % 8 * 8 : Nat) : Int)) else numW b i j) = numW b (i + 1) j := by
  have hbi := hb i hi
  have hr := num_range (n := i) (fun k hk => hb k (by omega))
  have hq : 0 < (256 : Int) ^ (8 * (i / 8)) := Int.pow_pos (by decide)
  have hq8 : 0 < (256 : Int) ^ (i % 8) := Int.pow_pos (by decide)
  have e4 : (256 : Int) ^ i = 256 ^ (8 * (i / 8)) * 256 ^ (i % 8) := by
    rw [← Int.pow_add]; congr 1; omega
  have pw : ∀ k : Nat, (q64 : Int) ^ k = 256 ^ (8 * k) := fun k => by rw [Int.pow_mul]; rfl
  have hlow : 256 ^ (i % 8) ≤ (72057594037927936 : Int) := by
    have : (72057594037927936 : Int) = 256 ^ 7 := rfl
    rw [this]
    exact pow_mono (by omega)
  unfold numW dgt
  rw [num_last]
  by_cases h : j = i / 8
  · rw [if_pos h, h, pw, e4]
    have e5 : num i b + 256 ^ (8 * (i / 8)) * 256 ^ (i % 8) * b i = num i b + 256 ^ (8 * (i / 8)) * (256 ^ (i % 8) * b i) := by rw [Int.mul_assoc]
    rw [e5, Int.add_mul_ediv_left _ _ (by omega)]
    have hy0 : 0 ≤ num i b / 256 ^ (8 * (i / 8)) := Int.ediv_nonneg hr.1 (Int.le_of_lt hq)
    have hy1 : num i b / 256 ^ (8 * (i / 8)) < 256 ^ (i % 8) := Int.ediv_lt_of_lt_mul hq (by rw [Int.mul_comm, ← e4]; exact hr.2)
    have hbp0 : 0 ≤ 256 ^ (i % 8) * b i := Int.mul_nonneg (Int.le_of_lt hq8) hbi.1
    have hbp : 256 ^ (i % 8) * b i ≤ 256 ^ (i % 8) * 255 := Int.mul_le_mul_of_nonneg_left (by omega) (Int.le_of_lt hq8)
    have es : realBin .shl .u64 (b i) ((i % 8 * 8 : Nat) : Int) = 256 ^ (i % 8) * b i := by
      rw [shl_u64 _ _ (by omega)]
      have : (2 : Int) ^ (i % 8 * 8) = 256 ^ (i % 8) := by rw [Nat.mul_comm, Int.pow_mul]; rfl
      rw [this, Int.mul_comm]
      exact Int.emod_eq_of_lt hbp0 (by simp only [q64] at *; omega)
    rw [es]
    generalize num i b / 256 ^ (8 * (i / 8)) = y at *
    have em : y % q64 = y := Int.emod_eq_of_lt hy0 (by simp only [q64] at *; omega)
    rw [em, or_comm', or_apart (k := .u64) rfl (x := 256 ^ (i % 8) * b i) (y := y) (i % 8 * 8) ⟨hbp0, by show _ < (18446744073709551616 : Int); omega⟩ ?_ ⟨hy0, ?_⟩ (by show i % 8 * 8 ≤ 64; omega)]
    · rw [Int.add_comm]
      exact (Int.emod_eq_of_lt (by omega) (by simp only [q64] at *; omega)).symm
    · have : (2 : Int) ^ (i % 8 * 8) = 256 ^ (i % 8) := by rw [Nat.mul_comm, Int.pow_mul]; rfl
      rw [this]
      exact Int.mul_emod_right _ _
    · have : (2 : Int) ^ (i % 8 * 8) = 256 ^ (i % 8) := by rw [Nat.mul_comm, Int.pow_mul]; rfl
      rw [this]
      exact hy1
  · rw [if_neg h, pw]
    rcases Nat.lt_or_ge j (i / 8) with hlt | hge
    · have e6 : (256 : Int) ^ i * b i = 256 ^ (8 * j) * (q64 * (256 ^ (i - 8 * j - 8) * b i)) := by
        have : (256 : Int) ^ i = 256 ^ (8 * j) * 256 ^ 8 * 256 ^ (i - 8 * j - 8) := by
          rw [← Int.pow_add, ← Int.pow_add]; congr 1; omega
        rw [this, Int.mul_assoc, Int.mul_assoc]; rfl
      have hq2 : 0 < (256 : Int) ^ (8 * j) := Int.pow_pos (by decide)
      rw [e6, Int.add_mul_ediv_left _ _ (by omega), Int.add_mul_emod_self_left]
    · have hq2 : 0 < (256 : Int) ^ (8 * j) := Int.pow_pos (by decide)
      have hle : (256 : Int) ^ i * 256 ≤ 256 ^ (8 * j) := by
        rw [← Int.pow_succ]
        exact pow_mono (by omega)
      have hi0 : 0 < (256 : Int) ^ i := Int.pow_pos (by decide)
      have hb1 : 256 ^ i * b i ≤ 256 ^ i * 255 := Int.mul_le_mul_of_nonneg_left (by omega) (Int.le_of_lt hi0)
      have hb0 : 0 ≤ 256 ^ i * b i := Int.mul_nonneg (Int.le_of_lt hi0) hbi.1
      rw [Int.ediv_eq_zero_of_lt hr.1 (by omega), Int.ediv_eq_zero_of_lt (by omega) (by omega)]
theorem W5_num {b : Nat → Int} (hb : IsBytes 32 b) : W5 (numW b 32) = num 32 b := by
  have h := num_range hb
  exact W5_dgt h.1 (Int.lt_trans h.2 (by decide))
end Sx

/-
  Package scalar's numbers as members of the field of L: what its calls come to.
-/
namespace Sx
open Go

theorem lI_cast : ((lN : Nat) : Int) = lI := rfl
/-- n bytes as a number modulo L, and back. -/
def sn (n : Nat) (f : Nat → Int) : Zl := zi lN (num n f)
def se (f : Nat → Int) : Zl := zi lN (num 32 f)
def sb (x : Zl) : Nat → Int := byt (x.val : Int)

theorem sval_bounds (x : Zl) : 0 ≤ (x.val : Int) ∧ (x.val : Int) < lI := ⟨Int.natCast_nonneg _, by have := x.isLt; rw [← lI_cast]; omega⟩
theorem num_sb (x : Zl) : num 32 (sb x) = (x.val : Int) := by
  have h := sval_bounds x
  refine num_byt 32 _ h.1 (Int.lt_trans h.2 (by decide))
theorem se_sb (x : Zl) : se (sb x) = x := by unfold se; rw [num_sb, zi_of_val]
theorem sb_isBytes (x : Zl) : IsBytes 32 (sb x) := byt_isBytes _ _
theorem sb_zi (n : Int) : sb (zi lN n) = byt (n % lI) := by unfold sb; rw [zi_val, lI_cast]
theorem sb_inj {x y : Zl} : realEqA 32 (sb x) (sb y) = decide (x = y) := by
  rw [eqA_num (sb_isBytes x) (sb_isBytes y), num_sb, num_sb, Bool.eq_iff_iff]
  simp only [beq_iff_eq, decide_eq_true_eq]
  exact ⟨fun h => fin_ext_int h, fun h => by rw [h]⟩
theorem sb_same {x y : Zl} (h : x = y) : realEqA 32 (sb x) (sb y) = true := by rw [sb_inj]; exact decide_eq_true h
theorem sb_other {x y : Zl} (h : x ≠ y) : realEqA 32 (sb x) (sb y) = false := by rw [sb_inj]; exact decide_eq_false h
theorem byt_smallS {n : Int} (h0 : 0 ≤ n) (h : n < lI) : byt n = sb (zi lN n) := by rw [sb_zi, Int.emod_eq_of_lt h0 h]

/-- The bytes of what is left of a number. -/
theorem bytes_red (n : Nat) (f : Nat → Int) : bytesW (redW n f) = sb (sn n f) := by
  unfold bytesW redW sn
  rw [W5_mod, sb_zi]
theorem W5_red (n : Nat) (f : Nat → Int) : W5 (redW n f) = num n f % lI := W5_mod _
theorem W5_redR (n : Nat) (f : Nat → Int) : 0 ≤ W5 (redW n f) ∧ W5 (redW n f) < lI := by rw [W5_red]; exact modl _
theorem W5_sum (f g : Nat → Int) : W5 (plusW (redW 32 f) (redW 32 g)) = num 32 f % lI + num 32 g % lI := by
  have h1 := W5_redR 32 f
  have h2 := W5_redR 32 g
  unfold plusW
  rw [W5_dgt (by omega) (by simp only [lI] at *; omega), W5_red, W5_red]
theorem sum_top (f g : Nat → Int) : Top16 (plusW (redW 32 f) (redW 32 g)) := by
  have h1 := modl (num 32 f)
  have h2 := modl (num 32 g)
  exact ⟨by rw [W5_sum]; omega⟩
theorem add_bytesS (f g : Nat → Int) : bytesW (foldW (plusW (redW 32 f) (redW 32 g))) = sb (se f + se g) := by
  unfold bytesW
  rw [W5_fold, W5_sum]
  unfold se
  rw [← zi_add, sb_zi, ← Int.add_emod]
theorem W5_inj {a b : Nat → Int} (ha : Is5 a) (hb : Is5 b) : realEqA 5 a b = decide (W5 a = W5 b) := by
  rw [Bool.eq_iff_iff, realEqA_iff, decide_eq_true_iff]
  constructor
  · intro h; exact sumB_congr h
  · intro h i hi
    rw [← dgt_sumB q64_pos ha hi, ← dgt_sumB q64_pos hb hi]
    show dgt q64 (W5 a) i = dgt q64 (W5 b) i
    rw [h]
theorem W5_zero : W5 (fun _ => 0) = 0 := sumB_zero 5
theorem neg_nil {f : Nat → Int} (h : realEqA 5 (redW 32 f) (fun _ => 0) = true) : ∀ i, i < 32 → (0 : Int) = sb (- se f) i := by
  rw [W5_inj (a := redW 32 f) (is5_dgt _) (fun i _ => by decide), W5_zero, W5_red, decide_eq_true_iff] at h
  have e : se f = 0 := by unfold se; rw [← zi_mod, lI_cast, h, zi_zero]
  intro i _
  rw [e]
  have e2 : (- (0 : Zl)) = 0 := by decide
  rw [e2]
  show 0 = 0 / 256 ^ i % 256
  simp
theorem neg_more {f m : Nat → Int} (hm : W5 m = lI) (h : realEqA 5 (redW 32 f) (fun _ => 0) = false) : bytesW (minusW m (redW 32 f)) = sb (- se f) := by
  rw [W5_inj (a := redW 32 f) (is5_dgt _) (fun i _ => by decide), W5_zero, W5_red, decide_eq_false_iff_not] at h
  have h1 := modl (num 32 f)
  unfold bytesW minusW
  rw [W5_red, hm, W5_dgt (by omega) (by simp only [lI] at *; omega)]
  unfold se
  rw [← zi_neg, sb_zi]
  congr 1
  simp only [lI] at *
  omega
def canS (f : Nat → Int) : Bool := decide (num 32 f < lI)
theorem can_eqS {f : Nat → Int} (hf : IsBytes 32 f) : realEqA 32 (bytesW (redW 32 f)) f = canS f := by
  have h0 := num_bounds 32 f hf
  unfold bytesW canS
  rw [W5_red, eqA_num (byt_isBytes _ _) hf, num_byt 32 _ (modl _).1 (Int.lt_trans (modl _).2 (by decide)), Bool.eq_iff_iff]
  simp only [beq_iff_eq, decide_eq_true_eq]
  have h1 := modl (num 32 f)
  exact ⟨fun h => by omega, fun h => Int.emod_eq_of_lt h0.1 h⟩
theorem zero_off (f : Nat → Int) : (fun j : Nat => f (0 + j)) = f := funext fun j => by rw [Nat.zero_add]
theorem add_bytes_of {f g f' g' : Nat → Int} (e1 : f' = f) (e2 : g' = g) : bytesW (foldW (plusW (redW 32 f') (redW 32 g'))) = sb (se f + se g) := by
  subst e1 e2
  exact add_bytesS f' g'
/-- L's bytes. -/
theorem order_bytes : ∀ i, i < 32 → [237, 211, 245, 92, 26, 99, 18, 88, 214, 156, 247, 162, 222, 249, 222, 20, 0, 0, 0, 0, 0, 0, 0, 0, 0, 0, 0, 0, 0, 0, 0, (16 : Int)].getD i 0 = byt lI i := by decide +kernel
end Sx

/-
  MulAdd's long multiplication, word by word.
-/
namespace Sx
open Go

/-- Eight words on the way: the lowest j are those of T, the others those of V; and what is carried. -/
def mixW (T V : Int) (j : Nat) : Nat → Int := fun k => if k < j then dgt q64 T k else dgt q64 V k
def carW (T V : Int) (j : Nat) : Int := T / q64 ^ j - V / q64 ^ j
def rowV (x y : Nat → Int) (Z : Int) (i : Nat) : Int := Z + sumB q64 i x * sumB q64 4 y
def rowT (x y : Nat → Int) (Z : Int) (i j : Nat) : Int := rowV x y Z i + q64 ^ i * (x i * sumB q64 j y)

theorem rowT_zero (x y : Nat → Int) (Z : Int) (i : Nat) : rowT x y Z i 0 = rowV x y Z i := by simp [rowT, sumB]
theorem rowT_four (x y : Nat → Int) (Z : Int) (i : Nat) : rowT x y Z i 4 = rowV x y Z (i + 1) := by
  unfold rowT rowV
  show Z + sumB q64 i x * sumB q64 4 y + q64 ^ i * (x i * sumB q64 4 y) = Z + (sumB q64 i x + q64 ^ i * x i) * sumB q64 4 y
  rw [Int.add_mul, Int.mul_assoc]; omega
theorem rowT_succ (x y : Nat → Int) (Z : Int) (i j : Nat) : rowT x y Z i (j + 1) = rowT x y Z i j + q64 ^ (i + j) * (x i * y j) := by
  unfold rowT
  show _ + q64 ^ i * (x i * (sumB q64 j y + q64 ^ j * y j)) = _
  rw [Int.mul_add, Int.mul_add, Int.pow_add]
  have : q64 ^ i * (x i * (q64 ^ j * y j)) = q64 ^ i * q64 ^ j * (x i * y j) := by
    rw [Int.mul_assoc, Int.mul_left_comm (x i)]
  omega
theorem rowT_range {x y : Nat → Int} (hx : IsDig q64 4 x) (hy : IsDig q64 4 y) (Z : Int) {i j : Nat} (hi : i < 4) (hj : j ≤ 4) : rowV x y Z i ≤ rowT x y Z i j ∧ rowT x y Z i j ≤ rowV x y Z i + q64 ^ (i + j) * (q64 - 1) := by
  have h1 := hx i hi
  have h2 := sumB_range q64_pos (n := j) (f := y) fun k hk => hy k (by omega)
  have p1 := powB_pos q64_pos i
  have p2 := powB_pos q64_pos j
  have h3 : 0 ≤ x i * sumB q64 j y := Int.mul_nonneg h1.1 h2.1
  have h4 : x i * sumB q64 j y ≤ (q64 - 1) * q64 ^ j := Int.mul_le_mul (by omega) (by omega) h2.1 (by decide)
  have h5 : 0 ≤ q64 ^ i * (x i * sumB q64 j y) := Int.mul_nonneg (Int.le_of_lt p1) h3
  have h6 : q64 ^ i * (x i * sumB q64 j y) ≤ q64 ^ i * ((q64 - 1) * q64 ^ j) := Int.mul_le_mul_of_nonneg_left h4 (Int.le_of_lt p1)
  have e : q64 ^ i * ((q64 - 1) * q64 ^ j) = q64 ^ (i + j) * (q64 - 1) := by
    rw [Int.pow_add, Int.mul_assoc, Int.mul_comm (q64 - 1)]
  unfold rowT
  rw [e] at h6
  omega
theorem carW_range {T V : Int} {k : Nat} (h1 : V ≤ T) (h2 : T ≤ V + q64 ^ k * (q64 - 1)) : 0 ≤ carW T V k ∧ carW T V k < q64 := by
  have p := powB_pos q64_pos k
  have h3 := Int.ediv_le_ediv p h1
  have h4 := Int.ediv_le_ediv p h2
  rw [Int.add_mul_ediv_left _ _ (by omega)] at h4
  unfold carW
  omega
theorem mix_sum {T V m : Int} {k : Nat} : m + dgt q64 V k + carW T V k = (T + q64 ^ k * m) / q64 ^ k - q64 * (V / q64 ^ (k + 1)) := by
  have p := powB_pos q64_pos k
  unfold dgt carW
  rw [Int.add_mul_ediv_left _ _ (by omega), Int.pow_succ, ← Int.ediv_ediv_of_nonneg (Int.le_of_lt p)]
  have := Int.emod_add_mul_ediv (V / q64 ^ k) q64
  omega
theorem mix_low {T V m : Int} {k : Nat} : (m + dgt q64 V k + carW T V k) % q64 = dgt q64 (T + q64 ^ k * m) k := by
  rw [mix_sum, Int.sub_mul_emod_self_left]
  rfl
theorem mix_high {T V m : Int} {k : Nat} : (m + dgt q64 V k + carW T V k) / q64 = carW (T + q64 ^ k * m) V (k + 1) := by
  have p := powB_pos q64_pos k
  have e : m + dgt q64 V k + carW T V k = (T + q64 ^ k * m) / q64 ^ k + q64 * (- (V / q64 ^ (k + 1))) := by rw [mix_sum, Int.mul_neg]; omega
  rw [e, Int.add_mul_ediv_left _ _ (by decide)]
  have e2 : ∀ N : Int, N / (q64 ^ k * q64) = N / q64 ^ k / q64 := fun N => (Int.ediv_ediv_of_nonneg (Int.le_of_lt p)).symm
  unfold carW
  rw [Int.pow_succ, e2, e2]
  omega
theorem mix_upd {T V m : Int} {k : Nat} (j : Nat) : (if j = k then dgt q64 (T + q64 ^ k * m) k else mixW T V k j) = mixW (T + q64 ^ k * m) V (k + 1) j := by
  unfold mixW
  by_cases h : j = k
  · rw [if_pos h, h, if_pos (by omega)]
  · rw [if_neg h]
    by_cases h2 : j < k
    · rw [if_pos h2, if_pos (by omega), dgt_low q64_pos _ _ h2]
    · rw [if_neg h2, if_neg (by omega)]
theorem mix_at {T V : Int} {k : Nat} : mixW T V k k = dgt q64 V k := if_neg (by omega)
theorem mix_same {V : Int} {k : Nat} (j : Nat) : mixW V V k j = dgt q64 V j := by unfold mixW; split <;> rfl
theorem mix_end {T V : Int} {k : Nat} (h : carW T V k = 0) (j : Nat) : mixW T V k j = dgt q64 T j := by
  unfold mixW
  by_cases h2 : j < k
  · rw [if_pos h2]
  · rw [if_neg h2]
    unfold carW at h
    obtain ⟨m, rfl⟩ : ∃ m, j = k + m := ⟨j - k, by omega⟩
    have p := powB_pos q64_pos k
    unfold dgt
    rw [Int.pow_add, ← Int.ediv_ediv_of_nonneg (Int.le_of_lt p), ← Int.ediv_ediv_of_nonneg (Int.le_of_lt p)]
    have : T / q64 ^ k = V / q64 ^ k := by omega
    rw [this]
theorem mix_eight {T V : Int} {j : Nat} (h : j < 8) : mixW T V 8 j = dgt q64 T j := if_pos h

/-- One product of two words, with two words more. -/
theorem mul_word {x y p c : Int} (hx : 0 ≤ x ∧ x < q64) (hy : 0 ≤ y ∧ y < q64) (hp : 0 ≤ p ∧ p < q64) (hc : 0 ≤ c ∧ c < q64) :
    adcS (adcS (umul x y) p 0) c 0 = (x * y + p + c) % q64 ∧ uadd (uadd (mulH x y) (adcC (umul x y) p 0)) (adcC (adcS (umul x y) p 0) c 0) = (x * y + p + c) / q64 := by
  have e1 : umul x y = x * y % q64 := mul_u64 x y
  have e2 : mulH x y = x * y / q64 := mulH_eq hx hy
  have h1 : x * y ≤ (q64 - 1) * (q64 - 1) := Int.mul_le_mul (by omega) (by omega) hy.1 (by decide)
  have h2 : 0 ≤ x * y := Int.mul_nonneg hx.1 hy.1
  rw [e1, e2]
  generalize x * y = m at *
  simp only [q64] at *
  unfold adcS adcC uadd
  simp only [add_u64]
  split <;> split <;> omega
theorem add_word {p c : Int} (hp : 0 ≤ p ∧ p < q64) (hc : 0 ≤ c ∧ c < q64) : adcS p c 0 = (0 + p + c) % q64 ∧ adcC p c 0 = (0 + p + c) / q64 := by
  simp only [q64] at *
  unfold adcS adcC
  split <;> omega

/-- The bytes of words. -/
theorem word_byteN (N : Int) (i : Nat) : IntKind.wrap .u8 (realBin .shr .u64 (dgt q64 N (i / 8)) ((i % 8 * 8 : Nat) : Int)) = byt N i := by
  have hp : (0 : Int) < 256 ^ (i % 8) := Int.pow_pos (by decide)
  have e2 : realBin .shr .u64 (dgt q64 N (i / 8)) ((i % 8 * 8 : Nat) : Int) = dgt q64 N (i / 8) / 256 ^ (i % 8) := by
    rw [shr_any .u64 _ _ (by show i % 8 * 8 ≤ 64; omega)]
    congr 1
    rw [Nat.mul_comm, Int.pow_mul]
    rfl
  rw [wrap_u8, e2]
  unfold byt dgt
  have e3 : (q64 : Int) ^ (i / 8) = 256 ^ (8 * (i / 8)) := by
    rw [Int.pow_mul]; rfl
  have e4 : (256 : Int) ^ i = 256 ^ (8 * (i / 8)) * 256 ^ (i % 8) := by
    rw [← Int.pow_add]; congr 1; omega
  rw [e3, e4, ← Int.ediv_ediv_of_nonneg (Int.le_of_lt (Int.pow_pos (by decide)))]
  generalize N / 256 ^ (8 * (i / 8)) = y
  have e5 : (q64 : Int) = 256 ^ (i % 8) * 256 * 256 ^ (7 - i % 8) := by
    rw [← Int.pow_succ, ← Int.pow_add]
    have : i % 8 + 1 + (7 - i % 8) = 8 := by omega
    rw [this]; rfl
  have h6 := Int.emod_add_mul_ediv y q64
  have e7 : y / 256 ^ (i % 8) = (y % q64) / 256 ^ (i % 8) + 256 * (256 ^ (7 - i % 8) * (y / q64)) := by
    have : y = y % q64 + 256 ^ (i % 8) * (256 * (256 ^ (7 - i % 8) * (y / q64))) := by
      rw [← Int.mul_assoc, ← Int.mul_assoc, ← e5]; omega
    rw [this, Int.add_mul_ediv_left _ _ (by omega), ← this]
  rw [e7, Int.add_mul_emod_self_left]

theorem num4 {b : Nat → Int} (hb : IsBytes 32 b) : sumB q64 4 (numW b 32) = num 32 b := by
  have h := num_range hb
  exact sumB_dgt_lt q64_pos h.1 (by exact h.2)
theorem rowV_zero (x y : Nat → Int) (Z : Int) : rowV x y Z 0 = Z := by simp [rowV, sumB]
theorem init_words {c : Nat → Int} (hc : IsBytes 32 c) (x y : Nat → Int) (k : Nat) : splice (fun _ => 0) 0 4 (fun j => numW c 32 (0 + j)) k = dgt q64 (rowV x y (num 32 c) 0) k := by
  have h := num_range hc
  rw [rowV_zero]
  unfold splice
  by_cases h4 : k < 4
  · rw [if_neg (by omega), if_pos (by omega)]
    show numW c 32 (0 + (k - 0)) = _
    rw [Nat.zero_add, Nat.sub_zero]
    rfl
  · rw [if_neg (by omega), if_neg (by omega)]
    unfold dgt
    obtain ⟨m, rfl⟩ : ∃ m, k = 4 + m := ⟨k - 4, by omega⟩
    have p := powB_pos q64_pos 4
    have e : num 32 c / q64 ^ (4 + m) = 0 := by
      rw [Int.pow_add, ← Int.ediv_ediv_of_nonneg (Int.le_of_lt p), Int.ediv_eq_zero_of_lt h.1 (by exact h.2)]
      simp
    rw [e]
    rfl
theorem mix_first (x y : Nat → Int) (Z : Int) (i k : Nat) : dgt q64 (rowV x y Z i) k = mixW (rowT x y Z i 0) (rowV x y Z i) (i + 0) k ∧ 0 = carW (rowT x y Z i 0) (rowV x y Z i) (i + 0) := by
  rw [rowT_zero, mix_same]
  refine ⟨rfl, ?_⟩
  unfold carW
  omega
theorem numW_word (a : Nat → Int) (i : Nat) : 0 ≤ numW a 32 i ∧ numW a 32 i < q64 := dgt_isDig q64_pos _ (i + 1) i (by omega)
theorem step_word (a b : Nat → Int) (Z : Int) (i j : Nat) (hc : inR .u64 (carW (rowT (numW a 32) (numW b 32) Z i j) (rowV (numW a 32) (numW b 32) Z i) (i + j))) :
    (∀ k, (if k = i + j then adcS (adcS (umul (numW a 32 i) (numW b 32 j)) (mixW (rowT (numW a 32) (numW b 32) Z i j) (rowV (numW a 32) (numW b 32) Z i) (i + j) (i + j)) 0) (carW (rowT (numW a 32) (numW b 32) Z i j) (rowV (numW a 32) (numW b 32) Z i) (i + j)) 0 else mixW (rowT (numW a 32) (numW b 32) Z i j) (rowV (numW a 32) (numW b 32) Z i) (i + j) k) = mixW (rowT (numW a 32) (numW b 32) Z i (j + 1)) (rowV (numW a 32) (numW b 32) Z i) (i + (j + 1)) k) ∧
    uadd (uadd (mulH (numW a 32 i) (numW b 32 j)) (adcC (umul (numW a 32 i) (numW b 32 j)) (mixW (rowT (numW a 32) (numW b 32) Z i j) (rowV (numW a 32) (numW b 32) Z i) (i + j) (i + j)) 0)) (adcC (adcS (umul (numW a 32 i) (numW b 32 j)) (mixW (rowT (numW a 32) (numW b 32) Z i j) (rowV (numW a 32) (numW b 32) Z i) (i + j) (i + j)) 0) (carW (rowT (numW a 32) (numW b 32) Z i j) (rowV (numW a 32) (numW b 32) Z i) (i + j)) 0) = carW (rowT (numW a 32) (numW b 32) Z i (j + 1)) (rowV (numW a 32) (numW b 32) Z i) (i + (j + 1)) := by
  obtain ⟨m1, m2⟩ := mul_word (numW_word a i) (numW_word b j) (p := dgt q64 (rowV (numW a 32) (numW b 32) Z i) (i + j)) (dgt_isDig q64_pos _ (i + j + 1) (i + j) (by omega)) (inR_u64.1 hc)
  rw [rowT_succ, mix_at, m1, m2, mix_low, mix_high]
  exact ⟨fun k => mix_upd k, rfl⟩
theorem step_carry (T V : Int) (k : Nat) (hc : inR .u64 (carW T V k)) :
    (∀ n, (if n = k then adcS (mixW T V k k) (carW T V k) 0 else mixW T V k n) = mixW T V (k + 1) n) ∧ adcC (mixW T V k k) (carW T V k) 0 = carW T V (k + 1) := by
  obtain ⟨m1, m2⟩ := add_word (p := dgt q64 V k) (dgt_isDig q64_pos _ (k + 1) k (by omega)) (inR_u64.1 hc)
  have e : T + q64 ^ k * 0 = T := by simp
  have l := mix_low (T := T) (V := V) (m := 0) (k := k)
  have h := mix_high (T := T) (V := V) (m := 0) (k := k)
  have u := fun n => mix_upd (T := T) (V := V) (m := 0) (k := k) n
  rw [e] at l h
  simp only [e] at u
  rw [mix_at, m1, m2, l, h]
  exact ⟨u, rfl⟩
theorem sn_congr {n : Nat} {f g : Nat → Int} (h : ∀ i, i < n → f i = g i) : sn n f = sn n g := by unfold sn; rw [num_congr n h]
/-- MulAdd's answer. -/
theorem muladd_bytes {a b c : Nat → Int} (ha : IsBytes 32 a) (hb : IsBytes 32 b) (hc : IsBytes 32 c) : sb (sn 64 (byt (rowV (numW a 32) (numW b 32) (num 32 c) 4))) = sb (se a * se b + se c) := by
  have h1 := num_range ha
  have h2 := num_range hb
  have h3 := num_range hc
  have h4 : num 32 a * num 32 b ≤ (256 ^ 32 - 1) * (256 ^ 32 - 1) := Int.mul_le_mul (by omega) (by omega) h2.1 (by decide)
  have h5 : 0 ≤ num 32 a * num 32 b := Int.mul_nonneg h1.1 h2.1
  unfold rowV
  rw [num4 ha, num4 hb]
  unfold sn se
  rw [num_byt 64 _ (by omega) (by have e : (256 : Int) ^ 64 = 256 ^ 32 * 256 ^ 32 := rfl; rw [e]; omega), Int.add_comm, zi_add, zi_mul]
end Sx

/-
  The scalar laws' plain facts.
-/
namespace Sx
open Go

theorem num_order : num 32 (byt lI) = lI := num_byt 32 lI (by decide) (by decide)
theorem se_order : se (byt lI) = 0 := by
  unfold se
  rw [num_order]
  exact zi_self
theorem canon_s1 (a : Nat → Int) : canS a = ltB a (byt lI) := by unfold canS ltB; rw [num_order]
theorem canon_s2 (x : Zl) : ltB (sb x) (byt lI) = true := by
  unfold ltB
  rw [num_order, num_sb]
  exact decide_eq_true (sval_bounds x).2
theorem canon_s3 {a : Nat → Int} (ha : IsBytes 32 a) : realEqA 32 (sb (se a)) a = ltB a (byt lI) := by
  have h := can_eqS ha
  have e : bytesW (redW 32 a) = sb (se a) := bytes_red 32 a
  rw [e] at h
  rw [h, canon_s1]

/-- A number to the power of what the bits from i on tell. -/
def pwZ (x : Zl) (e : Nat → Int) (i : Nat) : Zl := zp x (num 32 e / 2 ^ i).toNat
theorem pwZ_step (x : Zl) {e : Nat → Int} (he : IsBytes 32 e) {i : Nat} (hi : i < 256) : pwZ x e i = if bitB e i = true then pwZ x e (i + 1) * pwZ x e (i + 1) * x else pwZ x e (i + 1) * pwZ x e (i + 1) := by
  unfold pwZ
  rw [num_bit he hi]
  split
  · rw [← zp_sq, ← zp_succ]
  · rw [← zp_sq]
    rfl
theorem pwZ_top (x : Zl) {e : Nat → Int} {i : Nat} (he : num 32 e / 2 ^ i = 0) : pwZ x e i = 1 := by
  unfold pwZ
  rw [he, Int.toNat_zero, zp_zero]
theorem pwZ_all (x : Zl) (e : Nat → Int) : pwZ x e 0 = zp x (num 32 e).toNat := by
  unfold pwZ
  rw [Int.pow_zero, Int.ediv_one]

theorem num_lm2 : num 32 (byt (lI - 2)) = lI - 2 := num_byt 32 (lI - 2) (by decide) (by decide)
theorem inv_high : num 32 (byt (lI - 2)) / 2 ^ 253 = 0 := by rw [num_lm2]; decide
theorem num_inv : (num 32 (byt (lI - 2))).toNat = lN - 2 := by rw [num_lm2]; rfl
theorem se_zero : se (fun _ => 0) = 0 := by unfold se; rw [num_zero]; exact zi_zero
theorem one_bytesS : ∀ i, i < 32 → upd (fun _ => 0) 0 1 i = sb (1 : Zl) i := by
  intro i hi
  rw [number_bytes (by decide) i hi]
  rfl
theorem inv_two : zinv (zi lN 2) + zinv (zi lN 2) = 1 := by
  have h : zi lN 2 * zinv (zi lN 2) = 1 := mul_zinv prL (by decide +kernel)
  have e : zi lN 2 = 1 + 1 := by decide +kernel
  rw [e] at h ⊢
  grind
theorem order_mid (i : Nat) (h1 : 16 ≤ i) (h2 : i < 32) (h3 : i ≠ 31) : byt lI i = 0 := by
  have h : ∀ j : Fin 32, 16 ≤ j.val → j.val ≠ 31 → byt lI j.val = 0 := by decide +kernel
  exact h ⟨i, h2⟩ h1 h3
/-- Doubling 1. -/
def dblS (i : Nat) : Nat → Int := sb (zi lN (2 ^ i))
theorem dblS_step (i : Nat) : sb (se (dblS i) + se (dblS i)) = dblS (i + 1) := by
  unfold dblS
  rw [se_sb, ← zi_add, Int.pow_succ]
  congr 2
  omega
theorem dblS_last : realEqA 32 (dblS 256) (sb 0) = false := sb_other (by decide +kernel)
/-- 64 bytes are two halves. -/
theorem split_64 (w : Nat → Int) : sn 64 w = se (fun i => w (32 + i)) * se (dblS 256) + se w := by
  unfold dblS
  rw [se_sb]
  unfold sn se
  rw [← zi_mul, ← zi_add]
  have h := num_split 32 32 w
  rw [show (32 + 32) = 64 from rfl] at h
  rw [h, Int.add_comm, Int.mul_comm, show ((256 : Int) ^ 32) = 2 ^ 256 from rfl]
end Sx

/-
  The document's numbers of bytes: what is left of a division by L, found bit by bit.
-/
namespace Sx
open Go Go.RowKit

theorem lssT {a b : Int} (h : realCmp .lss a b = true) : a < b := of_decide_eq_true h
theorem lssF {a b : Int} (h : realCmp .lss a b = false) : b ≤ a := by have h2 : ¬ a < b := of_decide_eq_false h; omega
theorem leqT {a b : Int} (h : realCmp .leq a b = true) : a ≤ b := of_decide_eq_true h
theorem leqF {a b : Int} (h : realCmp .leq a b = false) : b < a := by have h2 : ¬ a ≤ b := of_decide_eq_false h; omega
theorem gtrT {a b : Int} (h : realCmp .gtr a b = true) : b < a := of_decide_eq_true h
theorem gtrF {a b : Int} (h : realCmp .gtr a b = false) : a ≤ b := by have h2 : ¬ b < a := of_decide_eq_false h; omega
theorem geqT {a b : Int} (h : realCmp .geq a b = true) : b ≤ a := of_decide_eq_true h
theorem geqF {a b : Int} (h : realCmp .geq a b = false) : a < b := by have h2 : ¬ b ≤ a := of_decide_eq_false h; omega
theorem eqlT {a b : Int} (h : realCmp .eql a b = true) : a = b := by simpa [realCmp] using h
theorem eqlF {a b : Int} (h : realCmp .eql a b = false) : a ≠ b := by simpa [realCmp] using h
theorem neqT {a b : Int} (h : realCmp .neq a b = true) : a ≠ b := by simpa [realCmp] using h
theorem neqF {a b : Int} (h : realCmp .neq a b = false) : a = b := by simpa [realCmp] using h

structure Short (n : Nat) : Prop where
  h : n ≤ 4096
structure Dig33 (r : Nat → Int) : Prop where
  h : IsDig 256 33 r
def belowC (B : (Nat → Int) → (Nat → Int) → Bool) : Contract := fun vs => match vs with
  | [.arr .i64 33 r, .arr .u8 32 b] => some ([Dig33 r], .bool (.sym (B r b)))
  | _ => none
def restC (R : Nat → (Nat → Int) → Nat → Int) : Contract := fun vs => match vs with
  | [.xsl .u8 1 len _ b] => some ([Short len.val], .arr .u8 32 (R len.val b))
  | _ => none
def below33 (r b : Nat → Int) : Bool := decide (sumB 256 33 r < num 32 b)

theorem p256 : (0 : Int) < 256 := by decide
theorem sum33 (r : Nat → Int) : sumB 256 33 r = num 32 r + 256 ^ 32 * r 32 := by
  rw [num_sumB]; rfl
theorem below_top {r b : Nat → Int} (hr : Dig33 r) (hb : IsBytes 32 b) (h : r 32 ≠ 0) : below33 r b = false := by
  have h1 := hr.h 32 (by decide)
  have h2 := num_range hb
  have h3 := num_range (n := 32) (f := r) (fun i hi => hr.h i (by omega))
  unfold below33
  rw [sum33]
  exact decide_eq_false (by omega)
theorem below_num {r b : Nat → Int} (h : r 32 = 0) : below33 r b = ltB r b := by
  unfold below33 ltB
  rw [sum33, h, Int.mul_zero, Int.add_zero]
theorem dig33_bytes {r : Nat → Int} (hr : Dig33 r) : IsBytes 32 r := fun i hi => hr.h i (by omega)
theorem dig33_dgt (N : Int) : Dig33 (dgt 256 N) := ⟨dgt_isDig p256 N 33⟩

theorem bit_num {n : Nat} {e : Nat → Int} (he : IsBytes n e) {i : Nat} (hi : i < 8 * n) : e (i / 8) / 2 ^ (i % 8) % 2 = num n e / 2 ^ i % 2 := by
  have h1 : (2 : Int) ^ i = 256 ^ (i / 8) * 2 ^ (i % 8) := by
    have e1 : (256 : Int) = 2 ^ 8 := by decide
    rw [e1, ← Int.pow_mul, ← Int.pow_add]
    congr 1
    omega
  have hp : (0 : Int) < 256 ^ (i / 8) := Int.pow_pos (by decide)
  rw [h1, ← Int.ediv_ediv_of_nonneg (by omega), num_div (i / 8) n e (by omega) he]
  obtain ⟨m, hm⟩ : ∃ m, n - i / 8 = m + 1 := ⟨n - i / 8 - 1, by omega⟩
  rw [hm]
  simp only [num, Nat.add_zero]
  have hk : i % 8 < 8 := Nat.mod_lt _ (by decide)
  generalize i % 8 = k at hk
  generalize num m (fun j => e (i / 8 + (j + 1))) = T
  generalize e (i / 8) = b
  match k, hk with
  | 0, _ => simp only [Int.pow_zero, Int.ediv_one]; omega
  | 1, _ => simp only [Int.reducePow]; omega
  | 2, _ => simp only [Int.reducePow]; omega
  | 3, _ => simp only [Int.reducePow]; omega
  | 4, _ => simp only [Int.reducePow]; omega
  | 5, _ => simp only [Int.reducePow]; omega
  | 6, _ => simp only [Int.reducePow]; omega
  | 7, _ => simp only [Int.reducePow]; omega

/-! The rest, bit by bit: i bits are still to come. -/
def restR (n : Nat) (b : Nat → Int) (m : Nat) : Int := num n b / 2 ^ m % lI
def restB (n : Nat) (b : Nat → Int) (i : Nat) : Int := num n b / 2 ^ i % 2
def restX (n : Nat) (b : Nat → Int) (i : Nat) : Int := 2 * restR n b (i + 1) + restB n b i
section
variable {n : Nat} {b : Nat → Int} {i : Nat}
theorem restB_range : 0 ≤ restB n b i ∧ restB n b i ≤ 1 := by unfold restB; omega
theorem restR_range {m : Nat} : 0 ≤ restR n b m ∧ restR n b m < lI := modl _
theorem restX_range : 0 ≤ restX n b i ∧ restX n b i < 2 * lI := by
  have h1 := restR_range (n := n) (b := b) (m := i + 1)
  have h2 := restB_range (n := n) (b := b) (i := i)
  unfold restX
  omega
theorem rest_both : (restX n b i < lI → restR n b i = restX n b i) ∧ (lI ≤ restX n b i → restR n b i = restX n b i - lI) := by
  have hp : (0 : Int) < 2 ^ i := Int.pow_pos (by decide)
  unfold restX restB restR
  rw [Int.pow_succ, ← Int.ediv_ediv_of_nonneg (by omega)]
  generalize num n b / 2 ^ i = y
  simp only [lI]
  omega
theorem rest_zero (hb : IsBytes n b) : restR n b (8 * n) = 0 := by
  have h := num_range hb
  have e : (2 : Int) ^ (8 * n) = 256 ^ n := by
    have e1 : (256 : Int) = 2 ^ 8 := by decide
    rw [e1, ← Int.pow_mul]
  unfold restR
  rw [e, Int.ediv_eq_zero_of_lt h.1 h.2]
  rfl
theorem rest_all : restR n b 0 = num n b % lI := by simp [restR]
theorem below_X : below33 (dgt 256 (restX n b i)) (byt lI) = decide (restX n b i < lI) := by
  have h := restX_range (n := n) (b := b) (i := i)
  unfold below33
  rw [num_order, sumB_dgt_lt p256 h.1 (Int.lt_trans h.2 (by decide))]

/-- Doubling. -/
def dblA (n : Nat) (b : Nat → Int) (i j : Nat) : Nat → Int := fun k => if k < j then dgt 256 (restX n b i) k else dgt 256 (restR n b (i + 1)) k
def dblC (n : Nat) (b : Nat → Int) (i j : Nat) : Int := carB 256 (fun k => 2 * dgt 256 (restR n b (i + 1)) k) (restB n b i) j
theorem dbl_zero (k : Nat) : dblA n b i 0 k = dgt 256 (restR n b (i + 1)) k := if_neg (Nat.not_lt_zero k)
theorem dbl_czero : dblC n b i 0 = restB n b i := carB_zero _ _ _
theorem dbl_at (j : Nat) : dblA n b i j j = dgt 256 (restR n b (i + 1)) j := if_neg (Nat.lt_irrefl j)
theorem dbl_end {k : Nat} (hk : k < 33) : dblA n b i 33 k = dgt 256 (restX n b i) k := if_pos hk
theorem dig_range (N : Int) (k : Nat) : 0 ≤ dgt 256 N k ∧ dgt 256 N k < 256 := dgt_isDig p256 N (k + 1) k (by omega)
theorem dblC_range (j : Nat) : 0 ≤ dblC n b i j ∧ dblC n b i j ≤ 1 := by
  have h2 := restB_range (n := n) (b := b) (i := i)
  have hp := powB_pos p256 j
  unfold dblC carB
  rw [sumB_mul, sumB_dgt p256]
  have h3 := Int.emod_nonneg (restR n b (i + 1)) (b := 256 ^ j) (by omega)
  have h4 := Int.emod_lt_of_pos (restR n b (i + 1)) hp
  generalize restR n b (i + 1) % 256 ^ j = x at h3 h4
  generalize (256 : Int) ^ j = p at hp h4
  refine ⟨Int.ediv_nonneg (by omega) (by omega), ?_⟩
  have : (2 * x + restB n b i) / p < 2 := Int.ediv_lt_of_lt_mul hp (by omega)
  omega
theorem dbl_step {j : Nat} (hj : j < 33) : (2 * dblA n b i j j + dblC n b i j) % 256 = dgt 256 (restX n b i) j ∧ (2 * dblA n b i j j + dblC n b i j) / 256 = dblC n b i (j + 1) := by
  have h1 := restR_range (n := n) (b := b) (m := i + 1)
  rw [dbl_at]
  refine ⟨?_, by unfold dblC; rw [carB_succ p256]⟩
  have h := dgt_car p256 (fun k => 2 * dgt 256 (restR n b (i + 1)) k) (restB n b i) hj
  rw [sumB_mul, sumB_dgt_lt p256 h1.1 (Int.lt_trans h1.2 (by decide))] at h
  exact h.symm
theorem dbl_upd {j : Nat} (k : Nat) : (if k = j then dgt 256 (restX n b i) j else dblA n b i j k) = dblA n b i (j + 1) k := by
  unfold dblA
  by_cases h : k = j
  · subst h; rw [if_pos rfl, if_pos (by omega)]
  · rw [if_neg h]
    by_cases h2 : k < j
    · rw [if_pos h2, if_pos (by omega)]
    · rw [if_neg h2, if_neg (by omega)]

/-- L is taken off. -/
def restS (n : Nat) (b : Nat → Int) (i : Nat) : Int := restX n b i - lI
def ordD : Nat → Int := dgt 256 lI
theorem ordD_range (j : Nat) : 0 ≤ ordD j ∧ ordD j < 256 := dig_range lI j
theorem rest_sub (h : lI ≤ restX n b i) : restR n b i = restS n b i := rest_both.2 h
def subA (n : Nat) (b : Nat → Int) (i j : Nat) : Nat → Int := fun k => if k < j then dgt 256 (restS n b i) k else dgt 256 (restX n b i) k
def subB (n : Nat) (b : Nat → Int) (i j : Nat) : Int := - carB 256 (fun k => dgt 256 (restX n b i) k - ordD k) 0 j
theorem sub_zero (k : Nat) : subA n b i 0 k = dgt 256 (restX n b i) k := if_neg (Nat.not_lt_zero k)
theorem sub_bzero : subB n b i 0 = 0 := by unfold subB; rw [carB_zero]; rfl
theorem sub_at (j : Nat) : subA n b i j j = dgt 256 (restX n b i) j := if_neg (Nat.lt_irrefl j)
theorem sub_end {k : Nat} (hk : k < 33) : subA n b i 33 k = dgt 256 (restS n b i) k := if_pos hk
theorem subB_range (j : Nat) : 0 ≤ subB n b i j ∧ subB n b i j ≤ 1 := by
  have hp := powB_pos p256 j
  unfold subB carB
  unfold ordD
  rw [sumB_sub, sumB_dgt p256, sumB_dgt p256, Int.add_zero]
  have h3 := Int.emod_nonneg (restX n b i) (b := 256 ^ j) (by omega)
  have h4 := Int.emod_lt_of_pos (restX n b i) hp
  have h5 := Int.emod_nonneg lI (b := 256 ^ j) (by omega)
  have h6 := Int.emod_lt_of_pos lI hp
  generalize restX n b i % 256 ^ j = x at h3 h4
  generalize lI % 256 ^ j = y at h5 h6
  generalize (256 : Int) ^ j = p at hp h4 h6
  have h7 : -1 ≤ (x - y) / p := Int.le_ediv_of_mul_le hp (by omega)
  have h8 : (x - y) / p < 1 := Int.ediv_lt_of_lt_mul hp (by omega)
  omega
theorem sub_step {j : Nat} (hj : j < 33) {v : Int} (hv : v = dgt 256 (restX n b i) j - subB n b i j - ordD j) :
    (v < 0 → v + 256 = dgt 256 (restS n b i) j ∧ 1 = subB n b i (j + 1)) ∧ (0 ≤ v → v = dgt 256 (restS n b i) j ∧ 0 = subB n b i (j + 1)) := by
  have h1 := restX_range (n := n) (b := b) (i := i)
  have h := dgt_car p256 (fun k => dgt 256 (restX n b i) k - dgt 256 lI k) 0 hj
  rw [sumB_sub, sumB_dgt_lt p256 h1.1 (Int.lt_trans h1.2 (by decide)), sumB_dgt_lt p256 (N := lI) (by decide) (by decide), Int.add_zero] at h
  replace h : dgt 256 (restS n b i) j = (dgt 256 (restX n b i) j - ordD j + carB 256 (fun k => dgt 256 (restX n b i) k - ordD k) 0 j) % 256 := h
  have h2 : subB n b i (j + 1) = - ((dgt 256 (restX n b i) j - ordD j + carB 256 (fun k => dgt 256 (restX n b i) k - ordD k) 0 j) / 256) := by
    show - carB _ _ _ (j + 1) = _
    rw [carB_succ p256]
  have hr := subB_range (n := n) (b := b) (i := i) j
  have hc : carB 256 (fun k => dgt 256 (restX n b i) k - ordD k) 0 j = - subB n b i j := by unfold subB; omega
  rw [hc] at h h2
  rw [h, h2]
  have d1 := dig_range (restX n b i) j
  have d2 := ordD_range j
  generalize dgt 256 (restX n b i) j = x at *
  generalize ordD j = y at *
  generalize subB n b i j = z at *
  subst hv
  refine ⟨fun hv => ?_, fun hv => ?_⟩ <;> constructor <;> omega
theorem sub_upd {j : Nat} (k : Nat) : (if k = j then dgt 256 (restS n b i) j else subA n b i j k) = subA n b i (j + 1) k := by
  unfold subA
  by_cases h : k = j
  · subst h; rw [if_pos rfl, if_pos (by omega)]
  · rw [if_neg h]
    by_cases h2 : k < j
    · rw [if_pos h2, if_pos (by omega)]
    · rw [if_neg h2, if_neg (by omega)]
theorem ordD_32 : ordD 32 = 0 := by decide
theorem ordD_byt (j : Nat) : byt lI j = ordD j := rfl
end
end Sx
namespace Sx
open Go Go.RowKit
theorem shr_u8 {a s : Int} (h0 : 0 ≤ s) (h : s ≤ 8) : realBin .shr .u8 a s = a / 2 ^ s.toNat := by
  obtain ⟨t, rfl⟩ := Int.eq_ofNat_of_zero_le h0
  exact shr_any .u8 a t (by simp [IntKind.bits]; omega)
/-- A bit is looked up. -/
theorem bit_look {n : Nat} {b : Nat → Int} (hb : IsBytes n b) {i : Nat} (hi : i < 8 * n) :
    realBin .rem .i64 (IntKind.wrap .i64 (realBin .shr .u8 (b (i / 8)) (IntKind.wrap .u64 ((i % 8 : Nat) : Int)))) 2 = num n b / 2 ^ i % 2 := by
  have h1 := hb (i / 8) (by omega)
  have h2 : i % 8 < 8 := Nat.mod_lt _ (by decide)
  rw [wrap_u64, Int.emod_eq_of_lt (by omega) (by omega), shr_u8 (by omega) (by omega), Int.toNat_natCast]
  have hp : (0 : Int) < 2 ^ (i % 8) := Int.pow_pos (by decide)
  have h3 : 0 ≤ b (i / 8) / 2 ^ (i % 8) := Int.ediv_nonneg h1.1 (by omega)
  have h4 : b (i / 8) / 2 ^ (i % 8) ≤ b (i / 8) := Int.ediv_le_self _ h1.1
  rw [wrap_i64 (by omega), rem_i64 h3, bit_num hb hi]
end Sx
namespace Sx
open Go Go.RowKit
theorem below_congr {r r' b b' : Nat → Int} (hr : ∀ k, k < 33 → r k = r' k) (hb : ∀ k, k < 32 → b k = b' k) : below33 r b = below33 r' b' := by
  unfold below33
  rw [sumB_congr hr, num_congr 32 hb]
end Sx

/-
  Sums and products of lists of bytes, laid out whole.
-/
namespace Sx
open Go Go.RowKit

def listC (L : (Nat → Int) → Nat → Int) : Contract := fun vs => match vs with
  | [.arr .u8 32 a] => some ([], .osl .u8 1 (.lit 32) (L a))
  | _ => none
def maxSO (d : Nat) : SO → SO → SO
  | .lit a, .lit b => .lit (max a b + d)
  | a, b => .sym (max a.val b.val + d)
def sumSO : SO → SO → SO
  | .lit a, .lit b => .lit (a + b)
  | a, b => .sym (a.val + b.val)
theorem maxSO_val (d : Nat) (a b : SO) : (maxSO d a b).val = max a.val b.val + d := by cases a <;> cases b <;> rfl
theorem sumSO_val (a b : SO) : (sumSO a b).val = a.val + b.val := by cases a <;> cases b <;> rfl
def addedC (F : Nat → (Nat → Int) → Nat → (Nat → Int) → Nat → Int) : Contract := fun vs => match vs with
  | [.xsl .u8 1 la _ a, .xsl .u8 1 lb _ b] => some ([Short la.val, Short lb.val], .osl .u8 1 (maxSO 1 la lb) (F la.val a lb.val b))
  | _ => none
def productC (F : Nat → (Nat → Int) → Nat → (Nat → Int) → Nat → Int) : Contract := fun vs => match vs with
  | [.xsl .u8 1 la _ a, .xsl .u8 1 lb _ b] => some ([Short la.val, Short lb.val], .osl .u8 1 (sumSO la lb) (F la.val a lb.val b))
  | _ => none
def addedF (la : Nat) (a : Nat → Int) (lb : Nat) (b : Nat → Int) : Nat → Int := byt (num la a + num lb b)
def productF (la : Nat) (a : Nat → Int) (lb : Nat) (b : Nat → Int) : Nat → Int := byt (num la a * num lb b)

theorem sumB_up {B : Int} (f : Nat → Int) (l : Nat) : ∀ m, sumB B (l + m) (fun i => if i < l then f i else 0) = sumB B l f
  | 0 => sumB_congr fun i hi => if_pos (by omega)
  | m + 1 => by
    show sumB B (l + m) _ + B ^ (l + m) * (if l + m < l then f (l + m) else 0) = _
    rw [if_neg (by omega), Int.mul_zero, Int.add_zero, sumB_up f l m]
theorem sumB_upto {B : Int} (f : Nat → Int) {l n : Nat} (h : l ≤ n) : sumB B n (fun i => if i < l then f i else 0) = sumB B l f := by
  obtain ⟨m, rfl⟩ : ∃ m, n = l + m := ⟨n - l, by omega⟩
  exact sumB_up f l m

/-! Sums. -/
def addX (la : Nat) (a : Nat → Int) (lb : Nat) (b : Nat → Int) : Nat → Int := fun i => (if i < la then a i else 0) + (if i < lb then b i else 0)
def addK (la : Nat) (a : Nat → Int) (lb : Nat) (b : Nat → Int) (k : Nat) : Int := carB 256 (addX la a lb b) 0 k
section
variable {la lb : Nat} {a b : Nat → Int}
theorem addX_sum : sumB 256 (max la lb) (addX la a lb b) = num la a + num lb b := by
  unfold addX
  rw [sumB_add, sumB_upto _ (Nat.le_max_left _ _), sumB_upto _ (Nat.le_max_right _ _), num_sumB, num_sumB]
theorem addX_range (ha : IsBytes la a) (hb : IsBytes lb b) (i : Nat) : 0 ≤ addX la a lb b i ∧ addX la a lb b i ≤ 510 := by
  unfold addX
  by_cases h1 : i < la
  · have := ha i h1
    by_cases h2 : i < lb
    · have := hb i h2
      rw [if_pos h1, if_pos h2]; omega
    · rw [if_pos h1, if_neg h2]; omega
  · by_cases h2 : i < lb
    · have := hb i h2
      rw [if_neg h1, if_pos h2]; omega
    · rw [if_neg h1, if_neg h2]; omega
theorem addK_zero : addK la a lb b 0 = 0 := carB_zero _ _ _
theorem addK_range (ha : IsBytes la a) (hb : IsBytes lb b) : ∀ k, 0 ≤ addK la a lb b k ∧ addK la a lb b k ≤ 1
  | 0 => by rw [addK_zero]; omega
  | k + 1 => by
    have h1 := addK_range ha hb k
    have h2 := addX_range ha hb k
    unfold addK at h1 ⊢
    rw [carB_succ p256]
    omega
theorem added_step {k : Nat} (hk : k < max la lb) : (addX la a lb b k + addK la a lb b k) % 256 = addedF la a lb b k ∧ (addX la a lb b k + addK la a lb b k) / 256 = addK la a lb b (k + 1) := by
  refine ⟨?_, by unfold addK; rw [carB_succ p256]⟩
  have h := dgt_car p256 (addX la a lb b) 0 hk
  rw [addX_sum, Int.add_zero] at h
  exact h.symm
theorem added_last (ha : IsBytes la a) (hb : IsBytes lb b) : addK la a lb b (max la lb) = addedF la a lb b (max la lb) := by
  have h := addK_range ha hb (max la lb)
  show _ = (num la a + num lb b) / 256 ^ max la lb % 256
  unfold addK carB at h ⊢
  rw [addX_sum, Int.add_zero] at h ⊢
  omega
theorem num_mono {n m : Nat} {f : Nat → Int} (hf : IsBytes n f) (h : n ≤ m) : 0 ≤ num n f ∧ num n f < 256 ^ m := by
  have h1 := num_range hf
  have h2 := pow_mono h
  omega
theorem num_added (ha : IsBytes la a) (hb : IsBytes lb b) : num (max la lb + 1) (addedF la a lb b) = num la a + num lb b := by
  have h1 := num_mono ha (Nat.le_max_left la lb)
  have h2 := num_mono hb (Nat.le_max_right la lb)
  refine num_byt _ _ (by omega) ?_
  rw [Int.pow_succ]; omega

/-! Products. -/
def colP (a : Nat → Int) (lb : Nat) (b : Nat → Int) (k : Nat) : Nat → Int
  | 0 => 0
  | j + 1 => colP a lb b k j + a j * (if j ≤ k ∧ k - j < lb then b (k - j) else 0)
theorem sumB_shift {B : Int} (j lb m : Nat) (b : Nat → Int) : sumB B (j + lb + m) (fun k => if j ≤ k ∧ k - j < lb then b (k - j) else 0) = B ^ j * sumB B lb b := by
  have e : j + lb + m = j + (lb + m) := by omega
  rw [e, sumB_split]
  have h1 : sumB B j (fun k => if j ≤ k ∧ k - j < lb then b (k - j) else 0) = 0 := by
    refine (sumB_congr (g := fun _ => 0) fun i hi => ?_).trans (sumB_zero j)
    rw [if_neg (by omega)]
  have h2 : sumB B (lb + m) (fun i => if j ≤ j + i ∧ j + i - j < lb then b (j + i - j) else 0) = sumB B lb b := by
    rw [← sumB_up b lb m]
    refine sumB_congr fun i hi => ?_
    have e2 : j + i - j = i := by omega
    rw [e2]
    by_cases h : i < lb
    · rw [if_pos ⟨by omega, h⟩, if_pos h]
    · rw [if_neg (by omega), if_neg h]
  rw [h1, h2, Int.zero_add]
theorem colP_sum : ∀ (j N : Nat), j + lb ≤ N + 1 → (j = 0 ∨ j + lb ≤ N + 1) → sumB 256 N (fun k => colP a lb b k j) = sumB 256 j a * sumB 256 lb b
  | 0, N, _, _ => by
    show sumB 256 N (fun _ => 0) = 0 * _
    rw [sumB_zero, Int.zero_mul]
  | j + 1, N, h, _ => by
    obtain ⟨m, rfl⟩ : ∃ m, N = j + lb + m := ⟨N - (j + lb), by omega⟩
    show sumB 256 _ (fun k => colP a lb b k j + a j * (if j ≤ k ∧ k - j < lb then b (k - j) else 0)) = (sumB 256 j a + 256 ^ j * a j) * _
    rw [sumB_add, sumB_mul, sumB_shift, colP_sum j _ (by omega) (.inr (by omega)), Int.add_mul, Int.mul_comm (256 ^ j) (a j), Int.mul_assoc]
theorem col_all : sumB 256 (la + lb) (fun k => colP a lb b k la) = num la a * num lb b := by
  rw [colP_sum la _ (by omega) (.inr (by omega)), num_sumB, num_sumB]
theorem mul_range {x y : Int} (hx : 0 ≤ x ∧ x < 256) (hy : 0 ≤ y ∧ y < 256) : 0 ≤ x * y ∧ x * y ≤ 65025 := by
  refine ⟨Int.mul_nonneg hx.1 hy.1, ?_⟩
  have : x * y ≤ 255 * 255 := Int.mul_le_mul (by omega) (by omega) hy.1 (by omega)
  omega
theorem colP_range (ha : IsBytes la a) (hb : IsBytes lb b) (k : Nat) : ∀ j, j ≤ la → 0 ≤ colP a lb b k j ∧ colP a lb b k j ≤ 65025 * j
  | 0, _ => by simp [colP]
  | j + 1, h => by
    have h1 := colP_range ha hb k j (by omega)
    have h2 := ha j (by omega)
    simp only [colP]
    by_cases h3 : j ≤ k ∧ k - j < lb
    · rw [if_pos h3]
      have := mul_range h2 (hb _ h3.2)
      omega
    · rw [if_neg h3]; omega
def colK (la : Nat) (a : Nat → Int) (lb : Nat) (b : Nat → Int) (k : Nat) : Int := carB 256 (fun k => colP a lb b k la) 0 k
theorem colK_zero : colK la a lb b 0 = 0 := carB_zero _ _ _
theorem colK_range (hs : Short la) (ha : IsBytes la a) (hb : IsBytes lb b) : ∀ k, 0 ≤ colK la a lb b k ∧ colK la a lb b k ≤ 4194304
  | 0 => by rw [colK_zero]; omega
  | k + 1 => by
    have h1 := colK_range hs ha hb k
    have h2 := colP_range ha hb k la (Nat.le_refl _)
    have h3 := hs.h
    unfold colK at h1 ⊢
    rw [carB_succ p256]
    omega
theorem product_step {k : Nat} (hk : k < la + lb) : (colP a lb b k la + colK la a lb b k) % 256 = productF la a lb b k ∧ (colP a lb b k la + colK la a lb b k) / 256 = colK la a lb b (k + 1) := by
  refine ⟨?_, by unfold colK; rw [carB_succ p256]⟩
  have h := dgt_car p256 (fun k => colP a lb b k la) 0 hk
  rw [col_all, Int.add_zero] at h
  exact h.symm
/-- Past the column's number nothing is added. -/
theorem colP_past {k : Nat} : ∀ {j : Nat}, k + 1 ≤ j → colP a lb b k j = colP a lb b k (k + 1)
  | 0, h => by omega
  | j + 1, h => by
    by_cases e : k + 1 = j + 1
    · rw [e]
    · show colP a lb b k j + a j * _ = _
      rw [if_neg (by omega), Int.mul_zero, Int.add_zero, colP_past (by omega)]
theorem num_product (ha : IsBytes la a) (hb : IsBytes lb b) : num (la + lb) (productF la a lb b) = num la a * num lb b := by
  have h1 := num_range ha
  have h2 := num_range hb
  refine num_byt _ _ (Int.mul_nonneg h1.1 h2.1) ?_
  rw [Int.pow_add]
  have := powB_pos p256 la
  exact Int.lt_of_le_of_lt (Int.mul_le_mul_of_nonneg_right (Int.le_of_lt h1.2) h2.1) (Int.mul_lt_mul_of_pos_left h2.2 this)
end

/-! What the document reckons of them. -/
theorem ref_add {a b : Nat → Int} (ha : IsBytes 32 a) (hb : IsBytes 32 b) : sb (sn 33 (addedF 32 a 32 b)) = sb (se a + se b) := by
  have h := num_added ha hb
  unfold sn
  rw [show (33 : Nat) = max 32 32 + 1 from rfl, h, zi_add]
  rfl
theorem num_lm1 : num 32 (byt (lI - 1)) = lI - 1 := num_byt 32 (lI - 1) (by decide) (by decide)
theorem byt_isB (N : Int) (n : Nat) : IsBytes n (byt N) := fun i _ => dig_range N i
theorem sn_eq {n : Nat} {f : Nat → Int} {N : Int} (h : num n f = N) : sn n f = zi lN N := by unfold sn; rw [h]
theorem ref_neg {a : Nat → Int} (ha : IsBytes 32 a) : sb (sn 64 (productF 32 a 32 (byt (lI - 1)))) = sb (- se a) := by
  rw [sn_eq (n := 32 + 32) (num_product ha (byt_isB _ 32)), num_lm1, zi_mul]
  have e : zi lN (lI - 1) = -1 := by decide +kernel
  rw [e]
  congr 1
  unfold se
  grind
theorem ref_muladd {a b c : Nat → Int} (ha : IsBytes 32 a) (hb : IsBytes 32 b) (hc : IsBytes 32 c) : sb (sn 65 (addedF 64 (productF 32 a 32 b) 32 c)) = sb (se a * se b + se c) := by
  have h1 := num_added (la := 64) (lb := 32) (a := productF 32 a 32 b) (byt_isB _ 64) hc
  have h2 : num 64 (productF 32 a 32 b) = _ := num_product (la := 32) (lb := 32) ha hb
  rw [sn_eq (n := 65) h1, h2, zi_add, zi_mul]
  rfl
theorem ref_can {a : Nat → Int} (ha : IsBytes 32 a) : realEqA 32 (sb (sn 32 a)) a = canS a := by
  have e : sn 32 a = se a := rfl
  rw [e, canon_s3 ha, canon_s1]
end Sx
namespace Sx
open Go Go.RowKit
theorem join_one {a n m : Nat} {f h : Nat → Int} {x : Int} (ha : a = n) (hf : ∀ k, k < n → f k = h k) (hx : x = h n) (hm : m = n + 1) : ∀ k, k < m → joinF a f (upd (fun _ => 0) 0 x) k = h k := by
  intro k hk
  subst ha
  subst hm
  unfold joinF upd
  by_cases h1 : k < a
  · rw [if_pos h1]; exact hf k h1
  · have h2 : k = a := by omega
    subst h2
    rw [if_neg h1, if_pos (Nat.sub_self _)]; exact hx
theorem room_one {n : Nat} (h : n ≤ 100000000) : RoomFor ((Classical.choice seal_add).1 n 1) 1 := ⟨by rw [choice_add]; omega⟩
theorem len_one (n : Nat) : 0 + (Classical.choice seal_add).1 n 1 = n + 1 := by rw [choice_add]; omega
end Sx
namespace Sx
open Go Go.RowKit
theorem byte_of {x y : Int} (h : y = x % 256) (hx : 0 ≤ x) : IntKind.wrap .u8 (realBin .rem .i64 x 256) = y := by
  rw [rem_i64 hx, wrap_u8, h]; omega
end Sx
namespace Sx
open Go Go.RowKit
theorem colP_bound {la lb : Nat} {a b : Nat → Int} (hs : Short la) (ha : IsBytes la a) (hb : IsBytes lb b) (k : Nat) {j : Nat} (hj : j ≤ la) : 0 ≤ colP a lb b k j ∧ colP a lb b k j ≤ 266342400 := by
  have h1 := colP_range ha hb k j hj
  have h2 := hs.h
  omega
end Sx
namespace Sx
open Go Go.RowKit
def bool64C (F : (Nat → Int) → Bool) : Contract := fun vs => match vs with
  | [.arr .u8 64 f] => some ([], .bool (.sym (F f)))
  | _ => none
theorem can_sb (x : Zl) : canS (sb x) = true := by
  unfold canS
  rw [num_sb]
  exact decide_eq_true (sval_bounds x).2
end Sx

/-
  The digits of a number in the non-adjacent form of width w.
-/
namespace Sx
open Go Go.RowKit

/-- The digit that is taken off. -/
def nafD (w : Nat) (N : Int) : Int := if N % 2 = 1 then (if 2 ^ (w - 1) ≤ N % 2 ^ w then N % 2 ^ w - 2 ^ w else N % 2 ^ w) else 0
/-- What is left: i digits are off. -/
def nafN (w : Nat) (N : Int) : Nat → Int
  | 0 => N
  | i + 1 => (nafN w N i - nafD w (nafN w N i)) / 2
def nafF (w : Nat) (N : Int) : Nat → Int := fun i => nafD w (nafN w N i)

structure Wid (w : Nat) : Prop where
  h : 2 ≤ w ∧ w ≤ 8
theorem wid_cases {w : Nat} (h : Wid w) : w = 2 ∨ w = 3 ∨ w = 4 ∨ w = 5 ∨ w = 6 ∨ w = 7 ∨ w = 8 := by have := h.h; omega

theorem nafD_range {w : Nat} (h : Wid w) (N : Int) : -128 < nafD w N ∧ nafD w N < 128 ∧ (N - nafD w N) % 2 = 0 := by
  unfold nafD
  rcases wid_cases h with e | e | e | e | e | e | e <;> subst e <;> simp only [Nat.reduceSub, Int.reducePow] <;> (repeat' split) <;> omega
theorem nafD_le {w : Nat} (h : Wid w) {N : Int} (h0 : 0 ≤ N) : nafD w N ≤ N := by
  unfold nafD
  rcases wid_cases h with e | e | e | e | e | e | e <;> subst e <;> simp only [Nat.reduceSub, Int.reducePow] <;> (repeat' split) <;> omega
/-- 2^256 and what a digit may add. -/
abbrev q256 : Int := 115792089237316195423570985008687907853269984665640564039457584007913129639936
theorem nafN_range {w : Nat} (h : Wid w) {N : Int} (h0 : 0 ≤ N) (h1 : N < q256) : ∀ i, 0 ≤ nafN w N i ∧ nafN w N i < q256
  | 0 => ⟨h0, h1⟩
  | i + 1 => by
    obtain ⟨h2, h3⟩ := nafN_range h h0 h1 i
    have h4 := nafD_range h (nafN w N i)
    have h5 := nafD_le h h2
    simp only [nafN]
    simp only [q256] at *
    omega
theorem nafN_sum {w : Nat} (h : Wid w) (N : Int) : ∀ i, N = sumB 2 i (nafF w N) + 2 ^ i * nafN w N i
  | 0 => by simp [sumB, nafN]
  | i + 1 => by
    have h1 := nafN_sum h N i
    have h2 := (nafD_range h (nafN w N i)).2.2
    have h3 : nafN w N i = nafD w (nafN w N i) + 2 * nafN w N (i + 1) := by simp only [nafN]; omega
    simp only [sumB]
    rw [Int.pow_succ, Int.mul_assoc, Int.add_assoc, ← Int.mul_add]
    have h4 : nafF w N i = nafD w (nafN w N i) := rfl
    rw [h4, ← h3]
    exact h1
/-- From one bound to the next. -/
theorem naf_halve {w : Nat} (h : Wid w) {m : Nat} {x : Int} (h0 : 0 ≤ x) (h1 : x ≤ 2 ^ (m + 1)) : (x - nafD w x) / 2 ≤ 2 ^ m := by
  by_cases hm : w ≤ m + 1
  · obtain ⟨t, ht⟩ : ∃ t, m + 1 = w + t := ⟨m + 1 - w, by omega⟩
    have e1 : (2 : Int) ^ (m + 1) = 2 ^ w * 2 ^ t := by rw [ht, Int.pow_add]
    have e2 : (2 : Int) ^ (m + 1) = 2 ^ m * 2 := Int.pow_succ _ _
    have hp : (0 : Int) < 2 ^ t := Int.pow_pos (by decide)
    rw [e1] at h1 e2
    generalize (2 : Int) ^ t = T at *
    generalize (2 : Int) ^ m = M at *
    clear e1
    unfold nafD
    rcases wid_cases h with e | e | e | e | e | e | e <;> subst e <;> simp only [Nat.reduceSub, Int.reducePow] at * <;> (repeat' split) <;> omega
  · have hw := h.h
    have hp : (0 : Int) < 2 ^ m := Int.pow_pos (by decide)
    have h2 : (2 : Int) ^ (m + 1) ≤ 2 ^ (w - 1) := by
      have : (2 : Nat) ^ (m + 1) ≤ 2 ^ (w - 1) := Nat.pow_le_pow_right (by decide) (by omega)
      exact_mod_cast this
    have h3 : (2 : Int) ^ (m + 1) = 2 ^ m * 2 := Int.pow_succ _ _
    have h4 : x ≤ 2 ^ (w - 1) := by omega
    generalize (2 : Int) ^ m = M at *
    generalize (2 : Int) ^ (m + 1) = K at *
    unfold nafD
    rcases wid_cases h with e | e | e | e | e | e | e <;> subst e <;> simp only [Nat.reduceSub, Int.reducePow] at * <;> (repeat' split) <;> omega
theorem naf_bound {w : Nat} (h : Wid w) {N : Int} (h0 : 0 ≤ N) (h1 : N < q256) : ∀ i, i ≤ 256 → nafN w N i ≤ 2 ^ (256 - i)
  | 0, _ => by
    show N ≤ 2 ^ 256
    have e : (2 : Int) ^ 256 = q256 := by decide
    omega
  | i + 1, hi => by
    have h2 := naf_bound h h0 h1 i (by omega)
    have h3 := (nafN_range h h0 h1 i).1
    have e : 256 - i = (256 - (i + 1)) + 1 := by omega
    rw [e] at h2
    exact naf_halve h h3 h2
theorem naf_end {w : Nat} (h : Wid w) {N : Int} (h0 : 0 ≤ N) (h1 : N < q256) : nafN w N 257 = 0 := by
  have h2 := naf_bound h h0 h1 256 (by omega)
  have h3 := (nafN_range h h0 h1 256).1
  simp only [Nat.sub_self, Int.pow_zero] at h2
  show (nafN w N 256 - nafD w (nafN w N 256)) / 2 = 0
  generalize nafN w N 256 = x at *
  unfold nafD
  rcases wid_cases h with e | e | e | e | e | e | e <;> subst e <;> simp only [Nat.reduceSub, Int.reducePow] at * <;> (repeat' split) <;> omega
theorem naf_total {w : Nat} (h : Wid w) {N : Int} (h0 : 0 ≤ N) (h1 : N < q256) : sumB 2 257 (nafF w N) = N := by
  have h2 := nafN_sum h N 257
  rw [naf_end h h0 h1] at h2
  omega
/-- The form of a digit. -/
theorem naf_form {w : Nat} (h : Wid w) (N : Int) : nafD w N = 0 ∨ (nafD w N % 2 = 1 ∧ nafD w N < 2 ^ (w - 1) ∧ -2 ^ (w - 1) < nafD w N) := by
  unfold nafD
  rcases wid_cases h with e | e | e | e | e | e | e <;> subst e <;> simp only [Nat.reduceSub, Int.reducePow] <;> (repeat' split) <;> omega
/-- Behind a digit that isn't 0 there are w - 1 zeros. -/
theorem naf_gap {w : Nat} (h : Wid w) {N : Int} (hd : nafD w N ≠ 0) : ((N - nafD w N) / 2) % 2 ^ (w - 1) = 0 := by
  revert hd
  unfold nafD
  rcases wid_cases h with e | e | e | e | e | e | e <;> subst e <;> simp only [Nat.reduceSub, Int.reducePow] <;> (repeat' split) <;> omega
theorem naf_even {w : Nat} {N : Int} {k : Nat} (h : N % 2 ^ (k + 1) = 0) : nafD w N = 0 ∧ ((N - nafD w N) / 2) % 2 ^ k = 0 := by
  have e : (2 : Int) ^ (k + 1) = 2 ^ k * 2 := Int.pow_succ _ _
  have hp : (0 : Int) < 2 ^ k := Int.pow_pos (by decide)
  have h1 : N % 2 = 0 := by
    have h2 : (2 : Int) ∣ 2 ^ (k + 1) := ⟨2 ^ k, by rw [e, Int.mul_comm]⟩
    exact Int.emod_eq_zero_of_dvd (Int.dvd_trans h2 (Int.dvd_of_emod_eq_zero h))
  have h2 : nafD w N = 0 := by unfold nafD; rw [if_neg (by omega)]
  rw [h2]
  refine ⟨rfl, ?_⟩
  obtain ⟨q, hq⟩ := Int.dvd_of_emod_eq_zero h
  rw [e, Int.mul_right_comm] at hq
  have h3 : (N - 0) / 2 = 2 ^ k * q := by omega
  rw [h3]
  exact Int.mul_emod_right _ _
theorem naf_zeros {w : Nat} (h : Wid w) (N : Int) {i : Nat} (hd : nafF w N i ≠ 0) : ∀ j, j < w → nafN w N (i + 1 + j) % 2 ^ (w - 1 - j) = 0 ∧ (j + 1 < w → nafF w N (i + 1 + j) = 0)
  | 0, hj => by
    have h1 : nafN w N (i + 1) % 2 ^ (w - 1) = 0 := naf_gap h hd
    refine ⟨h1, fun h2 => ?_⟩
    obtain ⟨k, hk⟩ : ∃ k, w - 1 = k + 1 := ⟨w - 2, by omega⟩
    rw [hk] at h1
    exact (naf_even h1).1
  | j + 1, hj => by
    obtain ⟨h1, h2⟩ := naf_zeros h N hd j (by omega)
    obtain ⟨k, hk⟩ : ∃ k, w - 1 - j = k + 1 := ⟨w - 2 - j, by omega⟩
    rw [hk] at h1
    have e : w - 1 - (j + 1) = k := by omega
    have h3 : nafN w N (i + 1 + (j + 1)) % 2 ^ k = 0 := (naf_even h1).2
    rw [e]
    refine ⟨h3, fun h4 => ?_⟩
    obtain ⟨k', hk'⟩ : ∃ k', k = k' + 1 := ⟨k - 1, by omega⟩
    rw [hk'] at h3
    exact (naf_even h3).1
/-- Two digits that aren't 0 stand w apart. -/
theorem naf_apart {w : Nat} (h : Wid w) (N : Int) {i j : Nat} (hij : i < j) (hi : nafF w N i ≠ 0) (hj : nafF w N j ≠ 0) : i + w ≤ j := by
  by_cases h1 : i + w ≤ j
  · exact h1
  · exfalso
    have h2 := (naf_zeros h N hi (j - i - 1) (by omega)).2 (by omega)
    have e : i + 1 + (j - i - 1) = j := by omega
    rw [e] at h2
    exact hj h2
end Sx

/-
  The value of digits: from the highest on, and heaped up.
-/
namespace Sx
open Go Go.RowKit

def valV (n : Nat) (d : Nat → Int) (i : Nat) : Int := sumB 2 i fun j => d (n - i + j)
theorem valV_zero (n : Nat) (d : Nat → Int) : valV n d 0 = 0 := rfl
theorem valV_succ {n i : Nat} (d : Nat → Int) (h : i < n) : valV n d (i + 1) = d (n - 1 - i) + 2 * valV n d i := by
  unfold valV
  have e := sumB_split (B := 2) (fun j => d (n - (i + 1) + j)) 1 i
  rw [Nat.add_comm 1 i] at e
  rw [e]
  have e1 : sumB 2 1 (fun j => d (n - (i + 1) + j)) = d (n - 1 - i) := by
    simp only [sumB, Int.pow_zero, Int.one_mul, Int.zero_add, Nat.add_zero]
    congr 1; omega
  rw [e1]
  congr 1
  rw [show ((2 : Int) ^ 1) = 2 from rfl]
  congr 1
  exact sumB_congr fun j _ => by congr 1; omega
theorem valV_all (n : Nat) (d : Nat → Int) : valV n d n = sumB 2 n d := by
  unfold valV
  exact sumB_congr fun j _ => by congr 1; omega

/-- What is left of the value of the top digits. -/
def valW (n : Nat) (d : Nat → Int) (i : Nat) : Nat → Int := dgt q64 (valV n d i % lI)
def oneW (x : Int) : Nat → Int := upd (fun _ => 0) 0 x
theorem W5_one (x : Int) : W5 (oneW x) = x := by
  unfold W5 oneW upd
  simp [sumB]
theorem is5_one {x : Int} (h : 0 ≤ x ∧ x < q64) : Is5 (oneW x) := by
  intro i _
  unfold oneW upd
  split
  · exact h
  · exact ⟨Int.le_refl _, q64_pos⟩
theorem W5_val (n : Nat) (d : Nat → Int) (i : Nat) : W5 (valW n d i) = valV n d i % lI := W5_mod _
theorem val_dbl (n : Nat) (d : Nat → Int) (i : Nat) : Top16 (plusW (valW n d i) (valW n d i)) ∧ W5 (foldW (plusW (valW n d i) (valW n d i))) = (2 * valV n d i) % lI := by
  have h1 := modl (valV n d i)
  have h2 : W5 (plusW (valW n d i) (valW n d i)) = valV n d i % lI + valV n d i % lI := by
    unfold plusW
    rw [W5_val]
    exact W5_dgt (by omega) (by simp only [lI] at *; omega)
  refine ⟨⟨by rw [h2]; simp only [lI] at *; omega⟩, ?_⟩
  rw [W5_fold, h2]
  simp only [lI]
  omega
theorem val_more {n : Nat} {d : Nat → Int} {i : Nat} (hi : i < n) {x : Int} (hx : x = d (n - 1 - i)) (h0 : 0 ≤ x) (h1 : x < 128) {a : Nat → Int} (ha : W5 a = (2 * valV n d i) % lI) :
    Top16 (plusW a (oneW x)) ∧ foldW (plusW a (oneW x)) = valW n d (i + 1) := by
  have h2 : W5 (plusW a (oneW x)) = (2 * valV n d i) % lI + x := by
    unfold plusW
    rw [ha, W5_one]
    exact W5_dgt (by simp only [lI]; omega) (by simp only [lI]; omega)
  refine ⟨⟨by rw [h2]; simp only [lI]; omega⟩, ?_⟩
  unfold foldW valW
  rw [h2, valV_succ d hi, ← hx]
  congr 1
  simp only [lI]
  omega
theorem val_less {n : Nat} {d : Nat → Int} {i : Nat} (hi : i < n) {x : Int} (hx : x = d (n - 1 - i)) (h0 : x < 0) (h1 : -128 ≤ x) {a m : Nat → Int} (ha : W5 a = (2 * valV n d i) % lI) (hm : W5 m = lI) :
    Top16 (minusW (plusW a m) (oneW (-x))) ∧ foldW (minusW (plusW a m) (oneW (-x))) = valW n d (i + 1) := by
  have h2 : W5 (plusW a m) = (2 * valV n d i) % lI + lI := by
    unfold plusW
    rw [ha, hm]
    exact W5_dgt (by simp only [lI]; omega) (by simp only [lI]; omega)
  have h3 : W5 (minusW (plusW a m) (oneW (-x))) = (2 * valV n d i) % lI + lI + x := by
    unfold minusW
    rw [h2, W5_one]
    rw [show (2 * valV n d i) % lI + lI - -x = (2 * valV n d i) % lI + lI + x by omega]
    exact W5_dgt (by simp only [lI]; omega) (by simp only [lI]; omega)
  refine ⟨⟨by rw [h3]; simp only [lI]; omega⟩, ?_⟩
  unfold foldW valW
  rw [h3, valV_succ d hi, ← hx]
  congr 1
  simp only [lI]
  omega

/-! Heaped up. -/
def posF (x : Int) : Int := if 0 < x then x else 0
theorem posF_range {x : Int} (h : -128 ≤ x ∧ x ≤ 128) : 0 ≤ posF x ∧ posF x ≤ 128 := by unfold posF; split <;> omega
def heapS (d : Nat → Int) (s : Int) : Nat → Nat → Int
  | 0 => fun _ => 0
  | i + 1 => fun j => heapS d s i j + (if j = i / 8 then posF (s * d i) * 2 ^ (i % 8) else 0)
structure Sgn (s : Int) : Prop where
  h : s = 1 ∨ s = -1
structure Upto300 (n : Nat) : Prop where
  h : n ≤ 300
def IsDigs (n : Nat) (d : Nat → Int) : Prop := ∀ i, i < n → -128 ≤ d i ∧ d i < 128
def heapH (n : Nat) (d : Nat → Int) (s : Int) : Int := sumB 2 n fun k => posF (s * d k)
theorem heapH_diff (d : Nat → Int) : ∀ n, heapH n d 1 - heapH n d (-1) = sumB 2 n d
  | 0 => rfl
  | n + 1 => by
    have h := heapH_diff d n
    unfold heapH at h ⊢
    simp only [sumB]
    have e : posF (1 * d n) - posF (-1 * d n) = d n := by unfold posF; split <;> split <;> omega
    have e2 : (2 : Int) ^ n * posF (1 * d n) - 2 ^ n * posF (-1 * d n) = 2 ^ n * d n := by rw [← Int.mul_sub, e]
    omega
theorem sumB_one {B x : Int} {k : Nat} : ∀ {N : Nat}, k < N → sumB B N (fun j => if j = k then x else 0) = B ^ k * x
  | 0, h => by omega
  | N + 1, h => by
    simp only [sumB]
    by_cases e : N = k
    · subst e
      rw [if_pos rfl]
      have : sumB B N (fun j => if j = N then x else 0) = 0 := by
        refine (sumB_congr (g := fun _ => 0) fun i hi => ?_).trans (sumB_zero N)
        rw [if_neg (by omega)]
      omega
    · rw [if_neg e, sumB_one (by omega)]
      omega
theorem heapS_sum (d : Nat → Int) (s : Int) : ∀ n, n ≤ 320 → sumB 256 40 (heapS d s n) = heapH n d s
  | 0, _ => sumB_zero 40
  | n + 1, h => by
    have h1 := heapS_sum d s n (by omega)
    show sumB 256 40 (fun j => heapS d s n j + (if j = n / 8 then posF (s * d n) * 2 ^ (n % 8) else 0)) = _
    rw [sumB_add, sumB_one (by omega), h1]
    unfold heapH
    simp only [sumB]
    congr 1
    have e1 : (256 : Int) = 2 ^ 8 := by decide
    have e2 : (2 : Int) ^ n = 256 ^ (n / 8) * 2 ^ (n % 8) := by
      rw [e1, ← Int.pow_mul, ← Int.pow_add]
      congr 1
      omega
    rw [e2, Int.mul_assoc, Int.mul_comm (posF _)]
theorem two_low {k : Nat} (h : k < 8) : 0 < (2 : Int) ^ k ∧ (2 : Int) ^ k ≤ 128 := by
  match k, h with
  | 0, _ => decide
  | 1, _ => decide
  | 2, _ => decide
  | 3, _ => decide
  | 4, _ => decide
  | 5, _ => decide
  | 6, _ => decide
  | 7, _ => decide
theorem sgn_range {s x : Int} (hs : Sgn s) (h : -128 ≤ x ∧ x < 128) : -128 ≤ s * x ∧ s * x ≤ 128 := by
  rcases hs.h with e | e <;> subst e <;> omega
theorem part_range {s x : Int} (hs : Sgn s) (h : -128 ≤ x ∧ x < 128) {k : Nat} (hk : k < 8) : 0 ≤ posF (s * x) * 2 ^ k ∧ posF (s * x) * 2 ^ k ≤ 16384 := by
  have h1 := posF_range (sgn_range hs h)
  have h2 := two_low hk
  refine ⟨Int.mul_nonneg h1.1 (by omega), ?_⟩
  have : posF (s * x) * 2 ^ k ≤ 128 * 128 := Int.mul_le_mul h1.2 h2.2 (by omega) (by omega)
  omega
theorem heapS_range {n : Nat} {d : Nat → Int} {s : Int} (hs : Sgn s) (hd : IsDigs n d) (j : Nat) : ∀ i, i ≤ n → 0 ≤ heapS d s i j ∧ heapS d s i j ≤ 16384 * i
  | 0, _ => by simp [heapS]
  | i + 1, h => by
    have h1 := heapS_range hs hd j i (by omega)
    have h2 := part_range hs (hd i (by omega)) (Nat.mod_lt i (by decide : 8 > 0))
    simp only [heapS]
    split <;> omega
def heapK (n : Nat) (d : Nat → Int) (s : Int) (k : Nat) : Int := carB 256 (heapS d s n) 0 k
theorem heapK_zero (n : Nat) (d : Nat → Int) (s : Int) : heapK n d s 0 = 0 := carB_zero _ _ _
section
variable {n : Nat} {d : Nat → Int} {s : Int} (hn : Upto300 n) (hs : Sgn s) (hd : IsDigs n d)
include hn hs hd
theorem heapK_range : ∀ k, 0 ≤ heapK n d s k ∧ heapK n d s k ≤ 19400
  | 0 => by rw [heapK_zero]; omega
  | k + 1 => by
    have h1 := heapK_range k
    have h2 := heapS_range hs hd k n (Nat.le_refl _)
    have h3 := hn.h
    unfold heapK at h1 ⊢
    rw [carB_succ p256]
    omega
omit hs hd in
theorem heapK_last : heapK n d s 40 = heapH n d s / 256 ^ 40 := by
  unfold heapK carB
  rw [heapS_sum d s n (by have := hn.h; omega), Int.add_zero]
omit hs hd in
theorem heap_step {k : Nat} (hk : k < 40) : (heapS d s n k + heapK n d s k) % 256 = byt (heapH n d s) k ∧ (heapS d s n k + heapK n d s k) / 256 = heapK n d s (k + 1) := by
  refine ⟨?_, by unfold heapK; rw [carB_succ p256]⟩
  have h := dgt_car p256 (heapS d s n) 0 hk
  rw [heapS_sum d s n (by have := hn.h; omega), Int.add_zero] at h
  exact h.symm
theorem heapH_nonneg : 0 ≤ heapH n d s := by
  have h := heapK_range hn hs hd 40
  rw [heapK_last hn] at h
  by_cases h0 : 0 ≤ heapH n d s
  · exact h0
  · exfalso
    have : heapH n d s / 256 ^ 40 < 0 := Int.ediv_neg_of_neg_of_pos (by omega) (by decide)
    omega
end
/-- How many bytes the heap has. -/
def heapL (n : Nat) (d : Nat → Int) (s : Int) : Nat := if heapH n d s / 256 ^ 40 = 0 then 40 else if heapH n d s / 256 ^ 41 = 0 then 41 else 42
def heapB (n : Nat) (d : Nat → Int) (s : Int) : Nat → Int := byt (heapH n d s)
theorem heapL_short (n : Nat) (d : Nat → Int) (s : Int) : Short (heapL n d s) := ⟨by unfold heapL; split <;> (try split) <;> omega⟩
theorem num_heap {n : Nat} {d : Nat → Int} {s : Int} (hn : Upto300 n) (hs : Sgn s) (hd : IsDigs n d) : num (heapL n d s) (heapB n d s) = heapH n d s := by
  have h0 := heapH_nonneg hn hs hd
  have h1 := heapK_range hn hs hd 40
  rw [heapK_last hn] at h1
  refine num_byt _ _ h0 ?_
  unfold heapL
  split
  · rename_i h
    exact (Int.ediv_lt_iff_lt_mul (by decide)).1 (by omega : heapH n d s / 256 ^ 40 < 1) |> fun h => by omega
  · split
    · rename_i h
      exact (Int.ediv_lt_iff_lt_mul (by decide)).1 (by omega : heapH n d s / 256 ^ 41 < 1) |> fun h => by omega
    · have h2 := (Int.ediv_lt_iff_lt_mul (by decide)).1 (by omega : heapH n d s / 256 ^ 40 < 65536)
      have e : (65536 : Int) * 256 ^ 40 = 256 ^ 42 := by decide
      omega

/-! The contracts. -/
def valErr (c : Int) (n : Nat) : Int := if n ≤ 300 then 0 else c
def valA (n : Nat) (d : Nat → Int) : Nat → Int := if n ≤ 300 then sb (zi lN (sumB 2 n d)) else fun _ => 0
def heapC (L : Nat → (Nat → Int) → Int → Nat) (B : Nat → (Nat → Int) → Int → Nat → Int) : Contract := fun vs => match vs with
  | [.xsl .i8 1 len _ d, .int .i64 s] => some ([Upto300 len.val, Sgn s.val], .osl .u8 1 (.sym (L len.val d s.val)) (B len.val d s.val))
  | _ => none
def valueC (k : IntKind) (V : Nat → (Nat → Int) → Nat → Int) (F : Nat → Int) : Contract := fun vs => match vs with
  | [.xsl .i8 1 len _ d] => some ([], .tup [.arr .u8 32 (V len.val d), .int k (.sym (F len.val))])
  | _ => none
theorem value_ref {n : Nat} {d : Nat → Int} (hn : Upto300 n) (hd : IsDigs n d) : sb (se (sb (sn (heapL n d 1) (heapB n d 1))) + se (sb (- se (sb (sn (heapL n d (-1)) (heapB n d (-1))))))) = sb (zi lN (sumB 2 n d)) := by
  rw [se_sb, se_sb, se_sb, sn_eq (num_heap hn ⟨.inl rfl⟩ hd), sn_eq (num_heap hn ⟨.inr rfl⟩ hd), ← heapH_diff, zi_sub]
  congr 1
  grind
theorem value_all (n : Nat) (d : Nat → Int) : bytesW (valW n d n) = sb (zi lN (sumB 2 n d)) := by
  unfold bytesW
  rw [W5_val, valV_all, sb_zi]
end Sx

/-
  Digits, as the program and the document find them: halving numbers of words and of bytes.
-/
namespace Sx
open Go Go.RowKit

/-- The array in a slot. -/
def arrIn (S : St) (k : Nat) : Nat → Int :=
  match get S k with
  | .own (.arr _ _ f) => f
  | _ => fun _ => 0

def digW (w : Int) : Bool := decide (2 ≤ w) && decide (w ≤ 8)
def digL (w : Int) : Nat := if digW w = true then 257 else 0
def digE (w : Int) : Int := if digW w = true then 0 else 1
def digF (a : Nat → Int) (w : Int) : Nat → Int := nafF w.toNat (num 32 a)
def digitsC (D : (Nat → Int) → Int → Nat → Int) (L : Int → Nat) (F : Int → Int) : Contract := fun vs => match vs with
  | [.arr .u8 32 a, .int .i64 w] => some ([], .otup .i8 1 (.sym (L w.val)) (D a w.val) [.int .i64 (.sym (F w.val))])
  | _ => none
theorem digW_wid {w : Int} (h : digW w = true) : Wid w.toNat ∧ w = (w.toNat : Int) := by
  simp only [digW, Bool.and_eq_true, decide_eq_true_eq] at h
  exact ⟨⟨by omega, by omega⟩, by omega⟩

/-- What the look at the width asks. -/
theorem digW_look (w : Int) : (match realCmp .lss w 2 with | true => true | false => realCmp .gtr w 8) = !digW w := by
  unfold digW
  by_cases h : w < 2
  · have e : realCmp .lss w 2 = true := decide_eq_true h
    rw [e]
    have : decide (2 ≤ w) = false := decide_eq_false (by omega)
    simp [this]
  · have e : realCmp .lss w 2 = false := decide_eq_false h
    rw [e]
    have : decide (2 ≤ w) = true := decide_eq_true (by omega)
    rw [this]
    by_cases h2 : 8 < w
    · have e2 : realCmp .gtr w 8 = true := decide_eq_true h2
      have e3 : decide (w ≤ 8) = false := decide_eq_false (by omega)
      rw [e2, e3]; rfl
    · have e2 : realCmp .gtr w 8 = false := decide_eq_false h2
      have e3 : decide (w ≤ 8) = true := decide_eq_true (by omega)
      rw [e2, e3]; rfl

/-! Halving. -/
def halvF (B : Int) (f : Nat → Int) (j : Nat) : Nat → Int := fun k => if k < j then f k / 2 + f (k + 1) % 2 * (B / 2) else f k
theorem halv_zero {B : Int} {f : Nat → Int} (k : Nat) : halvF B f 0 k = f k := if_neg (Nat.not_lt_zero k)
theorem halv_at {B : Int} {f : Nat → Int} (j : Nat) : halvF B f j j = f j := if_neg (Nat.lt_irrefl j)
theorem halv_next {B : Int} {f : Nat → Int} (j : Nat) : halvF B f j (j + 1) = f (j + 1) := if_neg (by omega)
theorem halv_upd {B : Int} {f : Nat → Int} {j : Nat} (k : Nat) : (if k = j then f j / 2 + f (j + 1) % 2 * (B / 2) else halvF B f j k) = halvF B f (j + 1) k := by
  unfold halvF
  by_cases h : k = j
  · subst h; rw [if_pos rfl, if_pos (by omega)]
  · rw [if_neg h]
    by_cases h2 : k < j
    · rw [if_pos h2, if_pos (by omega)]
    · rw [if_neg h2, if_neg (by omega)]
theorem half_dgt {B : Int} (hB : B = q64 ∨ B = 256) (M : Int) (k : Nat) : dgt B (M / 2) k = dgt B M k / 2 + dgt B M (k + 1) % 2 * (B / 2) := by
  have hp : (0 : Int) < B := by rcases hB with e | e <;> subst e <;> decide
  have hk := powB_pos hp k
  unfold dgt
  have e1 : M / 2 / B ^ k = M / B ^ k / 2 := by
    rw [Int.ediv_ediv_of_nonneg (by omega), Int.ediv_ediv_of_nonneg (by omega), Int.mul_comm]
  have e2 : M / B ^ (k + 1) = M / B ^ k / B := by rw [Int.pow_succ, Int.ediv_ediv_of_nonneg (by omega)]
  rw [e1, e2]
  generalize M / B ^ k = x
  rcases hB with e | e <;> subst e
  · simp only [q64]; omega
  · omega
/-- The last word is halved alone. -/
theorem half_all {B : Int} (hB : B = q64 ∨ B = 256) {M : Int} {n : Nat} (h0 : 0 ≤ M) (h1 : M < B ^ (n + 1)) {f : Nat → Int} (hf : ∀ k, k < n + 1 → f k = dgt B M k) :
    ∀ k, k < n + 1 → upd (halvF B f n) n (f n / 2) k = dgt B (M / 2) k := by
  intro k hk
  have hp : (0 : Int) < B := by rcases hB with e | e <;> subst e <;> decide
  rw [half_dgt hB]
  unfold upd halvF
  by_cases h : k = n
  · subst h
    rw [if_pos rfl, hf k hk]
    have : dgt B M (k + 1) = 0 := by
      unfold dgt
      rw [Int.ediv_eq_zero_of_lt h0 h1]
      exact Int.zero_emod B
    rw [this]
    omega
  · rw [if_neg h, if_pos (by omega), hf k hk, hf (k + 1) (by omega)]
theorem half_word {x y : Int} (hx : 0 ≤ x ∧ x < q64) (_hy : 0 ≤ y ∧ y < q64) : realBin .or .u64 (realBin .shr .u64 x 1) (realBin .shl .u64 y 63) = x / 2 + y % 2 * (q64 / 2) := by
  have e1 : realBin .shr .u64 x 1 = x / 2 := shr_any .u64 x 1 (by decide)
  have e2 : realBin .shl .u64 y 63 = (y * 9223372036854775808) % q64 := shl_u64 y 63 (by decide)
  simp only [q64] at *
  rw [e1, e2, or_comm', or_apart (k := .u64) rfl (x := y * 9223372036854775808 % 18446744073709551616) (y := x / 2) 63 ⟨by omega, by show _ < (18446744073709551616 : Int); omega⟩ (by show y * 9223372036854775808 % 18446744073709551616 % 9223372036854775808 = 0; omega) ⟨by omega, by show x / 2 < 9223372036854775808; omega⟩ (by decide)]
  omega
theorem half_last (x : Int) : realBin .shr .u64 x 1 = x / 2 := shr_any .u64 x 1 (by decide)
theorem half_word' {f : Nat → Int} (hf : Is5 f) {j : Nat} (hj : j < 4) : realBin .or .u64 (realBin .shr .u64 (f j) 1) (realBin .shl .u64 (f (j + 1)) 63) = f j / 2 + f (j + 1) % 2 * (q64 / 2) :=
  half_word (hf j (by omega)) (hf (j + 1) (by omega))

/-! The digit in words. -/
theorem dgt0 (B M : Int) : dgt B M 0 = M % B := by simp [dgt]
theorem low_bit (M : Int) : realBin .and .u64 (dgt q64 M 0) 1 = M % 2 := by
  have h := dgt_isDig q64_pos M 1 0 (by decide)
  have e := and_mask (k := .u64) rfl (a := dgt q64 M 0) ⟨h.1, h.2⟩ 1 (by decide)
  rw [show ((2 : Int) ^ 1 - 1) = 1 from rfl] at e
  rw [e, dgt0]
  simp only [q64]
  omega
theorem shl_one {k : IntKind} (hk : k = .u64 ∨ k = .i64) {w : Int} {n : Nat} (hw : w = (n : Int)) (hn : n ≤ 8) : realBin .shl k 1 w = 2 ^ n := by
  subst hw
  rcases hk with e | e <;> subst e
  · rw [shl_u64 1 n (by omega)]
    have : n = 0 ∨ n = 1 ∨ n = 2 ∨ n = 3 ∨ n = 4 ∨ n = 5 ∨ n = 6 ∨ n = 7 ∨ n = 8 := by omega
    rcases this with e | e | e | e | e | e | e | e | e <;> subst e <;> decide
  · have : n = 0 ∨ n = 1 ∨ n = 2 ∨ n = 3 ∨ n = 4 ∨ n = 5 ∨ n = 6 ∨ n = 7 ∨ n = 8 := by omega
    rcases this with e | e | e | e | e | e | e | e | e <;> subst e <;> decide
theorem two_pows {n : Nat} (h : Wid n) : (2 : Int) ^ n = 2 * 2 ^ (n - 1) ∧ 2 ≤ (2 : Int) ^ (n - 1) ∧ (2 : Int) ^ (n - 1) ≤ 128 ∧ (2 : Int) ^ (n - 1) % 2 = 0 := by
  rcases wid_cases h with e | e | e | e | e | e | e <;> subst e <;> decide
theorem low_bits {n : Nat} (h : Wid n) (M : Int) : realBin .and .u64 (dgt q64 M 0) (2 ^ n - 1) = M % 2 ^ n := by
  have h1 := dgt_isDig q64_pos M 1 0 (by decide)
  rw [and_mask (k := .u64) rfl ⟨h1.1, h1.2⟩ n (by have := h.h; show n ≤ 64; omega), dgt0]
  simp only [q64]
  rcases wid_cases h with e | e | e | e | e | e | e <;> subst e <;> simp only [Int.reducePow] <;> omega
theorem naf_even' {w : Nat} {N : Int} (h : N % 2 ≠ 1) : nafD w N = 0 := if_neg h
theorem naf_high {w : Nat} {N : Int} (h : N % 2 = 1) (h2 : 2 ^ (w - 1) ≤ N % 2 ^ w) : nafD w N = N % 2 ^ w - 2 ^ w := by unfold nafD; rw [if_pos h, if_pos h2]
theorem naf_low {w : Nat} {N : Int} (h : N % 2 = 1) (h2 : N % 2 ^ w < 2 ^ (w - 1)) : nafD w N = N % 2 ^ w := by unfold nafD; rw [if_pos h, if_neg (by omega)]
/-- The number that is left, as words. -/
def nafW (w : Nat) (N : Int) (i : Nat) : Nat → Int := dgt q64 (nafN w N i)
theorem W5_naf {w : Nat} (h : Wid w) {N : Int} (h0 : 0 ≤ N) (h1 : N < q256) (i : Nat) : W5 (nafW w N i) = nafN w N i := by
  have := nafN_range h h0 h1 i
  exact W5_dgt this.1 (by simp only [q256] at this; omega)
theorem naf_plus {w : Nat} (h : Wid w) {N : Int} (h0 : 0 ≤ N) (h1 : N < q256) (i : Nat) (d : Int) : plusW (nafW w N i) (oneW (-d)) = dgt q64 (nafN w N i - d) := by
  unfold plusW
  rw [W5_naf h h0 h1, W5_one]
  congr 1
theorem naf_minus {w : Nat} (h : Wid w) {N : Int} (h0 : 0 ≤ N) (h1 : N < q256) (i : Nat) (d : Int) : minusW (nafW w N i) (oneW d) = dgt q64 (nafN w N i - d) := by
  unfold minusW
  rw [W5_naf h h0 h1, W5_one]
/-- From one number to the next. -/
theorem naf_next {w : Nat} (h : Wid w) {N : Int} (h0 : 0 ≤ N) (h1 : N < q256) (i : Nat) {f : Nat → Int} (hf : ∀ k, k < 5 → f k = dgt q64 (nafN w N i - nafD w (nafN w N i)) k) :
    ∀ k, k < 5 → upd (halvF q64 f 4) 4 (f 4 / 2) k = nafW w N (i + 1) k := by
  have r := nafN_range h h0 h1 i
  have h2 := nafD_le h r.1
  have h3 := nafD_range h (nafN w N i)
  have e : q64 ^ 5 = 2135987035920910082395021706169552114602704522356652769947041607822219725780640550022962086936576 := by decide
  exact half_all (.inl rfl) (n := 4) (by omega) (by rw [e]; simp only [q256] at r; omega) hf
theorem num_q256 {a : Nat → Int} (ha : IsBytes 32 a) : 0 ≤ num 32 a ∧ num 32 a < q256 := by
  have h := num_range ha
  have e : (256 : Int) ^ 32 = q256 := by decide
  rw [e] at h
  exact h
end Sx
namespace Sx
open Go Go.RowKit
theorem halv_step {bi : BinOp → IntKind → Int → Int → Int} (hbi : bi = realBin) {HV : (Nat → Int) → Nat → Nat → Int} (hHV : HV = halvF q64) {f : Nat → Int} (hf : Is5 f) {j : Nat} (hj : j < 4) (k : Nat) :
    (if k = j then bi .or .u64 (bi .shr .u64 (HV f j j) 1) (bi .shl .u64 (HV f j (j + 1)) 63) else HV f j k) = HV f (j + 1) k := by
  subst hbi hHV
  rw [halv_at, halv_next, half_word' hf hj]
  exact halv_upd k
theorem naf_next' {bi : BinOp → IntKind → Int → Int → Int} (hbi : bi = realBin) {HV : (Nat → Int) → Nat → Nat → Int} (hHV : HV = halvF q64) {w : Nat} {N : Int} {YN : Nat → Nat → Int} (hYN : YN = nafW w N) (h : Wid w) (h0 : 0 ≤ N) (h1 : N < q256) (i : Nat) {f : Nat → Int} (hf : ∀ k, k < 5 → f k = dgt q64 (nafN w N i - nafD w (nafN w N i)) k) :
    ∀ k, k < 5 → (if k = 4 then bi .shr .u64 (HV f 4 4) 1 else HV f 4 k) = YN (i + 1) k := by
  subst hbi hHV hYN
  intro k hk
  rw [half_last, halv_at]
  exact naf_next h h0 h1 i hf k hk
end Sx
namespace Sx
open Go Go.RowKit
/-! The document's way. -/
def nafB (w : Nat) (N : Int) (i : Nat) : Nat → Int := dgt 256 (nafN w N i)
def sgA (w : Nat) (N : Int) (i j : Nat) : Nat → Int := fun k => if k < j then dgt 256 (nafN w N i - nafD w (nafN w N i)) k else dgt 256 (nafN w N i) k
def sgC (w : Nat) (N : Int) (i j : Nat) : Int := carB 256 (dgt 256 (nafN w N i)) (- nafD w (nafN w N i)) j
section
variable {w : Nat} {N : Int} {i : Nat}
theorem sgA_zero (k : Nat) : sgA w N i 0 k = nafB w N i k := if_neg (Nat.not_lt_zero k)
theorem sgA_at (j : Nat) : sgA w N i j j = dgt 256 (nafN w N i) j := if_neg (Nat.lt_irrefl j)
theorem sgC_zero : sgC w N i 0 = - nafD w (nafN w N i) := carB_zero _ _ _
theorem sgA_end {k : Nat} (hk : k < 34) : sgA w N i 34 k = dgt 256 (nafN w N i - nafD w (nafN w N i)) k := if_pos hk
theorem sgA_upd {j : Nat} (k : Nat) : (if k = j then dgt 256 (nafN w N i - nafD w (nafN w N i)) j else sgA w N i j k) = sgA w N i (j + 1) k := by
  unfold sgA
  by_cases h : k = j
  · subst h; rw [if_pos rfl, if_pos (by omega)]
  · rw [if_neg h]
    by_cases h2 : k < j
    · rw [if_pos h2, if_pos (by omega)]
    · rw [if_neg h2, if_neg (by omega)]
theorem sgC_range (h : Wid w) : ∀ j, -128 ≤ sgC w N i j ∧ sgC w N i j ≤ 128
  | 0 => by rw [sgC_zero]; have := nafD_range h (nafN w N i); omega
  | j + 1 => by
    have h1 := sgC_range h j
    have h2 := dig_range (nafN w N i) j
    unfold sgC at h1 ⊢
    rw [carB_succ p256]
    omega
theorem q256_34 : (q256 : Int) ≤ 256 ^ 34 := by decide
theorem sg_step (h : Wid w) (h0 : 0 ≤ N) (h1 : N < q256) {j : Nat} (hj : j < 34) {v : Int} (hv : v = dgt 256 (nafN w N i) j + sgC w N i j) :
    v % 256 = dgt 256 (nafN w N i - nafD w (nafN w N i)) j ∧ v / 256 = sgC w N i (j + 1) := by
  subst hv
  refine ⟨?_, by unfold sgC; rw [carB_succ p256]⟩
  have r := nafN_range h h0 h1 i
  have e := dgt_car p256 (dgt 256 (nafN w N i)) (- nafD w (nafN w N i)) hj
  rw [sumB_dgt_lt p256 r.1 (Int.lt_of_lt_of_le r.2 q256_34)] at e
  exact e.symm
theorem nafB_zero (a : Nat → Int) (w : Nat) {ha : IsBytes 32 a} : ∀ k, k < 34 → (if k < 32 then a k else 0) = nafB w (num 32 a) 0 k := by
  intro k hk
  show _ = dgt 256 (num 32 a) k
  by_cases h : k < 32
  · rw [if_pos h, num_sumB, dgt_sumB p256 ha h]
  · rw [if_neg h]
    have hr := num_range ha
    have : num 32 a / 256 ^ k = 0 := Int.ediv_eq_zero_of_lt hr.1 (Int.lt_of_lt_of_le hr.2 (pow_mono (by omega)))
    unfold dgt
    rw [this]; rfl
theorem nafB_next (h : Wid w) (h0 : 0 ≤ N) (h1 : N < q256) {f : Nat → Int} (hf : ∀ k, k < 34 → f k = dgt 256 (nafN w N i - nafD w (nafN w N i)) k) :
    ∀ k, k < 34 → upd (halvF 256 f 33) 33 (f 33 / 2) k = nafB w N (i + 1) k := by
  have r := nafN_range h h0 h1 i
  have h2 := nafD_le h r.1
  have h3 := nafD_range h (nafN w N i)
  have e : (256 : Int) ^ (33 + 1) = 7588550360256754183279148073529370729071901715047420004889892225542594864082845696 := by decide
  exact half_all (.inr rfl) (n := 33) (by omega) (by rw [e]; simp only [q256] at r; omega) hf
theorem byteB_bit (M : Int) : dgt 256 M 0 % 2 = M % 2 := by rw [dgt0]; omega
theorem byteB_low (h : Wid w) (M : Int) : dgt 256 M 0 % 2 ^ w = M % 2 ^ w := by
  rw [dgt0]
  rcases wid_cases h with e | e | e | e | e | e | e <;> subst e <;> simp only [Int.reducePow] <;> omega
/-- An odd remainder is no half of the span. -/
theorem odd_half (h : Wid w) {M : Int} (ho : M % 2 = 1) : (2 ^ (w - 1) < M % 2 ^ w ↔ 2 ^ (w - 1) ≤ M % 2 ^ w) := by
  rcases wid_cases h with e | e | e | e | e | e | e <;> subst e <;> simp only [Nat.reduceSub, Int.reducePow] <;> omega
end
theorem halv_stepB {bi : BinOp → IntKind → Int → Int → Int} (hbi : bi = realBin) {HV : (Nat → Int) → Nat → Nat → Int} (hHV : HV = halvF 256) {f : Nat → Int} (hf : IsDig 256 34 f) {j : Nat} (hj : j < 33) (k : Nat) :
    (if k = j then bi .add .i64 (bi .quo .i64 (HV f j j) 2) (bi .mul .i64 (bi .rem .i64 (HV f j (j + 1)) 2) 128) else HV f j k) = HV f (j + 1) k := by
  subst hbi hHV
  have h1 := hf j (by omega)
  have h2 := hf (j + 1) (by omega)
  rw [halv_at, halv_next, quo_i64 (by omega) (by omega), rem_i64 (by omega), mul_i64 (by omega), add_i64 (by omega)]
  exact halv_upd k
theorem nafB_next' {bi : BinOp → IntKind → Int → Int → Int} (hbi : bi = realBin) {HV : (Nat → Int) → Nat → Nat → Int} (hHV : HV = halvF 256) {w : Nat} {N : Int} {RN : Nat → Nat → Int} (hRN : RN = nafB w N) (h : Wid w) (h0 : 0 ≤ N) (h1 : N < q256) (i : Nat) {f : Nat → Int} (hf : ∀ k, k < 34 → f k = dgt 256 (nafN w N i - nafD w (nafN w N i)) k) :
    ∀ k, k < 34 → (if k = 33 then bi .quo .i64 (HV f 33 33) 2 else HV f 33 k) = RN (i + 1) k := by
  subst hbi hHV hRN
  intro k hk
  have h2 := dig_range (nafN w N i - nafD w (nafN w N i)) 33
  rw [halv_at, quo_i64 (by rw [hf 33 (by omega)]; omega) (by omega)]
  exact nafB_next h h0 h1 hf k hk
end Sx

/-
  Clamping.
-/
namespace Sx
open Go Go.RowKit

def clampF (h : Nat → Int) : Nat → Int := fun i => if i = 0 then h 0 / 8 * 8 else if i = 31 then h 31 % 64 + 64 else h i
theorem and_248 : ∀ x : Fin 256, realBin .and .u8 (x.val : Int) 248 = (x.val : Int) / 8 * 8 := by decide +kernel
theorem and_127 : ∀ x : Fin 256, realBin .or .u8 (realBin .and .u8 (x.val : Int) 127) 64 = (x.val : Int) % 64 + 64 := by decide +kernel
theorem byte_fin {x : Int} (h : 0 ≤ x ∧ x < 256) : ∃ y : Fin 256, x = (y.val : Int) := ⟨⟨x.toNat, by omega⟩, by simp only; omega⟩
theorem clamp_low {x : Int} (h : 0 ≤ x ∧ x < 256) : realBin .and .u8 x 248 = x / 8 * 8 := by
  obtain ⟨y, rfl⟩ := byte_fin h
  exact and_248 y
theorem clamp_high {x : Int} (h : 0 ≤ x ∧ x < 256) : realBin .or .u8 (realBin .and .u8 x 127) 64 = x % 64 + 64 := by
  obtain ⟨y, rfl⟩ := byte_fin h
  exact and_127 y
theorem clamp_isB {h : Nat → Int} (hh : IsBytes 32 h) : IsBytes 32 (clampF h) := by
  intro i hi
  have h0 := hh 0 (by decide)
  have h1 := hh 31 (by decide)
  have h2 := hh i hi
  unfold clampF
  split
  · omega
  · split <;> omega
theorem clamp_each {h : Nat → Int} (hh : IsBytes 32 h) : ∀ i, i < 32 → upd (upd h 0 (realBin .and .u8 (h 0) 248)) 31 (realBin .or .u8 (realBin .and .u8 (h 31) 127) 64) i = clampF h i := by
  intro i hi
  rw [clamp_low (hh 0 (by decide)), clamp_high (hh 31 (by decide))]
  unfold upd clampF
  by_cases h0 : i = 0
  · subst h0; rfl
  · rw [if_neg h0]
    by_cases h1 : i = 31
    · subst h1; rfl
    · simp [h0, h1]
section
variable {h : Nat → Int} (hh : IsBytes 32 h)
include hh
theorem clamp_1 : realCmp .neq (realBin .rem .u8 (clampF h 0) 8) 0 = false := by
  have h0 := hh 0 (by decide)
  show (realBin .rem .u8 (h 0 / 8 * 8) 8 != 0) = false
  rw [rem_i64 (by omega)]
  have : h 0 / 8 * 8 % 8 = 0 := by omega
  rw [this]; rfl
theorem clamp_2 : realCmp .lss (clampF h 31) 64 = false := by
  have h0 := hh 31 (by decide)
  show decide (h 31 % 64 + 64 < 64) = false
  exact decide_eq_false (by omega)
theorem clamp_3 : realCmp .geq (clampF h 31) 128 = false := by
  have h0 := hh 31 (by decide)
  show decide (h 31 % 64 + 64 ≥ 128) = false
  exact decide_eq_false (by omega)
theorem clamp_4 : realCmp .neq (realBin .quo .u8 (clampF h 0) 8) (realBin .quo .u8 (h 0) 8) = false := by
  have h0 := hh 0 (by decide)
  show (IntKind.wrap .u8 (Int.tdiv (h 0 / 8 * 8) 8) != IntKind.wrap .u8 (Int.tdiv (h 0) 8)) = false
  rw [Int.tdiv_eq_ediv_of_nonneg (by omega), Int.tdiv_eq_ediv_of_nonneg (by omega)]
  have : h 0 / 8 * 8 / 8 = h 0 / 8 := by omega
  rw [this]; simp
theorem clamp_5 : realCmp .neq (realBin .rem .u8 (clampF h 31) 64) (realBin .rem .u8 (h 31) 64) = false := by
  have h0 := hh 31 (by decide)
  show (realBin .rem .u8 (h 31 % 64 + 64) 64 != realBin .rem .u8 (h 31) 64) = false
  rw [rem_i64 (by omega), rem_i64 (by omega)]
  have : (h 31 % 64 + 64) % 64 = h 31 % 64 := by omega
  rw [this]; simp
omit hh in
theorem clamp_6 {i : Nat} (h1 : 1 ≤ i) (h2 : i < 31) : clampF h i = h i := by
  unfold clampF
  rw [if_neg (by omega), if_neg (by omega)]
theorem clamp_7 : realEqA 32 (clampF (clampF h)) (clampF h) = true := by
  have h0 := hh 0 (by decide)
  have h1 := hh 31 (by decide)
  rw [realEqA_iff]
  intro i hi
  show (if i = 0 then h 0 / 8 * 8 / 8 * 8 else if i = 31 then (h 31 % 64 + 64) % 64 + 64 else clampF h i) = clampF h i
  unfold clampF
  by_cases e0 : i = 0
  · rw [if_pos e0, if_pos e0]; omega
  · rw [if_neg e0, if_neg e0]
    by_cases e1 : i = 31
    · rw [if_pos e1, if_pos e1]; omega
    · simp [e1]
end
end Sx

/-
  What the laws reckon of digits: two lists alike; digits that add up to a number.
-/
namespace Sx
open Go Go.RowKit

def sameB (la : Nat) (f : Nat → Int) (lb : Nat) (g : Nat → Int) : Bool := decide (la = lb ∧ ∀ i, i < la → f i = g i)
def sameC (S : Nat → (Nat → Int) → Nat → (Nat → Int) → Bool) : Contract := fun vs => match vs with
  | [.xsl .i8 1 la _ f, .xsl .i8 1 lb _ g] => some ([], .bool (.sym (S la.val f lb.val g)))
  | _ => none
theorem sameB_self (n : Nat) (f : Nat → Int) : sameB n f n f = true := decide_eq_true ⟨rfl, fun _ _ => rfl⟩
theorem sameB_len {la lb : Nat} {f g : Nat → Int} (h : la ≠ lb) : sameB la f lb g = false := decide_eq_false fun e => h e.1
theorem sameB_at {n i : Nat} {f g : Nat → Int} (hi : i < n) (h : f i ≠ g i) : sameB n f n g = false := decide_eq_false fun e => h (e.2 i hi)
theorem sameB_all {n : Nat} {f g : Nat → Int} (h : ∀ i, i < n → f i = g i) : sameB n f n g = true := decide_eq_true ⟨rfl, h⟩
theorem isX8 {cap len : SO} {f : Nat → Int} (h : wfV (.xsl .i8 1 len cap f)) : IsDigs len.val f := fun i hi => inR_i8.1 (h i (by omega))
theorem dbool (c w : Bool) : (match c with | true => true | false => w) = (c || w) := by cases c <;> rfl
theorem dband (c w : Bool) : (match c with | true => w | false => false) = (c && w) := by cases c <;> rfl
end Sx
namespace Sx
open Go Go.RowKit
def boolAIC (F : (Nat → Int) → Int → Bool) : Contract := fun vs => match vs with
  | [.arr .u8 32 a, .int .i64 w] => some ([], .bool (.sym (F a w.val)))
  | _ => none
theorem dig_two : digE 2 = 0 ∧ digL 2 = 257 := by decide
theorem digE_one {w : Int} (h : digW w = false) : digE w = 1 ∧ digL w = 0 := by unfold digE digL; rw [h]; decide
theorem digE_nil {w : Int} (h : digW w = true) : digE w = 0 ∧ digL w = 257 := by unfold digE digL; rw [h]; decide

/-! Adding up from the lowest bit. -/
def addsC (S : Nat → (Nat → Int) → (Nat → Int) → Bool) : Contract := fun vs => match vs with
  | [.xsl .i8 1 la _ f, .arr .u8 32 a] => some ([Upto300 la.val], .bool (.sym (S la.val f a)))
  | _ => none
end Sx
namespace Sx
open Go Go.RowKit
structure Adds (n : Nat) (f : Nat → Int) (a : Nat → Int) : Prop where
  h : sumB 2 n f = num 32 a ∧ 256 ≤ n ∧ n ≤ 300
def addsP : Contract := fun vs => match vs with
  | [.xsl .i8 1 la _ f, .arr .u8 32 a] => some ([Adds la.val f a], .bool (.sym true))
  | _ => none
def adT (n : Nat) (f : Nat → Int) (i : Nat) : Int := sumB 2 (n - i) fun j => f (i + j)
def adC (n : Nat) (f : Nat → Int) (N : Int) (i : Nat) : Int := N / 2 ^ i - adT n f i
theorem adT_step {n : Nat} {f : Nat → Int} {i : Nat} (h : i < n) : adT n f i = f i + 2 * adT n f (i + 1) := by
  unfold adT
  obtain ⟨m, hm⟩ : ∃ m, n - i = 1 + m := ⟨n - i - 1, by omega⟩
  have e : n - (i + 1) = m := by omega
  rw [hm, e, sumB_split]
  have e1 : sumB 2 1 (fun j => f (i + j)) = f i := by simp [sumB]
  rw [e1, show ((2 : Int) ^ 1) = 2 from rfl]
  congr 2
  exact sumB_congr fun j _ => by congr 1; omega
theorem adC_zero {n : Nat} {f a : Nat → Int} (h : Adds n f a) : adC n f (num 32 a) 0 = 0 := by
  unfold adC adT
  have e : sumB 2 (n - 0) (fun j => f (0 + j)) = num 32 a := by
    rw [← h.h.1]
    exact sumB_congr fun j _ => by congr 1; omega
  rw [e]
  simp
theorem adC_step {n : Nat} {f : Nat → Int} {N : Int} {i : Nat} (h : i < n) : adC n f N i + f i - N / 2 ^ i % 2 = 2 * adC n f N (i + 1) := by
  have hp : (0 : Int) < 2 ^ i := Int.pow_pos (by decide)
  unfold adC
  rw [adT_step h, Int.pow_succ, ← Int.ediv_ediv_of_nonneg (by omega)]
  omega
theorem adC_range {n : Nat} {f a : Nat → Int} (h : Adds n f a) (hf : IsDigs n f) : ∀ i, i ≤ n → -129 ≤ adC n f (num 32 a) i ∧ adC n f (num 32 a) i ≤ 129
  | 0, _ => by rw [adC_zero h]; omega
  | i + 1, hi => by
    have h1 := adC_range h hf i (by omega)
    have h2 := adC_step (f := f) (N := num 32 a) (show i < n by omega)
    have h3 := hf i (by omega)
    omega
theorem adC_end {n : Nat} {f a : Nat → Int} (h : Adds n f a) (ha : IsBytes 32 a) : adC n f (num 32 a) n = 0 := by
  have hr := num_range ha
  have hp : (256 : Int) ^ 32 ≤ 2 ^ n := by
    have h1 : (2 : Nat) ^ 256 ≤ 2 ^ n := Nat.pow_le_pow_right (by decide) h.h.2.1
    have e : (256 : Int) ^ 32 = ((2 ^ 256 : Nat) : Int) := by decide
    rw [e]
    exact_mod_cast h1
  unfold adC adT
  rw [Int.ediv_eq_zero_of_lt hr.1 (Int.lt_of_lt_of_le hr.2 hp), Nat.sub_self]
  rfl
theorem bit_past {a : Nat → Int} (ha : IsBytes 32 a) {i : Nat} (h : 256 ≤ i) : num 32 a / 2 ^ i % 2 = 0 := by
  have hr := num_range ha
  have hp : (256 : Int) ^ 32 ≤ 2 ^ i := by
    have h1 : (2 : Nat) ^ 256 ≤ 2 ^ i := Nat.pow_le_pow_right (by decide) h
    have e : (256 : Int) ^ 32 = ((2 ^ 256 : Nat) : Int) := by decide
    rw [e]
    exact_mod_cast h1
  rw [Int.ediv_eq_zero_of_lt hr.1 (Int.lt_of_lt_of_le hr.2 hp)]
  rfl
theorem rem_two (c : Int) : realBin .rem .i64 (2 * c) 2 = 0 := Int.mul_tmod_right 2 c
theorem quo_two {c : Int} (h : -9223372036854775808 ≤ c ∧ c < 9223372036854775808) : realBin .quo .i64 (2 * c) 2 = c := by
  show IntKind.wrap .i64 ((2 * c).tdiv 2) = c
  rw [Int.mul_tdiv_cancel_left c (by decide : (2 : Int) ≠ 0), wrap_i64 h]
theorem rem_odd {v : Int} (h : v % 2 = 1) : realBin .rem .i64 v 2 ≠ 0 := by
  intro e
  have h1 : v.tmod 2 = 0 := e
  have h2 : (2 : Int) ∣ v := Int.dvd_of_tmod_eq_zero h1
  omega
/-- Where the last digit that isn't 0 stands. -/
def LastAt (w : Nat) (N : Int) (p : Nat × Int) : Prop := p.1 ≤ 257 ∧ ((p.2 = -(w : Int)) ∨ (∃ x : Nat, p.2 = (x : Int) ∧ x < p.1 ∧ nafF w N x ≠ 0))
theorem last_gap {w : Nat} (h : Wid w) {N : Int} {p : Nat × Int} (hp : LastAt w N p) (hd : nafF w N p.1 ≠ 0) : (w : Int) ≤ (p.1 : Int) - p.2 := by
  obtain ⟨h1, h2 | ⟨x, hx, hlt, hx0⟩⟩ := hp
  · omega
  · have := naf_apart h N hlt hx0 hd
    omega
theorem last_range {w : Nat} (h : Wid w) {N : Int} {p : Nat × Int} (hp : LastAt w N p) : -8 ≤ p.2 ∧ p.2 ≤ 257 := by
  have hw := h.h
  obtain ⟨h1, h2 | ⟨x, hx, hlt, hx0⟩⟩ := hp <;> omega
end Sx

/-
  What the document's heap of digits asks beside.
-/
namespace Sx
open Go Go.RowKit

theorem mul_small {x y : Int} (hx : 0 ≤ x ∧ x ≤ 128) (hy : 0 < y ∧ y ≤ 128) : 0 ≤ x * y ∧ x * y ≤ 16384 := by
  refine ⟨Int.mul_nonneg hx.1 (by omega), ?_⟩
  have : x * y ≤ 128 * 128 := Int.mul_le_mul hx.2 hy.2 (by omega) (by omega)
  omega
theorem carry_down {H : Int} (_h0 : 0 ≤ H) (h : 0 ≤ H / 256 ^ 40 ∧ H / 256 ^ 40 ≤ 19400) {p : Nat} (hp : 40 ≤ p) : 0 ≤ H / 256 ^ p ∧ H / 256 ^ p ≤ 19400 := by
  obtain ⟨m, rfl⟩ : ∃ m, p = 40 + m := ⟨p - 40, by omega⟩
  rw [Int.pow_add, ← Int.ediv_ediv_of_nonneg (Int.le_of_lt (powB_pos p256 40))]
  have hm := powB_pos p256 m
  refine ⟨Int.ediv_nonneg h.1 (by omega), ?_⟩
  have := Int.ediv_le_self (256 ^ m : Int) h.1
  omega
theorem carry_more {H : Int} (h : 0 ≤ H / 256 ^ 40 ∧ H / 256 ^ 40 ≤ 19400) {p : Nat} (hpos : 0 < H / 256 ^ p) (h1 : 40 ≤ p) (h2 : p ≤ 42) : p < 42 := by
  by_cases e : p = 42
  · exfalso
    subst e
    have e1 : (256 : Int) ^ 42 = 256 ^ 40 * 65536 := by decide
    rw [e1, ← Int.ediv_ediv_of_nonneg (Int.le_of_lt (powB_pos p256 40))] at hpos
    omega
  · omega
theorem heapL_at {n : Nat} {d : Nat → Int} {s : Int} {p : Nat} (h1 : 40 ≤ p) (h2 : p ≤ 42) (hb : ∀ q, 40 ≤ q → q < p → heapH n d s / 256 ^ q ≠ 0) (hz : heapH n d s / 256 ^ p = 0) : p = heapL n d s := by
  unfold heapL
  have : p = 40 ∨ p = 41 ∨ p = 42 := by omega
  rcases this with e | e | e
  · subst e
    rw [if_pos hz]
  · subst e
    rw [if_neg (hb 40 (by omega) (by omega)), if_pos hz]
  · subst e
    rw [if_neg (hb 40 (by omega) (by omega)), if_neg (hb 41 (by omega) (by omega))]
end Sx
namespace Sx
open Go Go.RowKit
def boolLC (F : Nat → (Nat → Int) → Bool) : Contract := fun vs => match vs with
  | [.xsl .i8 1 len _ d] => some ([], .bool (.sym (F len.val d)))
  | _ => none
theorem eqA_self (n : Nat) (f : Nat → Int) : realEqA n f f = true := realEqA_iff.2 fun _ _ => rfl
theorem val_one : valErr 2 1 = 0 ∧ valA 1 (upd (fun _ => 0) 0 1) 0 = 1 := by
  refine ⟨rfl, ?_⟩
  unfold valA
  rw [if_pos (by decide)]
  have e : sumB 2 1 (upd (fun _ => 0) 0 1) = 1 := by simp [sumB, upd]
  rw [e]
  decide +kernel
theorem val_257 : valErr 2 257 = 0 := rfl
theorem width_of (w : Int) : digW (realBin .add .i64 2 (realBin .rem .i64 (realBin .add .i64 (realBin .rem .i64 w 7) 7) 7)) = true := by
  have h1 : w.tmod 7 < 7 := Int.tmod_lt_of_pos w (by decide)
  have h2 : -7 < w.tmod 7 := Int.lt_tmod_of_pos w (by decide)
  have e : realBin .rem .i64 w 7 = w.tmod 7 := rfl
  rw [e]
  generalize w.tmod 7 = x at h1 h2
  have e1 : realBin .add .i64 x 7 = x + 7 := add_i64 (by omega)
  have e2 : realBin .rem .i64 (x + 7) 7 = (x + 7) % 7 := rem_i64 (by omega)
  rw [e1, e2, add_i64 (by omega)]
  unfold digW
  simp only [Bool.and_eq_true, decide_eq_true_eq]
  omega
theorem worth_of {a : Nat → Int} (ha : IsBytes 32 a) {w : Int} (h : digW w = true) : valA 257 (digF a w) = sb (se a) := by
  have hN := num_q256 ha
  unfold valA digF
  rw [if_pos (by decide), naf_total (digW_wid h).1 hN.1 hN.2]
  rfl
end Sx

/-
  A function's contract, where of a slice that came in nothing but its length's value is known.
-/
namespace Sx
open Go Go.RowKit

section
variable {P : Program}
def symX : AV → AV
  | .int k n => .int k (.sym n.val)
  | .bool b => .bool (.sym b.val)
  | .xsl k es len cap f => .xsl k es (.sym len.val) cap f
  | x => x
theorem symX_arg {w : World} {x : AV} {v : Value} (h : ArgR w x v) : ArgR w (symX x) v := by
  cases x <;> exact h
theorem symX_wf {x : AV} (h : wfV x) : wfV (symX x) := by
  cases x <;> exact h
theorem symX_all {w : World} : ∀ {vs : List AV} {args : List Value}, All2 (ArgR w) vs args → All2 (ArgR w) (vs.map symX) args
  | [], [], _ => trivial
  | _ :: _, _ :: _, h => ⟨symX_arg h.1, symX_all h.2⟩
  | [], _ :: _, h => h.elim
  | _ :: _, [], h => h.elim
theorem sound_symx {G : Nat → AV} (hmix : P.follows .mixedOrders = true) {f : FuncId} {fn : Func} (hf : P.funcs[f]? = some fn) {n : Nat} {rs : List ResultVar} {sc : SC} (hn : fn.ntmps = n) (hrs : fn.results.toList = rs) (hb : fn.body.isNone = false)
    (hname : (fn.name == "runtime.NumGoroutine") = false) (hsc : strip (body fn) = sc) {c : Contract}
    (h : ∀ vs cs r, c vs = some (cs, r) → vs.length ≤ n ∧ ((∀ p ∈ cs, p) → (∀ x ∈ vs, wfV x) → ∃ E : Env, EnvOK0 P E ∧ E.glob = G ∧ Walk E sc n rs (vs.map symX) r)) : Sound P G f c := by
  intro vs cs r hc hcs hwf w hG args hargs
  obtain ⟨hl, hw⟩ := h vs cs r hc
  obtain ⟨E, hE, hg, hW⟩ := hw hcs hwf
  subst hg
  subst hn; subst hrs; subst hsc
  classical
  have key : Sound P E.glob f (fun vs' => if vs' = vs.map symX then some (cs, r) else none) := by
    refine sound_of hE hmix hf hb hname (fun vs' cs' r' hc' => ?_) (fun vs' cs' r' hc' _ _ => ?_)
    · split at hc'
      · rename_i e; subst e; simpa using hl
      · cases hc'
    · split at hc'
      · rename_i e; subst e; cases hc'; exact hW.run
      · cases hc'
  refine key (vs.map symX) cs r (if_pos rfl) hcs (fun x hx => ?_) w hG args (symX_all hargs)
  obtain ⟨y, hy, rfl⟩ := List.mem_map.1 hx
  exact symX_wf (hwf y hy)
end
end Sx

/-
  The document's small questions about scalars.
-/
namespace Sx
open Go
theorem can_r {a : Nat → Int} (ha : IsBytes 32 a) : realEqA 32 (sb (sn 32 a)) a = canS a := by
  have hb := num_bounds 32 a ha
  rw [eqA_num (show IsBytes 32 (sb (sn 32 a)) from byt_isBytes _ _) ha, num_sb]
  unfold canS sn
  rw [zi_val, Bool.eq_iff_iff, beq_iff_eq, decide_eq_true_iff]
  have e : ((lN : Nat) : Int) = lI := rfl
  rw [e]
  simp only [lI]
  omega
theorem sb_zero' : ∀ i, i < 32 → (fun _ => (0 : Int)) i = sb 0 i := by decide +kernel
theorem sb_one' : ∀ i, i < 32 → upd (fun _ => 0) 0 1 i = sb 1 i := by decide +kernel
theorem eqS_zero (x : Zl) : realEqA 32 (sb x) (fun _ => 0) = decide (x = 0) := by
  rw [← sb_inj]
  exact eqA_congr (fun _ _ => rfl) sb_zero'
theorem eqS_one (x : Zl) : realEqA 32 (sb x) (upd (fun _ => 0) 0 1) = decide (x = 1) := by
  rw [← sb_inj]
  exact eqA_congr (fun _ _ => rfl) sb_one'
def isInvF (a x : Nat → Int) : Bool := match realEqA 32 (sb (sn 32 a)) (fun _ => 0) with | true => realEqA 32 x (fun _ => 0) | false => match canS x with | true => realEqA 32 (sb (se a * se x + se (fun _ => 0))) (upd (fun _ => 0) 0 1) | false => false
theorem clamp_q {x : Int} (h : 0 ≤ x ∧ x < 256) : realBin .mul .u8 (realBin .quo .u8 x 8) 8 = x / 8 * 8 := by
  obtain ⟨y, rfl⟩ := byte_fin h
  revert y
  decide +kernel
theorem clamp_r {x : Int} (h : 0 ≤ x ∧ x < 256) : realBin .add .u8 (realBin .rem .u8 x 64) 64 = x % 64 + 64 := by
  obtain ⟨y, rfl⟩ := byte_fin h
  revert y
  decide +kernel
theorem clamp_upd (h : Nat → Int) (i : Nat) : upd (upd h 0 (h 0 / 8 * 8)) 31 (h 31 % 64 + 64) i = clampF h i := by
  unfold upd clampF
  by_cases h1 : i = 31
  · subst h1; rfl
  · rw [if_neg h1, if_neg h1]
theorem isInv_inv (a : Nat → Int) : isInvF a (sb (zinv (se a))) = true := by
  have h0 : se (fun _ => 0) = 0 := by unfold se; rw [num_zero, zi_zero]
  have h1 : sn 32 a = se a := rfl
  unfold isInvF
  rw [h1, eqS_zero, eqS_zero, can_sb, eqS_one, se_sb, h0]
  by_cases hx : se a = 0
  · rw [hx, zinv_zero (by decide)]
    simp
  · rw [decide_eq_false hx, mul_zinv prL hx]
    simp
end Sx

/-
  The scalars' scripts.
-/
namespace Sx
open Go
def opS : List (Nat × FK) := [(0, .int .i64), (1, .arr 32 .u8), (33, .arr 32 .u8), (65, .arr 32 .u8), (97, .arr 64 .u8), (161, .int .i64), (162, .sl .i8)]
def playS (mem : Mem) : Contract := fun vs => match vs with
  | [.opq v] => some ([RecOK mem 163 opS v], .bool (.sym true))
  | _ => none
def scriptS (mem : Mem) : Contract := fun vs => match vs with
  | [.opq v] => some ([ScriptOK mem 163 opS v], .bool (.sym true))
  | _ => none
def trueC : Contract := fun vs => match vs with
  | [] => some ([], .bool (.lit true))
  | _ => none
structure OpS (mem : Mem) (v : Value) : Prop where
  size : IsRec v 163
  kind : IsNum .i64 (rCell v 0)
  a : IsNums .u8 32 fun j => rCell v (1 + j)
  b : IsNums .u8 32 fun j => rCell v (33 + j)
  c : IsNums .u8 32 fun j => rCell v (65 + j)
  w : IsNums .u8 64 fun j => rCell v (97 + j)
  n : IsNum .i64 (rCell v 161)
  sl : IsSl (rCell v 162)
  l : IsList mem .i8 1 (rCell v 162)
theorem opS_of {mem : Mem} {v : Value} (h : RecOK mem 163 opS v) : OpS mem v := by
  have h4 := h.flds (162, .sl .i8) (by simp [opS])
  exact ⟨h.size, h.flds (0, .int .i64) (by simp [opS]), h.flds (1, .arr 32 .u8) (by simp [opS]), h.flds (33, .arr 32 .u8) (by simp [opS]), h.flds (65, .arr 32 .u8) (by simp [opS]), h.flds (97, .arr 64 .u8) (by simp [opS]), h.flds (161, .int .i64) (by simp [opS]), h4.1, h4.2⟩
theorem dead1 {A B X Y : Prop} (hA : ¬ A) (hY : B → Y) : (A → X) ∧ (B → Y) := ⟨fun h => (hA h).elim, hY⟩
theorem dead2 {A B X Y : Prop} (hB : ¬ B) (hX : A → X) : (A → X) ∧ (B → Y) := ⟨hX, fun h => (hB h).elim⟩
theorem b_tf2 {x : Bool} (h1 : x = true) (h2 : x = false) : False := by rw [h1] at h2; cases h2
end Sx

