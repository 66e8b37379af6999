/-
  Powers, inverses, Legendre's symbol and roots in package field: what they come to and their contracts.
-/
import Derived.Test.YtnfbjfbndnmhmaaSpZ
namespace Sx
open Go

def powC (P : (Nat → Int) → (Nat → Int) → Nat → Int) : Contract := fun vs => match vs with
  | [.arr .u64 5 l, .arr .u8 32 e] => some ([], .arr .u64 5 (P l e))
  | _ => none
def bool332C (F : (Nat → Int) → (Nat → Int) → (Nat → Int) → Bool) : Contract := fun vs => match vs with
  | [.arr .u8 32 f, .arr .u8 32 g, .arr .u8 32 h] => some ([], .bool (.sym (F f g h)))
  | _ => none
def leg32C (V : (Nat → Int) → Int) : Contract := fun vs => match vs with
  | [.arr .u8 32 f] => some ([], .int .i64 (.sym (V f)))
  | _ => none
def sqrtC (R : (Nat → Int) → (Nat → Int) → Nat → Int) (S : (Nat → Int) → (Nat → Int) → Bool) : Contract := fun vs => match vs with
  | [.arr .u8 32 f, .arr .u8 32 g] => some ([], .tup [.arr .u8 32 (R f g), .bool (.sym (S f g))])
  | _ => none

theorem bitB_congr {e e' : Nat → Int} (h : ∀ i, i < 32 → e i = e' i) {i : Nat} (hi : i < 256) : bitB e i = bitB e' i := by
  unfold bitB
  rw [h (i / 8) (by omega)]
theorem pwL_congr {l e e' : Nat → Int} (h : ∀ i, i < 32 → e i = e' i) : ∀ k, k ≤ 256 → pwL l e k = pwL l e' k
  | 0, _ => rfl
  | k + 1, hk => by simp only [pwL]; rw [pwL_congr h k (by omega), bitB_congr h (i := 255 - k) (by omega)]
theorem powL_congr {l e e' : Nat → Int} (h : ∀ i, i < 32 → e i = e' i) : powL l e = powL l e' := pwL_congr h 256 (Nat.le_refl _)

/-- The bit that the program asks. -/
theorem bit_asked {e : Nat → Int} (he : IsBytes 32 e) {i : Nat} (hi : i < 256) : realCmp .eql (realBin .and .u8 (realBin .shr .u8 (e (i / 8)) ((i % 8 : Nat) : Int)) 1) 1 = bitB e i := by
  have hb := he (i / 8) (by omega)
  have h1 : realBin .shr .u8 (e (i / 8)) ((i % 8 : Nat) : Int) = e (i / 8) / 2 ^ (i % 8) := shr_any .u8 _ _ (by simp [IntKind.bits]; omega)
  have hp : (0 : Int) < 2 ^ (i % 8) := Int.pow_pos (by decide)
  have h2 : 0 ≤ e (i / 8) / 2 ^ (i % 8) := Int.ediv_nonneg hb.1 (by omega)
  have h3 : e (i / 8) / 2 ^ (i % 8) ≤ e (i / 8) := Int.ediv_le_self _ hb.1
  rw [h1, and_one_u8 ⟨h2, by omega⟩]
  unfold bitB
  rw [Bool.eq_iff_iff]
  simp [realCmp]

/-! The four numbers that package field keeps. -/
def twoN : Nat := pN - 2
def eighthN : Nat := (pN - 5) / 8
def halfN : Nat := (pN - 1) / 2
theorem twoN_eq : twoN = 57896044618658097711785492504343953926634992332820282019728792003956564819947 := rfl
theorem eighthN_eq : eighthN = 7237005577332262213973186563042994240829374041602535252466099000494570602493 := rfl
theorem halfN_eq : halfN = 28948022309329048855892746252171976963317496166410141009864396001978282409974 := rfl

/-- The root of -1 that package field keeps. -/
def iZ : Zp := zi pN 19681161376707505956807079304988542015446066515923890162744021073123829784752
theorem iZ_sq : iZ * iZ = -1 := by
  unfold iZ
  rw [← zi_mul, ← zi_one, ← zi_neg, zi_eq]
  decide +kernel

theorem zhalf_sq (x : Zp) : x = 0 ∨ zp x halfN * zp x halfN = 1 := by
  by_cases h : x = 0
  · exact .inl h
  · right
    rw [← zp_sq]
    exact zfermat prP h

/-- Legendre's symbol. -/
def legZ (x : Zp) : Int := if zp x halfN = 0 then 0 else if zp x halfN = 1 then 1 else -1

theorem zhalf_cases (x : Zp) : (x = 0 ∧ zp x halfN = 0) ∨ (x ≠ 0 ∧ zp x halfN = 1) ∨ (x ≠ 0 ∧ zp x halfN = -1) := by
  by_cases h : x = 0
  · subst h
    exact .inl ⟨rfl, zero_zp _ (by decide)⟩
  · right
    rcases zhalf_sq x with h1 | h1
    · exact absurd h1 h
    · rcases zsq_one prP h1 with h2 | h2
      · exact .inl ⟨h, h2⟩
      · exact .inr ⟨h, h2⟩

theorem z_neg_one_ne : (-1 : Zp) ≠ 0 ∧ (-1 : Zp) ≠ 1 := by
  constructor
  · decide +kernel
  · decide +kernel

theorem legZ_zero {x : Zp} : legZ x = 0 ↔ x = 0 := by
  unfold legZ
  rcases zhalf_cases x with ⟨h1, h2⟩ | ⟨h1, h2⟩ | ⟨h1, h2⟩
  · rw [if_pos h2]; simp [h1]
  · rw [if_neg (by rw [h2]; exact z_one_ne prP), if_pos h2]; simp [h1]
  · rw [if_neg (by rw [h2]; exact z_neg_one_ne.1), if_neg (by rw [h2]; exact z_neg_one_ne.2)]; simp [h1]
theorem legZ_one {x : Zp} : legZ x = 1 ↔ zp x halfN = 1 := by
  unfold legZ
  rcases zhalf_cases x with ⟨h1, h2⟩ | ⟨h1, h2⟩ | ⟨h1, h2⟩
  · rw [if_pos h2, h2]; simp [Ne.symm (z_one_ne prP)]
  · rw [if_neg (by rw [h2]; exact z_one_ne prP), if_pos h2]; simp [h2]
  · rw [if_neg (by rw [h2]; exact z_neg_one_ne.1), if_neg (by rw [h2]; exact z_neg_one_ne.2), h2]; simp [z_neg_one_ne.2]
theorem legZ_neg {x : Zp} : legZ x = -1 ↔ zp x halfN = -1 := by
  unfold legZ
  rcases zhalf_cases x with ⟨h1, h2⟩ | ⟨h1, h2⟩ | ⟨h1, h2⟩
  · rw [if_pos h2, h2]; simp [Ne.symm z_neg_one_ne.1]
  · rw [if_neg (by rw [h2]; exact z_one_ne prP), if_pos h2, h2]; simp [Ne.symm z_neg_one_ne.2]
  · rw [if_neg (by rw [h2]; exact z_neg_one_ne.1), if_neg (by rw [h2]; exact z_neg_one_ne.2), h2]; simp
theorem legZ_cases (x : Zp) : (x = 0 ∧ legZ x = 0) ∨ (x ≠ 0 ∧ zp x halfN = 1 ∧ legZ x = 1) ∨ (x ≠ 0 ∧ zp x halfN = -1 ∧ legZ x = -1) := by
  rcases zhalf_cases x with ⟨h1, h2⟩ | ⟨h1, h2⟩ | ⟨h1, h2⟩
  · exact .inl ⟨h1, legZ_zero.2 h1⟩
  · exact .inr (.inl ⟨h1, h2, legZ_one.2 h2⟩)
  · exact .inr (.inr ⟨h1, h2, legZ_neg.2 h2⟩)

/-- Of a number and its opposite the even one. -/
def evZ (x : Zp) : Zp := if x.val % 2 = 1 then -x else x

/-- A root of u/v, and whether there is one. -/
def sqrtZ (u v : Zp) : Zp × Bool :=
  if u = 0 then (0, true) else
    let r := u * (v * v * v) * zp (u * (v * v * v * (v * v * v) * v)) eighthN
    if v * r * r = u then (evZ r, true) else
      let s := r * iZ
      if v * s * s = u then (evZ s, true) else (0, false)
end Sx
