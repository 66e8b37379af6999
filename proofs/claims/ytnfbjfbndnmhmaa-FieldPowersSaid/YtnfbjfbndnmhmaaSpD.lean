/-
  What the laws' own helpers reckon: comparing and adding numbers byte by byte.
-/
import Derived.Test.YtnfbjfbndnmhmaaSpC
namespace Sx
open Go

def numberC (N : Int → Nat → Int) : Contract := fun vs => match vs with
  | [.int .u8 x] => some ([], .arr .u8 32 (N x.val))
  | _ => none
def primeC (N : Nat → Int) : Contract := fun vs => match vs with
  | [] => some ([], .arr .u8 32 N)
  | _ => none
def lplusC (S : (Nat → Int) → (Nat → Int) → Nat → Int) (C : (Nat → Int) → (Nat → Int) → Int) : Contract := fun vs => match vs with
  | [.arr .u8 32 f, .arr .u8 32 g] => some ([], .tup [.arr .u8 32 (S f g), .int .i64 (.sym (C f g))])
  | _ => none

def ltB (f g : Nat → Int) : Bool := decide (num 32 f < num 32 g)

theorem num_split : ∀ (k m : Nat) (f : Nat → Int), num (k + m) f = num k f + 256 ^ k * num m (fun i => f (k + i))
  | 0, m, f => by simp [num]
  | k + 1, m, f => by
    have e : k + 1 + m = (k + m) + 1 := by omega
    rw [e]
    simp only [num]
    rw [num_split k m, Int.mul_add, Int.pow_succ', ← Int.mul_assoc, Int.add_assoc]
    congr 2
    congr 1
    apply num_congr
    intro i _
    congr 1
    omega

theorem num_last (k : Nat) (f : Nat → Int) : num (k + 1) f = num k f + 256 ^ k * f k := by
  rw [num_split k 1]
  simp [num]

/-- The highest byte in which two numbers differ tells. -/
theorem lt_at {f g : Nat → Int} (hf : IsBytes 32 f) (hg : IsBytes 32 g) {k : Nat} (hk : k < 32) (he : ∀ j, k < j → j < 32 → f j = g j) (hne : f k ≠ g k) : decide (f k < g k) = ltB f g := by
  have hb := num_bounds k f (fun i hi => hf i (by omega))
  have hb' := num_bounds k g (fun i hi => hg i (by omega))
  have e : 32 = (k + 1) + (31 - k) := by omega
  have t : num (31 - k) (fun i => f (k + 1 + i)) = num (31 - k) (fun i => g (k + 1 + i)) := num_congr _ (fun i hi => he (k + 1 + i) (by omega) (by omega))
  unfold ltB
  rw [e, num_split (k + 1), num_split (k + 1) _ g, t, num_last, num_last]
  generalize 256 ^ (k + 1) * num (31 - k) (fun i => g (k + 1 + i)) = T
  have hp : (0 : Int) < 256 ^ k := Int.pow_pos (by decide)
  rw [decide_eq_decide]
  constructor
  · intro h
    have : 256 ^ k * (f k + 1) ≤ 256 ^ k * g k := Int.mul_le_mul_of_nonneg_left (by omega) (by omega)
    rw [Int.mul_add, Int.mul_one] at this
    omega
  · intro h
    rcases Int.lt_or_gt_of_ne hne with h1 | h1
    · exact h1
    · have : 256 ^ k * (g k + 1) ≤ 256 ^ k * f k := Int.mul_le_mul_of_nonneg_left (by omega) (by omega)
      rw [Int.mul_add, Int.mul_one] at this
      omega
theorem lt_none {f g : Nat → Int} (he : ∀ j, j < 32 → f j = g j) : ltB f g = false := by
  unfold ltB
  rw [num_congr 32 he]
  simp

/-- Where a comparison stands. -/
def LessAt (f g : Nat → Int) : Type := { x : Int // -1 ≤ x ∧ x ≤ 31 ∧ ∀ j : Nat, (x + 1).toNat ≤ j → j < 32 → f j = g j }

/-- Where a sum stands. -/
def sumN (f g : Nat → Int) : Int := num 32 f + num 32 g
theorem sum_step (f g : Nat → Int) (k : Nat) : (num (k + 1) f + num (k + 1) g) / 256 ^ (k + 1) = ((num k f + num k g) / 256 ^ k + f k + g k) / 256 := by
  rw [num_last, num_last, Int.pow_succ, ← Int.ediv_ediv_of_nonneg (Int.le_of_lt (Int.pow_pos (by decide)))]
  congr 1
  have e : num k f + 256 ^ k * f k + (num k g + 256 ^ k * g k) = (num k f + num k g) + 256 ^ k * (f k + g k) := by rw [Int.mul_add]; omega
  rw [e, Int.add_mul_ediv_left _ _ (Int.ne_of_gt (Int.pow_pos (by decide)))]
  omega
theorem sum_byte {f g : Nat → Int} {k : Nat} (hk : k < 32) : byt (sumN f g) k = ((num k f + num k g) / 256 ^ k + f k + g k) % 256 := by
  have e : 32 = (k + 1) + (31 - k) := by omega
  unfold sumN byt
  rw [e, num_split (k + 1), num_split (k + 1) _ g, num_last, num_last]
  have e2 : num k f + 256 ^ k * f k + 256 ^ (k + 1) * num (31 - k) (fun i => f (k + 1 + i)) + (num k g + 256 ^ k * g k + 256 ^ (k + 1) * num (31 - k) (fun i => g (k + 1 + i))) =
      (num k f + num k g) + 256 ^ k * ((f k + g k) + 256 * (num (31 - k) (fun i => f (k + 1 + i)) + num (31 - k) (fun i => g (k + 1 + i)))) := by
    rw [Int.pow_succ]
    grind
  rw [e2, Int.add_mul_ediv_left _ _ (Int.ne_of_gt (Int.pow_pos (by decide)))]
  omega
theorem carry_bounds {f g : Nat → Int} {k : Nat} (hf : IsBytes k f) (hg : IsBytes k g) : 0 ≤ (num k f + num k g) / 256 ^ k ∧ (num k f + num k g) / 256 ^ k ≤ 1 := by
  have h1 := num_bounds k f hf
  have h2 := num_bounds k g hg
  have hp : (0 : Int) < 256 ^ k := Int.pow_pos (by decide)
  constructor
  · exact Int.ediv_nonneg (by omega) (by omega)
  · have : (num k f + num k g) / 256 ^ k < 2 := Int.ediv_lt_of_lt_mul hp (by omega)
    omega
theorem number_bytes {x : Int} (hx : 0 ≤ x ∧ x < 256) : ∀ i, i < 32 → upd (fun _ => 0) 0 x i = byt x i := by
  intro i _
  unfold upd byt
  by_cases h : i = 0
  · subst h; simp only [if_true, Int.pow_zero, Int.ediv_one]; omega
  · rw [if_neg h]
    obtain ⟨k, rfl⟩ : ∃ k, i = k + 1 := ⟨i - 1, by omega⟩
    rw [Int.pow_succ', ← Int.ediv_ediv_of_nonneg (by decide)]
    have e : x / 256 = 0 := by omega
    rw [e]
    simp
theorem prime_bytes : ∀ i, i < 32 → upd (upd (fun i => if i < 32 then 255 else 0) 0 237) 31 127 i = byt p25 i := by decide
/-- What is carried behind k bytes. -/
def sumC (f g : Nat → Int) (k : Nat) : Int := (num k f + num k g) / 256 ^ k
end Sx
