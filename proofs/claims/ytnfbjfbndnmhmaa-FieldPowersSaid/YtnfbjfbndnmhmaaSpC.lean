/-
  Package field's calls, number by number: what they come to and their contracts.
-/
import Derived.Test.YtnfbjfbndnmhmaaSpB
namespace Sx
open Go

/-- Of two numbers of 32 bytes, one. -/
def bin32C (F : (Nat → Int) → (Nat → Int) → Nat → Int) : Contract := fun vs => match vs with
  | [.arr .u8 32 f, .arr .u8 32 g] => some ([], .arr .u8 32 (F f g))
  | _ => none
def un32C (F : (Nat → Int) → Nat → Int) : Contract := fun vs => match vs with
  | [.arr .u8 32 f] => some ([], .arr .u8 32 (F f))
  | _ => none
def bool32C (F : (Nat → Int) → Bool) : Contract := fun vs => match vs with
  | [.arr .u8 32 f] => some ([], .bool (.sym (F f)))
  | _ => none
def bool232C (F : (Nat → Int) → (Nat → Int) → Bool) : Contract := fun vs => match vs with
  | [.arr .u8 32 f, .arr .u8 32 g] => some ([], .bool (.sym (F f g)))
  | _ => none

def redN (f : Nat → Int) : Int := num 32 f % p25
def mulN (f g : Nat → Int) : Int := num 32 f * num 32 g % p25
def addN (f g : Nat → Int) : Int := (num 32 f + num 32 g) % p25
def subN (f g : Nat → Int) : Int := (num 32 f - num 32 g) % p25

theorem lim_add {a b : Int} {x y : Int} (h1 : a % p25 = x % p25) (h2 : b % p25 = y % p25) : (a + b) % p25 = (x + y) % p25 := by
  rw [Int.add_emod, h1, h2, ← Int.add_emod]
theorem lim_sub {a b : Int} {x y : Int} (h1 : a % p25 = x % p25) (h2 : b % p25 = y % p25) : (a - b) % p25 = (x - y) % p25 := by
  rw [Int.sub_emod, h1, h2, ← Int.sub_emod]
theorem lim_mul {a b : Int} {x y : Int} (h1 : a % p25 = x % p25) (h2 : b % p25 = y % p25) : (a * b) % p25 = (x * y) % p25 := by
  rw [Int.mul_emod, h1, h2, ← Int.mul_emod]

theorem red_bytes {f : Nat → Int} (hf : IsBytes 32 f) : ∀ i, i < 32 → bytesF (loadF f) i = byt (redN f) i := by
  obtain ⟨h1, h2⟩ := load_spec hf
  intro i hi
  rw [bytes_spec h2.fit i hi, h1]
  rfl
theorem mul_bytes {f g : Nat → Int} (hf : IsBytes 32 f) (hg : IsBytes 32 g) : ∀ i, i < 32 → bytesF (timesF (loadF f) (loadF g)) i = byt (mulN f g) i := by
  obtain ⟨h1, h2⟩ := load_spec hf
  obtain ⟨h3, h4⟩ := load_spec hg
  obtain ⟨h5, h6⟩ := times_spec h2 h4
  intro i hi
  rw [bytes_spec h6.fit i hi, h5, lim_mul h1 h3]
  rfl
theorem add_bytes {f g : Nat → Int} (hf : IsBytes 32 f) (hg : IsBytes 32 g) : ∀ i, i < 32 → bytesF (settleF (addP (loadF f) (loadF g))) i = byt (addN f g) i := by
  obtain ⟨h1, h2⟩ := load_spec hf
  obtain ⟨h3, h4⟩ := load_spec hg
  obtain ⟨h5, h6⟩ := addP_spec h2 h4
  obtain ⟨h7, h8⟩ := settle_spec h5
  intro i hi
  rw [bytes_spec h8.fit i hi, h7, h6, lim_add h1 h3]
  rfl
theorem sub_bytes {f g : Nat → Int} (hf : IsBytes 32 f) (hg : IsBytes 32 g) : ∀ i, i < 32 → bytesF (settleF (subP (loadF f) (loadF g))) i = byt (subN f g) i := by
  obtain ⟨h1, h2⟩ := load_spec hf
  obtain ⟨h3, h4⟩ := load_spec hg
  obtain ⟨h5, h6⟩ := subP_spec h2 h4
  obtain ⟨h7, h8⟩ := settle_spec h5
  intro i hi
  rw [bytes_spec h8.fit i hi, h7, h6]
  have e : (lim (loadF f) - lim (loadF g) + 2 * p25) % p25 = (lim (loadF f) - lim (loadF g)) % p25 := by
    rw [Int.add_mul_emod_self_right]
  rw [e, lim_sub h1 h3]
  rfl

theorem modp (n : Int) : 0 ≤ n % p25 ∧ n % p25 < p25 := ⟨Int.emod_nonneg _ (by decide), Int.emod_lt_of_pos _ (by decide)⟩
theorem modp_big (n : Int) : 0 ≤ n % p25 ∧ n % p25 < 256 ^ 32 := by
  have h := modp n
  have e : (256 : Int) ^ 32 = 115792089237316195423570985008687907853269984665640564039457584007913129639936 := by decide
  rw [e]
  simp only [p25] at h ⊢
  omega
theorem num_mod (n : Int) : num 32 (byt (n % p25)) = n % p25 := num_byt 32 _ (modp_big n).1 (modp_big n).2

theorem num_red (f : Nat → Int) : num 32 (byt (redN f)) = num 32 f % p25 := num_mod _
theorem num_mul (f g : Nat → Int) : num 32 (byt (mulN f g)) = num 32 f * num 32 g % p25 := num_mod _
theorem num_add (f g : Nat → Int) : num 32 (byt (addN f g)) = (num 32 f + num 32 g) % p25 := num_mod _
theorem num_sub (f g : Nat → Int) : num 32 (byt (subN f g)) = (num 32 f - num 32 g) % p25 := num_mod _

theorem eqA_congr {n : Nat} {f f' g g' : Nat → Int} (hf : ∀ i, i < n → f i = f' i) (hg : ∀ i, i < n → g i = g' i) : realEqA n f g = realEqA n f' g' := by
  rw [Bool.eq_iff_iff]
  simp only [realEqA, List.all_eq_true, List.mem_range, beq_iff_eq]
  exact ⟨fun h i hi => by rw [← hf i hi, ← hg i hi]; exact h i hi, fun h i hi => by rw [hf i hi, hg i hi]; exact h i hi⟩

def canB (f : Nat → Int) : Bool := decide (num 32 f < p25)
def eqB (f g : Nat → Int) : Bool := decide (num 32 f % p25 = num 32 g % p25)
def oddB (f : Nat → Int) : Bool := decide (num 32 f % p25 % 2 = 1)

theorem can_eq {f : Nat → Int} (hf : IsBytes 32 f) : realEqA 32 (bytesF (loadF f)) f = canB f := by
  rw [eqA_congr (red_bytes hf) (fun _ _ => rfl), eqA_num (byt_isBytes _ _) hf, num_red]
  have hb := (num_bounds 32 f hf).1
  unfold canB
  rw [Bool.eq_iff_iff]
  simp only [beq_iff_eq, decide_eq_true_eq]
  constructor
  · intro h; rw [← h]; exact (modp _).2
  · intro h; exact Int.emod_eq_of_lt hb h
theorem eq_eq {f g : Nat → Int} (hf : IsBytes 32 f) (hg : IsBytes 32 g) : realEqA 32 (bytesF (loadF f)) (bytesF (loadF g)) = eqB f g := by
  rw [eqA_congr (red_bytes hf) (red_bytes hg), eqA_num (byt_isBytes _ _) (byt_isBytes _ _), num_red, num_red]
  unfold eqB
  rw [Bool.eq_iff_iff]
  simp only [beq_iff_eq, decide_eq_true_eq]
theorem and_one_u8 {x : Int} (h : 0 ≤ x ∧ x < 256) : realBin .and .u8 x 1 = x % 2 := and_mask (k := .u8) rfl ⟨h.1, by have e : (2 : Int) ^ IntKind.bits .u8 = 256 := rfl; rw [e]; exact h.2⟩ 1 (by decide)
theorem odd_eq {f : Nat → Int} (hf : IsBytes 32 f) : realCmp .eql (realBin .and .u8 (bytesF (loadF f) 0) 1) 1 = oddB f := by
  rw [red_bytes hf 0 (by decide), and_one_u8 (byt_isBytes _ 32 0 (by decide))]
  unfold oddB redN
  rw [Bool.eq_iff_iff]
  simp only [realCmp, byt, Int.pow_zero, Int.ediv_one, beq_iff_eq, decide_eq_true_eq]
  have := modp (num 32 f)
  omega
theorem isB {f : Nat → Int} (h : wfV (.arr .u8 32 f)) : IsBytes 32 f := fun i hi => inR_u8.1 (h i hi)
theorem num_zero : ∀ n, num n (fun _ => 0) = 0
  | 0 => rfl
  | n + 1 => by simp only [num, num_zero n]; rfl
theorem neg_bytes {f : Nat → Int} (hf : IsBytes 32 f) : ∀ i, i < 32 → bytesF (settleF (subP (fun _ => 0) (loadF f))) i = byt (subN (fun _ => 0) f) i := by
  obtain ⟨h1, h2⟩ := load_spec hf
  have hz : Tidy (fun _ => 0) := by
    refine ⟨⟨Int.le_refl _, ?_⟩, fun _ _ _ => ⟨Int.le_refl _, ?_⟩⟩
    · show (0 : Int) < _
      decide
    · show (0 : Int) < _
      decide
  obtain ⟨h5, h6⟩ := subP_spec hz h2
  obtain ⟨h7, h8⟩ := settle_spec h5
  intro i hi
  rw [bytes_spec h8.fit i hi, h7, h6]
  have e : (lim (fun _ => 0) - lim (loadF f) + 2 * p25) % p25 = (lim (fun _ => 0) - lim (loadF f)) % p25 := by
    rw [Int.add_mul_emod_self_right]
  have h0 : lim (fun _ => 0) % p25 = num 32 (fun _ => 0) % p25 := by rw [num_zero]; rfl
  rw [e, lim_sub h0 h1]
  rfl
end Sx
