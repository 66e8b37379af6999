/-
  What the laws reckon of digits: two lists alike; digits that add up to a number.
-/
import Derived.Test.YtfpeolihnaeolaaScJ
namespace Sx
open Go Go.RowKit

def sameB (la : Nat) (f : Nat → Int) (lb : Nat) (g : Nat → Int) : Bool := decide (la = lb ∧ ∀ i, i < la → f i = g i)
def sameC (S : Nat → (Nat → Int) → Nat → (Nat → Int) → Bool) : Contract := fun vs => match vs with
  | [.xsl .i8 1 la _ f, .xsl .i8 1 lb _ g] => some ([], .bool (.sym (S la.val f lb.val g)))
  | _ => none
theorem sameB_self (n : Nat) (f : Nat → Int) : sameB n f n f = true := decide_eq_true ⟨rfl, fun _ _ => rfl⟩
theorem sameB_len {la lb : Nat} {f g : Nat → Int} (h : la ≠ lb) : sameB la f lb g = false := decide_eq_false fun e => h e.1
theorem sameB_at {n i : Nat} {f g : Nat → Int} (hi : i < n) (h : f i ≠ g i) : sameB n f n g = false := decide_eq_false fun e => h (e.2 i hi)
theorem sameB_all {n : Nat} {f g : Nat → Int} (h : ∀ i, i < n → f i = g i) : sameB n f n g = true := decide_eq_true ⟨rfl, h⟩
theorem isX8 {cap len : SO} {f : Nat → Int} (h : wfV (.xsl .i8 1 len cap f)) : IsDigs len.val f := fun i hi => inR_i8.1 (h i (by omega))
theorem dbool (c w : Bool) : (match c with | true => true | false => w) = (c || w) := by cases c <;> rfl
theorem dband (c w : Bool) : (match c with | true => w | false => false) = (c && w) := by cases c <;> rfl
end Sx
namespace Sx
open Go Go.RowKit
def boolAIC (F : (Nat → Int) → Int → Bool) : Contract := fun vs => match vs with
  | [.arr .u8 32 a, .int .i64 w] => some ([], .bool (.sym (F a w.val)))
  | _ => none
theorem dig_two : digE 2 = 0 ∧ digL 2 = 257 := by decide
theorem digE_one {w : Int} (h : digW w = false) : digE w = 1 ∧ digL w = 0 := by unfold digE digL; rw [h]; decide
theorem digE_nil {w : Int} (h : digW w = true) : digE w = 0 ∧ digL w = 257 := by unfold digE digL; rw [h]; decide

/-! Adding up from the lowest bit. -/
def addsC (S : Nat → (Nat → Int) → (Nat → Int) → Bool) : Contract := fun vs => match vs with
  | [.xsl .i8 1 la _ f, .arr .u8 32 a] => some ([Upto300 la.val], .bool (.sym (S la.val f a)))
  | _ => none
end Sx
namespace Sx
open Go Go.RowKit
structure Adds (n : Nat) (f : Nat → Int) (a : Nat → Int) : Prop where
  h : sumB 2 n f = num 32 a ∧ 256 ≤ n ∧ n ≤ 300
def addsP : Contract := fun vs => match vs with
  | [.xsl .i8 1 la _ f, .arr .u8 32 a] => some ([Adds la.val f a], .bool (.sym true))
  | _ => none
def adT (n : Nat) (f : Nat → Int) (i : Nat) : Int := sumB 2 (n - i) fun j => f (i + j)
def adC (n : Nat) (f : Nat → Int) (N : Int) (i : Nat) : Int := N / 2 ^ i - adT n f i
theorem adT_step {n : Nat} {f : Nat → Int} {i : Nat} (h : i < n) : adT n f i = f i + 2 * adT n f (i + 1) := by
  unfold adT
  obtain ⟨m, hm⟩ : ∃ m, n - i = 1 + m := ⟨n - i - 1, by omega⟩
  have e : n - (i + 1) = m := by omega
  rw [hm, e, sumB_split]
  have e1 : sumB 2 1 (fun j => f (i + j)) = f i := by simp [sumB]
  rw [e1, show ((2 : Int) ^ 1) = 2 from rfl]
  congr 2
  exact sumB_congr fun j _ => by congr 1; omega
theorem adC_zero {n : Nat} {f a : Nat → Int} (h : Adds n f a) : adC n f (num 32 a) 0 = 0 := by
  unfold adC adT
  have e : sumB 2 (n - 0) (fun j => f (0 + j)) = num 32 a := by
    rw [← h.h.1]
    exact sumB_congr fun j _ => by congr 1; omega
  rw [e]
  simp
theorem adC_step {n : Nat} {f : Nat → Int} {N : Int} {i : Nat} (h : i < n) : adC n f N i + f i - N / 2 ^ i % 2 = 2 * adC n f N (i + 1) := by
  have hp : (0 : Int) < 2 ^ i := Int.pow_pos (by decide)
  unfold adC
  rw [adT_step h, Int.pow_succ, ← Int.ediv_ediv_of_nonneg (by omega)]
  omega
theorem adC_range {n : Nat} {f a : Nat → Int} (h : Adds n f a) (hf : IsDigs n f) : ∀ i, i ≤ n → -129 ≤ adC n f (num 32 a) i ∧ adC n f (num 32 a) i ≤ 129
  | 0, _ => by rw [adC_zero h]; omega
  | i + 1, hi => by
    have h1 := adC_range h hf i (by omega)
    have h2 := adC_step (f := f) (N := num 32 a) (show i < n by omega)
    have h3 := hf i (by omega)
    omega
theorem adC_end {n : Nat} {f a : Nat → Int} (h : Adds n f a) (ha : IsBytes 32 a) : adC n f (num 32 a) n = 0 := by
  have hr := num_range ha
  have hp : (256 : Int) ^ 32 ≤ 2 ^ n := by
    have h1 : (2 : Nat) ^ 256 ≤ 2 ^ n := Nat.pow_le_pow_right (by decide) h.h.2.1
    have e : (256 : Int) ^ 32 = ((2 ^ 256 : Nat) : Int) := by decide
    rw [e]
    exact_mod_cast h1
  unfold adC adT
  rw [Int.ediv_eq_zero_of_lt hr.1 (Int.lt_of_lt_of_le hr.2 hp), Nat.sub_self]
  rfl
theorem bit_past {a : Nat → Int} (ha : IsBytes 32 a) {i : Nat} (h : 256 ≤ i) : num 32 a / 2 ^ i % 2 = 0 := by
  have hr := num_range ha
  have hp : (256 : Int) ^ 32 ≤ 2 ^ i := by
    have h1 : (2 : Nat) ^ 256 ≤ 2 ^ i := Nat.pow_le_pow_right (by decide) h
    have e : (256 : Int) ^ 32 = ((2 ^ 256 : Nat) : Int) := by decide
    rw [e]
    exact_mod_cast h1
  rw [Int.ediv_eq_zero_of_lt hr.1 (Int.lt_of_lt_of_le hr.2 hp)]
  rfl
theorem rem_two (c : Int) : realBin .rem .i64 (2 * c) 2 = 0 := Int.mul_tmod_right 2 c
theorem quo_two {c : Int} (h : -9223372036854775808 ≤ c ∧ c < 9223372036854775808) : realBin .quo .i64 (2 * c) 2 = c := by
  show IntKind.wrap .i64 ((2 * c).tdiv 2) = c
  rw [Int.mul_tdiv_cancel_left c (by decide : (2 : Int) ≠ 0), wrap_i64 h]
theorem rem_odd {v : Int} (h : v % 2 = 1) : realBin .rem .i64 v 2 ≠ 0 := by
  intro e
  have h1 : v.tmod 2 = 0 := e
  have h2 : (2 : Int) ∣ v := Int.dvd_of_tmod_eq_zero h1
  omega
/-- Where the last digit that isn't 0 stands. -/
def LastAt (w : Nat) (N : Int) (p : Nat × Int) : Prop := p.1 ≤ 257 ∧ ((p.2 = -(w : Int)) ∨ (∃ x : Nat, p.2 = (x : Int) ∧ x < p.1 ∧ nafF w N x ≠ 0))
theorem last_gap {w : Nat} (h : Wid w) {N : Int} {p : Nat × Int} (hp : LastAt w N p) (hd : nafF w N p.1 ≠ 0) : (w : Int) ≤ (p.1 : Int) - p.2 := by
  obtain ⟨h1, h2 | ⟨x, hx, hlt, hx0⟩⟩ := hp
  · omega
  · have := naf_apart h N hlt hx0 hd
    omega
theorem last_range {w : Nat} (h : Wid w) {N : Int} {p : Nat × Int} (hp : LastAt w N p) : -8 ≤ p.2 ∧ p.2 ≤ 257 := by
  have hw := h.h
  obtain ⟨h1, h2 | ⟨x, hx, hlt, hx0⟩⟩ := hp <;> omega
end Sx
