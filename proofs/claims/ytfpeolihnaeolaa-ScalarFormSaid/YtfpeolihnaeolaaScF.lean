/-
  The document's numbers of bytes: what is left of a division by L, found bit by bit.
-/
import Derived.Test.YtfpeolihnaeolaaScE
import Derived.Test.YtfpeolihnaeolaaScD
namespace Sx
open Go Go.RowKit

theorem lssT {a b : Int} (h : realCmp .lss a b = true) : a < b := of_decide_eq_true h
theorem lssF {a b : Int} (h : realCmp .lss a b = false) : b ≤ a := by have h2 : ¬ a < b := of_decide_eq_false h; omega
theorem leqT {a b : Int} (h : realCmp .leq a b = true) : a ≤ b := of_decide_eq_true h
theorem leqF {a b : Int} (h : realCmp .leq a b = false) : b < a := by have h2 : ¬ a ≤ b := of_decide_eq_false h; omega
theorem gtrT {a b : Int} (h : realCmp .gtr a b = true) : b < a := of_decide_eq_true h
theorem gtrF {a b : Int} (h : realCmp .gtr a b = false) : a ≤ b := by have h2 : ¬ b < a := of_decide_eq_false h; omega
theorem geqT {a b : Int} (h : realCmp .geq a b = true) : b ≤ a := of_decide_eq_true h
theorem geqF {a b : Int} (h : realCmp .geq a b = false) : a < b := by have h2 : ¬ b ≤ a := of_decide_eq_false h; omega
theorem eqlT {a b : Int} (h : realCmp .eql a b = true) : a = b := by simpa [realCmp] using h
theorem eqlF {a b : Int} (h : realCmp .eql a b = false) : a ≠ b := by simpa [realCmp] using h
theorem neqT {a b : Int} (h : realCmp .neq a b = true) : a ≠ b := by simpa [realCmp] using h
theorem neqF {a b : Int} (h : realCmp .neq a b = false) : a = b := by simpa [realCmp] using h

structure Short (n : Nat) : Prop where
  h : n ≤ 4096
structure Dig33 (r : Nat → Int) : Prop where
  h : IsDig 256 33 r
def belowC (B : (Nat → Int) → (Nat → Int) → Bool) : Contract := fun vs => match vs with
  | [.arr .i64 33 r, .arr .u8 32 b] => some ([Dig33 r], .bool (.sym (B r b)))
  | _ => none
def restC (R : Nat → (Nat → Int) → Nat → Int) : Contract := fun vs => match vs with
  | [.xsl .u8 1 len _ b] => some ([Short len.val], .arr .u8 32 (R len.val b))
  | _ => none
def below33 (r b : Nat → Int) : Bool := decide (sumB 256 33 r < num 32 b)

theorem p256 : (0 : Int) < 256 := by decide
theorem sum33 (r : Nat → Int) : sumB 256 33 r = num 32 r + 256 ^ 32 * r 32 := by
  rw [num_sumB]; rfl
theorem below_top {r b : Nat → Int} (hr : Dig33 r) (hb : IsBytes 32 b) (h : r 32 ≠ 0) : below33 r b = false := by
  have h1 := hr.h 32 (by decide)
  have h2 := num_range hb
  have h3 := num_range (n := 32) (f := r) (fun i hi => hr.h i (by omega))
  unfold below33
  rw [sum33]
  exact decide_eq_false (by omega)
theorem below_num {r b : Nat → Int} (h : r 32 = 0) : below33 r b = ltB r b := by
  unfold below33 ltB
  rw [sum33, h, Int.mul_zero, Int.add_zero]
theorem dig33_bytes {r : Nat → Int} (hr : Dig33 r) : IsBytes 32 r := fun i hi => hr.h i (by omega)
theorem dig33_dgt (N : Int) : Dig33 (dgt 256 N) := ⟨dgt_isDig p256 N 33⟩

theorem bit_num {n : Nat} {e : Nat → Int} (he : IsBytes n e) {i : Nat} (hi : i < 8 * n) : e (i / 8) / 2 ^ (i % 8) % 2 = num n e / 2 ^ i % 2 := by
  have h1 : (2 : Int) ^ i = 256 ^ (i / 8) * 2 ^ (i % 8) := by
    have e1 : (256 : Int) = 2 ^ 8 := by decide
    rw [e1, ← Int.pow_mul, ← Int.pow_add]
    congr 1
    omega
  have hp : (0 : Int) < 256 ^ (i / 8) := Int.pow_pos (by decide)
  rw [h1, ← Int.ediv_ediv_of_nonneg (by omega), num_div (i / 8) n e (by omega) he]
  obtain ⟨m, hm⟩ : ∃ m, n - i / 8 = m + 1 := ⟨n - i / 8 - 1, by omega⟩
  rw [hm]
  simp only [num, Nat.add_zero]
  have hk : i % 8 < 8 := Nat.mod_lt _ (by decide)
  generalize i % 8 = k at hk
  generalize num m (fun j => e (i / 8 + (j + 1))) = T
  generalize e (i / 8) = b
  match k, hk with
  | 0, _ => simp only [Int.pow_zero, Int.ediv_one]; omega
  | 1, _ => simp only [Int.reducePow]; omega
  | 2, _ => simp only [Int.reducePow]; omega
  | 3, _ => simp only [Int.reducePow]; omega
  | 4, _ => simp only [Int.reducePow]; omega
  | 5, _ => simp only [Int.reducePow]; omega
  | 6, _ => simp only [Int.reducePow]; omega
  | 7, _ => simp only [Int.reducePow]; omega

/-! The rest, bit by bit: i bits are still to come. -/
def restR (n : Nat) (b : Nat → Int) (m : Nat) : Int := num n b / 2 ^ m % lI
def restB (n : Nat) (b : Nat → Int) (i : Nat) : Int := num n b / 2 ^ i % 2
def restX (n : Nat) (b : Nat → Int) (i : Nat) : Int := 2 * restR n b (i + 1) + restB n b i
section
variable {n : Nat} {b : Nat → Int} {i : Nat}
theorem restB_range : 0 ≤ restB n b i ∧ restB n b i ≤ 1 := by unfold restB; omega
theorem restR_range {m : Nat} : 0 ≤ restR n b m ∧ restR n b m < lI := modl _
theorem restX_range : 0 ≤ restX n b i ∧ restX n b i < 2 * lI := by
  have h1 := restR_range (n := n) (b := b) (m := i + 1)
  have h2 := restB_range (n := n) (b := b) (i := i)
  unfold restX
  omega
theorem rest_both : (restX n b i < lI → restR n b i = restX n b i) ∧ (lI ≤ restX n b i → restR n b i = restX n b i - lI) := by
  have hp : (0 : Int) < 2 ^ i := Int.pow_pos (by decide)
  unfold restX restB restR
  rw [Int.pow_succ, ← Int.ediv_ediv_of_nonneg (by omega)]
  generalize num n b / 2 ^ i = y
  simp only [lI]
  omega
theorem rest_zero (hb : IsBytes n b) : restR n b (8 * n) = 0 := by
  have h := num_range hb
  have e : (2 : Int) ^ (8 * n) = 256 ^ n := by
    have e1 : (256 : Int) = 2 ^ 8 := by decide
    rw [e1, ← Int.pow_mul]
  unfold restR
  rw [e, Int.ediv_eq_zero_of_lt h.1 h.2]
  rfl
theorem rest_all : restR n b 0 = num n b % lI := by simp [restR]
theorem below_X : below33 (dgt 256 (restX n b i)) (byt lI) = decide (restX n b i < lI) := by
  have h := restX_range (n := n) (b := b) (i := i)
  unfold below33
  rw [num_order, sumB_dgt_lt p256 h.1 (Int.lt_trans h.2 (by decide))]

/-- Doubling. -/
def dblA (n : Nat) (b : Nat → Int) (i j : Nat) : Nat → Int := fun k => if k < j then dgt 256 (restX n b i) k else dgt 256 (restR n b (i + 1)) k
def dblC (n : Nat) (b : Nat → Int) (i j : Nat) : Int := carB 256 (fun k => 2 * dgt 256 (restR n b (i + 1)) k) (restB n b i) j
theorem dbl_zero (k : Nat) : dblA n b i 0 k = dgt 256 (restR n b (i + 1)) k := if_neg (Nat.not_lt_zero k)
theorem dbl_czero : dblC n b i 0 = restB n b i := carB_zero _ _ _
theorem dbl_at (j : Nat) : dblA n b i j j = dgt 256 (restR n b (i + 1)) j := if_neg (Nat.lt_irrefl j)
theorem dbl_end {k : Nat} (hk : k < 33) : dblA n b i 33 k = dgt 256 (restX n b i) k := if_pos hk
theorem dig_range (N : Int) (k : Nat) : 0 ≤ dgt 256 N k ∧ dgt 256 N k < 256 := dgt_isDig p256 N (k + 1) k (by omega)
theorem dblC_range (j : Nat) : 0 ≤ dblC n b i j ∧ dblC n b i j ≤ 1 := by
  have h2 := restB_range (n := n) (b := b) (i := i)
  have hp := powB_pos p256 j
  unfold dblC carB
  rw [sumB_mul, sumB_dgt p256]
  have h3 := Int.emod_nonneg (restR n b (i + 1)) (b := 256 ^ j) (by omega)
  have h4 := Int.emod_lt_of_pos (restR n b (i + 1)) hp
  generalize restR n b (i + 1) % 256 ^ j = x at h3 h4
  generalize (256 : Int) ^ j = p at hp h4
  refine ⟨Int.ediv_nonneg (by omega) (by omega), ?_⟩
  have : (2 * x + restB n b i) / p < 2 := Int.ediv_lt_of_lt_mul hp (by omega)
  omega
theorem dbl_step {j : Nat} (hj : j < 33) : (2 * dblA n b i j j + dblC n b i j) % 256 = dgt 256 (restX n b i) j ∧ (2 * dblA n b i j j + dblC n b i j) / 256 = dblC n b i (j + 1) := by
  have h1 := restR_range (n := n) (b := b) (m := i + 1)
  rw [dbl_at]
  refine ⟨?_, by unfold dblC; rw [carB_succ p256]⟩
  have h := dgt_car p256 (fun k => 2 * dgt 256 (restR n b (i + 1)) k) (restB n b i) hj
  rw [sumB_mul, sumB_dgt_lt p256 h1.1 (Int.lt_trans h1.2 (by decide))] at h
  exact h.symm
theorem dbl_upd {j : Nat} (k : Nat) : (if k = j then dgt 256 (restX n b i) j else dblA n b i j k) = dblA n b i (j + 1) k := by
  unfold dblA
  by_cases h : k = j
  · subst h; rw [if_pos rfl, if_pos (by omega)]
  · rw [if_neg h]
    by_cases h2 : k < j
    · rw [if_pos h2, if_pos (by omega)]
    · rw [if_neg h2, if_neg (by omega)]

/-- L is taken off. -/
def restS (n : Nat) (b : Nat → Int) (i : Nat) : Int := restX n b i - lI
def ordD : Nat → Int := dgt 256 lI
theorem ordD_range (j : Nat) : 0 ≤ ordD j ∧ ordD j < 256 := dig_range lI j
theorem rest_sub (h : lI ≤ restX n b i) : restR n b i = restS n b i := rest_both.2 h
def subA (n : Nat) (b : Nat → Int) (i j : Nat) : Nat → Int := fun k => if k < j then dgt 256 (restS n b i) k else dgt 256 (restX n b i) k
def subB (n : Nat) (b : Nat → Int) (i j : Nat) : Int := - carB 256 (fun k => dgt 256 (restX n b i) k - ordD k) 0 j
theorem sub_zero (k : Nat) : subA n b i 0 k = dgt 256 (restX n b i) k := if_neg (Nat.not_lt_zero k)
theorem sub_bzero : subB n b i 0 = 0 := by unfold subB; rw [carB_zero]; rfl
theorem sub_at (j : Nat) : subA n b i j j = dgt 256 (restX n b i) j := if_neg (Nat.lt_irrefl j)
theorem sub_end {k : Nat} (hk : k < 33) : subA n b i 33 k = dgt 256 (restS n b i) k := if_pos hk
theorem subB_range (j : Nat) : 0 ≤ subB n b i j ∧ subB n b i j ≤ 1 := by
  have hp := powB_pos p256 j
  unfold subB carB
  unfold ordD
  rw [sumB_sub, sumB_dgt p256, sumB_dgt p256, Int.add_zero]
  have h3 := Int.emod_nonneg (restX n b i) (b := 256 ^ j) (by omega)
  have h4 := Int.emod_lt_of_pos (restX n b i) hp
  have h5 := Int.emod_nonneg lI (b := 256 ^ j) (by omega)
  have h6 := Int.emod_lt_of_pos lI hp
  generalize restX n b i % 256 ^ j = x at h3 h4
  generalize lI % 256 ^ j = y at h5 h6
  generalize (256 : Int) ^ j = p at hp h4 h6
  have h7 : -1 ≤ (x - y) / p := Int.le_ediv_of_mul_le hp (by omega)
  have h8 : (x - y) / p < 1 := Int.ediv_lt_of_lt_mul hp (by omega)
  omega
theorem sub_step {j : Nat} (hj : j < 33) {v : Int} (hv : v = dgt 256 (restX n b i) j - subB n b i j - ordD j) :
    (v < 0 → v + 256 = dgt 256 (restS n b i) j ∧ 1 = subB n b i (j + 1)) ∧ (0 ≤ v → v = dgt 256 (restS n b i) j ∧ 0 = subB n b i (j + 1)) := by
  have h1 := restX_range (n := n) (b := b) (i := i)
  have h := dgt_car p256 (fun k => dgt 256 (restX n b i) k - dgt 256 lI k) 0 hj
  rw [sumB_sub, sumB_dgt_lt p256 h1.1 (Int.lt_trans h1.2 (by decide)), sumB_dgt_lt p256 (N := lI) (by decide) (by decide), Int.add_zero] at h
  replace h : dgt 256 (restS n b i) j = (dgt 256 (restX n b i) j - ordD j + carB 256 (fun k => dgt 256 (restX n b i) k - ordD k) 0 j) % 256 := h
  have h2 : subB n b i (j + 1) = - ((dgt 256 (restX n b i) j - ordD j + carB 256 (fun k => dgt 256 (restX n b i) k - ordD k) 0 j) / 256) := by
    show - carB _ _ _ (j + 1) = _
    rw [carB_succ p256]
  have hr := subB_range (n := n) (b := b) (i := i) j
  have hc : carB 256 (fun k => dgt 256 (restX n b i) k - ordD k) 0 j = - subB n b i j := by unfold subB; omega
  rw [hc] at h h2
  rw [h, h2]
  have d1 := dig_range (restX n b i) j
  have d2 := ordD_range j
  generalize dgt 256 (restX n b i) j = x at *
  generalize ordD j = y at *
  generalize subB n b i j = z at *
  subst hv
  refine ⟨fun hv => ?_, fun hv => ?_⟩ <;> constructor <;> omega
theorem sub_upd {j : Nat} (k : Nat) : (if k = j then dgt 256 (restS n b i) j else subA n b i j k) = subA n b i (j + 1) k := by
  unfold subA
  by_cases h : k = j
  · subst h; rw [if_pos rfl, if_pos (by omega)]
  · rw [if_neg h]
    by_cases h2 : k < j
    · rw [if_pos h2, if_pos (by omega)]
    · rw [if_neg h2, if_neg (by omega)]
theorem ordD_32 : ordD 32 = 0 := by decide
theorem ordD_byt (j : Nat) : byt lI j = ordD j := rfl
end
end Sx
namespace Sx
open Go Go.RowKit
theorem shr_u8 {a s : Int} (h0 : 0 ≤ s) (h : s ≤ 8) : realBin .shr .u8 a s = a / 2 ^ s.toNat := by
  obtain ⟨t, rfl⟩ := Int.eq_ofNat_of_zero_le h0
  exact shr_any .u8 a t (by simp [IntKind.bits]; omega)
/-- A bit is looked up. -/
theorem bit_look {n : Nat} {b : Nat → Int} (hb : IsBytes n b) {i : Nat} (hi : i < 8 * n) :
    realBin .rem .i64 (IntKind.wrap .i64 (realBin .shr .u8 (b (i / 8)) (IntKind.wrap .u64 ((i % 8 : Nat) : Int)))) 2 = num n b / 2 ^ i % 2 := by
  have h1 := hb (i / 8) (by omega)
  have h2 : i % 8 < 8 := Nat.mod_lt _ (by decide)
  rw [wrap_u64, Int.emod_eq_of_lt (by omega) (by omega), shr_u8 (by omega) (by omega), Int.toNat_natCast]
  have hp : (0 : Int) < 2 ^ (i % 8) := Int.pow_pos (by decide)
  have h3 : 0 ≤ b (i / 8) / 2 ^ (i % 8) := Int.ediv_nonneg h1.1 (by omega)
  have h4 : b (i / 8) / 2 ^ (i % 8) ≤ b (i / 8) := Int.ediv_le_self _ h1.1
  rw [wrap_i64 (by omega), rem_i64 h3, bit_num hb hi]
end Sx
namespace Sx
open Go Go.RowKit
theorem below_congr {r r' b b' : Nat → Int} (hr : ∀ k, k < 33 → r k = r' k) (hb : ∀ k, k < 32 → b k = b' k) : below33 r b = below33 r' b' := by
  unfold below33
  rw [sumB_congr hr, num_congr 32 hb]
end Sx
