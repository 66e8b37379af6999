/-
  The value of digits: from the highest on, and heaped up.
-/
import Derived.Test.YtfpeolihnaeolaaScH
namespace Sx
open Go Go.RowKit

def valV (n : Nat) (d : Nat → Int) (i : Nat) : Int := sumB 2 i fun j => d (n - i + j)
theorem valV_zero (n : Nat) (d : Nat → Int) : valV n d 0 = 0 := rfl
theorem valV_succ {n i : Nat} (d : Nat → Int) (h : i < n) : valV n d (i + 1) = d (n - 1 - i) + 2 * valV n d i := by
  unfold valV
  have e := sumB_split (B := 2) (fun j => d (n - (i + 1) + j)) 1 i
  rw [Nat.add_comm 1 i] at e
  rw [e]
  have e1 : sumB 2 1 (fun j => d (n - (i + 1) + j)) = d (n - 1 - i) := by
    simp only [sumB, Int.pow_zero, Int.one_mul, Int.zero_add, Nat.add_zero]
    congr 1; omega
  rw [e1]
  congr 1
  rw [show ((2 : Int) ^ 1) = 2 from rfl]
  congr 1
  exact sumB_congr fun j _ => by congr 1; omega
theorem valV_all (n : Nat) (d : Nat → Int) : valV n d n = sumB 2 n d := by
  unfold valV
  exact sumB_congr fun j _ => by congr 1; omega

/-- What is left of the value of the top digits. -/
def valW (n : Nat) (d : Nat → Int) (i : Nat) : Nat → Int := dgt q64 (valV n d i % lI)
def oneW (x : Int) : Nat → Int := upd (fun _ => 0) 0 x
theorem W5_one (x : Int) : W5 (oneW x) = x := by
  unfold W5 oneW upd
  simp [sumB]
theorem is5_one {x : Int} (h : 0 ≤ x ∧ x < q64) : Is5 (oneW x) := by
  intro i _
  unfold oneW upd
  split
  · exact h
  · exact ⟨Int.le_refl _, q64_pos⟩
theorem W5_val (n : Nat) (d : Nat → Int) (i : Nat) : W5 (valW n d i) = valV n d i % lI := W5_mod _
theorem val_dbl (n : Nat) (d : Nat → Int) (i : Nat) : Top16 (plusW (valW n d i) (valW n d i)) ∧ W5 (foldW (plusW (valW n d i) (valW n d i))) = (2 * valV n d i) % lI := by
  have h1 := modl (valV n d i)
  have h2 : W5 (plusW (valW n d i) (valW n d i)) = valV n d i % lI + valV n d i % lI := by
    unfold plusW
    rw [W5_val]
    exact W5_dgt (by omega) (by simp only [lI] at *; omega)
  refine ⟨⟨by rw [h2]; simp only [lI] at *; omega⟩, ?_⟩
  rw [W5_fold, h2]
  simp only [lI]
  omega
theorem val_more {n : Nat} {d : Nat → Int} {i : Nat} (hi : i < n) {x : Int} (hx : x = d (n - 1 - i)) (h0 : 0 ≤ x) (h1 : x < 128) {a : Nat → Int} (ha : W5 a = (2 * valV n d i) % lI) :
    Top16 (plusW a (oneW x)) ∧ foldW (plusW a (oneW x)) = valW n d (i + 1) := by
  have h2 : W5 (plusW a (oneW x)) = (2 * valV n d i) % lI + x := by
    unfold plusW
    rw [ha, W5_one]
    exact W5_dgt (by simp only [lI]; omega) (by simp only [lI]; omega)
  refine ⟨⟨by rw [h2]; simp only [lI]; omega⟩, ?_⟩
  unfold foldW valW
  rw [h2, valV_succ d hi, ← hx]
  congr 1
  simp only [lI]
  omega
theorem val_less {n : Nat} {d : Nat → Int} {i : Nat} (hi : i < n) {x : Int} (hx : x = d (n - 1 - i)) (h0 : x < 0) (h1 : -128 ≤ x) {a m : Nat → Int} (ha : W5 a = (2 * valV n d i) % lI) (hm : W5 m = lI) :
    Top16 (minusW (plusW a m) (oneW (-x))) ∧ foldW (minusW (plusW a m) (oneW (-x))) = valW n d (i + 1) := by
  have h2 : W5 (plusW a m) = (2 * valV n d i) % lI + lI := by
    unfold plusW
    rw [ha, hm]
    exact W5_dgt (by simp only [lI]; omega) (by simp only [lI]; omega)
  have h3 : W5 (minusW (plusW a m) (oneW (-x))) = (2 * valV n d i) % lI + lI + x := by
    unfold minusW
    rw [h2, W5_one]
    rw [show (2 * valV n d i) % lI + lI - -x = (2 * valV n d i) % lI + lI + x by omega]
    exact W5_dgt (by simp only [lI]; omega) (by simp only [lI]; omega)
  refine ⟨⟨by rw [h3]; simp only [lI]; omega⟩, ?_⟩
  unfold foldW valW
  rw [h3, valV_succ d hi, ← hx]
  congr 1
  simp only [lI]
  omega

/-! Heaped up. -/
def posF (x : Int) : Int := if 0 < x then x else 0
theorem posF_range {x : Int} (h : -128 ≤ x ∧ x ≤ 128) : 0 ≤ posF x ∧ posF x ≤ 128 := by unfold posF; split <;> omega
def heapS (d : Nat → Int) (s : Int) : Nat → Nat → Int
  | 0 => fun _ => 0
  | i + 1 => fun j => heapS d s i j + (if j = i / 8 then posF (s * d i) * 2 ^ (i % 8) else 0)
structure Sgn (s : Int) : Prop where
  h : s = 1 ∨ s = -1
structure Upto300 (n : Nat) : Prop where
  h : n ≤ 300
def IsDigs (n : Nat) (d : Nat → Int) : Prop := ∀ i, i < n → -128 ≤ d i ∧ d i < 128
def heapH (n : Nat) (d : Nat → Int) (s : Int) : Int := sumB 2 n fun k => posF (s * d k)
theorem heapH_diff (d : Nat → Int) : ∀ n, heapH n d 1 - heapH n d (-1) = sumB 2 n d
  | 0 => rfl
  | n + 1 => by
    have h := heapH_diff d n
    unfold heapH at h ⊢
    simp only [sumB]
    have e : posF (1 * d n) - posF (-1 * d n) = d n := by unfold posF; split <;> split <;> omega
    have e2 : (2 : Int) ^ n * posF (1 * d n) - 2 ^ n * posF (-1 * d n) = 2 ^ n * d n := by rw [← Int.mul_sub, e]
    omega
theorem sumB_one {B x : Int} {k : Nat} : ∀ {N : Nat}, k < N → sumB B N (fun j => if j = k then x else 0) = B ^ k * x
  | 0, h => by omega
  | N + 1, h => by
    simp only [sumB]
    by_cases e : N = k
    · subst e
      rw [if_pos rfl]
      have : sumB B N (fun j => if j = N then x else 0) = 0 := by
        refine (sumB_congr (g := fun _ => 0) fun i hi => ?_).trans (sumB_zero N)
        rw [if_neg (by omega)]
      omega
    · rw [if_neg e, sumB_one (by omega)]
      omega
theorem heapS_sum (d : Nat → Int) (s : Int) : ∀ n, n ≤ 320 → sumB 256 40 (heapS d s n) = heapH n d s
  | 0, _ => sumB_zero 40
  | n + 1, h => by
    have h1 := heapS_sum d s n (by omega)
    show sumB 256 40 (fun j => heapS d s n j + (if j = n / 8 then posF (s * d n) * 2 ^ (n % 8) else 0)) = _
    rw [sumB_add, sumB_one (by omega), h1]
    unfold heapH
    simp only [sumB]
    congr 1
    have e1 : (256 : Int) = 2 ^ 8 := by decide
    have e2 : (2 : Int) ^ n = 256 ^ (n / 8) * 2 ^ (n % 8) := by
      rw [e1, ← Int.pow_mul, ← Int.pow_add]
      congr 1
      omega
    rw [e2, Int.mul_assoc, Int.mul_comm (posF _)]
theorem two_low {k : Nat} (h : k < 8) : 0 < (2 : Int) ^ k ∧ (2 : Int) ^ k ≤ 128 := by
  match k, h with
  | 0, _ => decide
  | 1, _ => decide
  | 2, _ => decide
  | 3, _ => decide
  | 4, _ => decide
  | 5, _ => decide
  | 6, _ => decide
  | 7, _ => decide
theorem sgn_range {s x : Int} (hs : Sgn s) (h : -128 ≤ x ∧ x < 128) : -128 ≤ s * x ∧ s * x ≤ 128 := by
  rcases hs.h with e | e <;> subst e <;> omega
theorem part_range {s x : Int} (hs : Sgn s) (h : -128 ≤ x ∧ x < 128) {k : Nat} (hk : k < 8) : 0 ≤ posF (s * x) * 2 ^ k ∧ posF (s * x) * 2 ^ k ≤ 16384 := by
  have h1 := posF_range (sgn_range hs h)
  have h2 := two_low hk
  refine ⟨Int.mul_nonneg h1.1 (by omega), ?_⟩
  have : posF (s * x) * 2 ^ k ≤ 128 * 128 := Int.mul_le_mul h1.2 h2.2 (by omega) (by omega)
  omega
theorem heapS_range {n : Nat} {d : Nat → Int} {s : Int} (hs : Sgn s) (hd : IsDigs n d) (j : Nat) : ∀ i, i ≤ n → 0 ≤ heapS d s i j ∧ heapS d s i j ≤ 16384 * i
  | 0, _ => by simp [heapS]
  | i + 1, h => by
    have h1 := heapS_range hs hd j i (by omega)
    have h2 := part_range hs (hd i (by omega)) (Nat.mod_lt i (by decide : 8 > 0))
    simp only [heapS]
    split <;> omega
def heapK (n : Nat) (d : Nat → Int) (s : Int) (k : Nat) : Int := carB 256 (heapS d s n) 0 k
theorem heapK_zero (n : Nat) (d : Nat → Int) (s : Int) : heapK n d s 0 = 0 := carB_zero _ _ _
section
variable {n : Nat} {d : Nat → Int} {s : Int} (hn : Upto300 n) (hs : Sgn s) (hd : IsDigs n d)
include hn hs hd
theorem heapK_range : ∀ k, 0 ≤ heapK n d s k ∧ heapK n d s k ≤ 19400
  | 0 => by rw [heapK_zero]; omega
  | k + 1 => by
    have h1 := heapK_range k
    have h2 := heapS_range hs hd k n (Nat.le_refl _)
    have h3 := hn.h
    unfold heapK at h1 ⊢
    rw [carB_succ p256]
    omega
omit hs hd in
theorem heapK_last : heapK n d s 40 = heapH n d s / 256 ^ 40 := by
  unfold heapK carB
  rw [heapS_sum d s n (by have := hn.h; omega), Int.add_zero]
omit hs hd in
theorem heap_step {k : Nat} (hk : k < 40) : (heapS d s n k + heapK n d s k) % 256 = byt (heapH n d s) k ∧ (heapS d s n k + heapK n d s k) / 256 = heapK n d s (k + 1) := by
  refine ⟨?_, by unfold heapK; rw [carB_succ p256]⟩
  have h := dgt_car p256 (heapS d s n) 0 hk
  rw [heapS_sum d s n (by have := hn.h; omega), Int.add_zero] at h
  exact h.symm
theorem heapH_nonneg : 0 ≤ heapH n d s := by
  have h := heapK_range hn hs hd 40
  rw [heapK_last hn] at h
  by_cases h0 : 0 ≤ heapH n d s
  · exact h0
  · exfalso
    have : heapH n d s / 256 ^ 40 < 0 := Int.ediv_neg_of_neg_of_pos (by omega) (by decide)
    omega
end
/-- How many bytes the heap has. -/
def heapL (n : Nat) (d : Nat → Int) (s : Int) : Nat := if heapH n d s / 256 ^ 40 = 0 then 40 else if heapH n d s / 256 ^ 41 = 0 then 41 else 42
def heapB (n : Nat) (d : Nat → Int) (s : Int) : Nat → Int := byt (heapH n d s)
theorem heapL_short (n : Nat) (d : Nat → Int) (s : Int) : Short (heapL n d s) := ⟨by unfold heapL; split <;> (try split) <;> omega⟩
theorem num_heap {n : Nat} {d : Nat → Int} {s : Int} (hn : Upto300 n) (hs : Sgn s) (hd : IsDigs n d) : num (heapL n d s) (heapB n d s) = heapH n d s := by
  have h0 := heapH_nonneg hn hs hd
  have h1 := heapK_range hn hs hd 40
  rw [heapK_last hn] at h1
  refine num_byt _ _ h0 ?_
  unfold heapL
  split
  · rename_i h
    exact (Int.ediv_lt_iff_lt_mul (by decide)).1 (by omega : heapH n d s / 256 ^ 40 < 1) |> fun h => by omega
  · split
    · rename_i h
      exact (Int.ediv_lt_iff_lt_mul (by decide)).1 (by omega : heapH n d s / 256 ^ 41 < 1) |> fun h => by omega
    · have h2 := (Int.ediv_lt_iff_lt_mul (by decide)).1 (by omega : heapH n d s / 256 ^ 40 < 65536)
      have e : (65536 : Int) * 256 ^ 40 = 256 ^ 42 := by decide
      omega

/-! The contracts. -/
def valErr (c : Int) (n : Nat) : Int := if n ≤ 300 then 0 else c
def valA (n : Nat) (d : Nat → Int) : Nat → Int := if n ≤ 300 then sb (zi lN (sumB 2 n d)) else fun _ => 0
def heapC (L : Nat → (Nat → Int) → Int → Nat) (B : Nat → (Nat → Int) → Int → Nat → Int) : Contract := fun vs => match vs with
  | [.xsl .i8 1 len _ d, .int .i64 s] => some ([Upto300 len.val, Sgn s.val], .osl .u8 1 (.sym (L len.val d s.val)) (B len.val d s.val))
  | _ => none
def valueC (k : IntKind) (V : Nat → (Nat → Int) → Nat → Int) (F : Nat → Int) : Contract := fun vs => match vs with
  | [.xsl .i8 1 len _ d] => some ([], .tup [.arr .u8 32 (V len.val d), .int k (.sym (F len.val))])
  | _ => none
theorem value_ref {n : Nat} {d : Nat → Int} (hn : Upto300 n) (hd : IsDigs n d) : sb (se (sb (sn (heapL n d 1) (heapB n d 1))) + se (sb (- se (sb (sn (heapL n d (-1)) (heapB n d (-1))))))) = sb (zi lN (sumB 2 n d)) := by
  rw [se_sb, se_sb, se_sb, sn_eq (num_heap hn ⟨.inl rfl⟩ hd), sn_eq (num_heap hn ⟨.inr rfl⟩ hd), ← heapH_diff, zi_sub]
  congr 1
  grind
theorem value_all (n : Nat) (d : Nat → Int) : bytesW (valW n d n) = sb (zi lN (sumB 2 n d)) := by
  unfold bytesW
  rw [W5_val, valV_all, sb_zi]
end Sx
