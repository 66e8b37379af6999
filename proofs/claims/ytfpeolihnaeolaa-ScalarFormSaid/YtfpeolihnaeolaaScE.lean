/-
  The scalar laws' plain facts.
-/
import Derived.Test.YtfpeolihnaeolaaScZ
import Derived.Test.YtfpeolihnaeolaaSpD
import Derived.Test.YtfpeolihnaeolaaSpZ
namespace Sx
open Go

theorem num_order : num 32 (byt lI) = lI := num_byt 32 lI (by decide) (by decide)
theorem se_order : se (byt lI) = 0 := by
  unfold se
  rw [num_order]
  exact zi_self
theorem canon_s1 (a : Nat → Int) : canS a = ltB a (byt lI) := by unfold canS ltB; rw [num_order]
theorem canon_s2 (x : Zl) : ltB (sb x) (byt lI) = true := by
  unfold ltB
  rw [num_order, num_sb]
  exact decide_eq_true (sval_bounds x).2
theorem canon_s3 {a : Nat → Int} (ha : IsBytes 32 a) : realEqA 32 (sb (se a)) a = ltB a (byt lI) := by
  have h := can_eqS ha
  have e : bytesW (redW 32 a) = sb (se a) := bytes_red 32 a
  rw [e] at h
  rw [h, canon_s1]

/-- A number to the power of what the bits from i on tell. -/
def pwZ (x : Zl) (e : Nat → Int) (i : Nat) : Zl := zp x (num 32 e / 2 ^ i).toNat
theorem pwZ_step (x : Zl) {e : Nat → Int} (he : IsBytes 32 e) {i : Nat} (hi : i < 256) : pwZ x e i = if bitB e i = true then pwZ x e (i + 1) * pwZ x e (i + 1) * x else pwZ x e (i + 1) * pwZ x e (i + 1) := by
  unfold pwZ
  rw [num_bit he hi]
  split
  · rw [← zp_sq, ← zp_succ]
  · rw [← zp_sq]
    rfl
theorem pwZ_top (x : Zl) {e : Nat → Int} {i : Nat} (he : num 32 e / 2 ^ i = 0) : pwZ x e i = 1 := by
  unfold pwZ
  rw [he, Int.toNat_zero, zp_zero]
theorem pwZ_all (x : Zl) (e : Nat → Int) : pwZ x e 0 = zp x (num 32 e).toNat := by
  unfold pwZ
  rw [Int.pow_zero, Int.ediv_one]

theorem num_lm2 : num 32 (byt (lI - 2)) = lI - 2 := num_byt 32 (lI - 2) (by decide) (by decide)
theorem inv_high : num 32 (byt (lI - 2)) / 2 ^ 253 = 0 := by rw [num_lm2]; decide
theorem num_inv : (num 32 (byt (lI - 2))).toNat = lN - 2 := by rw [num_lm2]; rfl
theorem se_zero : se (fun _ => 0) = 0 := by unfold se; rw [num_zero]; exact zi_zero
theorem one_bytesS : ∀ i, i < 32 → upd (fun _ => 0) 0 1 i = sb (1 : Zl) i := by
  intro i hi
  rw [number_bytes (by decide) i hi]
  rfl
theorem inv_two : zinv (zi lN 2) + zinv (zi lN 2) = 1 := by
  have h : zi lN 2 * zinv (zi lN 2) = 1 := mul_zinv prL (by decide +kernel)
  have e : zi lN 2 = 1 + 1 := by decide +kernel
  rw [e] at h ⊢
  grind
theorem order_mid (i : Nat) (h1 : 16 ≤ i) (h2 : i < 32) (h3 : i ≠ 31) : byt lI i = 0 := by
  have h : ∀ j : Fin 32, 16 ≤ j.val → j.val ≠ 31 → byt lI j.val = 0 := by decide +kernel
  exact h ⟨i, h2⟩ h1 h3
/-- Doubling 1. -/
def dblS (i : Nat) : Nat → Int := sb (zi lN (2 ^ i))
theorem dblS_step (i : Nat) : sb (se (dblS i) + se (dblS i)) = dblS (i + 1) := by
  unfold dblS
  rw [se_sb, ← zi_add, Int.pow_succ]
  congr 2
  omega
theorem dblS_last : realEqA 32 (dblS 256) (sb 0) = false := sb_other (by decide +kernel)
/-- 64 bytes are two halves. -/
theorem split_64 (w : Nat → Int) : sn 64 w = se (fun i => w (32 + i)) * se (dblS 256) + se w := by
  unfold dblS
  rw [se_sb]
  unfold sn se
  rw [← zi_mul, ← zi_add]
  have h := num_split 32 32 w
  rw [show (32 + 32) = 64 from rfl] at h
  rw [h, Int.add_comm, Int.mul_comm, show ((256 : Int) ^ 32) = 2 ^ 256 from rfl]
end Sx
