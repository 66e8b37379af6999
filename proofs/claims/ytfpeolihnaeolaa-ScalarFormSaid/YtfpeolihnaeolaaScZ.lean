/-
  Package scalar's numbers as members of the field of L: what its calls come to.
-/
import Derived.Test.YtfpeolihnaeolaaScC
namespace Sx
open Go

theorem lI_cast : ((lN : Nat) : Int) = lI := rfl
/-- n bytes as a number modulo L, and back. -/
def sn (n : Nat) (f : Nat → Int) : Zl := zi lN (num n f)
def se (f : Nat → Int) : Zl := zi lN (num 32 f)
def sb (x : Zl) : Nat → Int := byt (x.val : Int)

theorem sval_bounds (x : Zl) : 0 ≤ (x.val : Int) ∧ (x.val : Int) < lI := ⟨Int.natCast_nonneg _, by have := x.isLt; rw [← lI_cast]; omega⟩
theorem num_sb (x : Zl) : num 32 (sb x) = (x.val : Int) := by
  have h := sval_bounds x
  refine num_byt 32 _ h.1 (Int.lt_trans h.2 (by decide))
theorem se_sb (x : Zl) : se (sb x) = x := by unfold se; rw [num_sb, zi_of_val]
theorem sb_isBytes (x : Zl) : IsBytes 32 (sb x) := byt_isBytes _ _
theorem sb_zi (n : Int) : sb (zi lN n) = byt (n % lI) := by unfold sb; rw [zi_val, lI_cast]
theorem sb_inj {x y : Zl} : realEqA 32 (sb x) (sb y) = decide (x = y) := by
  rw [eqA_num (sb_isBytes x) (sb_isBytes y), num_sb, num_sb, Bool.eq_iff_iff]
  simp only [beq_iff_eq, decide_eq_true_eq]
  exact ⟨fun h => fin_ext_int h, fun h => by rw [h]⟩
theorem sb_same {x y : Zl} (h : x = y) : realEqA 32 (sb x) (sb y) = true := by rw [sb_inj]; exact decide_eq_true h
theorem sb_other {x y : Zl} (h : x ≠ y) : realEqA 32 (sb x) (sb y) = false := by rw [sb_inj]; exact decide_eq_false h
theorem byt_smallS {n : Int} (h0 : 0 ≤ n) (h : n < lI) : byt n = sb (zi lN n) := by rw [sb_zi, Int.emod_eq_of_lt h0 h]

/-- The bytes of what is left of a number. -/
theorem bytes_red (n : Nat) (f : Nat → Int) : bytesW (redW n f) = sb (sn n f) := by
  unfold bytesW redW sn
  rw [W5_mod, sb_zi]
theorem W5_red (n : Nat) (f : Nat → Int) : W5 (redW n f) = num n f % lI := W5_mod _
theorem W5_redR (n : Nat) (f : Nat → Int) : 0 ≤ W5 (redW n f) ∧ W5 (redW n f) < lI := by rw [W5_red]; exact modl _
theorem W5_sum (f g : Nat → Int) : W5 (plusW (redW 32 f) (redW 32 g)) = num 32 f % lI + num 32 g % lI := by
  have h1 := W5_redR 32 f
  have h2 := W5_redR 32 g
  unfold plusW
  rw [W5_dgt (by omega) (by simp only [lI] at *; omega), W5_red, W5_red]
theorem sum_top (f g : Nat → Int) : Top16 (plusW (redW 32 f) (redW 32 g)) := by
  have h1 := modl (num 32 f)
  have h2 := modl (num 32 g)
  exact ⟨by rw [W5_sum]; omega⟩
theorem add_bytesS (f g : Nat → Int) : bytesW (foldW (plusW (redW 32 f) (redW 32 g))) = sb (se f + se g) := by
  unfold bytesW
  rw [W5_fold, W5_sum]
  unfold se
  rw [← zi_add, sb_zi, ← Int.add_emod]
theorem W5_inj {a b : Nat → Int} (ha : Is5 a) (hb : Is5 b) : realEqA 5 a b = decide (W5 a = W5 b) := by
  rw [Bool.eq_iff_iff, realEqA_iff, decide_eq_true_iff]
  constructor
  · intro h; exact sumB_congr h
  · intro h i hi
    rw [← dgt_sumB q64_pos ha hi, ← dgt_sumB q64_pos hb hi]
    show dgt q64 (W5 a) i = dgt q64 (W5 b) i
    rw [h]
theorem W5_zero : W5 (fun _ => 0) = 0 := sumB_zero 5
theorem neg_nil {f : Nat → Int} (h : realEqA 5 (redW 32 f) (fun _ => 0) = true) : ∀ i, i < 32 → (0 : Int) = sb (- se f) i := by
  rw [W5_inj (a := redW 32 f) (is5_dgt _) (fun i _ => by decide), W5_zero, W5_red, decide_eq_true_iff] at h
  have e : se f = 0 := by unfold se; rw [← zi_mod, lI_cast, h, zi_zero]
  intro i _
  rw [e]
  have e2 : (- (0 : Zl)) = 0 := by decide
  rw [e2]
  show 0 = 0 / 256 ^ i % 256
  simp
theorem neg_more {f m : Nat → Int} (hm : W5 m = lI) (h : realEqA 5 (redW 32 f) (fun _ => 0) = false) : bytesW (minusW m (redW 32 f)) = sb (- se f) := by
  rw [W5_inj (a := redW 32 f) (is5_dgt _) (fun i _ => by decide), W5_zero, W5_red, decide_eq_false_iff_not] at h
  have h1 := modl (num 32 f)
  unfold bytesW minusW
  rw [W5_red, hm, W5_dgt (by omega) (by simp only [lI] at *; omega)]
  unfold se
  rw [← zi_neg, sb_zi]
  congr 1
  simp only [lI] at *
  omega
def canS (f : Nat → Int) : Bool := decide (num 32 f < lI)
theorem can_eqS {f : Nat → Int} (hf : IsBytes 32 f) : realEqA 32 (bytesW (redW 32 f)) f = canS f := by
  have h0 := num_bounds 32 f hf
  unfold bytesW canS
  rw [W5_red, eqA_num (byt_isBytes _ _) hf, num_byt 32 _ (modl _).1 (Int.lt_trans (modl _).2 (by decide)), Bool.eq_iff_iff]
  simp only [beq_iff_eq, decide_eq_true_eq]
  have h1 := modl (num 32 f)
  exact ⟨fun h => by omega, fun h => Int.emod_eq_of_lt h0.1 h⟩
theorem zero_off (f : Nat → Int) : (fun j : Nat => f (0 + j)) = f := funext fun j => by rw [Nat.zero_add]
theorem add_bytes_of {f g f' g' : Nat → Int} (e1 : f' = f) (e2 : g' = g) : bytesW (foldW (plusW (redW 32 f') (redW 32 g'))) = sb (se f + se g) := by
  subst e1 e2
  exact add_bytesS f' g'
/-- L's bytes. -/
theorem order_bytes : ∀ i, i < 32 → [237, 211, 245, 92, 26, 99, 18, 88, 214, 156, 247, 162, 222, 249, 222, 20, 0, 0, 0, 0, 0, 0, 0, 0, 0, 0, 0, 0, 0, 0, 0, (16 : Int)].getD i 0 = byt lI i := by decide +kernel
end Sx
