/-
  Digits, as the program and the document find them: halving numbers of words and of bytes.
-/
import Derived.Test.YtfpeolihnaeolaaScI
namespace Sx
open Go Go.RowKit

/-- The array in a slot. -/
def arrIn (S : St) (k : Nat) : Nat → Int :=
  match get S k with
  | .own (.arr _ _ f) => f
  | _ => fun _ => 0

def digW (w : Int) : Bool := decide (2 ≤ w) && decide (w ≤ 8)
def digL (w : Int) : Nat := if digW w = true then 257 else 0
def digE (w : Int) : Int := if digW w = true then 0 else 1
def digF (a : Nat → Int) (w : Int) : Nat → Int := nafF w.toNat (num 32 a)
def digitsC (D : (Nat → Int) → Int → Nat → Int) (L : Int → Nat) (F : Int → Int) : Contract := fun vs => match vs with
  | [.arr .u8 32 a, .int .i64 w] => some ([], .otup .i8 1 (.sym (L w.val)) (D a w.val) [.int .i64 (.sym (F w.val))])
  | _ => none
theorem digW_wid {w : Int} (h : digW w = true) : Wid w.toNat ∧ w = (w.toNat : Int) := by
  simp only [digW, Bool.and_eq_true, decide_eq_true_eq] at h
  exact ⟨⟨by omega, by omega⟩, by omega⟩

/-- What the look at the width asks. -/
theorem digW_look (w : Int) : (match realCmp .lss w 2 with | true => true | false => realCmp .gtr w 8) = !digW w := by
  unfold digW
  by_cases h : w < 2
  · have e : realCmp .lss w 2 = true := decide_eq_true h
    rw [e]
    have : decide (2 ≤ w) = false := decide_eq_false (by omega)
    simp [this]
  · have e : realCmp .lss w 2 = false := decide_eq_false h
    rw [e]
    have : decide (2 ≤ w) = true := decide_eq_true (by omega)
    rw [this]
    by_cases h2 : 8 < w
    · have e2 : realCmp .gtr w 8 = true := decide_eq_true h2
      have e3 : decide (w ≤ 8) = false := decide_eq_false (by omega)
      rw [e2, e3]; rfl
    · have e2 : realCmp .gtr w 8 = false := decide_eq_false h2
      have e3 : decide (w ≤ 8) = true := decide_eq_true (by omega)
      rw [e2, e3]; rfl

/-! Halving. -/
def halvF (B : Int) (f : Nat → Int) (j : Nat) : Nat → Int := fun k => if k < j then f k / 2 + f (k + 1) % 2 * (B / 2) else f k
theorem halv_zero {B : Int} {f : Nat → Int} (k : Nat) : halvF B f 0 k = f k := if_neg (Nat.not_lt_zero k)
theorem halv_at {B : Int} {f : Nat → Int} (j : Nat) : halvF B f j j = f j := if_neg (Nat.lt_irrefl j)
theorem halv_next {B : Int} {f : Nat → Int} (j : Nat) : halvF B f j (j + 1) = f (j + 1) := if_neg (by omega)
theorem halv_upd {B : Int} {f : Nat → Int} {j : Nat} (k : Nat) : (if k = j then f j / 2 + f (j + 1) % 2 * (B / 2) else halvF B f j k) = halvF B f (j + 1) k := by
  unfold halvF
  by_cases h : k = j
  · subst h; rw [if_pos rfl, if_pos (by omega)]
  · rw [if_neg h]
    by_cases h2 : k < j
    · rw [if_pos h2, if_pos (by omega)]
    · rw [if_neg h2, if_neg (by omega)]
theorem half_dgt {B : Int} (hB : B = q64 ∨ B = 256) (M : Int) (k : Nat) : dgt B (M / 2) k = dgt B M k / 2 + dgt B M (k + 1) % 2 * (B / 2) := by
  have hp : (0 : Int) < B := by rcases hB with e | e <;> subst e <;> decide
  have hk := powB_pos hp k
  unfold dgt
  have e1 : M / 2 / B ^ k = M / B ^ k / 2 := by
    rw [Int.ediv_ediv_of_nonneg (by omega), Int.ediv_ediv_of_nonneg (by omega), Int.mul_comm]
  have e2 : M / B ^ (k + 1) = M / B ^ k / B := by rw [Int.pow_succ, Int.ediv_ediv_of_nonneg (by omega)]
  rw [e1, e2]
  generalize M / B ^ k = x
  rcases hB with e | e <;> subst e
  · simp only [q64]; omega
  · omega
/-- The last word is halved alone. -/
theorem half_all {B : Int} (hB : B = q64 ∨ B = 256) {M : Int} {n : Nat} (h0 : 0 ≤ M) (h1 : M < B ^ (n + 1)) {f : Nat → Int} (hf : ∀ k, k < n + 1 → f k = dgt B M k) :
    ∀ k, k < n + 1 → upd (halvF B f n) n (f n / 2) k = dgt B (M / 2) k := by
  intro k hk
  have hp : (0 : Int) < B := by rcases hB with e | e <;> subst e <;> decide
  rw [half_dgt hB]
  unfold upd halvF
  by_cases h : k = n
  · subst h
    rw [if_pos rfl, hf k hk]
    have : dgt B M (k + 1) = 0 := by
      unfold dgt
      rw [Int.ediv_eq_zero_of_lt h0 h1]
      exact Int.zero_emod B
    rw [this]
    omega
  · rw [if_neg h, if_pos (by omega), hf k hk, hf (k + 1) (by omega)]
theorem half_word {x y : Int} (hx : 0 ≤ x ∧ x < q64) (_hy : 0 ≤ y ∧ y < q64) : realBin .or .u64 (realBin .shr .u64 x 1) (realBin .shl .u64 y 63) = x / 2 + y % 2 * (q64 / 2) := by
  have e1 : realBin .shr .u64 x 1 = x / 2 := shr_any .u64 x 1 (by decide)
  have e2 : realBin .shl .u64 y 63 = (y * 9223372036854775808) % q64 := shl_u64 y 63 (by decide)
  simp only [q64] at *
  rw [e1, e2, or_comm', or_apart (k := .u64) rfl (x := y * 9223372036854775808 % 18446744073709551616) (y := x / 2) 63 ⟨by omega, by show _ < (18446744073709551616 : Int); omega⟩ (by show y * 9223372036854775808 % 18446744073709551616 % 9223372036854775808 = 0; omega) ⟨by omega, by show x / 2 < 9223372036854775808; omega⟩ (by decide)]
  omega
theorem half_last (x : Int) : realBin .shr .u64 x 1 = x / 2 := shr_any .u64 x 1 (by decide)
theorem half_word' {f : Nat → Int} (hf : Is5 f) {j : Nat} (hj : j < 4) : realBin .or .u64 (realBin .shr .u64 (f j) 1) (realBin .shl .u64 (f (j + 1)) 63) = f j / 2 + f (j + 1) % 2 * (q64 / 2) :=
  half_word (hf j (by omega)) (hf (j + 1) (by omega))

/-! The digit in words. -/
theorem dgt0 (B M : Int) : dgt B M 0 = M % B := by simp [dgt]
theorem low_bit (M : Int) : realBin .and .u64 (dgt q64 M 0) 1 = M % 2 := by
  have h := dgt_isDig q64_pos M 1 0 (by decide)
  have e := and_mask (k := .u64) rfl (a := dgt q64 M 0) ⟨h.1, h.2⟩ 1 (by decide)
  rw [show ((2 : Int) ^ 1 - 1) = 1 from rfl] at e
  rw [e, dgt0]
  simp only [q64]
  omega
theorem shl_one {k : IntKind} (hk : k = .u64 ∨ k = .i64) {w : Int} {n : Nat} (hw : w = (n : Int)) (hn : n ≤ 8) : realBin .shl k 1 w = 2 ^ n := by
  subst hw
  rcases hk with e | e <;> subst e
  · rw [shl_u64 1 n (by omega)]
    have : n = 0 ∨ n = 1 ∨ n = 2 ∨ n = 3 ∨ n = 4 ∨ n = 5 ∨ n = 6 ∨ n = 7 ∨ n = 8 := by omega
    rcases this with e | e | e | e | e | e | e | e | e <;> subst e <;> decide
  · have : n = 0 ∨ n = 1 ∨ n = 2 ∨ n = 3 ∨ n = 4 ∨ n = 5 ∨ n = 6 ∨ n = 7 ∨ n = 8 := by omega
    rcases this with e | e | e | e | e | e | e | e | e <;> subst e <;> decide
theorem two_pows {n : Nat} (h : Wid n) : (2 : Int) ^ n = 2 * 2 ^ (n - 1) ∧ 2 ≤ (2 : Int) ^ (n - 1) ∧ (2 : Int) ^ (n - 1) ≤ 128 ∧ (2 : Int) ^ (n - 1) % 2 = 0 := by
  rcases wid_cases h with e | e | e | e | e | e | e <;> subst e <;> decide
theorem low_bits {n : Nat} (h : Wid n) (M : Int) : realBin .and .u64 (dgt q64 M 0) (2 ^ n - 1) = M % 2 ^ n := by
  have h1 := dgt_isDig q64_pos M 1 0 (by decide)
  rw [and_mask (k := .u64) rfl ⟨h1.1, h1.2⟩ n (by have := h.h; show n ≤ 64; omega), dgt0]
  simp only [q64]
  rcases wid_cases h with e | e | e | e | e | e | e <;> subst e <;> simp only [Int.reducePow] <;> omega
theorem naf_even' {w : Nat} {N : Int} (h : N % 2 ≠ 1) : nafD w N = 0 := if_neg h
theorem naf_high {w : Nat} {N : Int} (h : N % 2 = 1) (h2 : 2 ^ (w - 1) ≤ N % 2 ^ w) : nafD w N = N % 2 ^ w - 2 ^ w := by unfold nafD; rw [if_pos h, if_pos h2]
theorem naf_low {w : Nat} {N : Int} (h : N % 2 = 1) (h2 : N % 2 ^ w < 2 ^ (w - 1)) : nafD w N = N % 2 ^ w := by unfold nafD; rw [if_pos h, if_neg (by omega)]
/-- The number that is left, as words. -/
def nafW (w : Nat) (N : Int) (i : Nat) : Nat → Int := dgt q64 (nafN w N i)
theorem W5_naf {w : Nat} (h : Wid w) {N : Int} (h0 : 0 ≤ N) (h1 : N < q256) (i : Nat) : W5 (nafW w N i) = nafN w N i := by
  have := nafN_range h h0 h1 i
  exact W5_dgt this.1 (by simp only [q256] at this; omega)
theorem naf_plus {w : Nat} (h : Wid w) {N : Int} (h0 : 0 ≤ N) (h1 : N < q256) (i : Nat) (d : Int) : plusW (nafW w N i) (oneW (-d)) = dgt q64 (nafN w N i - d) := by
  unfold plusW
  rw [W5_naf h h0 h1, W5_one]
  congr 1
theorem naf_minus {w : Nat} (h : Wid w) {N : Int} (h0 : 0 ≤ N) (h1 : N < q256) (i : Nat) (d : Int) : minusW (nafW w N i) (oneW d) = dgt q64 (nafN w N i - d) := by
  unfold minusW
  rw [W5_naf h h0 h1, W5_one]
/-- From one number to the next. -/
theorem naf_next {w : Nat} (h : Wid w) {N : Int} (h0 : 0 ≤ N) (h1 : N < q256) (i : Nat) {f : Nat → Int} (hf : ∀ k, k < 5 → f k = dgt q64 (nafN w N i - nafD w (nafN w N i)) k) :
    ∀ k, k < 5 → upd (halvF q64 f 4) 4 (f 4 / 2) k = nafW w N (i + 1) k := by
  have r := nafN_range h h0 h1 i
  have h2 := nafD_le h r.1
  have h3 := nafD_range h (nafN w N i)
  have e : q64 ^ 5 = 2135987035920910082395021706169552114602704522356652769947041607822219725780640550022962086936576 := by decide
  exact half_all (.inl rfl) (n := 4) (by omega) (by rw [e]; simp only [q256] at r; omega) hf
theorem num_q256 {a : Nat → Int} (ha : IsBytes 32 a) : 0 ≤ num 32 a ∧ num 32 a < q256 := by
  have h := num_range ha
  have e : (256 : Int) ^ 32 = q256 := by decide
  rw [e] at h
  exact h
end Sx
namespace Sx
open Go Go.RowKit
theorem halv_step {bi : BinOp → IntKind → Int → Int → Int} (hbi : bi = realBin) {HV : (Nat → Int) → Nat → Nat → Int} (hHV : HV = halvF q64) {f : Nat → Int} (hf : Is5 f) {j : Nat} (hj : j < 4) (k : Nat) :
    (if k = j then bi .or .u64 (bi .shr .u64 (HV f j j) 1) (bi .shl .u64 (HV f j (j + 1)) 63) else HV f j k) = HV f (j + 1) k := by
  subst hbi hHV
  rw [halv_at, halv_next, half_word' hf hj]
  exact halv_upd k
theorem naf_next' {bi : BinOp → IntKind → Int → Int → Int} (hbi : bi = realBin) {HV : (Nat → Int) → Nat → Nat → Int} (hHV : HV = halvF q64) {w : Nat} {N : Int} {YN : Nat → Nat → Int} (hYN : YN = nafW w N) (h : Wid w) (h0 : 0 ≤ N) (h1 : N < q256) (i : Nat) {f : Nat → Int} (hf : ∀ k, k < 5 → f k = dgt q64 (nafN w N i - nafD w (nafN w N i)) k) :
    ∀ k, k < 5 → (if k = 4 then bi .shr .u64 (HV f 4 4) 1 else HV f 4 k) = YN (i + 1) k := by
  subst hbi hHV hYN
  intro k hk
  rw [half_last, halv_at]
  exact naf_next h h0 h1 i hf k hk
end Sx
namespace Sx
open Go Go.RowKit
/-! The document's way. -/
def nafB (w : Nat) (N : Int) (i : Nat) : Nat → Int := dgt 256 (nafN w N i)
def sgA (w : Nat) (N : Int) (i j : Nat) : Nat → Int := fun k => if k < j then dgt 256 (nafN w N i - nafD w (nafN w N i)) k else dgt 256 (nafN w N i) k
def sgC (w : Nat) (N : Int) (i j : Nat) : Int := carB 256 (dgt 256 (nafN w N i)) (- nafD w (nafN w N i)) j
section
variable {w : Nat} {N : Int} {i : Nat}
theorem sgA_zero (k : Nat) : sgA w N i 0 k = nafB w N i k := if_neg (Nat.not_lt_zero k)
theorem sgA_at (j : Nat) : sgA w N i j j = dgt 256 (nafN w N i) j := if_neg (Nat.lt_irrefl j)
theorem sgC_zero : sgC w N i 0 = - nafD w (nafN w N i) := carB_zero _ _ _
theorem sgA_end {k : Nat} (hk : k < 34) : sgA w N i 34 k = dgt 256 (nafN w N i - nafD w (nafN w N i)) k := if_pos hk
theorem sgA_upd {j : Nat} (k : Nat) : (if k = j then dgt 256 (nafN w N i - nafD w (nafN w N i)) j else sgA w N i j k) = sgA w N i (j + 1) k := by
  unfold sgA
  by_cases h : k = j
  · subst h; rw [if_pos rfl, if_pos (by omega)]
  · rw [if_neg h]
    by_cases h2 : k < j
    · rw [if_pos h2, if_pos (by omega)]
    · rw [if_neg h2, if_neg (by omega)]
theorem sgC_range (h : Wid w) : ∀ j, -128 ≤ sgC w N i j ∧ sgC w N i j ≤ 128
  | 0 => by rw [sgC_zero]; have := nafD_range h (nafN w N i); omega
  | j + 1 => by
    have h1 := sgC_range h j
    have h2 := dig_range (nafN w N i) j
    unfold sgC at h1 ⊢
    rw [carB_succ p256]
    omega
theorem q256_34 : (q256 : Int) ≤ 256 ^ 34 := by decide
theorem sg_step (h : Wid w) (h0 : 0 ≤ N) (h1 : N < q256) {j : Nat} (hj : j < 34) {v : Int} (hv : v = dgt 256 (nafN w N i) j + sgC w N i j) :
    v % 256 = dgt 256 (nafN w N i - nafD w (nafN w N i)) j ∧ v / 256 = sgC w N i (j + 1) := by
  subst hv
  refine ⟨?_, by unfold sgC; rw [carB_succ p256]⟩
  have r := nafN_range h h0 h1 i
  have e := dgt_car p256 (dgt 256 (nafN w N i)) (- nafD w (nafN w N i)) hj
  rw [sumB_dgt_lt p256 r.1 (Int.lt_of_lt_of_le r.2 q256_34)] at e
  exact e.symm
theorem nafB_zero (a : Nat → Int) (w : Nat) {ha : IsBytes 32 a} : ∀ k, k < 34 → (if k < 32 then a k else 0) = nafB w (num 32 a) 0 k := by
  intro k hk
  show _ = dgt 256 (num 32 a) k
  by_cases h : k < 32
  · rw [if_pos h, num_sumB, dgt_sumB p256 ha h]
  · rw [if_neg h]
    have hr := num_range ha
    have : num 32 a / 256 ^ k = 0 := Int.ediv_eq_zero_of_lt hr.1 (Int.lt_of_lt_of_le hr.2 (pow_mono (by omega)))
    unfold dgt
    rw [this]; rfl
theorem nafB_next (h : Wid w) (h0 : 0 ≤ N) (h1 : N < q256) {f : Nat → Int} (hf : ∀ k, k < 34 → f k = dgt 256 (nafN w N i - nafD w (nafN w N i)) k) :
    ∀ k, k < 34 → upd (halvF 256 f 33) 33 (f 33 / 2) k = nafB w N (i + 1) k := by
  have r := nafN_range h h0 h1 i
  have h2 := nafD_le h r.1
  have h3 := nafD_range h (nafN w N i)
  have e : (256 : Int) ^ (33 + 1) = 7588550360256754183279148073529370729071901715047420004889892225542594864082845696 := by decide
  exact half_all (.inr rfl) (n := 33) (by omega) (by rw [e]; simp only [q256] at r; omega) hf
theorem byteB_bit (M : Int) : dgt 256 M 0 % 2 = M % 2 := by rw [dgt0]; omega
theorem byteB_low (h : Wid w) (M : Int) : dgt 256 M 0 % 2 ^ w = M % 2 ^ w := by
  rw [dgt0]
  rcases wid_cases h with e | e | e | e | e | e | e <;> subst e <;> simp only [Int.reducePow] <;> omega
/-- An odd remainder is no half of the span. -/
theorem odd_half (h : Wid w) {M : Int} (ho : M % 2 = 1) : (2 ^ (w - 1) < M % 2 ^ w ↔ 2 ^ (w - 1) ≤ M % 2 ^ w) := by
  rcases wid_cases h with e | e | e | e | e | e | e <;> subst e <;> simp only [Nat.reduceSub, Int.reducePow] <;> omega
end
theorem halv_stepB {bi : BinOp → IntKind → Int → Int → Int} (hbi : bi = realBin) {HV : (Nat → Int) → Nat → Nat → Int} (hHV : HV = halvF 256) {f : Nat → Int} (hf : IsDig 256 34 f) {j : Nat} (hj : j < 33) (k : Nat) :
    (if k = j then bi .add .i64 (bi .quo .i64 (HV f j j) 2) (bi .mul .i64 (bi .rem .i64 (HV f j (j + 1)) 2) 128) else HV f j k) = HV f (j + 1) k := by
  subst hbi hHV
  have h1 := hf j (by omega)
  have h2 := hf (j + 1) (by omega)
  rw [halv_at, halv_next, quo_i64 (by omega) (by omega), rem_i64 (by omega), mul_i64 (by omega), add_i64 (by omega)]
  exact halv_upd k
theorem nafB_next' {bi : BinOp → IntKind → Int → Int → Int} (hbi : bi = realBin) {HV : (Nat → Int) → Nat → Nat → Int} (hHV : HV = halvF 256) {w : Nat} {N : Int} {RN : Nat → Nat → Int} (hRN : RN = nafB w N) (h : Wid w) (h0 : 0 ≤ N) (h1 : N < q256) (i : Nat) {f : Nat → Int} (hf : ∀ k, k < 34 → f k = dgt 256 (nafN w N i - nafD w (nafN w N i)) k) :
    ∀ k, k < 34 → (if k = 33 then bi .quo .i64 (HV f 33 33) 2 else HV f 33 k) = RN (i + 1) k := by
  subst hbi hHV hRN
  intro k hk
  have h2 := dig_range (nafN w N i - nafD w (nafN w N i)) 33
  rw [halv_at, quo_i64 (by rw [hf 33 (by omega)]; omega) (by omega)]
  exact nafB_next h h0 h1 hf k hk
end Sx
