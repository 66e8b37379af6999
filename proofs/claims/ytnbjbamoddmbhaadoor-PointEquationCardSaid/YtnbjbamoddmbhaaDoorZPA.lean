/-
  A part of the proof. No condition.
-/
import Derived.Test.YtnbjbamoddmbhaaDoorZMA
import Derived.Test.YtnbjbamoddmbhaaDoorZNA

/-
  What FieldCanon asks, in plain numbers.
-/
namespace Sx
open Go

theorem num_p : num 32 (byt p25) = p25 := num_byt 32 p25 (by decide) (by decide)
theorem num_small {n : Int} (h0 : 0 ≤ n) (h : n < 115792089237316195423570985008687907853269984665640564039457584007913129639936) : num 32 (byt n) = n := by
  refine num_byt 32 n h0 ?_
  have e : (256 : Int) ^ 32 = 115792089237316195423570985008687907853269984665640564039457584007913129639936 := by decide
  rw [e]; exact h
theorem num_lt {f : Nat → Int} (hf : IsBytes 32 f) : 0 ≤ num 32 f ∧ num 32 f < 115792089237316195423570985008687907853269984665640564039457584007913129639936 := by
  have h := num_bounds 32 f hf
  have e : (256 : Int) ^ 32 = 115792089237316195423570985008687907853269984665640564039457584007913129639936 := by decide
  rw [e] at h; exact h
theorem eqA_true {n : Nat} {f g : Nat → Int} (h : ∀ i, i < n → f i = g i) : realEqA n f g = true := by
  simp only [realEqA, List.all_eq_true, List.mem_range, beq_iff_eq]
  exact h

variable {a : Nat → Int} (ha : IsBytes 32 a)
include ha

omit ha in
theorem canon_1 : ltB (byt (redN a)) (byt p25) = true := by
  unfold ltB
  rw [num_p, num_red]
  exact decide_eq_true (modp _).2
omit ha in
theorem canon_2 : canB a = ltB a (byt p25) := by
  unfold ltB canB
  rw [num_p]
omit ha in
theorem canon_3 : canB (byt (redN a)) = true := by
  unfold canB
  rw [num_red]
  exact decide_eq_true (modp _).2
omit ha in
theorem canon_once : num 32 (byt (sumN (byt (redN a)) (byt p25))) = num 32 a % p25 + p25 := by
  have h := modp (num 32 a)
  have e : sumN (byt (redN a)) (byt p25) = num 32 a % p25 + p25 := by unfold sumN; rw [num_red, num_p]
  rw [e]
  simp only [p25] at h ⊢
  exact num_small (by omega) (by omega)
theorem canon_4 : realEqA 32 a (byt (redN a)) = true ∨ realEqA 32 a (byt (sumN (byt (redN a)) (byt p25))) = true ∨ realEqA 32 a (byt (sumN (byt (sumN (byt (redN a)) (byt p25))) (byt p25))) = true := by
  have hb := num_lt ha
  have e2 : sumN (byt (redN a)) (byt p25) = num 32 a % p25 + p25 := by unfold sumN; rw [num_red, num_p]
  have e3 : sumN (byt (sumN (byt (redN a)) (byt p25))) (byt p25) = num 32 a % p25 + p25 + p25 := by unfold sumN; rw [num_p]; show num 32 (byt (sumN (byt (redN a)) (byt p25))) + p25 = _; rw [canon_once]
  have hk : num 32 a = num 32 a % p25 ∨ num 32 a = num 32 a % p25 + p25 ∨ num 32 a = num 32 a % p25 + p25 + p25 := by
    simp only [p25]
    omega
  rcases hk with h | h | h
  · left
    refine eqA_true fun i hi => ?_
    unfold redN
    rw [← h, byt_num 32 a ha i hi]
  · right; left
    refine eqA_true fun i hi => ?_
    rw [e2, ← h, byt_num 32 a ha i hi]
  · right; right
    refine eqA_true fun i hi => ?_
    rw [e3, ← h, byt_num 32 a ha i hi]
omit ha in
theorem canon_5 : oddB a = realCmp .eql (realBin .rem .u8 (byt (redN a) 0) 2) 1 := by
  have hb := byt_isBytes (redN a) 32 0 (by decide)
  rw [rem_i64 hb.1]
  unfold oddB redN
  rw [Bool.eq_iff_iff]
  simp only [realCmp, byt, Int.pow_zero, Int.ediv_one, beq_iff_eq, decide_eq_true_eq]
  omega
omit ha in
theorem canon_6 : eqB a (byt (redN a)) = true := by
  unfold eqB
  rw [num_red]
  simp
omit ha in
theorem canon_7 : eqB (byt (redN a)) (byt (sumN (byt (redN a)) (byt p25))) = true := by
  unfold eqB
  rw [canon_once, num_red]
  simp
omit ha in
theorem canon_8 : eqB a (byt (addN a (byt 1))) = false := by
  unfold eqB
  rw [num_add, num_small (n := 1) (by decide) (by decide)]
  refine decide_eq_false ?_
  simp only [p25]
  omega
omit ha in
theorem canon_9 : realEqA 32 (byt (redN (byt (sumN (byt (redN a)) (byt p25))))) (byt (redN a)) = true := by
  refine eqA_true fun i _ => ?_
  have e : redN (byt (sumN (byt (redN a)) (byt p25))) = redN a := by
    unfold redN
    rw [show num 32 (byt (sumN (byt (num 32 a % p25)) (byt p25))) = num 32 a % p25 + p25 from canon_once]
    simp
  rw [e]
end Sx

/-
  Facts behind the point laws: the order, the eight, the reasons to refuse.
-/
namespace Sx
open Go

/-! The order. -/
theorem nN_lI : nN (byt lI) = lNat := by
  rw [nN_byt (by decide) (by decide)]
  rfl
def dblB (f : Nat → Int) : Nat → Int := byt (sumN f f)
theorem num_dbl {f : Nat → Int} {x : Int} (h : num 32 f = x) (h0 : 0 ≤ x) (h1 : x + x < 115792089237316195423570985008687907853269984665640564039457584007913129639936) : num 32 (dblB f) = x + x := by
  unfold dblB sumN
  rw [h]
  exact num_small (by omega) h1
theorem nN_8L : nN (dblB (dblB (dblB (byt lI)))) = 8 * lNat := by
  have h0 : num 32 (byt lI) = lI := num_small (by decide) (by decide)
  have h1 := num_dbl h0 (by decide) (by decide)
  have h2 := num_dbl h1 (by decide) (by decide)
  have h3 := num_dbl h2 (by decide) (by decide)
  unfold nN
  rw [h3]
  decide +kernel
theorem order_ne : realEqA 32 (byt lI) (fun _ => 0) = false := by decide +kernel
def padW (n : Nat → Int) : Nat → Int := fun j => if j < 32 then n j else 0
theorem num_pad (n : Nat → Int) : num 64 (padW n) = num 32 n := by
  have e := num_split 32 32 (padW n)
  have e1 : num 32 (padW n) = num 32 n := num_congr 32 fun i hi => if_pos hi
  have e2 : num 32 (fun i => padW n (32 + i)) = 0 := by
    have h : ∀ i, i < 32 → (fun i => padW n (32 + i)) i = (fun _ => (0 : Int)) i := fun i _ => if_neg (by omega)
    rw [num_congr 32 h]
    exact num_zero 32
  rw [e1, e2] at e
  rw [e]
  omega
theorem nN_red {n : Nat → Int} (hn : IsBytes 32 n) : nN (sb (sn 64 (padW n))) = nN n % lNat := by
  have h := num_bounds 32 n hn
  unfold nN
  rw [num_sb]
  unfold sn
  rw [zi_val, num_pad]
  have e : (lN : Int) = (lNat : Int) := rfl
  obtain ⟨k, hk⟩ := Int.eq_ofNat_of_zero_le h.1
  rw [e, hk, ← Int.natCast_emod, Int.toNat_natCast, Int.toNat_natCast]
theorem red_mul {n m : Nat → Int} (hn : IsBytes 32 n) : Pt.mul (nN n) (Pt.mul (nN m) basePt) = Pt.mul (nN (sb (sn 64 (padW n)))) (Pt.mul (nN m) basePt) := by
  rw [nN_red hn, mul_comm', base_mod (nN n), mul_comm']
theorem red_base {n : Nat → Int} (hn : IsBytes 32 n) : Pt.mul (nN n) basePt = Pt.mul (nN (sb (sn 64 (padW n)))) basePt := by
  rw [nN_red hn, base_mod]

/-! The eight. -/
theorem dec_iff {p : Prop} [Decidable p] {b : Bool} (h : b = decide p) : b = true ↔ p := by rw [h]; exact decide_eq_true_iff
theorem smallG_is (f : Nat → Int) : smallG f = decide (Pt.mul 8 (ptO f) = Pt.zero) := by unfold smallG; rfl
theorem small_iff {P : Pt} : smallG (pb P) = true ↔ Pt.mul 8 P = Pt.zero := by
  have h := dec_iff (smallG_is (pb P))
  rw [ptO_pb] at h
  exact h
theorem pb_iff {P Q : Pt} : realEqA 64 (pb P) (pb Q) = true ↔ P = Q := dec_iff pb_eq
theorem small_same {P : Pt} : smallG (pb P) = realEqA 64 (pb (Pt.mul 8 P)) (pb Pt.zero) := by
  rw [Bool.eq_iff_iff]
  exact small_iff.trans pb_iff.symm
/-- Is the form among the first k of the list? -/
def listB (F : Nat → Nat → Int) (b : Nat → Int) : Nat → Bool
  | 0 => false
  | k + 1 => listB F b k || realEqA 32 b (F k)
theorem listB_iff {F : Nat → Nat → Int} {b : Nat → Int} : ∀ k, listB F b k = true ↔ ∃ i, i < k ∧ realEqA 32 b (F i) = true
  | 0 => by simp [listB]
  | k + 1 => by
    simp only [listB, Bool.or_eq_true, listB_iff k]
    constructor
    · rintro (⟨i, h1, h2⟩ | h)
      · exact ⟨i, by omega, h2⟩
      · exact ⟨k, by omega, h⟩
    · rintro ⟨i, h1, h2⟩
      by_cases e : i = k
      · subst e; exact .inr h2
      · exact .inl ⟨i, by omega, h2⟩
theorem eqA_all {n : Nat} {f g : Nat → Int} (h : realEqA n f g = true) : ∀ i, i < n → f i = g i := by
  simpa only [realEqA, List.all_eq_true, List.mem_range, beq_iff_eq] using h
theorem small_listed {F : Nat → Nat → Int} (hF : ∀ i, i < 8 → ∀ j, j < 32 → F i j = formB (Pt.mul i smOne).x (Pt.mul i smOne).y j) (n : Nat → Int) (t : Int) :
    smallG (someG n t) = listB F (encG (someG n t)) 8 := by
  rw [Bool.eq_iff_iff, listB_iff, encG_some]
  unfold someG
  refine small_iff.trans ?_
  have ht : 0 ≤ t % 8 ∧ t % 8 < 8 := by omega
  constructor
  · intro h
    refine ⟨(t % 8).toNat, by omega, eqA_of fun j hj => ?_⟩
    rw [some_eight h]
    exact (hF _ (by omega) j hj).symm
  · rintro ⟨i, hi, h⟩
    have h1 := eqA_all h
    rw [form_inj (P := somePt n t) (Q := Pt.mul i smOne) fun j hj => (h1 j hj).trans (hF i hi j hj)]
    exact small8 i

/-! The reasons to refuse. -/
theorem z_comm (a b : Zp) : a * b = b * a := by grind
theorem frac_of {d a b u : Zp} (h1 : a * u = 1) (h2 : d * a = -b) : d = -(b * u) := by
  have e : d = d * a * u + d * (1 - a * u) := by grind
  rw [e, h1, h2]
  grind
def n6 : Zp := zi pN 121666
def n5 : Zp := zi pN 121665
def u6 : Zp := zinv n6
theorem d_n0 : n6 ≠ 0 := by unfold n6; decide +kernel
theorem d_n1 : dZ * n6 = - n5 := by unfold dZ n6 n5; decide +kernel
theorem d_n2 : n6 * u6 = 1 := mul_zinv prP d_n0
theorem zinv_n6 : zinv n6 = u6 := rfl
theorem d_frac : dZ = -(n5 * u6) := frac_of d_n2 d_n1
theorem leg_fact {m u v : Zp} (hm : m ≠ 0) : legZ (u * m * (m * v)) = legZ (u * v) := by
  have e : u * m * (m * v) = m * m * (u * v) := by grind
  rw [e, leg_mul, leg_mul, leg_sq1 hm, Int.one_mul]
theorem leg_gen {m n u o y D : Zp} (hm : m ≠ 0) (hD : D = -(n * u)) (ho : o = 1) : legZ ((y * y - o) * m * (m * (y * y * -(n * u) + o))) = legZ ((y * y - 1) * (D * (y * y) + 1)) := by
  rw [← hD, ho, z_comm (y * y) D]
  exact leg_fact hm
def o1 : Zp := zi pN 1
theorem o1_is : o1 = 1 := zi_one
theorem leg_is (y : Zp) : legZ ((y * y - o1) * n6 * (n6 * (y * y * -(n5 * u6) + o1))) = legZ ((y * y - 1) * (dZ * (y * y) + 1)) := leg_gen d_n0 d_frac o1_is
theorem dcR_leg (b : Nat → Int) : (legZ ((fe (dcY b) * fe (dcY b) - 1) * (dZ * (fe (dcY b) * fe (dcY b)) + 1)) < 0 → (dcR b).2 = false)
    ∧ (legZ ((fe (dcY b) * fe (dcY b) - 1) * (dZ * (fe (dcY b) * fe (dcY b)) + 1)) = 0 → (dcR b).2 = true ∧ (dcR b).1 = 0)
    ∧ (0 ≤ legZ ((fe (dcY b) * fe (dcY b) - 1) * (dZ * (fe (dcY b) * fe (dcY b)) + 1)) → (dcR b).2 = true)
    ∧ (legZ ((fe (dcY b) * fe (dcY b) - 1) * (dZ * (fe (dcY b) * fe (dcY b)) + 1)) ≠ 0 → (dcR b).2 = true → (dcR b).1 ≠ 0) := by
  have hv := den_ne (fe (dcY b))
  have hR : dcR b = sqrtZ (fe (dcY b) * fe (dcY b) - 1) (dZ * (fe (dcY b) * fe (dcY b)) + 1) := rfl
  rw [hR]
  generalize dZ * (fe (dcY b) * fe (dcY b)) + 1 = v at *
  generalize fe (dcY b) * fe (dcY b) - 1 = u at *
  by_cases hu : u = 0
  · subst hu
    have h0 : legZ (0 * v) = 0 := legZ_zero.2 (by grind)
    rw [h0, sqrt_u0]
    exact ⟨fun h => absurd h (by decide), fun _ => ⟨rfl, rfl⟩, fun _ => rfl, fun h => absurd rfl h⟩
  · have hok := sqrt_ok hu hv
    have hne : legZ (u * v) ≠ 0 := fun h => z_ne_mul hu hv (legZ_zero.1 h)
    have hr := legZ_range (u * v)
    refine ⟨fun h => ?_, fun h => absurd h hne, fun h => ?_, fun _ h2 h3 => ?_⟩
    · rw [hok]
      clear hok hr
      generalize legZ (u * v) = l at *
      exact decide_eq_false (by omega)
    · rw [hok]
      clear hok
      generalize legZ (u * v) = l at *
      exact decide_eq_true (by omega)
    · have h4 := (sqrt_root h2).1
      rw [h3] at h4
      exact hu (by rw [← h4]; grind)
end Sx

/-
  Contracts at what is no point; the equation.
-/
namespace Sx
open Go

structure NotPt (f : Nat → Int) : Prop where
  h : onB f = false
structure NotBoth (f g : Nat → Int) : Prop where
  h : ¬ (onB f = true ∧ onB g = true)
def onOFF : Contract := fun vs => match vs with
  | [.arr .u8 64 f] => some ([NotPt f], .bool (.lit false))
  | _ => none
def encOFF : Contract := fun vs => match vs with
  | [.arr .u8 64 f] => some ([NotPt f], .tup [.arr .u8 32 (fun _ => 0), .int .i64 (.lit 43)])
  | _ => none
def pt1OFF : Contract := fun vs => match vs with
  | [.arr .u8 64 f] => some ([NotPt f], .tup [.arr .u8 64 (fun _ => 0), .int .i64 (.lit 43)])
  | _ => none
def pt2OFF : Contract := fun vs => match vs with
  | [.arr .u8 64 f, .arr .u8 64 g] => some ([NotBoth f g], .tup [.arr .u8 64 (fun _ => 0), .int .i64 (.lit 43)])
  | _ => none
def ptMOFF : Contract := fun vs => match vs with
  | [.arr .u8 32 _, .arr .u8 64 f] => some ([NotPt f], .tup [.arr .u8 64 (fun _ => 0), .int .i64 (.lit 43)])
  | _ => none
def ptCOFF : Contract := fun vs => match vs with
  | [.arr .u8 32 _, .arr .u8 64 f, .arr .u8 32 _] => some ([NotPt f], .tup [.arr .u8 64 (fun _ => 0), .int .i64 (.lit 43)])
  | _ => none
def smallOFF : Contract := fun vs => match vs with
  | [.arr .u8 64 f] => some ([NotPt f], .tup [.bool (.lit false), .int .i64 (.lit 43)])
  | _ => none
theorem offE_off {f : Nat → Int} (h : NotPt f) : offE f = 43 := by unfold offE; rw [h.h]; rfl
theorem sameWP_lit {a b : Bool} (h : a = b) : SameWP (.bool (.sym a)) (.bool (.lit b)) := h
section
variable {P : Program} {G : Nat → AV} {i : FuncId}
theorem offw_on (h : Sound P G i (onPC onB)) : Sound P G i onOFF := h.weak (by
  intro vs cs r h hcs hwf
  unfold onOFF at h
  split at h
  · rename_i f
    cases h
    have h1 : NotPt f := hcs _ (by simp)
    exact ⟨[], _, rfl, by simp, sameW_bool h1.h⟩
  · cases h)
theorem offw_enc (h : Sound P G i (encC encF offE)) : Sound P G i encOFF := h.weak (by
  intro vs cs r h hcs hwf
  unfold encOFF at h
  split at h
  · rename_i f
    cases h
    have h1 : NotPt f := hcs _ (by simp)
    exact ⟨[], _, rfl, by simp, sameW_tup ⟨⟨rfl, rfl, fun j _ => by unfold encF; rw [h1.h]; rfl⟩, ⟨rfl, offE_off h1⟩, trivial⟩⟩
  · cases h)
theorem offw_neg (h : Sound P G i (pt1C negF offE)) : Sound P G i pt1OFF := h.weak (by
  intro vs cs r h hcs hwf
  unfold pt1OFF at h
  split at h
  · rename_i f
    cases h
    have h1 : NotPt f := hcs _ (by simp)
    exact ⟨[], _, rfl, by simp, sameW_tup ⟨⟨rfl, rfl, fun j _ => by unfold negF; rw [h1.h]; rfl⟩, ⟨rfl, offE_off h1⟩, trivial⟩⟩
  · cases h)
theorem offw_dbl (h : Sound P G i (pt1C dblF offE)) : Sound P G i pt1OFF := h.weak (by
  intro vs cs r h hcs hwf
  unfold pt1OFF at h
  split at h
  · rename_i f
    cases h
    have h1 : NotPt f := hcs _ (by simp)
    exact ⟨[], _, rfl, by simp, sameW_tup ⟨⟨rfl, rfl, fun j _ => by unfold dblF; rw [h1.h]; rfl⟩, ⟨rfl, offE_off h1⟩, trivial⟩⟩
  · cases h)
theorem offw_add (h : Sound P G i (pt2C ptAddF ptAddE)) : Sound P G i pt2OFF := h.weak (by
  intro vs cs r h hcs hwf
  unfold pt2OFF at h
  split at h
  · rename_i f g
    cases h
    have h1 : NotBoth f g := hcs _ (by simp)
    exact ⟨[], _, rfl, by simp, sameW_tup ⟨⟨rfl, rfl, fun j _ => by unfold ptAddF; rw [if_neg h1.h]; rfl⟩, ⟨rfl, by show ptAddE f g = 43; unfold ptAddE; rw [if_neg h1.h]⟩, trivial⟩⟩
  · cases h)
theorem offw_mul (h : Sound P G i (ptMC mulPF offE)) : Sound P G i ptMOFF := h.weak (by
  intro vs cs r h hcs hwf
  unfold ptMOFF at h
  split at h
  · rename_i n f
    cases h
    have h1 : NotPt f := hcs _ (by simp)
    exact ⟨[], _, rfl, by simp, sameW_tup ⟨⟨rfl, rfl, fun j _ => by unfold mulPF; rw [h1.h]; rfl⟩, ⟨rfl, offE_off h1⟩, trivial⟩⟩
  · cases h)
theorem offw_comb (h : Sound P G i (ptCC combF offE)) : Sound P G i ptCOFF := h.weak (by
  intro vs cs r h hcs hwf
  unfold ptCOFF at h
  split at h
  · rename_i n f m
    cases h
    have h1 : NotPt f := hcs _ (by simp)
    exact ⟨[], _, rfl, by simp, sameW_tup ⟨⟨rfl, rfl, fun j _ => by unfold combF; rw [h1.h]; rfl⟩, ⟨rfl, offE_off h1⟩, trivial⟩⟩
  · cases h)
theorem offw_small (h : Sound P G i (smallC smallF offE)) : Sound P G i smallOFF := h.weak (by
  intro vs cs r h hcs hwf
  unfold smallOFF at h
  split at h
  · rename_i f
    cases h
    have h1 : NotPt f := hcs _ (by simp)
    exact ⟨[], _, rfl, by simp, sameW_tup ⟨sameWP_lit (by unfold smallF; rw [h1.h, Bool.false_and]), ⟨rfl, offE_off h1⟩, trivial⟩⟩
  · cases h)
end

theorem dd_f {x : Bool} (hx : x = false) (h : (match decide (false = x) with | true => false | false => true) = true) : False := by subst hx; simp at h
theorem dd_t {x : Bool} (hx : x = true) (h : (match decide (true = x) with | true => false | false => true) = true) : False := by subst hx; simp at h
theorem nt_t {x : Bool} (h : (match x with | true => false | false => true) = true) (hx : x = true) : False := by subst hx; simp at h
theorem nt_f {x : Bool} (h : (match x with | true => false | false => true) = false) (hx : x = false) : False := by subst hx; simp at h

theorem or2_dead {a b : Bool} (h : (match (match a with | true => false | false => true) with | true => true | false => match b with | true => false | false => true) = true) (ha : a = true) (hb : b = true) : False := by subst ha hb; simp at h

/-! The equation as the law writes it. -/
theorem z_left {a b c : Zp} (h : a - b = c) : a = c + b := by rw [← h]; grind
theorem eq_gen {m n d x y : Zp} (hm : m ≠ 0) (hd : d * m = -n) : m * (y - x - 1) = -(n * (x * y)) ↔ y - x = 1 + d * x * y := by
  have e : m * (y - x - 1) - -(n * (x * y)) = m * ((y - x) - (1 + d * x * y)) + (d * m + n) * (x * y) := by grind
  rw [hd] at e
  constructor
  · intro h
    have h1 : m * ((y - x) - (1 + d * x * y)) = 0 := by
      have e2 : m * ((y - x) - (1 + d * x * y)) = (m * (y - x - 1) - -(n * (x * y))) - (-n + n) * (x * y) := by rw [e]; grind
      rw [e2, h]; grind
    exact z_cancel ((zdom prP h1).resolve_left hm)
  · intro h
    refine z_cancel ?_
    rw [e, h]; grind
theorem onE_law (x y : Zp) : onE x y ↔ n6 * (y * y - x * x - o1) = -(n5 * (x * x * (y * y))) := by
  rw [o1_is, eq_gen d_n0 d_n1]
  unfold onE
  exact Iff.rfl
/-- The law's test is the program's. -/
theorem on_law {f : Nat → Int} (h : canB f = true ∧ canB (nx 32 f) = true) :
    realEqA 32 (fb (n6 * (fe (nx 32 f) * fe (nx 32 f) - fe f * fe f - o1))) (fb (-(n5 * (fe f * fe f * (fe (nx 32 f) * fe (nx 32 f)))))) = onB f := by
  unfold onB
  rw [h.1, h.2, fb_inj, Bool.and_self, Bool.true_and, Bool.eq_iff_iff]
  exact (dec_iff rfl).trans ((onE_law _ _).symm.trans (dec_iff rfl).symm)
end Sx

/-
  The order's law: a number's remainder serves as well.
-/
namespace Sx
open Go
theorem red_W {n W : Nat → Int} (hW : ∀ j, j < 64 → W j = padW n j) : sn 64 W = sn 64 (padW n) := by unfold sn; rw [num_congr 64 hW]
theorem red_mulW {n m W : Nat → Int} (hn : IsBytes 32 n) (hW : ∀ j, j < 64 → W j = padW n j) : Pt.mul (nN n) (Pt.mul (nN m) basePt) = Pt.mul (nN (sb (sn 64 W))) (Pt.mul (nN m) basePt) := by
  rw [red_W hW]
  exact red_mul hn
theorem red_baseW {n W : Nat → Int} (hn : IsBytes 32 n) (hW : ∀ j, j < 64 → W j = padW n j) : Pt.mul (nN n) basePt = Pt.mul (nN (sb (sn 64 W))) basePt := by
  rw [red_W hW]
  exact red_base hn
end Sx

/-
  The law of forms: each reason to refuse holds, and what is taken is the form of what is answered.
-/
namespace Sx
open Go
theorem b_ft {x : Bool} (h1 : x = true) (h2 : x = false) : False := by rw [h1] at h2; cases h2
theorem b_tf {x : Bool} (h1 : x = false) (h2 : x = true) : False := by rw [h1] at h2; cases h2
theorem chain6 {a b c d e f : Bool} (h1 : a = true) (h2 : b = true) (h3 : c = true) (h4 : d = true) (h5 : e = true) (h6 : f = true) : (match (match (match (match (match a with | true => b | false => false) with | true => c | false => false) with | true => d | false => false) with | true => e | false => false) with | true => f | false => false) = true := by subst h1 h2 h3 h4 h5 h6; rfl
def legB (b : Nat → Int) : Int := legZ ((fe (dcY b) * fe (dcY b) - 1) * (dZ * (fe (dcY b) * fe (dcY b)) + 1))
def invF (f : Nat → Int) : Nat → Int := fb (zinv (fe f))
theorem fe_invF (f : Nat → Int) : fe (invF f) = zinv (fe f) := fe_fb _
theorem legB_is (b : Nat → Int) : legZ (fe (fb (fe (fb (fe (fb (fe (fb (fe (dcY b) * fe (dcY b))) - fe (byt 1))) * fe (byt 121666))) * fe (fb (fe (byt 121666) * fe (fb (fe (fb (fe (fb (fe (dcY b) * fe (dcY b))) * fe (fb (-fe (fb (fe (byt 121665) * fe (invF (byt 121666)))))))) + fe (byt 1)))))))) = legB b := by
  have e1 : fe (byt 1) = o1 := fe_small ⟨by decide⟩
  have e6 : fe (byt 121666) = n6 := fe_small ⟨by decide⟩
  have e5 : fe (byt 121665) = n5 := fe_small ⟨by decide⟩
  rw [fe_invF, e1, e6, e5]
  simp only [fe_fb]
  rw [zinv_n6]
  exact leg_is _
theorem legB_leg (b : Nat → Int) : legZ ((fe (dcY b) * fe (dcY b) - o1) * n6 * (n6 * (fe (dcY b) * fe (dcY b) * -(n5 * u6) + o1))) = legB b := leg_is _
theorem fe_o1 : fe (byt 1) = o1 := fe_small ⟨by decide⟩
theorem fe_n6 : fe (byt 121666) = n6 := fe_small ⟨by decide⟩
theorem fe_n5 : fe (byt 121665) = n5 := fe_small ⟨by decide⟩
theorem fe_u6 : fe (invF (byt 121666)) = u6 := by rw [fe_invF, fe_n6, zinv_n6]
theorem forms_40 {b : Nat → Int} (h : canB (dcY b) = false) : decE b = 40 ∧ realEqA 64 (decF b) (fun _ => 0) = true := by
  have h1 := dec_40 h
  exact ⟨h1.2.1.symm, eqA_of fun i hi => (h1.1 i hi).symm⟩
theorem forms_41 {b : Nat → Int} (h : canB (dcY b) = true) (hl : legB b < 0) : decE b = 41 ∧ realEqA 64 (decF b) (fun _ => 0) = true := by
  have h1 := dec_41 h ((dcR_leg b).1 hl)
  exact ⟨h1.2.1.symm, eqA_of fun i hi => (h1.1 i hi).symm⟩
theorem forms_42 {b : Nat → Int} (h : canB (dcY b) = true) (hl : legB b = 0) (hs : dcS b = true) : decE b = 42 ∧ realEqA 64 (decF b) (fun _ => 0) = true := by
  have h0 := (dcR_leg b).2.1 hl
  have h1 := dec_42 h h0.1 hs h0.2
  exact ⟨h1.2.1.symm, eqA_of fun i hi => (h1.1 i hi).symm⟩
theorem decE_0 {b : Nat → Int} (h : canB (dcY b) = true) (h2 : (dcR b).2 = true) (h3 : ¬ (dcS b = true ∧ (dcR b).1 = 0)) : decE b = 0 := by
  unfold decE
  rw [h, h2, if_neg (by simp), if_neg (by simp), if_neg h3]
theorem forms_00 {b : Nat → Int} (hb : IsBytes 32 b) (h : canB (dcY b) = true) (hl : ¬ legB b < 0) (hs : ¬ (legB b = 0 ∧ dcS b = true)) :
    decE b = 0 ∧ offE (decF b) = 0 ∧ onB (decF b) = true ∧ realEqA 32 (nx 32 (decF b)) (dcY b) = true ∧ oddB (decF b) = dcS b ∧ realEqA 32 (encF (decF b)) b = true := by
  have hr := dcR_leg b
  have h2 : (dcR b).2 = true := hr.2.2.1 (Int.not_lt.1 hl)
  have hE : decE b = 0 := decE_0 h h2 fun ⟨e1, e2⟩ => by
    by_cases e : legB b = 0
    · exact hs ⟨e, e1⟩
    · exact hr.2.2.2 e h2 e2
  obtain ⟨P, p1, p2, p3, p4⟩ := dec_is hb hE
  rw [p1]
  have hon := onB_pb P
  refine ⟨hE, by unfold offE; rw [if_pos hon], hon, ?_, ?_, ?_⟩
  · rw [show nx 32 (pb P) = fb P.y from nx_pb _ _]
    exact eqA_of fun i hi => (p3 i hi).symm
  · rw [oddB_z, show fe (pb P) = P.x from fe_ptB _ _]
    exact p4
  · unfold encF
    rw [if_pos hon, ptO_pb]
    exact eqA_of fun i hi => (p2 i hi).symm
end Sx

