/-
  A part of the proof. No condition.
-/
import Derived.Test.YtnbjbamoddmbhaaDoorZMA
import Derived.Test.YtnbjbamoddmbhaaDoorZNA

/-
  What FieldCanon asks, in plain numbers.
-/
namespace Sx
open Go

theorem num_p : num 32 (byt p25) = p25 := num_byt 32 p25 (by decide) (by decide)
theorem num_small {n : Int} (h0 : 0 ≤ n) (h : n < 115792089237316195423570985008687907853269984665640564039457584007913129639936) : num 32 (byt n) = n := by
  refine num_byt 32 n h0 ?_
  have e : (256 : Int) ^ 32 = 115792089237316195423570985008687907853269984665640564039457584007913129639936 := by decide
  rw [e]; exact h
theorem num_lt {f : Nat → Int} (hf : IsBytes 32 f) : 0 ≤ num 32 f ∧ num 32 f < 115792089237316195423570985008687907853269984665640564039457584007913129639936 := by
  have h := num_bounds 32 f hf
  have e : (256 : Int) ^ 32 = 115792089237316195423570985008687907853269984665640564039457584007913129639936 := by decide
  rw [e] at h; exact h
theorem eqA_true {n : Nat} {f g : Nat → Int} (h : ∀ i, i < n → f i = g i) : realEqA n f g = true := by
  simp only [realEqA, List.all_eq_true, List.mem_range, beq_iff_eq]
  exact h

variable {a : Nat → Int} (ha : IsBytes 32 a)
include ha

omit ha in
theorem canon_1 : ltB (byt (redN a)) (byt p25) = true := by
  unfold ltB
  rw [num_p, num_red]
  exact decide_eq_true (modp _).2
omit ha in
theorem canon_2 : canB a = ltB a (byt p25) := by
  unfold ltB canB
  rw [num_p]
omit ha in
theorem canon_3 : canB (byt (redN a)) = true := by
  unfold canB
  rw [num_red]
  exact decide_eq_true (modp _).2
omit ha in
theorem canon_once : num 32 (byt (sumN (byt (redN a)) (byt p25))) = num 32 a % p25 + p25 := by
  have h := modp (num 32 a)
  have e : sumN (byt (redN a)) (byt p25) = num 32 a % p25 + p25 := by unfold sumN; rw [num_red, num_p]
  rw [e]
  simp only [p25] at h ⊢
  exact num_small (by omega) (by omega)
theorem canon_4 : realEqA 32 a (byt (redN a)) = true ∨ realEqA 32 a (byt (sumN (byt (redN a)) (byt p25))) = true ∨ realEqA 32 a (byt (sumN (byt (sumN (byt (redN a)) (byt p25))) (byt p25))) = true := by
  have hb := num_lt ha
  have e2 : sumN (byt (redN a)) (byt p25) = num 32 a % p25 + p25 := by unfold sumN; rw [num_red, num_p]
  have e3 : sumN (byt (sumN (byt (redN a)) (byt p25))) (byt p25) = num 32 a % p25 + p25 + p25 := by unfold sumN; rw [num_p]; show num 32 (byt (sumN (byt (redN a)) (byt p25))) + p25 = _; rw [canon_once]
  have hk : num 32 a = num 32 a % p25 ∨ num 32 a = num 32 a % p25 + p25 ∨ num 32 a = num 32 a % p25 + p25 + p25 := by
    simp only [p25]
    omega
  rcases hk with h | h | h
  · left
    refine eqA_true fun i hi => ?_
    unfold redN
    rw [← h, byt_num 32 a ha i hi]
  · right; left
    refine eqA_true fun i hi => ?_
    rw [e2, ← h, byt_num 32 a ha i hi]
  · right; right
    refine eqA_true fun i hi => ?_
    rw [e3, ← h, byt_num 32 a ha i hi]
omit ha in
theorem canon_5 : oddB a = realCmp .eql (realBin .rem .u8 (byt (redN a) 0) 2) 1 := by
  have hb := byt_isBytes (redN a) 32 0 (by decide)
  rw [rem_i64 hb.1]
  unfold oddB redN
  rw [Bool.eq_iff_iff]
  simp only [realCmp, byt, Int.pow_zero, Int.ediv_one, beq_iff_eq, decide_eq_true_eq]
  omega
omit ha in
theorem canon_6 : eqB a (byt (redN a)) = true := by
  unfold eqB
  rw [num_red]
  simp
omit ha in
theorem canon_7 : eqB (byt (redN a)) (byt (sumN (byt (redN a)) (byt p25))) = true := by
  unfold eqB
  rw [canon_once, num_red]
  simp
omit ha in
theorem canon_8 : eqB a (byt (addN a (byt 1))) = false := by
  unfold eqB
  rw [num_add, num_small (n := 1) (by decide) (by decide)]
  refine decide_eq_false ?_
  simp only [p25]
  omega
omit ha in
theorem canon_9 : realEqA 32 (byt (redN (byt (sumN (byt (redN a)) (byt p25))))) (byt (redN a)) = true := by
  refine eqA_true fun i _ => ?_
  have e : redN (byt (sumN (byt (redN a)) (byt p25))) = redN a := by
    unfold redN
    rw [show num 32 (byt (sumN (byt (num 32 a % p25)) (byt p25))) = num 32 a % p25 + p25 from canon_once]
    simp
  rw [e]
end Sx

/-
  Facts behind the point laws: the order, the eight, the reasons to refuse.
-/
namespace Sx
open Go

/-! The order. -/
theorem nN_lI : nN (byt lI) = lNat := by
  rw [nN_byt (by decide) (by decide)]
  rfl
def dblB (f : Nat → Int) : Nat → Int := byt (sumN f f)
theorem num_dbl {f : Nat → Int} {x : Int} (h : num 32 f = x) (h0 : 0 ≤ x) (h1 : x + x < 115792089237316195423570985008687907853269984665640564039457584007913129639936) : num 32 (dblB f) = x + x := by
  unfold dblB sumN
  rw [h]
  exact num_small (by omega) h1
theorem nN_8L : nN (dblB (dblB (dblB (byt lI)))) = 8 * lNat := by
  have h0 : num 32 (byt lI) = lI := num_small (by decide) (by decide)
  have h1 := num_dbl h0 (by decide) (by decide)
  have h2 := num_dbl h1 (by decide) (by decide)
  have h3 := num_dbl h2 (by decide) (by decide)
  unfold nN
  rw [h3]
  decide +kernel
theorem order_ne : realEqA 32 (byt lI) (fun _ => 0) = false := by decide +kernel
def padW (n : Nat → Int) : Nat → Int := fun j => if j < 32 then n j else 0
theorem num_pad (n : Nat → Int) : num 64 (padW n) = num 32 n := by
  have e := num_split 32 32 (padW n)
  have e1 : num 32 (padW n) = num 32 n := num_congr 32 fun i hi => if_pos hi
  have e2 : num 32 (fun i => padW n (32 + i)) = 0 := by
    have h : ∀ i, i < 32 → (fun i => padW n (32 + i)) i = (fun _ => (0 : Int)) i := fun i _ => if_neg (by omega)
    rw [num_congr 32 h]
    exact num_zero 32
  rw [e1, e2] at e
  rw [e]
  omega
theorem nN_red {n : Nat → Int} (hn : IsBytes 32 n) : nN (sb (sn 64 (padW n))) = nN n % lNat := by
  have h := num_bounds 32 n hn
  unfold nN
  rw [num_sb]
  unfold sn
  rw [zi_val, num_pad]
  have e : (lN : Int) = (lNat : Int) := rfl
  obtain ⟨k, hk⟩ := Int.eq_ofNat_of_zero_le h.1
  rw [e, hk, ← Int.natCast_emod, Int.toNat_natCast, Int.toNat_natCast]
theorem red_mul {n m : Nat → Int} (hn : IsBytes 32 n) : Pt.mul (nN n) (Pt.mul (nN m) basePt) = Pt.mul (nN (sb (sn 64 (padW n)))) (Pt.mul (nN m) basePt) := by
  rw [nN_red hn, mul_comm', base_mod (nN n), mul_comm']
theorem red_base {n : Nat → Int} (hn : IsBytes 32 n) : Pt.mul (nN n) basePt = Pt.mul (nN (sb (sn 64 (padW n)))) basePt := by
  rw [nN_red hn, base_mod]

/-! The eight. -/
theorem dec_iff {p : Prop} [Decidable p] {b : Bool} (h : b = decide p) : b = true ↔ p := by rw [h]; exact decide_eq_true_iff
theorem smallG_is (f : Nat → Int) : smallG f = decide (Pt.mul 8 (ptO f) = Pt.zero) := by unfold smallG; rfl
theorem small_iff {P : Pt} : smallG (pb P) = true ↔ Pt.mul 8 P = Pt.zero := by
  have h := dec_iff (smallG_is (pb P))
  rw [ptO_pb] at h
  exact h
theorem pb_iff {P Q : Pt} : realEqA 64 (pb P) (pb Q) = true ↔ P = Q := dec_iff pb_eq
theorem small_same {P : Pt} : smallG (pb P) = realEqA 64 (pb (Pt.mul 8 P)) (pb Pt.zero) := by
  rw [Bool.eq_iff_iff]
  exact small_iff.trans pb_iff.symm
/-- Is the form among the first k of the list? -/
def listB (F : Nat → Nat → Int) (b : Nat → Int) : Nat → Bool
  | 0 => false
  | k + 1 => listB F b k || realEqA 32 b (F k)
theorem listB_iff {F : Nat → Nat → Int} {b : Nat → Int} : ∀ k, listB F b k = true ↔ ∃ i, i < k ∧ realEqA 32 b (F i) = true
  | 0 => by simp [listB]
  | k + 1 => by
    simp only [listB, Bool.or_eq_true, listB_iff k]
    constructor
    · rintro (⟨i, h1, h2⟩ | h)
      · exact ⟨i, by omega, h2⟩
      · exact ⟨k, by omega, h⟩
    · rintro ⟨i, h1, h2⟩
      by_cases e : i = k
      · subst e; exact .inr h2
      · exact .inl ⟨i, by omega, h2⟩
theorem eqA_all {n : Nat} {f g : Nat → Int} (h : realEqA n f g = true) : ∀ i, i < n → f i = g i := by
  simpa only [realEqA, List.all_eq_true, List.mem_range, beq_iff_eq] using h
theorem small_listed {F : Nat → Nat → Int} (hF : ∀ i, i < 8 → ∀ j, j < 32 → F i j = formB (Pt.mul i smOne).x (Pt.mul i smOne).y j) (n : Nat → Int) (t : Int) :
    smallG (someG n t) = listB F (encG (someG n t)) 8 := by
  rw [Bool.eq_iff_iff, listB_iff, encG_some]
  unfold someG
  refine small_iff.trans ?_
  have ht : 0 ≤ t % 8 ∧ t % 8 < 8 := by omega
  constructor
  · intro h
    refine ⟨(t % 8).toNat, by omega, eqA_of fun j hj => ?_⟩
    rw [some_eight h]
    exact (hF _ (by omega) j hj).symm
  · rintro ⟨i, hi, h⟩
    have h1 := eqA_all h
    rw [form_inj (P := somePt n t) (Q := Pt.mul i smOne) fun j hj => (h1 j hj).trans (hF i hi j hj)]
    exact small8 i

/-! The reasons to refuse. -/
theorem z_comm (a b : Zp) : a * b = b * a := by grind
theorem frac_of {d a b u : Zp} (h1 : a * u = 1) (h2 : d * a = -b) : d = -(b * u) := by
  have e : d = d * a * u + d * (1 - a * u) := by grind
  rw [e, h1, h2]
  grind
def n6 : Zp := zi pN 121666
def n5 : Zp := zi pN 121665
def u6 : Zp := zinv n6
theorem d_n0 : n6 ≠ 0 := by unfold n6; decide +kernel
theorem d_n1 : dZ * n6 = - n5 := by unfold dZ n6 n5; decide +kernel
theorem d_n2 : n6 * u6 = 1 := mul_zinv prP d_n0
theorem zinv_n6 : zinv n6 = u6 := rfl
theorem d_frac : dZ = -(n5 * u6) := frac_of d_n2 d_n1
theorem leg_fact {m u v : Zp} (hm : m ≠ 0) : legZ (u * m * (m * v)) = legZ (u * v) := by
  have e : u * m * (m * v) = m * m * (u * v) := by grind
  rw [e, leg_mul, leg_mul, leg_sq1 hm, Int.one_mul]
theorem leg_gen {m n u o y D : Zp} (hm : m ≠ 0) (hD : D = -(n * u)) (ho : o = 1) : legZ ((y * y - o) * m * (m * (y * y * -(n * u) + o))) = legZ ((y * y - 1) * (D * (y * y) + 1)) := by
  rw [← hD, ho, z_comm (y * y) D]
  exact leg_fact hm
def o1 : Zp := zi pN 1
theorem o1_is : o1 = 1 := zi_one
theorem leg_is (y : Zp) : legZ ((y * y - o1) * n6 * (n6 * (y * y * -(n5 * u6) + o1))) = legZ ((y * y - 1) * (dZ * (y * y) + 1)) := leg_gen d_n0 d_frac o1_is
theorem dcR_leg (b : Nat → Int) : (legZ ((fe (dcY b) * fe (dcY b) - 1) * (dZ * (fe (dcY b) * fe (dcY b)) + 1)) < 0 → (dcR b).2 = false)
    ∧ (legZ ((fe (dcY b) * fe (dcY b) - 1) * (dZ * (fe (dcY b) * fe (dcY b)) + 1)) = 0 → (dcR b).2 = true ∧ (dcR b).1 = 0)
    ∧ (0 ≤ legZ ((fe (dcY b) * fe (dcY b) - 1) * (dZ * (fe (dcY b) * fe (dcY b)) + 1)) → (dcR b).2 = true)
    ∧ (legZ ((fe (dcY b) * fe (dcY b) - 1) * (dZ * (fe (dcY b) * fe (dcY b)) + 1)) ≠ 0 → (dcR b).2 = true → (dcR b).1 ≠ 0) := by
  have hv := den_ne (fe (dcY b))
  have hR : dcR b = sqrtZ (fe (dcY b) * fe (dcY b) - 1) (dZ * (fe (dcY b) * fe (dcY b)) + 1) := rfl
  rw [hR]
  generalize dZ * (fe (dcY b) * fe (dcY b)) + 1 = v at *
  generalize fe (dcY b) * fe (dcY b) - 1 = u at *
  by_cases hu : u = 0
  · subst hu
    have h0 : legZ (0 * v) = 0 := legZ_zero.2 (by grind)
    rw [h0, sqrt_u0]
    exact ⟨fun h => absurd h (by decide), fun _ => ⟨rfl, rfl⟩, fun _ => rfl, fun h => absurd rfl h⟩
  · have hok := sqrt_ok hu hv
    have hne : legZ (u * v) ≠ 0 := fun h => z_ne_mul hu hv (legZ_zero.1 h)
    have hr := legZ_range (u * v)
    refine ⟨fun h => ?_, fun h => absurd h hne, fun h => ?_, fun _ h2 h3 => ?_⟩
    · rw [hok]
      clear hok hr
      generalize legZ (u * v) = l at *
      exact decide_eq_false (by omega)
    · rw [hok]
      clear hok
      generalize legZ (u * v) = l at *
      exact decide_eq_true (by omega)
    · have h4 := (sqrt_root h2).1
      rw [h3] at h4
      exact hu (by rw [← h4]; grind)
end Sx

/-
  Contracts at what is no point; the equation.
-/
namespace Sx
open Go

structure NotPt (f : Nat → Int) : Prop where
  h : onB f = false
structure NotBoth (f g : Nat → Int) : Prop where
  h : ¬ (onB f = true ∧ onB g = true)
def onOFF : Contract := fun vs => match vs with
  | [.arr .u8 64 f] => some ([NotPt f], .bool (.lit false))
  | _ => none
def encOFF : Contract := fun vs => match vs with
  | [.arr .u8 64 f] => some ([NotPt f], .tup [.arr .u8 32 (fun _ => 0), .int .i64 (.lit 43)])
  | _ => none
def pt1OFF : Contract := fun vs => match vs with
  | [.arr .u8 64 f] => some ([NotPt f], .tup [.arr .u8 64 (fun _ => 0), .int .i64 (.lit 43)])
  | _ => none
def pt2OFF : Contract := fun vs => match vs with
  | [.arr .u8 64 f, .arr .u8 64 g] => some ([NotBoth f g], .tup [.arr .u8 64 (fun _ => 0), .int .i64 (.lit 43)])
  | _ => none
def ptMOFF : Contract := fun vs => match vs with
  | [.arr .u8 32 _, .arr .u8 64 f] => some ([NotPt f], .tup [.arr .u8 64 (fun _ => 0), .int .i64 (.lit 43)])
  | _ => none
def ptCOFF : Contract := fun vs => match vs with
  | [.arr .u8 32 _, .arr .u8 64 f, .arr .u8 32 _] => some ([NotPt f], .tup [.arr .u8 64 (fun _ => 0), .int .i64 (.lit 43)])
  | _ => none
def smallOFF : Contract := fun vs => match vs with
  | [.arr .u8 64 f] => some ([NotPt f], .tup [.bool (.lit false), .int .i64 (.lit 43)])
  | _ => none
theorem offE_off {f : Nat → Int} (h : NotPt f) : offE f = 43 := by unfold offE; rw [h.h]; rfl
theorem sameWP_lit {a b : Bool} (h : a = b) : SameWP (.bool (.sym a)) (.bool (.lit b)) := h
section
variable {P : Program} {G : Nat → AV} {i : FuncId}
theorem offw_on (h : Sound P G i (onPC onB)) : Sound P G i onOFF := h.weak (by
  intro vs cs r h hcs hwf
  unfold onOFF at h
  split at h
  · rename_i f
    cases h
    have h1 : NotPt f := hcs _ (by simp)
    exact ⟨[], _, rfl, by simp, sameW_bool h1.h⟩
  · cases h)
theorem offw_enc (h : Sound P G i (encC encF offE)) : Sound P G i encOFF := h.weak (by
  intro vs cs r h hcs hwf
  unfold encOFF at h
  split at h
  · rename_i f
    cases h
    have h1 : NotPt f := hcs _ (by simp)
    exact ⟨[], _, rfl, by simp, sameW_tup ⟨⟨rfl, rfl, fun j _ => by unfold encF; rw [h1.h]; rfl⟩, ⟨rfl, offE_off h1⟩, trivial⟩⟩
  · cases h)
theorem offw_neg (h : Sound P G i (pt1C negF offE)) : Sound P G i pt1OFF := h.weak (by
  intro vs cs r h hcs hwf
  unfold pt1OFF at h
  split at h
  · rename_i f
    cases h
    have h1 : NotPt f := hcs _ (by simp)
    exact ⟨[], _, rfl, by simp, sameW_tup ⟨⟨rfl, rfl, fun j _ => by unfold negF; rw [h1.h]; rfl⟩, ⟨rfl, offE_off h1⟩, trivial⟩⟩
  · cases h)
theorem offw_dbl (h : Sound P G i (pt1C dblF offE)) : Sound P G i pt1OFF := h.weak (by
  intro vs cs r h hcs hwf
  unfold pt1OFF at h
  split at h
  · rename_i f
    cases h
    have h1 : NotPt f := hcs _ (by simp)
    exact ⟨[], _, rfl, by simp, sameW_tup ⟨⟨rfl, rfl, fun j _ => by unfold dblF; rw [h1.h]; rfl⟩, ⟨rfl, offE_off h1⟩, trivial⟩⟩
  · cases h)
theorem offw_add (h : Sound P G i (pt2C ptAddF ptAddE)) : Sound P G i pt2OFF := h.weak (by
  intro vs cs r h hcs hwf
  unfold pt2OFF at h
  split at h
  · rename_i f g
    cases h
    have h1 : NotBoth f g := hcs _ (by simp)
    exact ⟨[], _, rfl, by simp, sameW_tup ⟨⟨rfl, rfl, fun j _ => by unfold ptAddF; rw [if_neg h1.h]; rfl⟩, ⟨rfl, by show ptAddE f g = 43; unfold ptAddE; rw [if_neg h1.h]⟩, trivial⟩⟩
  · cases h)
theorem offw_mul (h : Sound P G i (ptMC mulPF offE)) : Sound P G i ptMOFF := h.weak (by
  intro vs cs r h hcs hwf
  unfold ptMOFF at h
  split at h
  · rename_i n f
    cases h
    have h1 : NotPt f := hcs _ (by simp)
    exact ⟨[], _, rfl, by simp, sameW_tup ⟨⟨rfl, rfl, fun j _ => by unfold mulPF; rw [h1.h]; rfl⟩, ⟨rfl, offE_off h1⟩, trivial⟩⟩
  · cases h)
theorem offw_comb (h : Sound P G i (ptCC combF offE)) : Sound P G i ptCOFF := h.weak (by
  intro vs cs r h hcs hwf
  unfold ptCOFF at h
  split at h
  · rename_i n f m
    cases h
    have h1 : NotPt f := hcs _ (by simp)
    exact ⟨[], _, rfl, by simp, sameW_tup ⟨⟨rfl, rfl, fun j _ => by unfold combF; rw [h1.h]; rfl⟩, ⟨rfl, offE_off h1⟩, trivial⟩⟩
  · cases h)
theorem offw_small (h : Sound P G i (smallC smallF offE)) : Sound P G i smallOFF := h.weak (by
  intro vs cs r h hcs hwf
  unfold smallOFF at h
  split at h
  · rename_i f
    cases h
    have h1 : NotPt f := hcs _ (by simp)
    exact ⟨[], _, rfl, by simp, sameW_tup ⟨sameWP_lit (by unfold smallF; rw [h1.h, Bool.false_and]), ⟨rfl, offE_off h1⟩, trivial⟩⟩
  · cases h)
end

theorem dd_f {x : Bool} (hx : x = false) (h : (match decide (false = x) with | true => false | false => true) = true) : False := by subst hx; simp at h
theorem dd_t {x : Bool} (hx : x = true) (h : (match decide (true = x) with | true => false | false => true) = true) : False := by subst hx; simp at h
theorem nt_t {x : Bool} (h : (match x with | true => false | false => true) = true) (hx : x = true) : False := by subst hx; simp at h
theorem nt_f {x : Bool} (h : (match x with | true => false | false => true) = false) (hx : x = false) : False := by subst hx; simp at h

theorem or2_dead {a b : Bool} (h : (match (match a with | true => false | false => true) with | true => true | false => match b with | true => false | false => true) = true) (ha : a = true) (hb : b = true) : False := by subst ha hb; simp at h

/-! The equation as the law writes it. -/
theorem z_left {a b c : Zp} (h : a - b = c) : a = c + b := by rw [← h]; grind
theorem eq_gen {m n d x y : Zp} (hm : m ≠ 0) (hd : d * m = -n) : m * (y - x - 1) = -(n * (x * y)) ↔ y - x = 1 + d * x * y := by
  have e : m * (y - x - 1) - -(n * (x * y)) = m * ((y - x) - (1 + d * x * y)) + (d * m + n) * (x * y) := by grind
  rw [hd] at e
  constructor
  · intro h
    have h1 : m * ((y - x) - (1 + d * x * y)) = 0 := by
      have e2 : m * ((y - x) - (1 + d * x * y)) = (m * (y - x - 1) - -(n * (x * y))) - (-n + n) * (x * y) := by rw [e]; grind
      rw [e2, h]; grind
    exact z_cancel ((zdom prP h1).resolve_left hm)
  · intro h
    refine z_cancel ?_
    rw [e, h]; grind
theorem onE_law (x y : Zp) : onE x y ↔ n6 * (y * y - x * x - o1) = -(n5 * (x * x * (y * y))) := by
  rw [o1_is, eq_gen d_n0 d_n1]
  unfold onE
  exact Iff.rfl
/-- The law's test is the program's. -/
theorem on_law {f : Nat → Int} (h : canB f = true ∧ canB (nx 32 f) = true) :
    realEqA 32 (fb (n6 * (fe (nx 32 f) * fe (nx 32 f) - fe f * fe f - o1))) (fb (-(n5 * (fe f * fe f * (fe (nx 32 f) * fe (nx 32 f)))))) = onB f := by
  unfold onB
  rw [h.1, h.2, fb_inj, Bool.and_self, Bool.true_and, Bool.eq_iff_iff]
  exact (dec_iff rfl).trans ((onE_law _ _).symm.trans (dec_iff rfl).symm)
end Sx

/-
  The document's places of layer 4: a point with one common divisor.
-/
namespace Sx
open Go Go.RowKit

def plF (a b : Nat → Int) : Nat → Int := setF fun i => a i + b i
def mnF (a b : Nat → Int) : Nat → Int := setF fun i => a i - b i
theorem plF_num (a b : Nat → Int) : Num17 (plF a b) := setF_num _
theorem mnF_num (a b : Nat → Int) : Num17 (mnF a b) := setF_num _
theorem plF_rz {a b : Nat → Int} (ha : Num17 a) (hb : Num17 b) : rz (plF a b) = rz a + rz b := plus_rz ha hb
theorem mnF_rz {a b : Nat → Int} (ha : Num17 a) (hb : Num17 b) : rz (mnF a b) = rz a - rz b := minus_rz ha hb
def pl3 (a b c : Nat → Int) : Nat → Int := fun i => if i < 17 then a i else if i < 34 then b (i - 17) else c (i - 34)
structure IsPl (f : Nat → Int) : Prop where
  x : Num17 f
  y : Num17 (nx 17 f)
  z : Num17 (nx 34 f)
theorem num17_congr {f g : Nat → Int} (h : ∀ i, i < 17 → f i = g i) (hg : Num17 g) : Num17 f := ⟨fun i hi => by rw [h i hi]; exact hg.h i hi⟩
theorem pl3_x (a b c : Nat → Int) : ∀ i, i < 17 → pl3 a b c i = a i := fun i h => if_pos h
theorem pl3_y (a b c : Nat → Int) : ∀ i, i < 17 → nx 17 (pl3 a b c) i = b i := fun i h => by
  unfold nx pl3
  rw [if_neg (by omega), if_pos (by omega), Nat.add_sub_cancel_left]
theorem pl3_z (a b c : Nat → Int) : ∀ i, nx 34 (pl3 a b c) i = c i := fun i => by
  unfold nx pl3
  rw [if_neg (by omega), if_neg (by omega), Nat.add_sub_cancel_left]
theorem isPl_pl3 {a b c : Nat → Int} (ha : Num17 a) (hb : Num17 b) (hc : Num17 c) : IsPl (pl3 a b c) :=
  ⟨num17_congr (pl3_x a b c) ha, num17_congr (pl3_y a b c) hb, num17_congr (fun i _ => pl3_z a b c i) hc⟩
theorem rz_congr {f g : Nat → Int} (h : ∀ i, i < 17 → f i = g i) : rz f = rz g := by unfold rz; rw [V17_congr h]
theorem pl3_rz (a b c : Nat → Int) : rz (pl3 a b c) = rz a ∧ rz (nx 17 (pl3 a b c)) = rz b ∧ rz (nx 34 (pl3 a b c)) = rz c :=
  ⟨rz_congr (pl3_x a b c), rz_congr (pl3_y a b c), rz_congr fun i _ => pl3_z a b c i⟩
/-- Three numbers laid side by side. -/
theorem spl3 {z a b c : Nat → Int} : ∀ i, i < 51 → splice (splice (splice z 0 17 a) 17 17 b) 34 17 c i = pl3 a b c i := by
  intro i hi
  unfold pl3
  by_cases h1 : i < 17
  · rw [if_pos h1, spl_lo (by omega), spl_lo h1, spl_in0 h1]
  rw [if_neg h1]
  by_cases h2 : i < 34
  · rw [if_pos h2, spl_lo h2]
    have e : i = 17 + (i - 17) := by omega
    conv => lhs; rw [e]
    exact spl_in (by omega)
  · rw [if_neg h2]
    have e : i = 34 + (i - 34) := by omega
    conv => lhs; rw [e]
    exact spl_in (by omega)
def takQ (p : Nat → Int) : Nat → Int := pl3 (rdF p) (rdF (nx 32 p)) (D17 1)
def tolQ (f : Nat → Int) : Nat → Int := ptB (rz f * zinv (rz (nx 34 f))) (rz (nx 17 f) * zinv (rz (nx 34 f)))
def sumQ (f g d : Nat → Int) : Nat → Int :=
  let zz := tmF (nx 34 f) (nx 34 g)
  let sq := tmF zz zz
  let xu := tmF f g
  let yv := tmF (nx 17 f) (nx 17 g)
  let e := tmF d (tmF xu yv)
  let up := plF sq e
  let down := mnF sq e
  let cross := plF (tmF f (nx 17 g)) (tmF (nx 17 f) g)
  let straight := plF yv xu
  pl3 (tmF (tmF zz cross) down) (tmF (tmF zz straight) up) (tmF up down)
theorem sumQ_pl (f g d : Nat → Int) : IsPl (sumQ f g d) := isPl_pl3 (tmF_num _ _) (tmF_num _ _) (tmF_num _ _)
def curQ : Nat → Int := tmF (mnF (D17 0) (D17 121665)) (invQ (D17 121666))
theorem curQ_num : Num17 curQ := tmF_num _ _
theorem z_zero_sub (a : Zp) : 0 - a = -a := by grind
theorem cur_of {m n u d : Zp} (hm : m = 0) (hd : d = -(n * u)) : (m - n) * u = d := by rw [hm, hd]; grind
theorem curQ_rz : rz curQ = dZ := by
  have e5 : rz (D17 121665) = n5 := rz_D17 (by decide) (by decide)
  have e6 : rz (D17 121666) = n6 := rz_D17 (by decide) (by decide)
  have e0 : rz (D17 0) = 0 := by rw [rz_D17 (by decide) (by decide)]; exact zi_zero
  have ei : rz (invQ (D17 121666)) = u6 := by rw [invQ_rz (num17_D17 _), e6, zinv_n6]
  unfold curQ
  rw [tmF_rz (mnF_num _ _) (invQ_num _), mnF_rz (num17_D17 _) (num17_D17 _), ei, e5]
  exact cur_of e0 d_frac
def onQ (x y : Nat → Int) : Bool := decide (onE (rz x) (rz y))
theorem rd_fb {b : Nat → Int} {x : Zp} (h : ∀ i, i < 32 → b i = fb x i) : rz (rdF b) = x := by
  have hz := zval_bounds x
  rw [rdF_rz, num_congr 32 h, num_fb, Int.emod_eq_of_lt hz.1 (Int.lt_trans hz.2 (by decide)), zi_of_val]
theorem on_ref {a b d : Nat → Int} (ha : Num17 a) (hb : Num17 b) (hd : rz (rdF d) = dZ) :
    decide (rz (mnF (tmF b b) (tmF a a)) = rz (plF (D17 1) (tmF (rdF d) (tmF (tmF a a) (tmF b b))))) = onQ a b := by
  have e1 : rz (D17 1) = 1 := by rw [rz_D17 (by decide) (by decide)]; exact zi_one
  rw [mnF_rz (tmF_num _ _) (tmF_num _ _), tmF_rz hb hb, tmF_rz ha ha, plF_rz num17_one (tmF_num _ _), tmF_rz (rdF_num _) (tmF_num _ _), tmF_rz (tmF_num _ _) (tmF_num _ _), tmF_rz ha ha, tmF_rz hb hb, e1, hd]
  unfold onQ onE
  rw [show dZ * (rz a * rz a * (rz b * rz b)) = dZ * (rz a * rz a) * (rz b * rz b) from by grind]
def takC (R : (Nat → Int) → Nat → Int) : Contract := fun vs => match vs with
  | [.arr .u8 64 p] => some ([], .arr .i64 51 (R p))
  | _ => none
def tolC (R : (Nat → Int) → Nat → Int) : Contract := fun vs => match vs with
  | [.arr .i64 51 f] => some ([IsPl f], .arr .u8 64 (R f))
  | _ => none
def sumC3 (R : (Nat → Int) → (Nat → Int) → (Nat → Int) → Nat → Int) : Contract := fun vs => match vs with
  | [.arr .i64 51 f, .arr .i64 51 g, .arr .i64 17 d] => some ([IsPl f, IsPl g, Num17 d], .arr .i64 51 (R f g d))
  | _ => none
def rtQ (a : Nat → Int) : Nat → Int := if rz (tmF (powF a 252 1) (powF a 252 1)) = rz a then powF a 252 1 else tmF (powF a 252 1) (powF (D17 2) 253 4)
def rtB (a : Nat → Int) : Bool := if rz (tmF (powF a 252 1) (powF a 252 1)) = rz a then true else decide (rz (tmF (rtQ a) (rtQ a)) = rz a)
theorem powF_num (a : Nat → Int) (n z : Int) : Num17 (powF a n z) := pwF_num _ _ _ _
end Sx

/-
  The document's points of layer 4: what a place stands for; multiples; roots.
-/
namespace Sx
open Go Go.RowKit

/-- A place stands for a point. -/
structure StP (f : Nat → Int) (P : Pt) : Prop where
  z : rz (nx 34 f) ≠ 0
  x : rz f = P.x * rz (nx 34 f)
  y : rz (nx 17 f) = P.y * rz (nx 34 f)
theorem rz_one : rz (D17 1) = 1 := by rw [rz_D17 (by decide) (by decide)]; exact zi_one
theorem rz_nil : rz (D17 0) = 0 := by rw [rz_D17 (by decide) (by decide)]; exact zi_zero
theorem z_mul_one' {a b c : Zp} (h : a = b) (hc : c = 1) : a = b * c := by rw [h, hc]; grind
theorem stP_of {a b c : Nat → Int} {P : Pt} (ha : rz a = P.x) (hb : rz b = P.y) (hc : rz c = 1) : StP (pl3 a b c) P := by
  obtain ⟨h1, h2, h3⟩ := pl3_rz a b c
  refine ⟨?_, ?_, ?_⟩
  · rw [h3, hc]; exact one_ne_z
  · rw [h1, h3]; exact z_mul_one' ha hc
  · rw [h2, h3]; exact z_mul_one' hb hc
theorem z_over {x p z : Zp} (hz : z ≠ 0) (h : x = p * z) : x * zinv z = p := by
  have e : p * z * zinv z = p * (z * zinv z) := by grind
  rw [h, e, z_inv_one hz]
  grind
theorem told_st {f : Nat → Int} {P : Pt} (h : StP f P) : tolQ f = pb P := by
  unfold tolQ pb
  rw [z_over h.z h.x, z_over h.z h.y]
theorem rd_can {b : Nat → Int} (hb : IsBytes 32 b) (h : canB b = true) : rz (rdF b) = fe b := by
  have hn := num_bounds 32 b hb
  have h : num 32 b < p25 := of_decide_eq_true h
  have hp : p25 < 2 ^ 255 := by decide
  rw [rdF_rz, Int.emod_eq_of_lt hn.1 (Int.lt_trans h hp)]
  rfl
theorem takQ_pl (f : Nat → Int) : IsPl (takQ f) := isPl_pl3 (rdF_num _) (rdF_num _) num17_one
theorem on_parts {f : Nat → Int} (h : onB f = true) : canB f = true ∧ canB (nx 32 f) = true := by
  unfold onB at h
  cases h1 : canB f <;> cases h2 : canB (nx 32 f) <;> simp_all
theorem b64_lo {f : Nat → Int} (hb : IsBytes 64 f) : IsBytes 32 f := fun i hi => hb i (by omega)
theorem b64_hi {f : Nat → Int} (hb : IsBytes 64 f) : IsBytes 32 (nx 32 f) := fun i hi => hb (32 + i) (by omega)
theorem taken_st {f : Nat → Int} (hb : IsBytes 64 f) (h : onB f = true) : StP (takQ f) (ptO f) := by
  obtain ⟨c1, c2⟩ := on_parts h
  obtain ⟨e1, e2⟩ := pt_x ⟨h⟩
  exact stP_of (by rw [e1]; exact rd_can (b64_lo hb) c1) (by rw [e2]; exact rd_can (b64_hi hb) c2) rz_one
theorem sum_rz {f g d : Nat → Int} (hf : IsPl f) (hg : IsPl g) (hd : Num17 d) :
    rz (sumQ f g d) = rz (nx 34 f) * rz (nx 34 g) * (rz f * rz (nx 17 g) + rz (nx 17 f) * rz g) * (rz (nx 34 f) * rz (nx 34 g) * (rz (nx 34 f) * rz (nx 34 g)) - rz d * (rz f * rz g * (rz (nx 17 f) * rz (nx 17 g))))
    ∧ rz (nx 17 (sumQ f g d)) = rz (nx 34 f) * rz (nx 34 g) * (rz (nx 17 f) * rz (nx 17 g) + rz f * rz g) * (rz (nx 34 f) * rz (nx 34 g) * (rz (nx 34 f) * rz (nx 34 g)) + rz d * (rz f * rz g * (rz (nx 17 f) * rz (nx 17 g))))
    ∧ rz (nx 34 (sumQ f g d)) = (rz (nx 34 f) * rz (nx 34 g) * (rz (nx 34 f) * rz (nx 34 g)) + rz d * (rz f * rz g * (rz (nx 17 f) * rz (nx 17 g)))) * (rz (nx 34 f) * rz (nx 34 g) * (rz (nx 34 f) * rz (nx 34 g)) - rz d * (rz f * rz g * (rz (nx 17 f) * rz (nx 17 g)))) := by
  have t := tmF_num
  have p := plF_num
  have m := mnF_num
  unfold sumQ
  dsimp only
  obtain ⟨h1, h2, h3⟩ := pl3_rz (tmF (tmF (tmF (nx 34 f) (nx 34 g)) (plF (tmF f (nx 17 g)) (tmF (nx 17 f) g))) (mnF (tmF (tmF (nx 34 f) (nx 34 g)) (tmF (nx 34 f) (nx 34 g))) (tmF d (tmF (tmF f g) (tmF (nx 17 f) (nx 17 g))))))
    (tmF (tmF (tmF (nx 34 f) (nx 34 g)) (plF (tmF (nx 17 f) (nx 17 g)) (tmF f g))) (plF (tmF (tmF (nx 34 f) (nx 34 g)) (tmF (nx 34 f) (nx 34 g))) (tmF d (tmF (tmF f g) (tmF (nx 17 f) (nx 17 g))))))
    (tmF (plF (tmF (tmF (nx 34 f) (nx 34 g)) (tmF (nx 34 f) (nx 34 g))) (tmF d (tmF (tmF f g) (tmF (nx 17 f) (nx 17 g))))) (mnF (tmF (tmF (nx 34 f) (nx 34 g)) (tmF (nx 34 f) (nx 34 g))) (tmF d (tmF (tmF f g) (tmF (nx 17 f) (nx 17 g))))))
  rw [h1, h2, h3]
  have e1 := tmF_rz hf.z hg.z
  have e2 := tmF_rz hf.x hg.x
  have e3 := tmF_rz hf.y hg.y
  have e4 := tmF_rz hf.x hg.y
  have e5 := tmF_rz hf.y hg.x
  have s1 := (tmF_rz (t (nx 34 f) (nx 34 g)) (t (nx 34 f) (nx 34 g)))
  have s2 := tmF_rz hd (t (tmF f g) (tmF (nx 17 f) (nx 17 g)))
  have s3 := tmF_rz (t f g) (t (nx 17 f) (nx 17 g))
  have u1 := plF_rz (t (tmF (nx 34 f) (nx 34 g)) (tmF (nx 34 f) (nx 34 g))) (t d (tmF (tmF f g) (tmF (nx 17 f) (nx 17 g))))
  have u2 := mnF_rz (t (tmF (nx 34 f) (nx 34 g)) (tmF (nx 34 f) (nx 34 g))) (t d (tmF (tmF f g) (tmF (nx 17 f) (nx 17 g))))
  have u3 := plF_rz (t f (nx 17 g)) (t (nx 17 f) g)
  have u4 := plF_rz (t (nx 17 f) (nx 17 g)) (t f g)
  refine ⟨?_, ?_, ?_⟩
  · rw [tmF_rz (t _ _) (m _ _), tmF_rz (t _ _) (p _ _), u2, u3, e1, s1, s2, s3, e1, e2, e3, e4, e5]
  · rw [tmF_rz (t _ _) (p _ _), tmF_rz (t _ _) (p _ _), u1, u4, e1, s1, s2, s3, e1, e2, e3]
  · rw [tmF_rz (p _ _) (m _ _), u1, u2, s1, s2, s3, e1, e2, e3]
theorem sum_st {f g d : Nat → Int} {P Q : Pt} (hf : IsPl f) (hg : IsPl g) (hd : Num17 d) (ed : rz d = dZ) (h : StP f P) (h' : StP g Q) : StP (sumQ f g d) (P.add Q) := by
  obtain ⟨z, x, y⟩ := h
  obtain ⟨z', x', y'⟩ := h'
  obtain ⟨r1, r2, r3⟩ := sum_rz hf hg hd
  obtain ⟨n1, n2⟩ := div_ne P.on Q.on
  rw [ed] at r1 r2 r3
  generalize rz (nx 34 f) = z1 at *
  generalize rz (nx 34 g) = z2 at *
  have hk : z1 * z2 * (z1 * z2) ≠ 0 := z_ne_mul (z_ne_mul z z') (z_ne_mul z z')
  have R := rep_join (P := P.add Q) (k := z1 * z2 * (z1 * z2)) (l := z1 * z2 * (z1 * z2)) (n1 := P.x * Q.y + Q.x * P.y) (n2 := P.y * Q.y + P.x * Q.x) (t := tE P.x P.y Q.x Q.y) hk hk n1 n2 (z_inv_one n1) (z_inv_one n2) rfl rfl rfl rfl
    (by rw [add_x]; rfl) (by rw [add_y]; rfl)
  have a1 : rz (sumQ f g d) = (Spd.join (z1 * z2 * (z1 * z2) * (P.x * Q.y + Q.x * P.y)) (z1 * z2 * (z1 * z2) * (1 - tE P.x P.y Q.x Q.y)) (z1 * z2 * (z1 * z2) * (1 + tE P.x P.y Q.x Q.y)) (z1 * z2 * (z1 * z2) * (P.y * Q.y + P.x * Q.x))).X := by
    show _ = z1 * z2 * (z1 * z2) * (P.x * Q.y + Q.x * P.y) * (z1 * z2 * (z1 * z2) * (1 - tE P.x P.y Q.x Q.y))
    rw [r1, x, y, x', y']; unfold tE; grind
  have a2 : rz (nx 17 (sumQ f g d)) = (Spd.join (z1 * z2 * (z1 * z2) * (P.x * Q.y + Q.x * P.y)) (z1 * z2 * (z1 * z2) * (1 - tE P.x P.y Q.x Q.y)) (z1 * z2 * (z1 * z2) * (1 + tE P.x P.y Q.x Q.y)) (z1 * z2 * (z1 * z2) * (P.y * Q.y + P.x * Q.x))).Y := by
    show _ = z1 * z2 * (z1 * z2) * (1 + tE P.x P.y Q.x Q.y) * (z1 * z2 * (z1 * z2) * (P.y * Q.y + P.x * Q.x))
    rw [r2, x, y, x', y']; unfold tE; grind
  have a3 : rz (nx 34 (sumQ f g d)) = (Spd.join (z1 * z2 * (z1 * z2) * (P.x * Q.y + Q.x * P.y)) (z1 * z2 * (z1 * z2) * (1 - tE P.x P.y Q.x Q.y)) (z1 * z2 * (z1 * z2) * (1 + tE P.x P.y Q.x Q.y)) (z1 * z2 * (z1 * z2) * (P.y * Q.y + P.x * Q.x))).Z := by
    show _ = z1 * z2 * (z1 * z2) * (1 - tE P.x P.y Q.x Q.y) * (z1 * z2 * (z1 * z2) * (1 + tE P.x P.y Q.x Q.y))
    rw [r3, x, y, x', y']; unfold tE; grind
  exact ⟨by rw [a3]; exact R.z, by rw [a1, a3]; exact R.x, by rw [a2, a3]; exact R.y⟩

/-! Multiples, from the top bit down. -/
def dQ : Nat → Int := rdF (fb dZ)
theorem rdF_congr {a b : Nat → Int} (h : ∀ i, i < 32 → a i = b i) : rdF a = rdF b := by unfold rdF; rw [num_congr 32 h]
theorem dQ_num : Num17 dQ := rdF_num _
theorem dQ_rz : rz dQ = dZ := rd_fb fun _ _ => rfl
def nilQ : Nat → Int := pl3 (D17 0) (D17 1) (D17 1)
theorem nilQ_st : StP nilQ Pt.zero := stP_of (by rw [rz_nil]; unfold Pt.zero; rfl) (by rw [rz_one]; unfold Pt.zero; rfl) rz_one
theorem nilQ_pl : IsPl nilQ := isPl_pl3 (num17_D17 _) (num17_D17 _) (num17_D17 _)
def mlQ (n a : Nat → Int) : Nat → Nat → Int
  | 0 => nilQ
  | k + 1 => if bitN (num 32 n) (255 - k) = 1 then sumQ (sumQ (mlQ n a k) (mlQ n a k) dQ) a dQ else sumQ (mlQ n a k) (mlQ n a k) dQ
theorem mlQ_pl (n a : Nat → Int) : ∀ k, IsPl (mlQ n a k)
  | 0 => nilQ_pl
  | k + 1 => by
    unfold mlQ
    split
    · exact sumQ_pl _ _ _
    · exact sumQ_pl _ _ _
theorem top_next (N : Int) (hN : 0 ≤ N) {k : Nat} (hk : k < 256) : (N / 2 ^ (256 - (k + 1))).toNat = (N / 2 ^ (256 - k)).toNat + (N / 2 ^ (256 - k)).toNat + (bitN N (255 - k)).toNat := by
  have e : 256 - k = (255 - k) + 1 := by omega
  have e' : 256 - (k + 1) = 255 - k := by omega
  have hp : (0 : Int) < 2 ^ (255 - k) := Int.pow_pos (by decide)
  have hd : N / 2 ^ ((255 - k) + 1) = N / 2 ^ (255 - k) / 2 := by rw [Int.pow_succ, Int.ediv_ediv_of_nonneg (Int.le_of_lt hp)]
  have h0 : 0 ≤ N / 2 ^ (255 - k) := Int.ediv_nonneg hN (Int.le_of_lt hp)
  rw [e, e', hd]
  unfold bitN
  omega
theorem mlQ_st {n a : Nat → Int} (hn : IsBytes 32 n) (ha : IsPl a) {P : Pt} (h : StP a P) : ∀ k, k ≤ 256 → StP (mlQ n a k) (Pt.mul (num 32 n / 2 ^ (256 - k)).toNat P)
  | 0, _ => by
    have hb := num_bounds 32 n hn
    have e0 : (256 : Int) ^ 32 = 2 ^ (256 - 0) := by decide
    have e : num 32 n / 2 ^ (256 - 0) = 0 := Int.ediv_eq_zero_of_lt hb.1 (by rw [← e0]; exact hb.2)
    rw [e]
    show StP nilQ (Pt.mul 0 P)
    rw [Pt.mul_zero]
    exact nilQ_st
  | k + 1, hk => by
    have ih := mlQ_st hn ha h k (by omega)
    have hb := num_bounds 32 n hn
    have hr := bitN_range (num 32 n) (255 - k)
    rw [top_next (num 32 n) hb.1 (by omega : k < 256)]
    unfold mlQ
    split
    · rename_i e
      rw [e, show (1 : Int).toNat = 1 from rfl, Pt.mul_add, Pt.mul_add, Pt.mul_one]
      exact sum_st (sumQ_pl _ _ _) ha dQ_num dQ_rz (sum_st (mlQ_pl _ _ _) (mlQ_pl _ _ _) dQ_num dQ_rz ih ih) h
    · rename_i e
      have e0 : bitN (num 32 n) (255 - k) = 0 := by omega
      rw [e0, show (0 : Int).toNat = 0 from rfl, Nat.add_zero, Pt.mul_add]
      exact sum_st (mlQ_pl _ _ _) (mlQ_pl _ _ _) dQ_num dQ_rz ih ih
def mulQ (n a : Nat → Int) : Nat → Int := mlQ n a 256
theorem mulQ_pl (n a : Nat → Int) : IsPl (mulQ n a) := mlQ_pl _ _ _
theorem mulQ_st {n a : Nat → Int} (hn : IsBytes 32 n) (ha : IsPl a) {P : Pt} (h : StP a P) : StP (mulQ n a) (Pt.mul (nN n) P) := by
  have := mlQ_st hn ha h 256 (Nat.le_refl _)
  rw [Nat.sub_self, Int.pow_zero, Int.ediv_one] at this
  exact this

/-! Roots. -/
theorem zi_two' : zi pN 2 = (2 : Zp) := by decide +kernel
theorem rt_pow {a : Nat → Int} (ha : Num17 a) : rz (powF a 252 1) = zp (rz a) rE := by
  show rz (pwF a 252 1 252) = _
  rw [pwF_rz ha, pow_root]
  rfl
theorem rt_i : rz (powF (D17 2) 253 4) = zp (2 : Zp) iE := by
  show rz (pwF (D17 2) 253 4 253) = _
  rw [pwF_rz (num17_D17 _), pow_i, rz_D17 (by decide) (by decide), zi_two']
  rfl
theorem rtQ_num (a : Nat → Int) : Num17 (rtQ a) := by
  unfold rtQ
  split
  · exact powF_num _ _ _
  · exact tmF_num _ _
theorem rtQ_rz {a : Nat → Int} (ha : Num17 a) : rz (rtQ a) = rootW (rz a) := by
  unfold rtQ rootW
  rw [tmF_rz (powF_num _ _ _) (powF_num _ _ _), rt_pow ha]
  by_cases h : zp (rz a) rE * zp (rz a) rE = rz a
  · rw [if_pos h, if_pos h, rt_pow ha]
  · rw [if_neg h, if_neg h, tmF_rz (powF_num _ _ _) (powF_num _ _ _), rt_pow ha, rt_i]
theorem rtB_rz {a : Nat → Int} (ha : Num17 a) : rtB a = decide (rootW (rz a) * rootW (rz a) = rz a) := by
  have e := rtQ_rz ha
  unfold rtB
  rw [tmF_rz (rtQ_num _) (rtQ_num _), e, tmF_rz (powF_num _ _ _) (powF_num _ _ _), rt_pow ha]
  by_cases h : zp (rz a) rE * zp (rz a) rE = rz a
  · rw [if_pos h]
    unfold rootW
    rw [if_pos h]
    exact (decide_eq_true h).symm
  · rw [if_neg h]
theorem rE_succ : rE = 7237005577332262213973186563042994240829374041602535252466099000494570602493 + 1 := by decide
theorem rootW_zero : rootW (0 : Zp) = 0 := by
  have e : zp (0 : Zp) rE = 0 := by rw [rE_succ, zp_succ]; grind
  unfold rootW
  rw [e, if_pos (by grind)]
theorem root_fwd {y w : Zp} (h : w * w = (y * y - 1) * zinv (dZ * (y * y) + 1)) :
    (sqrtZ (y * y - 1) (dZ * (y * y) + 1)).2 = true ∧ (sqrtZ (y * y - 1) (dZ * (y * y) + 1)).1 = evZ w := by
  have hv := den_ne y
  have ho : onE w y := by
    rw [on_den]
    have e : (dZ * (y * y) + 1) * w * w = (dZ * (y * y) + 1) * (w * w) := by grind
    rw [e, h]
    generalize dZ * (y * y) + 1 = v at hv ⊢
    have e2 : v * ((y * y - 1) * zinv v) = (y * y - 1) * (v * zinv v) := by grind
    rw [e2, z_inv_one hv]
    grind
  obtain ⟨s1, s2⟩ := sqrt_pt ho
  refine ⟨s1, ?_⟩
  unfold evZ
  by_cases c : w.val % 2 = 1
  · rw [if_pos c] at s2 ⊢
    rw [← s2]; grind
  · rw [if_neg c] at s2 ⊢
    exact s2
theorem root_bwd {y : Zp} (h : (sqrtZ (y * y - 1) (dZ * (y * y) + 1)).2 = true) :
    rootW ((y * y - 1) * zinv (dZ * (y * y) + 1)) * rootW ((y * y - 1) * zinv (dZ * (y * y) + 1)) = (y * y - 1) * zinv (dZ * (y * y) + 1) := by
  have hv := den_ne y
  have hr := ratio_q hv (sqrt_root h).1
  rw [← hr]
  generalize (sqrtZ (y * y - 1) (dZ * (y * y) + 1)).1 = r
  by_cases h0 : r = 0
  · subst h0
    have e : (0 : Zp) * 0 = 0 := by grind
    rw [e, rootW_zero, e]
  · refine rootW_sq (legZ_one.1 ?_)
    rw [leg_sq]
    exact leg_sq1 h0
theorem root_is (y : Zp) : decide (rootW ((y * y - 1) * zinv (dZ * (y * y) + 1)) * rootW ((y * y - 1) * zinv (dZ * (y * y) + 1)) = (y * y - 1) * zinv (dZ * (y * y) + 1)) = (sqrtZ (y * y - 1) (dZ * (y * y) + 1)).2 := by
  cases h : (sqrtZ (y * y - 1) (dZ * (y * y) + 1)).2
  · refine decide_eq_false fun e => ?_
    have := (root_fwd e).1
    rw [h] at this
    exact Bool.noConfusion this
  · exact decide_eq_true (root_bwd h)
end Sx

/-
  The document's calls of layer 4: what each comes to.
-/
namespace Sx
open Go Go.RowKit

theorem mand_yes {a b : Bool} (h : (match a with | true => b | false => false) = true) : a = true ∧ b = true := by cases a <;> simp_all
theorem mand_no {a b : Bool} (h : (match a with | true => b | false => false) = false) : ¬ (a = true ∧ b = true) := by cases a <;> simp_all

theorem neq_yes {a b : Int} (h : realCmp .neq a b = true) : a ≠ b := by
  have h : (a != b) = true := h
  simpa using h
theorem neq_no {a b : Int} (h : realCmp .neq a b = false) : a = b := by
  have h : (a != b) = false := h
  simpa using h

/-! The base point. -/
def basQ : Nat → Int := takQ (pb basePt)
theorem basQ_pl : IsPl basQ := takQ_pl _
theorem basQ_st : StP basQ basePt := by
  have h := taken_st (pb_isBytes basePt) (onB_pb basePt)
  rw [ptO_pb] at h
  exact h
theorem five_ne : zi pN 5 ≠ 0 := by decide +kernel
theorem base_frac {y a b : Zp} (hb : b ≠ 0) (h : b * y = a) : a * zinv b = y := by
  have e : b * y * zinv b = y * (b * zinv b) := by grind
  rw [← h, e, z_inv_one hb]
  grind
theorem base_wr : wrF (tmF (D17 4) (invQ (D17 5))) = fb basePt.y := by
  have e : rz (tmF (D17 4) (invQ (D17 5))) = basePt.y := by
    rw [tmF_rz (num17_D17 _) (invQ_num _), invQ_rz (num17_D17 _), rz_D17 (by decide) (by decide), rz_D17 (by decide) (by decide)]
    exact base_frac five_ne base_y5
  unfold wrF
  rw [e]
theorem form_even {x y : Zp} (h : x.val % 2 = 0) : ∀ i, i < 32 → fb y i = formB x y i := by
  intro i _
  unfold formB
  by_cases e : i = 31
  · rw [if_pos e, e, fb_low, h]
    show _ = fb y 31 + 128 * ((0 : Nat) : Int)
    omega
  · rw [if_neg e]
theorem base_par : basePt.x.val % 2 = 0 := by
  have h := base_even
  rw [oddB_z, show fe (pb basePt) = basePt.x from fe_ptB _ _] at h
  have := of_decide_eq_false h
  omega
theorem base_dec : decF (wrF (tmF (D17 4) (invQ (D17 5)))) = pb basePt := by
  rw [base_wr]
  exact (dec_form (form_even base_par)).2

/-! Forms back to points. -/
def dcA (b : Nat → Int) : Nat → Int := tmF (mnF (tmF (rdF (dcY b)) (rdF (dcY b))) (D17 1)) (invQ (plF (tmF dQ (tmF (rdF (dcY b)) (rdF (dcY b)))) (D17 1)))
theorem dcA_num (b : Nat → Int) : Num17 (dcA b) := tmF_num _ _
theorem dcA_rz {b : Nat → Int} (hb : IsBytes 32 b) (h : canB (dcY b) = true) : rz (dcA b) = (fe (dcY b) * fe (dcY b) - 1) * zinv (dZ * (fe (dcY b) * fe (dcY b)) + 1) := by
  have e := rd_can (dcY_bytes hb) h
  unfold dcA
  rw [tmF_rz (mnF_num _ _) (invQ_num _), mnF_rz (tmF_num _ _) num17_one, invQ_rz (plF_num _ _), plF_rz (tmF_num _ _) num17_one, tmF_rz dQ_num (tmF_num _ _), tmF_rz (rdF_num _) (rdF_num _), e, rz_one, dQ_rz]
theorem dcA_root {b : Nat → Int} (hb : IsBytes 32 b) (h : canB (dcY b) = true) : rtB (dcA b) = (dcR b).2 := by
  rw [rtB_rz (dcA_num b), dcA_rz hb h]
  exact root_is _
theorem dcA_ev {b : Nat → Int} (hb : IsBytes 32 b) (h : canB (dcY b) = true) (h1 : rtB (dcA b) = true) : (dcR b).1 = evZ (rz (rtQ (dcA b))) := by
  rw [rtB_rz (dcA_num b), dcA_rz hb h] at h1
  rw [rtQ_rz (dcA_num b), dcA_rz hb h]
  exact (root_fwd (of_decide_eq_true h1)).2
theorem bit255 {b : Nat → Int} (hb : IsBytes 32 b) : bitN (num 32 b) 255 = if dcS b = true then 1 else 0 := by
  have h := byte_bit hb (i := 255) (by decide)
  have h31 := hb 31 (by decide)
  rw [← h]
  show b 31 / 128 % 2 = _
  unfold dcS
  by_cases c : 128 ≤ b 31
  · rw [if_pos (decide_eq_true c)]; omega
  · rw [if_neg (by rw [decide_eq_false c]; decide)]; omega
theorem evZ_zero {x : Zp} : evZ x = 0 ↔ x = 0 := by
  unfold evZ
  split
  · constructor
    · intro h
      have e : x = - -x := by grind
      rw [e, h]; grind
    · intro h; rw [h]; grind
  · exact Iff.rfl
theorem dec_flip {x : Zp} {s : Bool} (h : ((x.val : Int) % 2 ≠ if s = true then 1 else 0)) : -x = if s = true then -(evZ x) else evZ x := by
  unfold evZ
  cases s
  · have h : (x.val : Int) % 2 ≠ 0 := h
    rw [if_neg (by decide), if_pos (by omega)]
  · have h : (x.val : Int) % 2 ≠ 1 := h
    rw [if_pos rfl, if_neg (by omega)]
theorem dec_keep {x : Zp} {s : Bool} (h : ((x.val : Int) % 2 = if s = true then 1 else 0)) : x = if s = true then -(evZ x) else evZ x := by
  unfold evZ
  cases s
  · have h : (x.val : Int) % 2 = 0 := h
    rw [if_neg (by decide), if_neg (by omega)]
  · have h : (x.val : Int) % 2 = 1 := h
    rw [if_pos rfl, if_pos (by omega)]
    grind
theorem rb_par (x : Zp) : realBin .rem .i64 (rb x 0) 2 = (x.val : Int) % 2 := by
  have e : rb x 0 = (x.val : Int) % 32768 := by
    show (x.val : Int) / b15 ^ 0 % b15 = _
    rw [Int.pow_zero, Int.ediv_one]
    rfl
  have h := (zval_bounds x).1
  rw [e, rem_i64 (by omega)]
  omega
theorem rb_nil : rb (0 : Zp) = D17 0 := rfl
theorem rb_is_nil (x : Zp) : realEqA 17 (rb x) (D17 0) = decide (x = 0) := by rw [← rb_nil]; exact rb_same _ _
theorem wr_neg (x : Zp) : wrF (mnF (D17 0) (rb x)) = fb (-x) := by
  have e : (0 : Zp) - x = -x := by grind
  unfold wrF
  rw [mnF_rz (num17_D17 _) (num17_rb _), rz_nil, rz_rb, e]
theorem wr_rb (x : Zp) : wrF (rb x) = fb x := by unfold wrF; rw [rz_rb]
/-- The four ends of Decode. -/
structure DecL (b : Nat → Int) : Prop where
  e40 : canB (dcY b) = false → (∀ i, i < 64 → 0 = decF b i) ∧ 40 = decE b ∧ True
  e41 : canB (dcY b) = true → rtB (dcA b) = false → (∀ i, i < 64 → 0 = decF b i) ∧ 41 = decE b ∧ True
  e42 : canB (dcY b) = true → rtB (dcA b) = true → realEqA 17 (rb (rz (rtQ (dcA b)))) (D17 0) = true ∧ decide (bitN (num 32 b) 255 = 1) = true → (∀ i, i < 64 → 0 = decF b i) ∧ 42 = decE b ∧ True
  flip : canB (dcY b) = true → rtB (dcA b) = true → ¬ (realEqA 17 (rb (rz (rtQ (dcA b)))) (D17 0) = true ∧ decide (bitN (num 32 b) 255 = 1) = true) → realBin .rem .i64 (rb (rz (rtQ (dcA b))) 0) 2 ≠ bitN (num 32 b) 255 →
    (∀ i, i < 64 → splice (splice (fun _ => 0) 0 32 (wrF (mnF (D17 0) (rb (rz (rtQ (dcA b))))))) 32 32 (dcY b) i = decF b i) ∧ 0 = decE b ∧ True
  keep : canB (dcY b) = true → rtB (dcA b) = true → ¬ (realEqA 17 (rb (rz (rtQ (dcA b)))) (D17 0) = true ∧ decide (bitN (num 32 b) 255 = 1) = true) → realBin .rem .i64 (rb (rz (rtQ (dcA b))) 0) 2 = bitN (num 32 b) 255 →
    (∀ i, i < 64 → splice (splice (fun _ => 0) 0 32 (wrF (rb (rz (rtQ (dcA b)))))) 32 32 (dcY b) i = decF b i) ∧ 0 = decE b ∧ True
theorem dec_no42 {b : Nat → Int} (hb : IsBytes 32 b) (h : canB (dcY b) = true) (h1 : rtB (dcA b) = true) (h2 : ¬ (realEqA 17 (rb (rz (rtQ (dcA b)))) (D17 0) = true ∧ decide (bitN (num 32 b) 255 = 1) = true)) : ¬ (dcS b = true ∧ (dcR b).1 = 0) := by
  rintro ⟨a1, a2⟩
  refine h2 ⟨?_, ?_⟩
  · rw [rb_is_nil]
    rw [dcA_ev hb h h1, evZ_zero] at a2
    exact decide_eq_true a2
  · rw [bit255 hb, if_pos a1]
    rfl
theorem dec_ref {b : Nat → Int} (hb : IsBytes 32 b) : DecL b := by
  refine ⟨dec_40, fun h h1 => dec_41 h (by rw [← dcA_root hb h]; exact h1), fun h h1 h2 => ?_, fun h h1 h2 h3 => ?_, fun h h1 h2 h3 => ?_⟩
  · have e := dcA_ev hb h h1
    have a1 := h2.1
    rw [rb_is_nil] at a1
    have a2 := of_decide_eq_true h2.2
    rw [bit255 hb] at a2
    refine dec_42 h (by rw [← dcA_root hb h]; exact h1) ?_ ?_
    · by_cases c : dcS b = true
      · exact c
      · rw [if_neg c] at a2; exact absurd a2 (by decide)
    · rw [e, evZ_zero]; exact of_decide_eq_true a1
  · refine dec_00 hb h (by rw [← dcA_root hb h]; exact h1) (dec_no42 hb h h1 h2) fun i _ => ?_
    rw [rb_par, bit255 hb] at h3
    rw [wr_neg, dec_flip h3, dcA_ev hb h h1]
  · refine dec_00 hb h (by rw [← dcA_root hb h]; exact h1) (dec_no42 hb h h1 h2) fun i _ => ?_
    rw [rb_par, bit255 hb] at h3
    rw [wr_rb, dcA_ev hb h h1, ← dec_keep h3]

/-! The other calls. -/
theorem on_ref2 {f : Nat → Int} (hb : IsBytes 64 f) (h : canB f = true ∧ canB (nx 32 f) = true) : onQ (rdF f) (rdF (nx 32 f)) = onB f := by
  unfold onQ onB
  rw [h.1, h.2, rd_can (b64_lo hb) h.1, rd_can (b64_hi hb) h.2]
  rfl
theorem on_ref3 {f : Nat → Int} (h : ¬ (canB f = true ∧ canB (nx 32 f) = true)) : false = onB f := on_no h
theorem enc_ref {f : Nat → Int} (hf : IsPt f) (hb : IsBytes 64 f) : ∀ i, i < 32 → upd (nx 32 f) 31 (realBin .add .u8 (f (32 + 31)) (realBin .mul .u8 (IntKind.wrap .u8 (bitN (num 32 f) 0)) 128)) i = encF f i := by
  intro i hi
  have l := pt_lo hf hb
  unfold encF
  rw [if_pos hf.h]
  unfold formB upd
  by_cases e : i = 31
  · have hbit := byte_bit (b64_lo hb) (i := 0) (by decide)
    have hr := bitN_range (num 32 f) 0
    have h0 := fb_isBytes (ptO f).x 0 (by decide)
    have h1 := fb_isBytes (ptO f).y 31 (by decide)
    have h2 := fb_top (ptO f).y
    have e1 : bitN (num 32 f) 0 = fb (ptO f).x 0 % 2 := by
      rw [← hbit, ← l.1 0 (by decide)]
      show f 0 / 1 % 2 = _
      rw [Int.ediv_one]
    rw [if_pos e, if_pos e, e1, l.2 31 (by decide)]
    show IntKind.wrap .u8 (fb (ptO f).y 31 + IntKind.wrap .u8 (IntKind.wrap .u8 (fb (ptO f).x 0 % 2) * 128)) = _
    rw [wrap_u8, wrap_u8, wrap_u8]
    omega
  · rw [if_neg e, if_neg e]
    exact l.2 i hi
theorem neg_ref {f : Nat → Int} (hb : IsBytes 64 f) (hf : onB f = true) : ∀ i, i < 64 → splice (splice (fun _ => 0) 0 32 (wrF (mnF (D17 0) (rdF f)))) 32 32 (nx 32 f) i = negF f i := by
  have e : wrF (mnF (D17 0) (rdF f)) = fb (-fe f) := by
    have e0 : (0 : Zp) - fe f = -fe f := by grind
    unfold wrF
    rw [mnF_rz (num17_D17 _) (rdF_num _), rz_nil, rd_can (b64_lo hb) (on_parts hf).1, e0]
  rw [e]
  exact neg_calc hb hf
theorem add_ref {f g : Nat → Int} (hf : IsBytes 64 f) (hg : IsBytes 64 g) (h : onB f = true) (h' : onB g = true) : tolQ (sumQ (takQ f) (takQ g) dQ) = ptAddF f g := by
  rw [told_st (sum_st (takQ_pl _) (takQ_pl _) dQ_num dQ_rz (taken_st hf h) (taken_st hg h'))]
  unfold ptAddF
  rw [if_pos ⟨h, h'⟩]
theorem mul_ref {n f : Nat → Int} (hn : IsBytes 32 n) (hf : IsBytes 64 f) (h : onB f = true) : tolQ (mulQ n (takQ f)) = mulPF n f := by
  rw [told_st (mulQ_st hn (takQ_pl _) (taken_st hf h))]
  unfold mulPF
  rw [if_pos h]
theorem bmul_ref {n : Nat → Int} (hn : IsBytes 32 n) : tolQ (mulQ n basQ) = bmulF n := told_st (mulQ_st hn basQ_pl basQ_st)
theorem comb_ref {n f m : Nat → Int} (hn : IsBytes 32 n) (hm : IsBytes 32 m) (hf : IsBytes 64 f) (h : onB f = true) : tolQ (sumQ (mulQ n (takQ f)) (mulQ m basQ) dQ) = combF n f m := by
  rw [told_st (sum_st (mulQ_pl _ _) (mulQ_pl _ _) dQ_num dQ_rz (mulQ_st hn (takQ_pl _) (taken_st hf h)) (mulQ_st hm basQ_pl basQ_st))]
  unfold combF
  rw [if_pos h]
theorem small_ref {f : Nat → Int} (hf : IsBytes 64 f) (h : onB f = true) : realEqA 64 (tolQ (sumQ (sumQ (sumQ (takQ f) (takQ f) dQ) (sumQ (takQ f) (takQ f) dQ) dQ) (sumQ (sumQ (takQ f) (takQ f) dQ) (sumQ (takQ f) (takQ f) dQ) dQ) dQ)) (pb Pt.zero) = smallF f := by
  have h0 := taken_st hf h
  have h1 := sum_st (takQ_pl _) (takQ_pl _) dQ_num dQ_rz h0 h0
  have h2 := sum_st (sumQ_pl _ _ _) (sumQ_pl _ _ _) dQ_num dQ_rz h1 h1
  have h3 := sum_st (sumQ_pl _ _ _) (sumQ_pl _ _ _) dQ_num dQ_rz h2 h2
  rw [told_st h3, pb_eq, mul8]
  unfold smallF
  rw [h, Bool.true_and]
theorem id_ref : tolQ nilQ = pb Pt.zero := told_st nilQ_st
theorem base_ref : tolQ basQ = pb basePt := told_st basQ_st
theorem isPl_congr {f g : Nat → Int} (h : ∀ i, i < 51 → f i = g i) (hg : IsPl g) : IsPl f :=
  ⟨num17_congr (fun i hi => h i (by omega)) hg.x, num17_congr (fun i hi => h (17 + i) (by omega)) hg.y, num17_congr (fun i hi => h (34 + i) (by omega)) hg.z⟩
theorem tolQ_congr {f g : Nat → Int} (h : ∀ i, i < 51 → f i = g i) : tolQ f = tolQ g := by
  have e1 : rz f = rz g := rz_congr fun i hi => h i (by omega)
  have e2 : rz (nx 17 f) = rz (nx 17 g) := rz_congr fun i hi => h (17 + i) (by omega)
  have e3 : rz (nx 34 f) = rz (nx 34 g) := rz_congr fun i hi => h (34 + i) (by omega)
  unfold tolQ
  rw [e1, e2, e3]
theorem isPl_spl {z a b c : Nat → Int} (ha : Num17 a) (hb : Num17 b) (hc : Num17 c) : IsPl (splice (splice (splice z 0 17 a) 17 17 b) 34 17 c) := isPl_congr spl3 (isPl_pl3 ha hb hc)
theorem id_ref2 {z : Nat → Int} : tolQ (splice (splice (splice z 0 17 (D17 0)) 17 17 (D17 1)) 34 17 (D17 1)) = pb Pt.zero := by
  rw [tolQ_congr spl3]
  exact id_ref
def plMC (R : (Nat → Int) → (Nat → Int) → Nat → Int) : Contract := fun vs => match vs with
  | [.arr .u8 32 n, .arr .i64 51 a] => some ([IsPl a], .arr .i64 51 (R n a))
  | _ => none
def plNC (R : Nat → Int) : Contract := fun vs => match vs with
  | [] => some ([], .arr .i64 51 R)
  | _ => none
def nTrueC : Contract := fun vs => match vs with
  | [] => some ([], .bool (.sym true))
  | _ => none
end Sx

/-
  The point laws against the document: their helpers.
-/
namespace Sx
open Go Go.RowKit

def alB (f g : Nat → Int) : Bool := realEqA 32 f g && realEqA 32 (nx 32 f) (nx 32 g)
theorem alB_is (f g : Nat → Int) : (match realEqA 32 f g with | true => realEqA 32 (fun j => f (32 + j)) (fun j => g (32 + j)) | false => false) = alB f g := by
  unfold alB
  cases realEqA 32 f g <;> rfl
theorem eqA_self (n : Nat) (f : Nat → Int) : realEqA n f f = true := eqA_of fun _ _ => rfl
theorem alB_self (f : Nat → Int) : alB f f = true := by
  unfold alB
  rw [eqA_self, eqA_self]
  rfl
theorem mine_is {z f : Nat → Int} : ∀ i, i < 64 → splice (splice z 0 32 f) 32 32 (fun j => f (32 + j)) i = f i := by
  intro i hi
  by_cases h : i < 32
  · rw [spl_lo h, spl_in0 h]
  · have e : i = 32 + (i - 32) := by omega
    conv => lhs; rw [e]
    rw [spl_in (by omega)]
    show f (32 + (i - 32)) = f i
    rw [← e]
theorem dbl_add (f : Nat → Int) : dblF f = ptAddF f f := by
  unfold dblF ptAddF
  by_cases h : onB f = true
  · rw [if_pos h, if_pos ⟨h, h⟩]
  · rw [if_neg h, if_neg fun a => h a.1]
theorem off_add2 (f : Nat → Int) : ptAddE f f = offE f := by
  unfold ptAddE offE
  by_cases h : onB f = true
  · rw [if_pos h, if_pos ⟨h, h⟩]
  · rw [if_neg h, if_neg fun a => h a.1]
theorem ptAdd_comm (f g : Nat → Int) : ptAddF g f = ptAddF f g := by
  unfold ptAddF
  by_cases h : onB f = true ∧ onB g = true
  · rw [if_pos h, if_pos ⟨h.2, h.1⟩, Pt.add_comm]
  · rw [if_neg h, if_neg fun a => h ⟨a.2, a.1⟩]
theorem ptAddE_comm (f g : Nat → Int) : ptAddE g f = ptAddE f g := by
  unfold ptAddE
  by_cases h : onB f = true ∧ onB g = true
  · rw [if_pos h, if_pos ⟨h.2, h.1⟩]
  · rw [if_neg h, if_neg fun a => h ⟨a.2, a.1⟩]
def alikeC (R : (Nat → Int) → (Nat → Int) → Bool) : Contract := fun vs => match vs with
  | [.arr .u8 64 f, .arr .u8 64 g] => some ([], .bool (.sym (R f g)))
  | _ => none
def mineC : Contract := fun vs => match vs with
  | [.arr .u8 64 f] => some ([], .arr .u8 64 f)
  | _ => none
end Sx

