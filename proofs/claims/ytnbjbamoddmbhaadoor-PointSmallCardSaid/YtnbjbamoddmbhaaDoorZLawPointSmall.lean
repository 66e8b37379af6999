/-
  PointSmall holds for every input: the walk.
-/
import Derived.Test.YtnbjbamoddmbhaaDoorZPtK
import Derived.Test.YtnbjbamoddmbhaaDoorZPA
import Derived.Test.YtnbjbamoddmbhaaDoorZEB
namespace Go.Proofs.YtnbjbamoddmbhaaDoor
open Go Go.Proofs Sx
set_option maxRecDepth 100000
set_option maxHeartbeats 4000000
set_option linter.unusedVariables false
set_option linter.unusedSimpArgs false

def rm_law_psmall : { r : RM // aliasOf (body Tryd.f14) = r } := ⟨_, by cbv⟩
def sch0_law_psmall : { c : SC // stripR rm_law_psmall.1 (headN 12 (body Tryd.f14)) = c } := ⟨_, by cbv⟩
def sct1_law_psmall : { c : SC // stripR rm_law_psmall.1 (tailN 12 (body Tryd.f14)) = c } := ⟨_, by cbv⟩
def scp0_law_psmall : { c : SC // plugN 12 sch0_law_psmall.1 sct1_law_psmall.1 = c } := ⟨_, by cbv⟩
def sct0_law_psmall : { c : SC // stripR rm_law_psmall.1 (body Tryd.f14) = c } := ⟨scp0_law_psmall.1, (stripR_two rm_law_psmall.1 12 (by kernel_rfl) sch0_law_psmall.2 sct1_law_psmall.2).trans scp0_law_psmall.2⟩
def sc_law_psmall : { c : SC // strip (body Tryd.f14) = c } := ⟨sct0_law_psmall.1, (strip_rm rm_law_psmall.2).trans sct0_law_psmall.2⟩
theorem walk_law_psmall (A : Ops) (hA : A = realOps) (n : Nat → Int) (t : Int)  (DC : (Nat → Int) → Nat → Int) (hDC : DC = decF) (NB : Int → Nat → Int) (hNB : NB = fun x => byt x) (ML : (Nat → Int) → (Nat → Int) → Nat → Int) (hML : ML = mulG) (SS : (Nat → Int) → Bool) (hSS : SS = smallG) (SE : (Nat → Int) → Int → Nat → Int) (hSE : SE = someG) (EN : (Nat → Int) → Nat → Int) (hEN : EN = encG) (ID : Nat → Int) (hID : ID = pb Pt.zero) (SF : Nat → Int) (hSF : SF = fun i => v_small.2.2.getD i 0) (LB : Nat → Bool) (hLB : LB = listB (fun i j => SF (32 * i + j)) (encG (someG n t))) (I1 : { i : Nat // i ≤ 8 } → St) (hI1 : I1 = fun i => slots 140 [(1, .int .i64 (.sym t)), (2, .own (.arr .u8 32 n)), (5, .own (.arr .u8 64 (DC (fun j => SF (32 * 1 + j))))), (7, .int .i64 (.sym (i.1 : Int)))]) (I2 : { i : Nat // i ≤ 8 } → St) (hI2 : I2 = fun i => slots 140 [(16, .bool (.sym (SS (SE n t)))), (17, .own (.arr .u8 32 (EN (SE n t)))), (19, .own (.arr .u8 64 (ML (NB 8) (SE n t)))), (21, .bool (.sym (LB i.1))), (22, .int .i64 (.sym (i.1 : Int)))]) :
    Walk (mkEnv A tab.1 (gSm SF) [(37, baseLC), (22, decPP DC), (24, numI), (40, numbLC NB), (50, ptMPP ML), (34, smallPP SS), (48, someLC SE), (28, encPP EN), (17, ptKC ID)] [(7, .inv { i : Nat // i ≤ 8 } I1 fun i => 8 - i.1), (22, .inv { i : Nat // i ≤ 8 } I2 fun i => 8 - i.1)]) sc_law_psmall.1 140 [.tmp 4] [.arr .u8 32 n, .int .i64 (.sym t)] (.bool (.sym true)) := by
  obtain ⟨bi, cm, un, cv, na, eq⟩ := A
  have hbi : bi = realBin := congrArg Ops.bin hA
  have hcm : cm = realCmp := congrArg Ops.cmp hA
  have hna : na = Int.toNat := congrArg Ops.nat hA
  have hcv : cv = fun k n => k.wrap n := congrArg Ops.cnv hA
  have heq : eq = realEqA := congrArg Ops.eqA hA
  clear hA
  have hM : ∀ n f, IsPt (ML n f) := by
    intro n f
    rw [hML]
    exact isPt_mul n f
  have hp : ∀ n t, IsPt (SE n t) := by
    intro n t
    rw [hSE]
    exact isPt_some n t
  have hid : IsPt ID := by
    rw [hID]
    exact isPt_zero
  have hA : True := trivial
  have hB : True := trivial
  have hC : True := trivial
  have hN : True := trivial
  have hD : True := trivial
  have hba : True := trivial
  have f0 : ∀ i, i < 8 → IsForm (fun j => SF (32 * i + j)) ∧ DC (fun j => SF (32 * i + j)) = pb (Pt.mul i smOne) := by
    try rw [heq]
    subst hDC hNB hML hSS hSE hEN hID hSF hLB
    intro i hi; have hx := small_at _ hi; have h := dec_form (P := Pt.mul i smOne) (b := fun j => v_small.2.2.getD (32 * i + j) 0) (fun j hj => by rw [hx.x, hx.y]; exact small_forms _ hi j hj); exact ⟨⟨h.1⟩, h.2⟩
  have k1 : ∀ i, i < 8 → eq 64 (DC (fun j => SF (32 * i + j))) (ML (NB (Int.ofNat i)) (DC (fun j => SF (32 * 1 + j)))) = true := by
    try rw [heq]
    subst hDC hNB hML hSS hSE hEN hID hSF hLB
    intro i hi; rw [(f0 i hi).2, (f0 1 (by decide)).2]; exact pb_same (by rw [nN_small ⟨by simp only [Int.ofNat_eq_natCast]; omega⟩, ptO_pb, Pt.mul_one]; rfl)
  have k2 : ∀ i, i < 8 → SS (DC (fun j => SF (32 * i + j))) = true := by
    try rw [heq]
    subst hDC hNB hML hSS hSE hEN hID hSF hLB
    intro i hi; rw [(f0 i hi).2]; exact small_iff.2 (small8 i)
  have k3 : SS (SE n t) = LB 8 := by
    try rw [heq]
    subst hDC hNB hML hSS hSE hEN hID hSF hLB
    exact small_listed (fun i hi j hj => by have hx := small_at _ hi; rw [hx.x, hx.y]; exact small_forms _ hi j hj) n t
  have k4 : SS (SE n t) = eq 64 (ML (NB 8) (SE n t)) ID := by
    try rw [heq]
    subst hDC hNB hML hSS hSE hEN hID hSF hLB
    unfold someG mulG; rw [nN_small ⟨by decide⟩, ptO_pb]; exact small_same
  have l0 : LB 0 = false := by
    try rw [heq]
    subst hDC hNB hML hSS hSE hEN hID hSF hLB
    rfl
  have ls : ∀ i, LB (i + 1) = (LB i || eq 32 (EN (SE n t)) (fun j => SF (32 * i + j))) := by
    try rw [heq]
    subst hDC hNB hML hSS hSE hEN hID hSF hLB
    intro i; rfl
  have hpd : ∀ i, i < 8 → IsPt (DC (fun j => SF (32 * i + j))) := by
    try rw [heq]
    subst hDC hNB hML hSS hSE hEN hID hSF hLB
    intro i hi; rw [(f0 i hi).2]; exact isPt_pb _
  clear hDC hNB hML hSS hSE hEN hID
  refine ⟨?_⟩
  cbv
  repeat (first | refine ⟨hf, ?_⟩ | refine ⟨hn, ?_⟩ | refine ⟨nb1, ?_⟩ | refine ⟨nb2, ?_⟩ | refine ⟨hp _ _, ?_⟩ | refine ⟨hA _ _, ?_⟩ | refine ⟨hM _ _, ?_⟩ | refine ⟨hB _, ?_⟩ | refine ⟨hC _ _ _, ?_⟩ | refine ⟨hN _, ?_⟩ | refine ⟨hD _, ?_⟩ | refine ⟨hid, ?_⟩ | refine ⟨hba, ?_⟩ | refine ⟨⟨by decide⟩, ?_⟩)
  have g1 : IsForm (fun j => SF (32 + j)) := (f0 1 (by decide)).1
  refine ⟨g1, ⟨⟨0, by decide⟩, ?_⟩, fun i _ => ?_⟩
  · subst hI1
    cbv
    exact ⟨fun _ _ => rfl, fun _ _ => rfl, rfl, trivial⟩
  · subst hI1
    cbv
    obtain ⟨i, hi⟩ := i
    refine ⟨fun h => ?_, fun h => ?_⟩
    · cbv
      rw [hcm] at h
      have hlt := lss_yes h
      simp only [Int.ofNat_eq_natCast] at hlt
      have qi : na (Int.ofNat i) = i := by rw [hna]; rfl
      have p4 : bi .add .i64 (Int.ofNat i) 1 = Int.ofNat (i + 1) := by rw [hbi, add_i64 (by simp only [Int.ofNat_eq_natCast]; omega)]; rfl
      have m0 : (Classical.choice seal_mul).1 (na (Int.ofNat i)) 32 = 32 * i := by rw [choice_mul, qi]; omega
      have hi8 : i < 8 := by omega
      have w0 : Within (Int.ofNat i) 8 := ⟨by constructor <;> simp only [Int.ofNat_eq_natCast] <;> omega⟩
      have g0 : FitsIn ((Classical.choice seal_mul).1 (na (Int.ofNat i)) 32) 32 256 := ⟨by rw [m0]; omega⟩
      have s48 : Small48 (Int.ofNat i) := ⟨by simp only [Int.ofNat_eq_natCast]; omega⟩
      have fi := f0 i hi8
      have pi := hpd i hi8
      have p1 := hpd 1 (by decide)
      have e1 := k1 i hi8
      have e2 := k2 i hi8
      rw [← m0] at fi pi e1 e2
      refine ⟨w0, g0, fi.1, s48, p1, pi, ?_⟩
      refine and_dead (fun h => or2_dead h e1 e2) (fun _ => ?_)
      cbv
      refine ⟨⟨i + 1, by omega⟩, ?_, by show 8 - (i + 1) < 8 - i; omega⟩
      cbv
      exact ⟨fun _ _ => rfl, fun _ _ => rfl, p4, trivial⟩
    · cbv
      have hN : i = 8 := by
        rw [hcm] at h
        have := lss_no h
        simp only [Int.ofNat_eq_natCast] at this
        omega
      subst hN
      refine ⟨hp _ _, hp _ _, ⟨by decide⟩, hp _ _, ⟨⟨0, by decide⟩, ?_⟩, fun i _ => ?_⟩
      · subst hI2
        cbv
        exact ⟨rfl, fun _ _ => rfl, fun _ _ => rfl, l0.symm, rfl, trivial⟩
      · subst hI2
        cbv
        obtain ⟨i, hi⟩ := i
        refine ⟨fun h => ?_, fun h => ?_⟩
        · cbv
          rw [hcm] at h
          have hlt := lss_yes h
          simp only [Int.ofNat_eq_natCast] at hlt
          have qi : na (Int.ofNat i) = i := by rw [hna]; rfl
          have p4 : bi .add .i64 (Int.ofNat i) 1 = Int.ofNat (i + 1) := by rw [hbi, add_i64 (by simp only [Int.ofNat_eq_natCast]; omega)]; rfl
          have m0 : (Classical.choice seal_mul).1 (na (Int.ofNat i)) 32 = 32 * i := by rw [choice_mul, qi]; omega
          have w0 : Within (Int.ofNat i) 8 := ⟨by constructor <;> simp only [Int.ofNat_eq_natCast] <;> omega⟩
          have g0 : FitsIn ((Classical.choice seal_mul).1 (na (Int.ofNat i)) 32) 32 256 := ⟨by rw [m0]; omega⟩
          have es := ls i
          rw [← m0] at es
          refine ⟨fun _ => w0, fun _ => g0, ⟨i + 1, by omega⟩, ?_, by show 8 - (i + 1) < 8 - i; omega⟩
          cbv
          refine ⟨fun _ _ => rfl, fun _ _ => rfl, ?_, p4, trivial⟩
          show (match LB i with | true => true | false => eq 32 (EN (SE n t)) (fun j => SF ((Classical.choice seal_mul).1 (na (Int.ofNat i)) 32 + j))) = LB (i + 1)
          rw [es]
          cases LB i <;> rfl
        · cbv
          have hN : i = 8 := by
            rw [hcm] at h
            have := lss_no h
            simp only [Int.ofNat_eq_natCast] at this
            omega
          subst hN
          show (match decide (SS (SE n t) = LB 8) with | true => decide (SS (SE n t) = eq 64 (ML (NB 8) (SE n t)) ID) | false => false) = true
          rw [← k3, ← k4]
          simp

theorem ok_lawP_psmall : Sound Tryd.prog Glp 14 (lawAt) := by
  refine sound_sym (n := 140) (rs := [.tmp 4]) (sc := sc_law_psmall.1) mixed Tryd.func14 rfl rfl rfl rfl sc_law_psmall.2 ?_
  intro vs cs r h
  unfold lawAt at h
  split at h
  · rename_i n t
    cases h
    exact ⟨by simp, fun hcs hwf => ⟨_, envOK tabOK ((.cons (ok_lbase) (.cons ((weak_dec ok_ptdec).sub sub_lp) (.cons (ok_lnum) (.cons (ok_lnumber) (.cons ((weak_mul ok_ptmul).sub sub_lp) (.cons ((weak_small ok_ptsmall).sub sub_lp) (.cons (ok_lsome) (.cons ((weak_enc ok_ptenc).sub sub_lp) (.cons ((ok_ptid).sub sub_lp) .nil)))))))))), rfl, walk_law_psmall realOps rfl n t.val  _ rfl _ rfl _ rfl _ rfl _ rfl _ rfl _ rfl _ rfl _ rfl _ rfl _ rfl⟩⟩
  · cases h
theorem ok_law_psmall : Sound Tryd.prog (lookGL gl_lp) 14 lawAt := ok_lawP_psmall.sub lp_sub
end Go.Proofs.YtnbjbamoddmbhaaDoor
