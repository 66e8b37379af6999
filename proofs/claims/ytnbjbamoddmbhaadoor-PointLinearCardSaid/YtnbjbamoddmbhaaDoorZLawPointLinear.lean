/-
  PointLinear holds for every input: the walk.
-/
import Derived.Test.YtnbjbamoddmbhaaDoorZPtK
import Derived.Test.YtnbjbamoddmbhaaDoorZNA
namespace Go.Proofs.YtnbjbamoddmbhaaDoor
open Go Go.Proofs Sx
set_option maxRecDepth 100000
set_option maxHeartbeats 4000000
set_option linter.unusedVariables false
set_option linter.unusedSimpArgs false

def sc_law_plinear : { c : SC // strip (body Tryd.f11) = c } := ⟨_, by cbv⟩
theorem walk_law_plinear (A : Ops) (hA : A = realOps) (a : Nat → Int) (b : Nat → Int) (t : Int) (ha : IsBytes 32 a) (hb : IsBytes 32 b) (hPC : decide (sumC a b 32 = 0) = true) (PS : (Nat → Int) → (Nat → Int) → Nat → Int) (hPS : PS = fun f g => byt (sumN f g)) (SE : (Nat → Int) → Int → Nat → Int) (hSE : SE = someG) (ML : (Nat → Int) → (Nat → Int) → Nat → Int) (hML : ML = mulG) (AD : (Nat → Int) → (Nat → Int) → Nat → Int) (hAD : AD = addG) (NB : Int → Nat → Int) (hNB : NB = fun x => byt x) (ID : Nat → Int) (hID : ID = pb Pt.zero) (PC : (Nat → Int) → (Nat → Int) → Bool) (hPC : PC = fun f g => decide (sumC f g 32 = 0))  :
    Walk (mkEnv A tab.1 Glp [(37, baseLC), (56, plusLC PS PC), (48, someLC SE), (50, ptMPP ML), (24, numI), (49, sumLC AD), (40, numbLC NB), (17, ptKC ID)] []) sc_law_plinear.1 187 [.tmp 6] [.arr .u8 32 a, .arr .u8 32 b, .int .i64 (.sym t)] (.bool (.sym true)) := by
  obtain ⟨bi, cm, un, cv, na, eq⟩ := A
  have hbi : bi = realBin := congrArg Ops.bin hA
  have hcm : cm = realCmp := congrArg Ops.cmp hA
  have hna : na = Int.toNat := congrArg Ops.nat hA
  have hcv : cv = fun k n => k.wrap n := congrArg Ops.cnv hA
  have heq : eq = realEqA := congrArg Ops.eqA hA
  clear hA
  have hp : ∀ n t, IsPt (SE n t) := by
    intro n t
    rw [hSE]
    exact isPt_some n t
  have hM : ∀ n f, IsPt (ML n f) := by
    intro n f
    rw [hML]
    exact isPt_mul n f
  have hA : ∀ f g, IsPt (AD f g) := by
    intro f g
    rw [hAD]
    exact isPt_add f g
  have hid : IsPt ID := by
    rw [hID]
    exact isPt_zero
  have hB : True := trivial
  have hC : True := trivial
  have hN : True := trivial
  have hD : True := trivial
  have hba : True := trivial
  have k1 : ∀ f, PC a b = true → eq 64 (AD (ML a f) (ML b f)) (ML (PS a b) f) = true := by
    try rw [heq]
    subst hPS hSE hML hAD hNB hID hPC
    intro f h; exact pb_same (by rw [ptO_mulG, ptO_mulG, sumC_fit ha hb h, Pt.mul_add])
  have k1m : ∀ f, eq 64 (AD (ML (dcY a) f) (ML (dcY b) f)) (ML (PS (dcY a) (dcY b)) f) = true := by
    try rw [heq]
    subst hPS hSE hML hAD hNB hID hPC
    intro f; exact pb_same (by rw [ptO_mulG, ptO_mulG, nN_sum_mask ha hb, Pt.mul_add])
  have k2 : ∀ n f g, eq 64 (AD (ML n f) (ML n g)) (ML n (AD f g)) = true := by
    try rw [heq]
    subst hPS hSE hML hAD hNB hID hPC
    intro n f g; exact pb_same (by rw [ptO_mulG, ptO_mulG, ptO_addG, Pt.mul_dist])
  have k3 : ∀ n t, eq 64 (ML (NB 1) (SE n t)) (SE n t) = true := by
    try rw [heq]
    subst hPS hSE hML hAD hNB hID hPC
    intro n t; exact pb_same (by rw [ptO_some, nN_small ⟨by decide⟩]; exact Pt.mul_one _)
  have k4 : ∀ f, eq 64 (ML (NB 0) f) ID = true := by
    try rw [heq]
    subst hPS hSE hML hAD hNB hID hPC
    intro f; exact pb_same (by rw [nN_small ⟨by decide⟩]; exact Pt.mul_zero _)
  have hya : upd a 31 (bi .and .u8 (a 31) 127) = dcY a := by
    try rw [heq]
    subst hPS hSE hML hAD hNB hID hPC
    rw [hbi]; exact dcY_is ha
  have hyb : upd b 31 (bi .and .u8 (b 31) 127) = dcY b := by
    try rw [heq]
    subst hPS hSE hML hAD hNB hID hPC
    rw [hbi]; exact dcY_is hb
  have kc : PC a b = true := by
    try rw [heq]
    subst hPS hSE hML hAD hNB hID hPC
    exact hPC
  clear hPS hSE hML hAD hNB hID hPC
  refine ⟨?_⟩
  cbv
  repeat (first | refine ⟨hp _ _, ?_⟩ | refine ⟨hA _ _, ?_⟩ | refine ⟨hM _ _, ?_⟩ | refine ⟨hB _, ?_⟩ | refine ⟨hC _ _ _, ?_⟩ | refine ⟨hN _, ?_⟩ | refine ⟨hD _, ?_⟩ | refine ⟨hid, ?_⟩ | refine ⟨hba, ?_⟩ | refine ⟨⟨by decide⟩, ?_⟩)
  refine and_dead (by simp [kc]) (fun _ => ?_)
  cbv
  repeat (first | refine ⟨hp _ _, ?_⟩ | refine ⟨hA _ _, ?_⟩ | refine ⟨hM _ _, ?_⟩ | refine ⟨hB _, ?_⟩ | refine ⟨hC _ _ _, ?_⟩ | refine ⟨hN _, ?_⟩ | refine ⟨hD _, ?_⟩ | refine ⟨hid, ?_⟩ | refine ⟨hba, ?_⟩ | refine ⟨⟨by decide⟩, ?_⟩)
  have k1 := fun f => k1 f kc
  refine ⟨fun h => ?_, fun _ => ?_⟩
  · exfalso
    revert h
    try dsimp only [SI.val, SO.val]
    simp [k1]
  cbv
  repeat (first | refine ⟨hp _ _, ?_⟩ | refine ⟨hA _ _, ?_⟩ | refine ⟨hM _ _, ?_⟩ | refine ⟨hB _, ?_⟩ | refine ⟨hC _ _ _, ?_⟩ | refine ⟨hN _, ?_⟩ | refine ⟨hD _, ?_⟩ | refine ⟨hid, ?_⟩ | refine ⟨hba, ?_⟩ | refine ⟨⟨by decide⟩, ?_⟩)
  try dsimp only [SI.val, SO.val]
  simp [k2, k3, k4]

theorem walk_law_plinearF (A : Ops) (hA : A = realOps) (a : Nat → Int) (b : Nat → Int) (t : Int) (ha : IsBytes 32 a) (hb : IsBytes 32 b) (hPC : decide (sumC a b 32 = 0) = false) (PS : (Nat → Int) → (Nat → Int) → Nat → Int) (hPS : PS = fun f g => byt (sumN f g)) (SE : (Nat → Int) → Int → Nat → Int) (hSE : SE = someG) (ML : (Nat → Int) → (Nat → Int) → Nat → Int) (hML : ML = mulG) (AD : (Nat → Int) → (Nat → Int) → Nat → Int) (hAD : AD = addG) (NB : Int → Nat → Int) (hNB : NB = fun x => byt x) (ID : Nat → Int) (hID : ID = pb Pt.zero) (PC : (Nat → Int) → (Nat → Int) → Bool) (hPC : PC = fun f g => decide (sumC f g 32 = 0))  :
    Walk (mkEnv A tab.1 Glp [(37, baseLC), (56, plusLC PS PC), (48, someLC SE), (50, ptMPP ML), (24, numI), (49, sumLC AD), (40, numbLC NB), (17, ptKC ID)] []) sc_law_plinear.1 187 [.tmp 6] [.arr .u8 32 a, .arr .u8 32 b, .int .i64 (.sym t)] (.bool (.sym true)) := by
  obtain ⟨bi, cm, un, cv, na, eq⟩ := A
  have hbi : bi = realBin := congrArg Ops.bin hA
  have hcm : cm = realCmp := congrArg Ops.cmp hA
  have hna : na = Int.toNat := congrArg Ops.nat hA
  have hcv : cv = fun k n => k.wrap n := congrArg Ops.cnv hA
  have heq : eq = realEqA := congrArg Ops.eqA hA
  clear hA
  have hp : ∀ n t, IsPt (SE n t) := by
    intro n t
    rw [hSE]
    exact isPt_some n t
  have hM : ∀ n f, IsPt (ML n f) := by
    intro n f
    rw [hML]
    exact isPt_mul n f
  have hA : ∀ f g, IsPt (AD f g) := by
    intro f g
    rw [hAD]
    exact isPt_add f g
  have hid : IsPt ID := by
    rw [hID]
    exact isPt_zero
  have hB : True := trivial
  have hC : True := trivial
  have hN : True := trivial
  have hD : True := trivial
  have hba : True := trivial
  have k1 : ∀ f, PC a b = true → eq 64 (AD (ML a f) (ML b f)) (ML (PS a b) f) = true := by
    try rw [heq]
    subst hPS hSE hML hAD hNB hID hPC
    intro f h; exact pb_same (by rw [ptO_mulG, ptO_mulG, sumC_fit ha hb h, Pt.mul_add])
  have k1m : ∀ f, eq 64 (AD (ML (dcY a) f) (ML (dcY b) f)) (ML (PS (dcY a) (dcY b)) f) = true := by
    try rw [heq]
    subst hPS hSE hML hAD hNB hID hPC
    intro f; exact pb_same (by rw [ptO_mulG, ptO_mulG, nN_sum_mask ha hb, Pt.mul_add])
  have k2 : ∀ n f g, eq 64 (AD (ML n f) (ML n g)) (ML n (AD f g)) = true := by
    try rw [heq]
    subst hPS hSE hML hAD hNB hID hPC
    intro n f g; exact pb_same (by rw [ptO_mulG, ptO_mulG, ptO_addG, Pt.mul_dist])
  have k3 : ∀ n t, eq 64 (ML (NB 1) (SE n t)) (SE n t) = true := by
    try rw [heq]
    subst hPS hSE hML hAD hNB hID hPC
    intro n t; exact pb_same (by rw [ptO_some, nN_small ⟨by decide⟩]; exact Pt.mul_one _)
  have k4 : ∀ f, eq 64 (ML (NB 0) f) ID = true := by
    try rw [heq]
    subst hPS hSE hML hAD hNB hID hPC
    intro f; exact pb_same (by rw [nN_small ⟨by decide⟩]; exact Pt.mul_zero _)
  have hya : upd a 31 (bi .and .u8 (a 31) 127) = dcY a := by
    try rw [heq]
    subst hPS hSE hML hAD hNB hID hPC
    rw [hbi]; exact dcY_is ha
  have hyb : upd b 31 (bi .and .u8 (b 31) 127) = dcY b := by
    try rw [heq]
    subst hPS hSE hML hAD hNB hID hPC
    rw [hbi]; exact dcY_is hb
  have kc : PC a b = false := by
    try rw [heq]
    subst hPS hSE hML hAD hNB hID hPC
    exact hPC
  clear hPS hSE hML hAD hNB hID hPC
  refine ⟨?_⟩
  cbv
  repeat (first | refine ⟨hp _ _, ?_⟩ | refine ⟨hA _ _, ?_⟩ | refine ⟨hM _ _, ?_⟩ | refine ⟨hB _, ?_⟩ | refine ⟨hC _ _ _, ?_⟩ | refine ⟨hN _, ?_⟩ | refine ⟨hD _, ?_⟩ | refine ⟨hid, ?_⟩ | refine ⟨hba, ?_⟩ | refine ⟨⟨by decide⟩, ?_⟩)
  refine and_dead2 (by simp [kc]) (fun _ => ?_)
  cbv
  repeat (first | refine ⟨hp _ _, ?_⟩ | refine ⟨hA _ _, ?_⟩ | refine ⟨hM _ _, ?_⟩ | refine ⟨hB _, ?_⟩ | refine ⟨hC _ _ _, ?_⟩ | refine ⟨hN _, ?_⟩ | refine ⟨hD _, ?_⟩ | refine ⟨hid, ?_⟩ | refine ⟨hba, ?_⟩ | refine ⟨⟨by decide⟩, ?_⟩)
  rw [← hya, ← hyb] at k1m
  refine ⟨fun h => ?_, fun _ => ?_⟩
  · exfalso
    revert h
    try dsimp only [SI.val, SO.val]
    simp [k1m]
  cbv
  repeat (first | refine ⟨hp _ _, ?_⟩ | refine ⟨hA _ _, ?_⟩ | refine ⟨hM _ _, ?_⟩ | refine ⟨hB _, ?_⟩ | refine ⟨hC _ _ _, ?_⟩ | refine ⟨hN _, ?_⟩ | refine ⟨hD _, ?_⟩ | refine ⟨hid, ?_⟩ | refine ⟨hba, ?_⟩ | refine ⟨⟨by decide⟩, ?_⟩)
  try dsimp only [SI.val, SO.val]
  simp [k2, k3, k4]

theorem ok_lawP_plinear : Sound Tryd.prog Glp 11 (lawABt) := by
  refine sound_sym (n := 187) (rs := [.tmp 6]) (sc := sc_law_plinear.1) mixed Tryd.func11 rfl rfl rfl rfl sc_law_plinear.2 ?_
  intro vs cs r h
  unfold lawABt at h
  split at h
  · rename_i a b t
    cases h
    refine ⟨by simp, fun hcs hwf => ?_⟩
    cases hPC : decide (sumC a b 32 = 0) with
    | true => exact ⟨_, envOK tabOK ((.cons (ok_lbase) (.cons (ok_lplusP) (.cons (ok_lsome) (.cons ((weak_mul ok_ptmul).sub sub_lp) (.cons (ok_lnum) (.cons (ok_lsum) (.cons (ok_lnumber) (.cons ((ok_ptid).sub sub_lp) .nil))))))))), rfl, walk_law_plinear realOps rfl a b t.val (isB (hwf _ (by simp))) (isB (hwf _ (by simp))) (hPC) _ rfl _ rfl _ rfl _ rfl _ rfl _ rfl _ rfl ⟩
    | false => exact ⟨_, envOK tabOK ((.cons (ok_lbase) (.cons (ok_lplusP) (.cons (ok_lsome) (.cons ((weak_mul ok_ptmul).sub sub_lp) (.cons (ok_lnum) (.cons (ok_lsum) (.cons (ok_lnumber) (.cons ((ok_ptid).sub sub_lp) .nil))))))))), rfl, walk_law_plinearF realOps rfl a b t.val (isB (hwf _ (by simp))) (isB (hwf _ (by simp))) (hPC) _ rfl _ rfl _ rfl _ rfl _ rfl _ rfl _ rfl ⟩
  · cases h
theorem ok_law_plinear : Sound Tryd.prog (lookGL gl_lp) 11 lawABt := ok_lawP_plinear.sub lp_sub
end Go.Proofs.YtnbjbamoddmbhaaDoor
