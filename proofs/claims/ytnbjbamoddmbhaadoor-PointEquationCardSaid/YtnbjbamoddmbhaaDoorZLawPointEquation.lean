/-
  PointEquation holds for every input: the walk.
-/
import Derived.Test.YtnbjbamoddmbhaaDoorZPqK
import Derived.Test.YtnbjbamoddmbhaaDoorZPA
import Derived.Test.YtnbjbamoddmbhaaDoorZEB
namespace Go.Proofs.YtnbjbamoddmbhaaDoor
open Go Go.Proofs Sx
set_option maxRecDepth 100000
set_option maxHeartbeats 4000000
set_option linter.unusedVariables false
set_option linter.unusedSimpArgs false

def rm_law_pequation : { r : RM // aliasOf (body Tryd.f10) = r } := ⟨_, by cbv⟩
def sch0_law_pequation : { c : SC // stripR rm_law_pequation.1 (headN 11 (body Tryd.f10)) = c } := ⟨_, by cbv⟩
def sch1_law_pequation : { c : SC // stripR rm_law_pequation.1 (headN 7 (tailN 11 (body Tryd.f10))) = c } := ⟨_, by cbv⟩
def sct2_law_pequation : { c : SC // stripR rm_law_pequation.1 (tailN 7 (tailN 11 (body Tryd.f10))) = c } := ⟨_, by cbv⟩
def scp1_law_pequation : { c : SC // plugN 7 sch1_law_pequation.1 sct2_law_pequation.1 = c } := ⟨_, by cbv⟩
def sct1_law_pequation : { c : SC // stripR rm_law_pequation.1 (tailN 11 (body Tryd.f10)) = c } := ⟨scp1_law_pequation.1, (stripR_two rm_law_pequation.1 7 (by kernel_rfl) sch1_law_pequation.2 sct2_law_pequation.2).trans scp1_law_pequation.2⟩
def scp0_law_pequation : { c : SC // plugN 11 sch0_law_pequation.1 sct1_law_pequation.1 = c } := ⟨_, by cbv⟩
def sct0_law_pequation : { c : SC // stripR rm_law_pequation.1 (body Tryd.f10) = c } := ⟨scp0_law_pequation.1, (stripR_two rm_law_pequation.1 11 (by kernel_rfl) sch0_law_pequation.2 sct1_law_pequation.2).trans scp0_law_pequation.2⟩
def sc_law_pequation : { c : SC // strip (body Tryd.f10) = c } := ⟨sct0_law_pequation.1, (strip_rm rm_law_pequation.2).trans sct0_law_pequation.2⟩
theorem walk_law_pequation (A : Ops) (hA : A = realOps) (f : Nat → Int) (hP : onB f = true) (fSQ : (Nat → Int) → Nat → Int) (hfSQ : fSQ = fun f => fb (fe f * fe f)) (NB : Int → Nat → Int) (hNB : NB = fun x => byt x) (fSU : (Nat → Int) → (Nat → Int) → Nat → Int) (hfSU : fSU = fun f g => fb (fe f - fe g)) (fMU : (Nat → Int) → (Nat → Int) → Nat → Int) (hfMU : fMU = fun f g => fb (fe f * fe g)) (fNE : (Nat → Int) → Nat → Int) (hfNE : fNE = fun f => fb (- fe f)) (fCA : (Nat → Int) → Bool) (hfCA : fCA = canB) (EN : (Nat → Int) → Nat → Int) (hEN : EN = encG) (NG : (Nat → Int) → Nat → Int) (hNG : NG = negG) (DB : (Nat → Int) → Nat → Int) (hDB : DB = dblG) (AD : (Nat → Int) → (Nat → Int) → Nat → Int) (hAD : AD = addG) (BA : Nat → Int) (hBA : BA = pb basePt) (ML : (Nat → Int) → (Nat → Int) → Nat → Int) (hML : ML = mulG) (CB : (Nat → Int) → (Nat → Int) → (Nat → Int) → Nat → Int) (hCB : CB = combG) (SS : (Nat → Int) → Bool) (hSS : SS = smallG) (ID : Nat → Int) (hID : ID = pb Pt.zero)  :
    Walk (mkEnv A tab.1 Glp [(37, baseLC), (38, un32C fSQ), (40, numbLC NB), (39, bin32C fSU), (41, bin32C fMU), (43, un32C fNE), (46, bool32C fCA), (26, onPP), (28, encPP EN), (24, numI), (30, pt1PP NG), (32, pt1PP DB), (36, pt2PP AD), (19, ptKC BA), (50, ptMPP ML), (54, ptCPP CB), (34, smallPP SS), (17, ptKC ID)] [(1000057, .cut 7)]) sc_law_pequation.1 208 [.tmp 2] [.arr .u8 64 f] (.bool (.sym true)) := by
  obtain ⟨bi, cm, un, cv, na, eq⟩ := A
  have hbi : bi = realBin := congrArg Ops.bin hA
  have hcm : cm = realCmp := congrArg Ops.cmp hA
  have hna : na = Int.toNat := congrArg Ops.nat hA
  have hcv : cv = fun k n => k.wrap n := congrArg Ops.cnv hA
  have heq : eq = realEqA := congrArg Ops.eqA hA
  clear hA
  have hN : ∀ f, IsPt (NG f) := by
    intro f
    rw [hNG]
    exact isPt_neg f
  have hD : ∀ f, IsPt (DB f) := by
    intro f
    rw [hDB]
    exact isPt_dbl f
  have hA : ∀ f g, IsPt (AD f g) := by
    intro f g
    rw [hAD]
    exact isPt_add f g
  have hba : IsPt BA := by
    rw [hBA]
    exact isPt_base
  have hM : ∀ n f, IsPt (ML n f) := by
    intro n f
    rw [hML]
    exact isPt_mul n f
  have hC : ∀ n f m, IsPt (CB n f m) := by
    intro n f m
    rw [hCB]
    exact isPt_comb n f m
  have hid : IsPt ID := by
    rw [hID]
    exact isPt_zero
  have hp : True := trivial
  have hB : True := trivial
  have c1 : fCA f = true := by
    try rw [heq]
    subst hfSQ hNB hfSU hfMU hfNE hfCA hEN hNG hDB hAD hBA hML hCB hSS hID
    have h := hP; unfold onB at h; simp only [Bool.and_eq_true] at h; exact h.1.1
  have c2 : fCA (fun j => f (32 + j)) = true := by
    try rw [heq]
    subst hfSQ hNB hfSU hfMU hfNE hfCA hEN hNG hDB hAD hBA hML hCB hSS hID
    have h := hP; unfold onB at h; simp only [Bool.and_eq_true] at h; exact h.1.2
  have c3 : eq 32 (fMU (NB 121666) (fSU (fSU (fSQ fun j => f (32 + j)) (fSQ f)) (NB 1))) (fNE (fMU (NB 121665) (fMU (fSQ f) (fSQ fun j => f (32 + j))))) = true := by
    try rw [heq]
    subst hfSQ hNB hfSU hfMU hfNE hfCA hEN hNG hDB hAD hBA hML hCB hSS hID
    have hh : canB f = true ∧ canB (nx 32 f) = true := by have h := hP; unfold onB at h; simp only [Bool.and_eq_true] at h; exact h.1
    rw [← hP]; have e := on_law hh; show realEqA 32 (fb (fe (byt 121666) * fe (fb (fe (fb (fe (fb (fe (nx 32 f) * fe (nx 32 f))) - fe (fb (fe f * fe f)))) - fe (byt 1))))) (fb (-fe (fb (fe (byt 121665) * fe (fb (fe (fb (fe f * fe f)) * fe (fb (fe (nx 32 f) * fe (nx 32 f))))))))) = _; rw [fe_small ⟨by decide⟩, fe_small ⟨by decide⟩, fe_small ⟨by decide⟩]; simp only [fe_fb]; exact e
  have k1 : ∀ f g, eq 64 (AD f g) (AD g f) = true := by
    try rw [heq]
    subst hfSQ hNB hfSU hfMU hfNE hfCA hEN hNG hDB hAD hBA hML hCB hSS hID
    intro f g; exact pb_same (Pt.add_comm _ _)
  have k2 : eq 64 (CB (NB 1) f (NB 1)) (AD f BA) = true := by
    try rw [heq]
    subst hfSQ hNB hfSU hfMU hfNE hfCA hEN hNG hDB hAD hBA hML hCB hSS hID
    exact pb_same (by rw [nN_small ⟨by decide⟩, ptO_pb]; show (Pt.mul 1 (ptO f)).add (Pt.mul 1 basePt) = _; rw [Pt.mul_one, Pt.mul_one])
  have k4 : ∀ f, eq 64 (ML (NB 0) f) ID = true := by
    try rw [heq]
    subst hfSQ hNB hfSU hfMU hfNE hfCA hEN hNG hDB hAD hBA hML hCB hSS hID
    intro f; exact pb_same (by rw [nN_small ⟨by decide⟩]; exact Pt.mul_zero _)
  clear hfSQ hNB hfSU hfMU hfNE hfCA hEN hNG hDB hAD hBA hML hCB hSS hID
  have hf : IsPt f := ⟨hP⟩
  refine ⟨?_⟩
  cbv
  repeat (first | refine ⟨hf, ?_⟩ | refine ⟨hn, ?_⟩ | refine ⟨nb1, ?_⟩ | refine ⟨nb2, ?_⟩ | refine ⟨hp _ _, ?_⟩ | refine ⟨hA _ _, ?_⟩ | refine ⟨hM _ _, ?_⟩ | refine ⟨hB _, ?_⟩ | refine ⟨hC _ _ _, ?_⟩ | refine ⟨hN _, ?_⟩ | refine ⟨hD _, ?_⟩ | refine ⟨hid, ?_⟩ | refine ⟨hba, ?_⟩ | refine ⟨⟨by decide⟩, ?_⟩)
  have kg : (match (match fCA f with | true => fCA fun j => f (32 + j) | false => false) with | true => eq 32 (fMU (NB 121666) (fSU (fSU (fSQ fun j => f (32 + j)) (fSQ f)) (NB 1))) (fNE (fMU (NB 121665) (fMU (fSQ f) (fSQ fun j => f (32 + j))))) | false => false) = true := by rw [c1]; dsimp only; rw [c2]; exact c3
  refine and_dead2 (fun h => b_ft kg h) (fun _ => ?_)
  cbv
  repeat (first | refine ⟨hf, ?_⟩ | refine ⟨hn, ?_⟩ | refine ⟨nb1, ?_⟩ | refine ⟨nb2, ?_⟩ | refine ⟨hp _ _, ?_⟩ | refine ⟨hA _ _, ?_⟩ | refine ⟨hM _ _, ?_⟩ | refine ⟨hB _, ?_⟩ | refine ⟨hC _ _ _, ?_⟩ | refine ⟨hN _, ?_⟩ | refine ⟨hD _, ?_⟩ | refine ⟨hid, ?_⟩ | refine ⟨hba, ?_⟩ | refine ⟨⟨by decide⟩, ?_⟩)
  try dsimp only [SI.val, SO.val]
  simp [k1, k2, k4]

theorem walk_law_pequationF (A : Ops) (hA : A = realOps) (f : Nat → Int) (hP : onB f = false) (fSQ : (Nat → Int) → Nat → Int) (hfSQ : fSQ = fun f => fb (fe f * fe f)) (NB : Int → Nat → Int) (hNB : NB = fun x => byt x) (fSU : (Nat → Int) → (Nat → Int) → Nat → Int) (hfSU : fSU = fun f g => fb (fe f - fe g)) (fMU : (Nat → Int) → (Nat → Int) → Nat → Int) (hfMU : fMU = fun f g => fb (fe f * fe g)) (fNE : (Nat → Int) → Nat → Int) (hfNE : fNE = fun f => fb (- fe f)) (fCA : (Nat → Int) → Bool) (hfCA : fCA = canB) (BA : Nat → Int) (hBA : BA = pb basePt) (ID : Nat → Int) (hID : ID = pb Pt.zero)  :
    Walk (mkEnv A tab.1 Glp [(37, baseLC), (38, un32C fSQ), (40, numbLC NB), (39, bin32C fSU), (41, bin32C fMU), (43, un32C fNE), (46, bool32C fCA), (26, onOFF), (28, encOFF), (24, numI), (30, pt1OFF), (32, pt1OFF), (36, pt2OFF), (19, ptKC BA), (50, ptMOFF), (54, ptCOFF), (34, smallOFF), (17, ptKC ID)] [(1000057, .cut 7)]) sc_law_pequation.1 208 [.tmp 2] [.arr .u8 64 f] (.bool (.sym true)) := by
  obtain ⟨bi, cm, un, cv, na, eq⟩ := A
  have hbi : bi = realBin := congrArg Ops.bin hA
  have hcm : cm = realCmp := congrArg Ops.cmp hA
  have hna : na = Int.toNat := congrArg Ops.nat hA
  have hcv : cv = fun k n => k.wrap n := congrArg Ops.cnv hA
  have heq : eq = realEqA := congrArg Ops.eqA hA
  clear hA
  have hba : IsPt BA := by
    rw [hBA]
    exact isPt_base
  have hid : IsPt ID := by
    rw [hID]
    exact isPt_zero
  have hp : True := trivial
  have hA : True := trivial
  have hM : True := trivial
  have hB : True := trivial
  have hC : True := trivial
  have hN : True := trivial
  have hD : True := trivial
  have kf : fCA f = true → fCA (fun j => f (32 + j)) = true → eq 32 (fMU (NB 121666) (fSU (fSU (fSQ fun j => f (32 + j)) (fSQ f)) (NB 1))) (fNE (fMU (NB 121665) (fMU (fSQ f) (fSQ fun j => f (32 + j))))) = false := by
    try rw [heq]
    subst hfSQ hNB hfSU hfMU hfNE hfCA hBA hID
    intro h1 h2; have hh : canB f = true ∧ canB (nx 32 f) = true := ⟨h1, h2⟩; rw [← hP]; have e := on_law hh; show realEqA 32 (fb (fe (byt 121666) * fe (fb (fe (fb (fe (fb (fe (nx 32 f) * fe (nx 32 f))) - fe (fb (fe f * fe f)))) - fe (byt 1))))) (fb (-fe (fb (fe (byt 121665) * fe (fb (fe (fb (fe f * fe f)) * fe (fb (fe (nx 32 f) * fe (nx 32 f))))))))) = _; rw [fe_small ⟨by decide⟩, fe_small ⟨by decide⟩, fe_small ⟨by decide⟩]; simp only [fe_fb]; exact e
  have z32 : eq 32 (fun _ => 0) (fun _ => 0) = true := by
    try rw [heq]
    subst hfSQ hNB hfSU hfMU hfNE hfCA hBA hID
    exact eqA_of fun _ _ => rfl
  have z64 : eq 64 (fun _ => 0) (fun _ => 0) = true := by
    try rw [heq]
    subst hfSQ hNB hfSU hfMU hfNE hfCA hBA hID
    exact eqA_of fun _ _ => rfl
  clear hfSQ hNB hfSU hfMU hfNE hfCA hBA hID
  have hn : NotPt f := ⟨hP⟩
  have nb1 : NotBoth f BA := ⟨fun h => by rw [hP] at h; cases h.1⟩
  have nb2 : NotBoth BA f := ⟨fun h => by rw [hP] at h; cases h.2⟩
  have kg : (match (match fCA f with | true => fCA fun j => f (32 + j) | false => false) with | true => eq 32 (fMU (NB 121666) (fSU (fSU (fSQ fun j => f (32 + j)) (fSQ f)) (NB 1))) (fNE (fMU (NB 121665) (fMU (fSQ f) (fSQ fun j => f (32 + j))))) | false => false) = false := by
    cases h1 : fCA f with
    | false => rfl
    | true =>
      cases h2 : fCA (fun j => f (32 + j)) with
      | false => rfl
      | true => exact kf h1 h2
  refine ⟨?_⟩
  cbv
  repeat (first | refine ⟨hf, ?_⟩ | refine ⟨hn, ?_⟩ | refine ⟨nb1, ?_⟩ | refine ⟨nb2, ?_⟩ | refine ⟨hp _ _, ?_⟩ | refine ⟨hA _ _, ?_⟩ | refine ⟨hM _ _, ?_⟩ | refine ⟨hB _, ?_⟩ | refine ⟨hC _ _ _, ?_⟩ | refine ⟨hN _, ?_⟩ | refine ⟨hD _, ?_⟩ | refine ⟨hid, ?_⟩ | refine ⟨hba, ?_⟩ | refine ⟨⟨by decide⟩, ?_⟩)
  refine and_dead (fun h => b_tf kg h) (fun _ => ?_)
  cbv
  repeat (first | refine ⟨hf, ?_⟩ | refine ⟨hn, ?_⟩ | refine ⟨nb1, ?_⟩ | refine ⟨nb2, ?_⟩ | refine ⟨hp _ _, ?_⟩ | refine ⟨hA _ _, ?_⟩ | refine ⟨hM _ _, ?_⟩ | refine ⟨hB _, ?_⟩ | refine ⟨hC _ _ _, ?_⟩ | refine ⟨hN _, ?_⟩ | refine ⟨hD _, ?_⟩ | refine ⟨hid, ?_⟩ | refine ⟨hba, ?_⟩ | refine ⟨⟨by decide⟩, ?_⟩)
  refine and_dead (by (try dsimp only [SI.val, SO.val]); simp [z32, z64]) (fun _ => ?_)
  cbv
  repeat (first | refine ⟨hf, ?_⟩ | refine ⟨hn, ?_⟩ | refine ⟨nb1, ?_⟩ | refine ⟨nb2, ?_⟩ | refine ⟨hp _ _, ?_⟩ | refine ⟨hA _ _, ?_⟩ | refine ⟨hM _ _, ?_⟩ | refine ⟨hB _, ?_⟩ | refine ⟨hC _ _ _, ?_⟩ | refine ⟨hN _, ?_⟩ | refine ⟨hD _, ?_⟩ | refine ⟨hid, ?_⟩ | refine ⟨hba, ?_⟩ | refine ⟨⟨by decide⟩, ?_⟩)
  try dsimp only [SI.val, SO.val]
  simp [z32, z64]

theorem ok_lawP_pequation : Sound Tryd.prog Glp 10 (lawP) := by
  refine sound_each (n := 208) (rs := [.tmp 2]) (sc := sc_law_pequation.1) mixed Tryd.func10 rfl rfl rfl rfl sc_law_pequation.2 ?_
  intro vs cs r h
  unfold lawP at h
  split at h
  · rename_i f
    cases h
    refine ⟨by simp, fun hcs hwf => ?_⟩
    cases hPC : onB f with
    | true => exact ⟨_, envOK tabOK ((.cons ((ok_lbase).sub sub_lp) (.cons ((ok_squareZ Gpt).sub sub_lp) (.cons ((ok_lnumber).sub sub_lp) (.cons ((ok_subZ Gpt (ok_less.sub (sub_of (by decide)))).sub sub_lp) (.cons ((ok_mulZ Gpt).sub sub_lp) (.cons ((ok_negZ Gpt (ok_less.sub (sub_of (by decide)))).sub sub_lp) (.cons ((ok_canonF Gpt).sub sub_lp) (.cons ((weak_on ok_pton).sub sub_lp) (.cons ((weak_enc ok_ptenc).sub sub_lp) (.cons ((ok_lnum).sub sub_lp) (.cons ((weak_neg ok_ptneg).sub sub_lp) (.cons ((weak_dbl ok_ptdbl).sub sub_lp) (.cons ((weak_add ok_ptadd).sub sub_lp) (.cons ((ok_ptbase).sub sub_lp) (.cons ((weak_mul ok_ptmul).sub sub_lp) (.cons ((weak_comb ok_ptcomb).sub sub_lp) (.cons ((weak_small ok_ptsmall).sub sub_lp) (.cons ((ok_ptid).sub sub_lp) .nil))))))))))))))))))), rfl, walk_law_pequation realOps rfl f (hPC) _ rfl _ rfl _ rfl _ rfl _ rfl _ rfl _ rfl _ rfl _ rfl _ rfl _ rfl _ rfl _ rfl _ rfl _ rfl ⟩
    | false => exact ⟨_, envOK tabOK ((.cons ((ok_lbase).sub sub_lp) (.cons ((ok_squareZ Gpt).sub sub_lp) (.cons ((ok_lnumber).sub sub_lp) (.cons ((ok_subZ Gpt (ok_less.sub (sub_of (by decide)))).sub sub_lp) (.cons ((ok_mulZ Gpt).sub sub_lp) (.cons ((ok_negZ Gpt (ok_less.sub (sub_of (by decide)))).sub sub_lp) (.cons ((ok_canonF Gpt).sub sub_lp) (.cons ((offw_on ok_pton).sub sub_lp) (.cons ((offw_enc ok_ptenc).sub sub_lp) (.cons ((ok_lnum).sub sub_lp) (.cons ((offw_neg ok_ptneg).sub sub_lp) (.cons ((offw_dbl ok_ptdbl).sub sub_lp) (.cons ((offw_add ok_ptadd).sub sub_lp) (.cons ((ok_ptbase).sub sub_lp) (.cons ((offw_mul ok_ptmul).sub sub_lp) (.cons ((offw_comb ok_ptcomb).sub sub_lp) (.cons ((offw_small ok_ptsmall).sub sub_lp) (.cons ((ok_ptid).sub sub_lp) .nil))))))))))))))))))), rfl, walk_law_pequationF realOps rfl f (hPC) _ rfl _ rfl _ rfl _ rfl _ rfl _ rfl _ rfl _ rfl ⟩
  · cases h
theorem ok_law_pequation : Sound Tryd.prog (lookGL gl_lp) 10 lawP := ok_lawP_pequation.sub lp_sub
end Go.Proofs.YtnbjbamoddmbhaaDoor
