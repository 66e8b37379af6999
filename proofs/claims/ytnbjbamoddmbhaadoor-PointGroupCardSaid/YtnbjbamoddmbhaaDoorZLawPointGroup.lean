/-
  PointGroup holds for every input: the walk.
-/
import Derived.Test.YtnbjbamoddmbhaaDoorZPtK
import Derived.Test.YtnbjbamoddmbhaaDoorZNA
namespace Go.Proofs.YtnbjbamoddmbhaaDoor
open Go Go.Proofs Sx
set_option maxRecDepth 100000
set_option maxHeartbeats 4000000
set_option linter.unusedVariables false
set_option linter.unusedSimpArgs false

def sc_law_pgroup : { c : SC // strip (body Tryd.f7) = c } := ⟨_, by cbv⟩
theorem walk_law_pgroup (A : Ops) (hA : A = realOps) (a : Nat → Int) (b : Nat → Int) (t : Int)  (SO : (Nat → Int) → Int → Nat → Int) (hSO : SO = someG) (fAD : (Nat → Int) → (Nat → Int) → Nat → Int) (hfAD : fAD = fun f g => fb (fe f + fe g)) (AD : (Nat → Int) → (Nat → Int) → Nat → Int) (hAD : AD = addG) (ID : Nat → Int) (hID : ID = pb Pt.zero) (NG : (Nat → Int) → Nat → Int) (hNG : NG = negG) (DB : (Nat → Int) → Nat → Int) (hDB : DB = dblG)  :
    Walk (mkEnv A tab.1 Glp [(37, baseLC), (48, someLC SO), (42, bin32C fAD), (49, sumLC AD), (17, ptKC ID), (30, pt1PP NG), (24, numI), (32, pt1PP DB)] []) sc_law_pgroup.1 174 [.tmp 6] [.arr .u8 32 a, .arr .u8 32 b, .int .i64 (.sym t)] (.bool (.sym true)) := by
  obtain ⟨bi, cm, un, cv, na, eq⟩ := A
  have hbi : bi = realBin := congrArg Ops.bin hA
  have hcm : cm = realCmp := congrArg Ops.cmp hA
  have hna : na = Int.toNat := congrArg Ops.nat hA
  have hcv : cv = fun k n => k.wrap n := congrArg Ops.cnv hA
  have heq : eq = realEqA := congrArg Ops.eqA hA
  clear hA
  have hp : ∀ n t, IsPt (SO n t) := by
    intro n t
    rw [hSO]
    exact isPt_some n t
  have hA : ∀ f g, IsPt (AD f g) := by
    intro f g
    rw [hAD]
    exact isPt_add f g
  have hid : IsPt ID := by
    rw [hID]
    exact isPt_zero
  have hN : ∀ f, IsPt (NG f) := by
    intro f
    rw [hNG]
    exact isPt_neg f
  have hD : ∀ f, IsPt (DB f) := by
    intro f
    rw [hDB]
    exact isPt_dbl f
  have hM : True := trivial
  have hB : True := trivial
  have hC : True := trivial
  have hba : True := trivial
  have k1 : ∀ f g, eq 64 (AD f g) (AD g f) = true := by
    try rw [heq]
    subst hSO hfAD hAD hID hNG hDB
    intro f g; exact pb_same (Pt.add_comm _ _)
  have k2 : ∀ f g h, eq 64 (AD (AD f g) h) (AD f (AD g h)) = true := by
    try rw [heq]
    subst hSO hfAD hAD hID hNG hDB
    intro f g h; exact pb_same (by rw [ptO_addG, ptO_addG, Pt.add_assoc])
  have k3 : ∀ n t, eq 64 (AD (SO n t) ID) (SO n t) = true := by
    try rw [heq]
    subst hSO hfAD hAD hID hNG hDB
    intro n t; exact pb_same (by rw [ptO_some, ptO_pb, Pt.add_zero])
  have k4 : ∀ f, eq 64 (AD f (NG f)) ID = true := by
    try rw [heq]
    subst hSO hfAD hAD hID hNG hDB
    intro f; exact pb_same (by rw [ptO_negG, Pt.add_neg])
  have k5 : ∀ f, eq 64 (DB f) (AD f f) = true := by
    try rw [heq]
    subst hSO hfAD hAD hID hNG hDB
    intro f; exact pb_same rfl
  clear hSO hfAD hAD hID hNG hDB
  refine ⟨?_⟩
  cbv
  repeat (first | refine ⟨hp _ _, ?_⟩ | refine ⟨hA _ _, ?_⟩ | refine ⟨hM _ _, ?_⟩ | refine ⟨hB _, ?_⟩ | refine ⟨hC _ _ _, ?_⟩ | refine ⟨hN _, ?_⟩ | refine ⟨hD _, ?_⟩ | refine ⟨hid, ?_⟩ | refine ⟨hba, ?_⟩ | refine ⟨⟨by decide⟩, ?_⟩)
  refine ⟨fun h => ?_, fun _ => ?_⟩
  · exfalso
    revert h
    try dsimp only [SI.val, SO.val]
    simp [k1]
  cbv
  repeat (first | refine ⟨hp _ _, ?_⟩ | refine ⟨hA _ _, ?_⟩ | refine ⟨hM _ _, ?_⟩ | refine ⟨hB _, ?_⟩ | refine ⟨hC _ _ _, ?_⟩ | refine ⟨hN _, ?_⟩ | refine ⟨hD _, ?_⟩ | refine ⟨hid, ?_⟩ | refine ⟨hba, ?_⟩ | refine ⟨⟨by decide⟩, ?_⟩)
  refine ⟨fun h => ?_, fun _ => ?_⟩
  · exfalso
    revert h
    try dsimp only [SI.val, SO.val]
    simp [k2]
  cbv
  repeat (first | refine ⟨hp _ _, ?_⟩ | refine ⟨hA _ _, ?_⟩ | refine ⟨hM _ _, ?_⟩ | refine ⟨hB _, ?_⟩ | refine ⟨hC _ _ _, ?_⟩ | refine ⟨hN _, ?_⟩ | refine ⟨hD _, ?_⟩ | refine ⟨hid, ?_⟩ | refine ⟨hba, ?_⟩ | refine ⟨⟨by decide⟩, ?_⟩)
  refine ⟨fun h => ?_, fun _ => ?_⟩
  · exfalso
    revert h
    try dsimp only [SI.val, SO.val]
    simp [k3, k4]
  cbv
  repeat (first | refine ⟨hp _ _, ?_⟩ | refine ⟨hA _ _, ?_⟩ | refine ⟨hM _ _, ?_⟩ | refine ⟨hB _, ?_⟩ | refine ⟨hC _ _ _, ?_⟩ | refine ⟨hN _, ?_⟩ | refine ⟨hD _, ?_⟩ | refine ⟨hid, ?_⟩ | refine ⟨hba, ?_⟩ | refine ⟨⟨by decide⟩, ?_⟩)
  try dsimp only [SI.val, SO.val]
  simp [k5]

theorem ok_lawP_pgroup : Sound Tryd.prog Glp 7 (lawABt) := by
  refine sound_sym (n := 174) (rs := [.tmp 6]) (sc := sc_law_pgroup.1) mixed Tryd.func7 rfl rfl rfl rfl sc_law_pgroup.2 ?_
  intro vs cs r h
  unfold lawABt at h
  split at h
  · rename_i a b t
    cases h
    exact ⟨by simp, fun hcs hwf => ⟨_, envOK tabOK ((.cons (ok_lbase) (.cons (ok_lsome) (.cons ((ok_addZ Gpt).sub sub_lp) (.cons (ok_lsum) (.cons ((ok_ptid).sub sub_lp) (.cons ((weak_neg ok_ptneg).sub sub_lp) (.cons (ok_lnum) (.cons ((weak_dbl ok_ptdbl).sub sub_lp) .nil))))))))), rfl, walk_law_pgroup realOps rfl a b t.val  _ rfl _ rfl _ rfl _ rfl _ rfl _ rfl ⟩⟩
  · cases h
theorem ok_law_pgroup : Sound Tryd.prog (lookGL gl_lp) 7 lawABt := ok_lawP_pgroup.sub lp_sub
end Go.Proofs.YtnbjbamoddmbhaaDoor
