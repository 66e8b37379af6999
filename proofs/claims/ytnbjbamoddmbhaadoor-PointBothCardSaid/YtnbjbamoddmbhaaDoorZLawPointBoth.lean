/-
  PointBoth holds for every input: the walk.
-/
import Derived.Test.YtnbjbamoddmbhaaDoorZPtK
import Derived.Test.YtnbjbamoddmbhaaDoorZNA
namespace Go.Proofs.YtnbjbamoddmbhaaDoor
open Go Go.Proofs Sx
set_option maxRecDepth 100000
set_option maxHeartbeats 4000000
set_option linter.unusedVariables false
set_option linter.unusedSimpArgs false

def sc_law_pboth : { c : SC // strip (body Tryd.f13) = c } := ⟨_, by cbv⟩
theorem walk_law_pboth (A : Ops) (hA : A = realOps) (n : Nat → Int) (m : Nat → Int) (t : Int)  (SE : (Nat → Int) → Int → Nat → Int) (hSE : SE = someG) (ML : (Nat → Int) → (Nat → Int) → Nat → Int) (hML : ML = mulG) (BM : (Nat → Int) → Nat → Int) (hBM : BM = bmulF) (CB : (Nat → Int) → (Nat → Int) → (Nat → Int) → Nat → Int) (hCB : CB = combG) (BA : Nat → Int) (hBA : BA = pb basePt) (AD : (Nat → Int) → (Nat → Int) → Nat → Int) (hAD : AD = addG)  :
    Walk (mkEnv A tab.1 Glp [(37, baseLC), (48, someLC SE), (50, ptMPP ML), (52, ptBC BM), (54, ptCPP CB), (19, ptKC BA), (24, numI), (49, sumLC AD)] []) sc_law_pboth.1 80 [.tmp 6] [.arr .u8 32 n, .arr .u8 32 m, .int .i64 (.sym t)] (.bool (.sym true)) := by
  obtain ⟨bi, cm, un, cv, na, eq⟩ := A
  have hbi : bi = realBin := congrArg Ops.bin hA
  have hcm : cm = realCmp := congrArg Ops.cmp hA
  have hna : na = Int.toNat := congrArg Ops.nat hA
  have hcv : cv = fun k n => k.wrap n := congrArg Ops.cnv hA
  have heq : eq = realEqA := congrArg Ops.eqA hA
  clear hA
  have hp : ∀ n t, IsPt (SE n t) := by
    intro n t
    rw [hSE]
    exact isPt_some n t
  have hM : ∀ n f, IsPt (ML n f) := by
    intro n f
    rw [hML]
    exact isPt_mul n f
  have hB : ∀ n, IsPt (BM n) := by
    intro n
    rw [hBM]
    exact isPt_bmul n
  have hC : ∀ n f m, IsPt (CB n f m) := by
    intro n f m
    rw [hCB]
    exact isPt_comb n f m
  have hba : IsPt BA := by
    rw [hBA]
    exact isPt_base
  have hA : ∀ f g, IsPt (AD f g) := by
    intro f g
    rw [hAD]
    exact isPt_add f g
  have hN : True := trivial
  have hD : True := trivial
  have hid : True := trivial
  have k1 : ∀ n m f, eq 64 (AD (ML n f) (BM m)) (CB n f m) = true := by
    try rw [heq]
    subst hSE hML hBM hCB hBA hAD
    intro n m f; exact pb_same (by rw [ptO_mulG, ptO_bmul])
  have k2 : ∀ m, eq 64 (BM m) (ML m BA) = true := by
    try rw [heq]
    subst hSE hML hBM hCB hBA hAD
    intro m; exact pb_same (by rw [ptO_pb])
  clear hSE hML hBM hCB hBA hAD
  refine ⟨?_⟩
  cbv
  repeat (first | refine ⟨hp _ _, ?_⟩ | refine ⟨hA _ _, ?_⟩ | refine ⟨hM _ _, ?_⟩ | refine ⟨hB _, ?_⟩ | refine ⟨hC _ _ _, ?_⟩ | refine ⟨hN _, ?_⟩ | refine ⟨hD _, ?_⟩ | refine ⟨hid, ?_⟩ | refine ⟨hba, ?_⟩ | refine ⟨⟨by decide⟩, ?_⟩)
  try dsimp only [SI.val, SO.val]
  simp [k1, k2]

theorem ok_lawP_pboth : Sound Tryd.prog Glp 13 (lawABt) := by
  refine sound_sym (n := 80) (rs := [.tmp 6]) (sc := sc_law_pboth.1) mixed Tryd.func13 rfl rfl rfl rfl sc_law_pboth.2 ?_
  intro vs cs r h
  unfold lawABt at h
  split at h
  · rename_i n m t
    cases h
    exact ⟨by simp, fun hcs hwf => ⟨_, envOK tabOK ((.cons (ok_lbase) (.cons (ok_lsome) (.cons ((weak_mul ok_ptmul).sub sub_lp) (.cons ((ok_ptbmul).sub sub_lp) (.cons ((weak_comb ok_ptcomb).sub sub_lp) (.cons ((ok_ptbase).sub sub_lp) (.cons (ok_lnum) (.cons (ok_lsum) .nil))))))))), rfl, walk_law_pboth realOps rfl n m t.val  _ rfl _ rfl _ rfl _ rfl _ rfl _ rfl ⟩⟩
  · cases h
theorem ok_law_pboth : Sound Tryd.prog (lookGL gl_lp) 13 lawABt := ok_lawP_pboth.sub lp_sub
end Go.Proofs.YtnbjbamoddmbhaaDoor
