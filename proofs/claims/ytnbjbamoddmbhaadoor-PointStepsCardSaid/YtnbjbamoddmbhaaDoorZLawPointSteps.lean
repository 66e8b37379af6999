/-
  PointSteps holds for every input: the walk.
-/
import Derived.Test.YtnbjbamoddmbhaaDoorZPtK
import Derived.Test.YtnbjbamoddmbhaaDoorZNA
namespace Go.Proofs.YtnbjbamoddmbhaaDoor
open Go Go.Proofs Sx
set_option maxRecDepth 100000
set_option maxHeartbeats 4000000
set_option linter.unusedVariables false
set_option linter.unusedSimpArgs false

def sc_law_psteps : { c : SC // strip (body Tryd.f12) = c } := ⟨_, by cbv⟩
theorem walk_law_psteps (A : Ops) (hA : A = realOps) (n : Nat → Int) (m : Nat → Int) (t : Int) (hn : IsBytes 32 n) (SE : (Nat → Int) → Int → Nat → Int) (hSE : SE = someG) (PS : (Nat → Int) → (Nat → Int) → Nat → Int) (hPS : PS = fun f g => byt (sumN f g)) (NB : Int → Nat → Int) (hNB : NB = fun x => byt x) (ML : (Nat → Int) → (Nat → Int) → Nat → Int) (hML : ML = mulG) (DB : (Nat → Int) → Nat → Int) (hDB : DB = dblG) (AD : (Nat → Int) → (Nat → Int) → Nat → Int) (hAD : AD = addG) (PC : (Nat → Int) → (Nat → Int) → Bool) (hPC : PC = fun f g => decide (sumC f g 32 = 0))  :
    Walk (mkEnv A tab.1 Glp [(37, baseLC), (48, someLC SE), (56, plusLC PS PC), (40, numbLC NB), (50, ptMPP ML), (32, pt1PP DB), (24, numI), (49, sumLC AD)] []) sc_law_psteps.1 108 [.tmp 6] [.arr .u8 32 n, .arr .u8 32 m, .int .i64 (.sym t)] (.bool (.sym true)) := by
  obtain ⟨bi, cm, un, cv, na, eq⟩ := A
  have hbi : bi = realBin := congrArg Ops.bin hA
  have hcm : cm = realCmp := congrArg Ops.cmp hA
  have hna : na = Int.toNat := congrArg Ops.nat hA
  have hcv : cv = fun k n => k.wrap n := congrArg Ops.cnv hA
  have heq : eq = realEqA := congrArg Ops.eqA hA
  clear hA
  have hp : ∀ n t, IsPt (SE n t) := by
    intro n t
    rw [hSE]
    exact isPt_some n t
  have hM : ∀ n f, IsPt (ML n f) := by
    intro n f
    rw [hML]
    exact isPt_mul n f
  have hD : ∀ f, IsPt (DB f) := by
    intro f
    rw [hDB]
    exact isPt_dbl f
  have hA : ∀ f g, IsPt (AD f g) := by
    intro f g
    rw [hAD]
    exact isPt_add f g
  have hB : True := trivial
  have hC : True := trivial
  have hN : True := trivial
  have hid : True := trivial
  have hba : True := trivial
  have k1 : ∀ f, eq 64 (AD (ML (dcY n) f) f) (ML (PS (dcY n) (NB 1)) f) = true := by
    try rw [heq]
    subst hSE hPS hNB hML hDB hAD hPC
    intro f; exact pb_same (by rw [ptO_mulG, nN_next hn, Pt.mul_succ])
  have k2 : ∀ f, eq 64 (ML (PS (dcY n) (dcY n)) f) (DB (ML (dcY n) f)) = true := by
    try rw [heq]
    subst hSE hPS hNB hML hDB hAD hPC
    intro f; exact pb_same (by rw [ptO_mulG, nN_sum_mask hn hn, Pt.mul_add])
  have hy : upd n 31 (bi .and .u8 (n 31) 127) = dcY n := by
    try rw [heq]
    subst hSE hPS hNB hML hDB hAD hPC
    rw [hbi]; exact dcY_is hn
  clear hSE hPS hNB hML hDB hAD hPC
  refine ⟨?_⟩
  cbv
  repeat (first | refine ⟨hp _ _, ?_⟩ | refine ⟨hA _ _, ?_⟩ | refine ⟨hM _ _, ?_⟩ | refine ⟨hB _, ?_⟩ | refine ⟨hC _ _ _, ?_⟩ | refine ⟨hN _, ?_⟩ | refine ⟨hD _, ?_⟩ | refine ⟨hid, ?_⟩ | refine ⟨hba, ?_⟩ | refine ⟨⟨by decide⟩, ?_⟩)
  have k1 := k1 (SE m t)
  have k2 := k2 (SE m t)
  rw [← hy] at k1 k2
  try dsimp only [SI.val, SO.val]
  simp [k1, k2]

theorem ok_lawP_psteps : Sound Tryd.prog Glp 12 (lawABt) := by
  refine sound_sym (n := 108) (rs := [.tmp 6]) (sc := sc_law_psteps.1) mixed Tryd.func12 rfl rfl rfl rfl sc_law_psteps.2 ?_
  intro vs cs r h
  unfold lawABt at h
  split at h
  · rename_i n m t
    cases h
    exact ⟨by simp, fun hcs hwf => ⟨_, envOK tabOK ((.cons (ok_lbase) (.cons (ok_lsome) (.cons (ok_lplusP) (.cons (ok_lnumber) (.cons ((weak_mul ok_ptmul).sub sub_lp) (.cons ((weak_dbl ok_ptdbl).sub sub_lp) (.cons (ok_lnum) (.cons (ok_lsum) .nil))))))))), rfl, walk_law_psteps realOps rfl n m t.val (isB (hwf _ (by simp))) _ rfl _ rfl _ rfl _ rfl _ rfl _ rfl _ rfl ⟩⟩
  · cases h
theorem ok_law_psteps : Sound Tryd.prog (lookGL gl_lp) 12 lawABt := ok_lawP_psteps.sub lp_sub
end Go.Proofs.YtnbjbamoddmbhaaDoor
