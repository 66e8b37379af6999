/-
  PointBack holds for every input: the walk.
-/
import Derived.Test.YtnbjbamoddmbhaaDoorZPtK
import Derived.Test.YtnbjbamoddmbhaaDoorZNA
namespace Go.Proofs.YtnbjbamoddmbhaaDoor
open Go Go.Proofs Sx
set_option maxRecDepth 100000
set_option maxHeartbeats 4000000
set_option linter.unusedVariables false
set_option linter.unusedSimpArgs false

def sc_law_pback : { c : SC // strip (body Tryd.f8) = c } := ⟨_, by cbv⟩
theorem walk_law_pback (A : Ops) (hA : A = realOps) (n : Nat → Int) (t : Int)  (SE : (Nat → Int) → Int → Nat → Int) (hSE : SE = someG) (EN : (Nat → Int) → Nat → Int) (hEN : EN = encG) (DC : (Nat → Int) → Nat → Int) (hDC : DC = decF) (NG : (Nat → Int) → Nat → Int) (hNG : NG = negG) (NB : Int → Nat → Int) (hNB : NB = fun x => byt x)  :
    Walk (mkEnv A tab.1 Glp [(37, baseLC), (48, someLC SE), (28, encPP EN), (22, decPP DC), (30, pt1PP NG), (40, numbLC NB), (26, onPP), (24, numI)] []) sc_law_pback.1 83 [.tmp 4] [.arr .u8 32 n, .int .i64 (.sym t)] (.bool (.sym true)) := by
  obtain ⟨bi, cm, un, cv, na, eq⟩ := A
  have hbi : bi = realBin := congrArg Ops.bin hA
  have hcm : cm = realCmp := congrArg Ops.cmp hA
  have hna : na = Int.toNat := congrArg Ops.nat hA
  have hcv : cv = fun k n => k.wrap n := congrArg Ops.cnv hA
  have heq : eq = realEqA := congrArg Ops.eqA hA
  clear hA
  have hp : ∀ n t, IsPt (SE n t) := by
    intro n t
    rw [hSE]
    exact isPt_some n t
  have hN : ∀ f, IsPt (NG f) := by
    intro f
    rw [hNG]
    exact isPt_neg f
  have hA : True := trivial
  have hM : True := trivial
  have hB : True := trivial
  have hC : True := trivial
  have hD : True := trivial
  have hid : True := trivial
  have hba : True := trivial
  have k0 : ∀ n t, IsForm (EN (SE n t)) := by
    try rw [heq]
    subst hSE hEN hDC hNG hNB
    intro n t; exact ⟨(dec_form (P := somePt n t) fun i _ => by show formB (ptO (someG n t)).x _ i = _; rw [ptO_some]).1⟩
  have k1 : ∀ n t, eq 64 (DC (EN (SE n t))) (SE n t) = true := by
    try rw [heq]
    subst hSE hEN hDC hNG hNB
    intro n t; show realEqA 64 (decF (encG (someG n t))) (pb (somePt n t)) = true; rw [(dec_form (P := somePt n t) fun i _ => by show formB (ptO (someG n t)).x _ i = _; rw [ptO_some]).2]; exact pb_same rfl
  have k2 : ∀ n t, eq 32 (SE n t) (NB 0) = true → eq 32 (EN (NG (SE n t))) (EN (SE n t)) = true := by
    try rw [heq]
    subst hSE hEN hDC hNG hNB
    intro n t h; exact back_zero h
  have k3 : ∀ n t, eq 32 (SE n t) (NB 0) = false → eq 32 (upd (EN (NG (SE n t))) 31 (bi .xor .u8 (EN (NG (SE n t)) 31) 128)) (EN (SE n t)) = true := by
    try rw [heq]
    subst hSE hEN hDC hNG hNB
    intro n t h; rw [hbi]; exact back_else h
  clear hSE hEN hDC hNG hNB
  refine ⟨?_⟩
  cbv
  repeat (first | refine ⟨hp _ _, ?_⟩ | refine ⟨hA _ _, ?_⟩ | refine ⟨hM _ _, ?_⟩ | refine ⟨hB _, ?_⟩ | refine ⟨hC _ _ _, ?_⟩ | refine ⟨hN _, ?_⟩ | refine ⟨hD _, ?_⟩ | refine ⟨hid, ?_⟩ | refine ⟨hba, ?_⟩ | refine ⟨⟨by decide⟩, ?_⟩)
  refine ⟨k0 _ _, fun _ => hp _ _, ?_⟩
  refine ⟨fun h => ?_, fun _ => ?_⟩
  · exfalso
    revert h
    try dsimp only [SI.val, SO.val]
    simp [k1]
  cbv
  repeat (first | refine ⟨hp _ _, ?_⟩ | refine ⟨hA _ _, ?_⟩ | refine ⟨hM _ _, ?_⟩ | refine ⟨hB _, ?_⟩ | refine ⟨hC _ _ _, ?_⟩ | refine ⟨hN _, ?_⟩ | refine ⟨hD _, ?_⟩ | refine ⟨hid, ?_⟩ | refine ⟨hba, ?_⟩ | refine ⟨⟨by decide⟩, ?_⟩)
  refine ⟨fun h => ?_, fun h => ?_⟩
  · have k2 := k2 _ _ h
    cbv
    repeat (first | refine ⟨hp _ _, ?_⟩ | refine ⟨hA _ _, ?_⟩ | refine ⟨hM _ _, ?_⟩ | refine ⟨hB _, ?_⟩ | refine ⟨hC _ _ _, ?_⟩ | refine ⟨hN _, ?_⟩ | refine ⟨hD _, ?_⟩ | refine ⟨hid, ?_⟩ | refine ⟨hba, ?_⟩ | refine ⟨⟨by decide⟩, ?_⟩)
    exact k2
  · have k3 := k3 _ _ h
    cbv
    repeat (first | refine ⟨hp _ _, ?_⟩ | refine ⟨hA _ _, ?_⟩ | refine ⟨hM _ _, ?_⟩ | refine ⟨hB _, ?_⟩ | refine ⟨hC _ _ _, ?_⟩ | refine ⟨hN _, ?_⟩ | refine ⟨hD _, ?_⟩ | refine ⟨hid, ?_⟩ | refine ⟨hba, ?_⟩ | refine ⟨⟨by decide⟩, ?_⟩)
    exact k3

theorem ok_lawP_pback : Sound Tryd.prog Glp 8 (lawAt) := by
  refine sound_sym (n := 83) (rs := [.tmp 4]) (sc := sc_law_pback.1) mixed Tryd.func8 rfl rfl rfl rfl sc_law_pback.2 ?_
  intro vs cs r h
  unfold lawAt at h
  split at h
  · rename_i n t
    cases h
    exact ⟨by simp, fun hcs hwf => ⟨_, envOK tabOK ((.cons (ok_lbase) (.cons (ok_lsome) (.cons ((weak_enc ok_ptenc).sub sub_lp) (.cons ((weak_dec ok_ptdec).sub sub_lp) (.cons ((weak_neg ok_ptneg).sub sub_lp) (.cons (ok_lnumber) (.cons ((weak_on ok_pton).sub sub_lp) (.cons (ok_lnum) .nil))))))))), rfl, walk_law_pback realOps rfl n t.val  _ rfl _ rfl _ rfl _ rfl _ rfl ⟩⟩
  · cases h
theorem ok_law_pback : Sound Tryd.prog (lookGL gl_lp) 8 lawAt := ok_lawP_pback.sub lp_sub
end Go.Proofs.YtnbjbamoddmbhaaDoor
