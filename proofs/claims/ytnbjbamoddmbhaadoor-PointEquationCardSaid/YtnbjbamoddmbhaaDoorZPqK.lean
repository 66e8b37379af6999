/-
  The point laws' kit.
-/
import Derived.Test.YtnbjbamoddmbhaaDoorZPqE
import Derived.Test.YtnbjbamoddmbhaaDoorZNA
import Derived.Test.YtnbjbamoddmbhaaDoorZMA
namespace Go.Proofs.YtnbjbamoddmbhaaDoor
open Go Go.Proofs Sx
set_option maxRecDepth 100000
set_option maxHeartbeats 4000000
set_option linter.unusedVariables false
set_option linter.unusedSimpArgs false

abbrev Glp : Nat → AV := Gpt
theorem sub_lp : Sub Gpt Glp := fun g => Or.inr rfl
def gl_lp : GL := [v_twice, v_two, v_ptzero, v_ptone, v_ptcurve, v_ptbase]
theorem lp_sub : Sub Glp (lookGL gl_lp) := fun g => Or.inr rfl
def sc_lnum0 : { c : SC // strip (body Tryd.f24) = c } := ⟨_, by cbv⟩
theorem walk_lnum0 (A : Ops) (hA : A = realOps) (x : Int)    :
    Walk (mkEnv A tab.1 Gpt [] []) sc_lnum0.1 4 [.tmp 2] [.int .i64 (.sym x)] (.int .i64 (.sym x)) := by
  refine ⟨?_⟩
  cbv
  try rfl
theorem ok_lnum0 : Sound Tryd.prog Gpt 24 (numI0) := by
  refine sound_sym (n := 4) (rs := [.tmp 2]) (sc := sc_lnum0.1) mixed Tryd.func24 rfl rfl rfl rfl sc_lnum0.2 ?_
  intro vs cs r h
  unfold numI0 at h
  split at h
  · rename_i x
    cases h
    exact ⟨by simp, fun hcs hwf => ⟨_, envOK tabOK ( .nil), rfl, walk_lnum0 realOps rfl x.val   ⟩⟩
  · cases h
theorem ok_lnum : Sound Tryd.prog Gpt 24 numI := weak_num ok_lnum0
def sc_lnumber : { c : SC // strip (body Tryd.f40) = c } := ⟨_, by cbv⟩
theorem walk_lnumber (A : Ops) (hA : A = realOps) (x : Int) (hx : Small48 x) (R : Int → Nat → Int) (hR : R = fun x => byt x)  :
    Walk (mkEnv A tab.1 Gpt [] []) sc_lnumber.1 18 [.cell 2 23] [.int .i64 (.sym x)] (.arr .u8 32 (R x)) := by
  obtain ⟨bi, cm, un, cv, na, eq⟩ := A
  have hbi : bi = realBin := congrArg Ops.bin hA
  have hcm : cm = realCmp := congrArg Ops.cmp hA
  have hna : na = Int.toNat := congrArg Ops.nat hA
  have hcv : cv = fun k n => k.wrap n := congrArg Ops.cnv hA
  have heq : eq = realEqA := congrArg Ops.eqA hA
  clear hA
  refine ⟨?_⟩
  cbv
  rw [hcv, hbi, hR]
  exact number48 hx
theorem ok_lnumber : Sound Tryd.prog Gpt 40 (numbLC (fun x => byt x)) := by
  refine sound_sym (n := 18) (rs := [.cell 2 23]) (sc := sc_lnumber.1) mixed Tryd.func40 rfl rfl rfl rfl sc_lnumber.2 ?_
  intro vs cs r h
  unfold numbLC at h
  split at h
  · rename_i x
    cases h
    exact ⟨by simp, fun hcs hwf => ⟨_, envOK tabOK ( .nil), rfl, walk_lnumber realOps rfl x.val (hcs _ (by simp)) _ rfl ⟩⟩
  · cases h
def sc_lbase : { c : SC // strip (body Tryd.f37) = c } := ⟨_, by cbv⟩
theorem walk_lbase (A : Ops) (hA : A = realOps)   (NB : Int → Nat → Int) (hNB : NB = fun x => byt x) (BA : Nat → Int) (hBA : BA = pb basePt) (fMU : (Nat → Int) → (Nat → Int) → Nat → Int) (hfMU : fMU = fun f g => fb (fe f * fe g)) (OD : (Nat → Int) → Bool) (hOD : OD = oddB) (DB : (Nat → Int) → Nat → Int) (hDB : DB = dblG)  :
    Walk (mkEnv A tab.1 Gpt [(24, numI), (40, numbLC NB), (19, ptKC BA), (41, bin32C fMU), (47, bool32C OD), (26, onPP), (32, pt1PP DB)] []) sc_lbase.1 38 [.tmp 0] [] (.bool (.lit true)) := by
  obtain ⟨bi, cm, un, cv, na, eq⟩ := A
  have hbi : bi = realBin := congrArg Ops.bin hA
  have hcm : cm = realCmp := congrArg Ops.cmp hA
  have hna : na = Int.toNat := congrArg Ops.nat hA
  have hcv : cv = fun k n => k.wrap n := congrArg Ops.cnv hA
  have heq : eq = realEqA := congrArg Ops.eqA hA
  clear hA
  refine ⟨?_⟩
  have e1 : eq 32 (fMU (NB 5) fun j => BA (32 + j)) (NB 4) = true := by
    rw [heq, hfMU, hNB, hBA]
    show realEqA 32 (fb (fe (byt 5) * fe (nx 32 (pb basePt)))) (byt 4) = true
    rw [fe_small ⟨by decide⟩, fb_small ⟨by decide⟩]
    refine fb_same ?_
    show zi pN 5 * fe (nx 32 (ptB basePt.x basePt.y)) = zi pN 4
    rw [fe_ptB_y]
    exact base_y5
  have e2 : OD BA = false := by rw [hOD, hBA]; exact base_even
  have e3 : eq 64 (DB BA) BA = false := by
    rw [heq, hDB, hBA]
    show realEqA 64 (pb ((ptO (pb basePt)).add (ptO (pb basePt)))) (pb basePt) = false
    rw [ptO_pb]
    exact pb_other base_dbl
  have p1 : IsPt BA := by rw [hBA]; exact isPt_pb _
  have p2 : IsPt (DB BA) := by rw [hDB]; exact isPt_dbl _
  clear hfMU hNB hBA hOD hDB
  cbv
  refine ⟨⟨by decide⟩, ⟨by decide⟩, fun _ => p1, fun h => ?_, fun _ => ?_⟩
  · exfalso
    revert h
    try dsimp only [SI.val, SO.val]
    simp [e1, e2]
  · cbv
    refine ⟨p1, fun _ => p2, ?_⟩
    simp [e3]
theorem ok_lbase : Sound Tryd.prog Gpt 37 (baseLC) := by
  refine sound_each (n := 38) (rs := [.tmp 0]) (sc := sc_lbase.1) mixed Tryd.func37 rfl rfl rfl rfl sc_lbase.2 ?_
  intro vs cs r h
  unfold baseLC at h
  split at h
  · cases h
    exact ⟨by simp, fun hcs hwf => ⟨_, envOK tabOK ((.cons (ok_lnum) (.cons (ok_lnumber) (.cons (ok_ptbase) (.cons (ok_mulZ Gpt) (.cons (ok_oddF Gpt) (.cons (weak_on ok_pton) (.cons (weak_dbl ok_ptdbl) .nil)))))))), rfl, walk_lbase realOps rfl   _ rfl _ rfl _ rfl _ rfl _ rfl ⟩⟩
  · cases h
end Go.Proofs.YtnbjbamoddmbhaaDoor
