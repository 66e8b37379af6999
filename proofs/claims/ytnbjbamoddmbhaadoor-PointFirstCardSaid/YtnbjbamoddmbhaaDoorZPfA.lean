/-
  Package point: pairs and points with a denominator.
-/
import Derived.Test.YtnbjbamoddmbhaaDoorZFieldC
import Derived.Test.YtnbjbamoddmbhaaDoorZNA
import Derived.Test.YtnbjbamoddmbhaaDoorZFieldL
namespace Go.Proofs.YtnbjbamoddmbhaaDoor
open Go Go.Proofs Sx
set_option maxRecDepth 100000
set_option maxHeartbeats 4000000
set_option linter.unusedVariables false
set_option linter.unusedSimpArgs false

abbrev Gpt : Nat → AV := lookGL [v_ptzero, v_ptone, v_ptbase]
theorem pt_one : ∀ i, i < 32 → (fun i => v_ptone.2.2.getD i 0) i = fb 1 i := by decide +kernel
theorem pt_zero : ∀ i, i < 32 → (fun i => v_ptzero.2.2.getD i 0) i = fb 0 i := by decide +kernel
theorem pt_curve : ∀ i, i < 32 → (fun i => v_ptcurve.2.2.getD i 0) i = fb dZ i := by decide +kernel
theorem pt_base : ∀ i, i < 64 → (fun i => v_ptbase.2.2.getD i 0) i = pb basePt i := by decide +kernel
def sc_ptid : { c : SC // strip (body Tryd.f17) = c } := ⟨_, by cbv⟩
theorem walk_ptid (A : Ops) (hA : A = realOps)   (R : Nat → Int) (hR : R = pb Pt.zero)  :
    Walk (mkEnv A tab.1 Gpt [] []) sc_ptid.1 4 [.cell 0 25] [] (.arr .u8 64 R) := by
  refine ⟨?_⟩
  cbv
  subst hR
  unfold Pt.zero
  exact ptl_is pt_zero pt_one
theorem ok_ptid : Sound Tryd.prog Gpt 17 (ptKC (pb Pt.zero)) := by
  refine sound_each (n := 4) (rs := [.cell 0 25]) (sc := sc_ptid.1) mixed Tryd.func17 rfl rfl rfl rfl sc_ptid.2 ?_
  intro vs cs r h
  unfold ptKC at h
  split at h
  · cases h
    exact ⟨by simp, fun hcs hwf => ⟨_, envOK tabOK ( .nil), rfl, walk_ptid realOps rfl   _ rfl ⟩⟩
  · cases h
def sc_ptbase : { c : SC // strip (body Tryd.f19) = c } := ⟨_, by cbv⟩
theorem walk_ptbase (A : Ops) (hA : A = realOps)   (R : Nat → Int) (hR : R = pb basePt)  :
    Walk (mkEnv A tab.1 Gpt [] []) sc_ptbase.1 2 [.cell 0 25] [] (.arr .u8 64 R) := by
  refine ⟨?_⟩
  cbv
  subst hR
  exact pt_base
theorem ok_ptbase : Sound Tryd.prog Gpt 19 (ptKC (pb basePt)) := by
  refine sound_each (n := 2) (rs := [.cell 0 25]) (sc := sc_ptbase.1) mixed Tryd.func19 rfl rfl rfl rfl sc_ptbase.2 ?_
  intro vs cs r h
  unfold ptKC at h
  split at h
  · cases h
    exact ⟨by simp, fun hcs hwf => ⟨_, envOK tabOK ( .nil), rfl, walk_ptbase realOps rfl   _ rfl ⟩⟩
  · cases h
end Go.Proofs.YtnbjbamoddmbhaaDoor
