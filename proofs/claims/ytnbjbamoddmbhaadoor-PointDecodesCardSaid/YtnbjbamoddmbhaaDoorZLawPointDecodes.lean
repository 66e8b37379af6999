/-
  PointDecodes holds for every input: the walk.
-/
import Derived.Test.YtnbjbamoddmbhaaDoorZRefNK
import Derived.Test.YtnbjbamoddmbhaaDoorZPdB
import Derived.Test.YtnbjbamoddmbhaaDoorZNA
namespace Go.Proofs.YtnbjbamoddmbhaaDoor
open Go Go.Proofs Sx
set_option maxRecDepth 100000
set_option maxHeartbeats 4000000
set_option linter.unusedVariables false
set_option linter.unusedSimpArgs false

def gl_pdecodes : GL := [v_dbytes, v_twice, v_eighth, v_root, v_ptzero, v_ptone, v_ptcurve]
abbrev G_pdecodes : Nat → AV := lookGL gl_pdecodes
def sc_law_pdecodes : { c : SC // strip (body Tryd.f4) = c } := ⟨_, by cbv⟩
theorem walk_law_pdecodes (A : Ops) (hA : A = realOps) (b : Nat → Int)  (AL : (Nat → Int) → (Nat → Int) → Bool) (hAL : AL = alB) (DC : (Nat → Int) → Nat → Int) (hDC : DC = decF) (DE : (Nat → Int) → Int) (hDE : DE = decE)  :
    Walk (mkEnv A tab.1 G_pdecodes [(16, alikeC AL), (24, numI0), (22, decC DC DE), (23, decC DC DE)] []) sc_law_pdecodes.1 26 [.tmp 2] [.arr .u8 32 b] (.bool (.sym true)) := by
  obtain ⟨bi, cm, un, cv, na, eq⟩ := A
  have hbi : bi = realBin := congrArg Ops.bin hA
  have hcm : cm = realCmp := congrArg Ops.cmp hA
  have hna : na = Int.toNat := congrArg Ops.nat hA
  have hcv : cv = fun k n => k.wrap n := congrArg Ops.cnv hA
  have heq : eq = realEqA := congrArg Ops.eqA hA
  clear hA
  have a0 : ∀ f, AL f f = true := by intro f; rw [hAL]; exact alB_self f
  have c0 : ∀ x, cm .eql x x = true := by intro x; rw [hcm]; exact beq_self_eq_true x
  have c1 : ∀ x, cm .neq x x = false := by intro x; rw [hcm]; show (x != x) = false; simp
  have c2 : ∀ f, eq 32 f f = true := by intro f; rw [heq]; exact eqA_of fun _ _ => rfl
  clear hAL hDC hDE
  refine ⟨?_⟩
  cbv
  try dsimp only [SI.val, SO.val]
  simp [a0, c0, c1, c2]

theorem ok_law_pdecodes : Sound Tryd.prog G_pdecodes 4 (lawB) := by
  refine sound_each (n := 26) (rs := [.tmp 2]) (sc := sc_law_pdecodes.1) mixed Tryd.func4 rfl rfl rfl rfl sc_law_pdecodes.2 ?_
  intro vs cs r h
  unfold lawB at h
  split at h
  · rename_i b
    cases h
    exact ⟨by simp, fun hcs hwf => ⟨_, envOK tabOK ((.cons (ok_ralike.sub (sub_of (by decide))) (.cons (ok_rnum.sub (sub_of (by decide))) (.cons ((ok_ptdec).sub (sub_of (by decide))) (.cons ((ok_nDecode).sub (sub_of (by decide))) .nil))))), rfl, walk_law_pdecodes realOps rfl b  _ rfl _ rfl _ rfl ⟩⟩
  · cases h
end Go.Proofs.YtnbjbamoddmbhaaDoor
