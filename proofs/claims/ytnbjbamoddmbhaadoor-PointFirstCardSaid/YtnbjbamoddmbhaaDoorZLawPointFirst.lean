/-
  PointFirst holds for every input: the walk.
-/
import Derived.Test.YtnbjbamoddmbhaaDoorZRefNK
import Derived.Test.YtnbjbamoddmbhaaDoorZPfA
import Derived.Test.YtnbjbamoddmbhaaDoorZNA
namespace Go.Proofs.YtnbjbamoddmbhaaDoor
open Go Go.Proofs Sx
set_option maxRecDepth 100000
set_option maxHeartbeats 4000000
set_option linter.unusedVariables false
set_option linter.unusedSimpArgs false

def gl_pfirst : GL := [v_dbytes, v_ptzero, v_ptone, v_ptbase]
abbrev G_pfirst : Nat → AV := lookGL gl_pfirst
def sc_law_pfirst : { c : SC // strip (body Tryd.f3) = c } := ⟨_, by cbv⟩
theorem walk_law_pfirst (A : Ops) (hA : A = realOps)   (AL : (Nat → Int) → (Nat → Int) → Bool) (hAL : AL = alB) (ID : Nat → Int) (hID : ID = pb Pt.zero) (BA : Nat → Int) (hBA : BA = pb basePt)  :
    Walk (mkEnv A tab.1 G_pfirst [(16, alikeC AL), (17, ptKC ID), (18, ptKC ID), (19, ptKC BA), (20, ptKC BA), (21, nTrueC)] []) sc_law_pfirst.1 12 [.tmp 0] [] (.bool (.sym true)) := by
  obtain ⟨bi, cm, un, cv, na, eq⟩ := A
  have hbi : bi = realBin := congrArg Ops.bin hA
  have hcm : cm = realCmp := congrArg Ops.cmp hA
  have hna : na = Int.toNat := congrArg Ops.nat hA
  have hcv : cv = fun k n => k.wrap n := congrArg Ops.cnv hA
  have heq : eq = realEqA := congrArg Ops.eqA hA
  clear hA
  have a0 : ∀ f, AL f f = true := by intro f; rw [hAL]; exact alB_self f
  have c0 : ∀ x, cm .eql x x = true := by intro x; rw [hcm]; exact beq_self_eq_true x
  have c1 : ∀ x, cm .neq x x = false := by intro x; rw [hcm]; show (x != x) = false; simp
  have c2 : ∀ f, eq 32 f f = true := by intro f; rw [heq]; exact eqA_of fun _ _ => rfl
  clear hAL hID hBA
  refine ⟨?_⟩
  cbv
  try dsimp only [SI.val, SO.val]
  simp [a0, c0, c1, c2]

theorem ok_law_pfirst : Sound Tryd.prog G_pfirst 3 (lawNil) := by
  refine sound_each (n := 12) (rs := [.tmp 0]) (sc := sc_law_pfirst.1) mixed Tryd.func3 rfl rfl rfl rfl sc_law_pfirst.2 ?_
  intro vs cs r h
  unfold lawNil at h
  split at h
  · cases h
    exact ⟨by simp, fun hcs hwf => ⟨_, envOK tabOK ((.cons (ok_ralike.sub (sub_of (by decide))) (.cons ((ok_ptid).sub (sub_of (by decide))) (.cons ((ok_nIdentity).sub (sub_of (by decide))) (.cons ((ok_ptbase).sub (sub_of (by decide))) (.cons ((ok_nBase).sub (sub_of (by decide))) (.cons ((ok_nCurve).sub (sub_of (by decide))) .nil))))))), rfl, walk_law_pfirst realOps rfl   _ rfl _ rfl _ rfl ⟩⟩
  · cases h
end Go.Proofs.YtnbjbamoddmbhaaDoor
