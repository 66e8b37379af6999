/-
  ScalarReduces holds for every input: the walk.
-/
import Derived.Test.YtfpeolihnaeolaaDoorScalL
import Derived.Test.YtfpeolihnaeolaaDoorRefB
namespace Go.Proofs.YtfpeolihnaeolaaDoor
open Go Go.Proofs Sx
set_option maxRecDepth 100000
set_option maxHeartbeats 4000000
set_option linter.unusedVariables false
set_option linter.unusedSimpArgs false

def gl_sreduces : GL := [v_mult, v_rorder]
abbrev G_sreduces : Nat → AV := lookGL gl_sreduces
def sc_law_sreduces : { c : SC // strip (body Tryd.f4) = c } := ⟨_, by cbv⟩
theorem walk_law_sreduces (A : Ops) (hA : A = realOps) (a : Nat → Int)  (RD : (Nat → Int) → Nat → Int) (hRD : RD = fun f => sb (sn 64 f)) (RR : (Nat → Int) → Nat → Int) (hRR : RR = fun f => sb (sn 64 f)) (CA : (Nat → Int) → Bool) (hCA : CA = canS)  :
    Walk (mkEnv A tab.1 G_sreduces [(16, un64C RD), (17, un64C RR), (18, bool32C CA)] []) sc_law_sreduces.1 14 [.tmp 2] [.arr .u8 64 a] (.bool (.sym true)) := by
  obtain ⟨bi, cm, un, cv, na, eq⟩ := A
  have hbi : bi = realBin := congrArg Ops.bin hA
  have hcm : cm = realCmp := congrArg Ops.cmp hA
  have hna : na = Int.toNat := congrArg Ops.nat hA
  have hcv : cv = fun k n => k.wrap n := congrArg Ops.cnv hA
  have heq : eq = realEqA := congrArg Ops.eqA hA
  clear hA
  refine ⟨?_⟩
  have k1 : eq 32 (RD a) (RR a) = true := by
    try rw [heq]
    subst hRD hRR hCA
    try dsimp only at *
    exact sb_same rfl
  have k2 : CA (RD a) = true := by
    try rw [heq]
    subst hRD hRR hCA
    try dsimp only at *
    exact can_sb _
  clear hRD hRR hCA
  cbv
  try dsimp only [SI.val, SO.val]
  simp [k1, k2]

theorem ok_law_sreduces : Sound Tryd.prog G_sreduces 4 (bool64C fun _ => true) := by
  refine sound_each (n := 14) (rs := [.tmp 2]) (sc := sc_law_sreduces.1) mixed Tryd.func4 rfl rfl rfl rfl sc_law_sreduces.2 ?_
  intro vs cs r h
  unfold bool64C at h
  split at h
  · rename_i a
    cases h
    exact ⟨by simp, fun hcs hwf => ⟨_, envOK tabOK ((.cons (ok_reduceS.sub (sub_of (by decide))) (.cons (ok_refreduce.sub (sub_of (by decide))) (.cons (ok_canonS.sub (sub_of (by decide))) .nil)))), rfl, walk_law_sreduces realOps rfl a  _ rfl _ rfl _ rfl ⟩⟩
  · cases h
end Go.Proofs.YtfpeolihnaeolaaDoor
