/-
  ScalarMultiplies holds for every input: the walk.
-/
import Derived.Test.YtfpeolihnaeolaaDoorScalL
import Derived.Test.YtfpeolihnaeolaaDoorRefC
namespace Go.Proofs.YtfpeolihnaeolaaDoor
open Go Go.Proofs Sx
set_option maxRecDepth 100000
set_option maxHeartbeats 4000000
set_option linter.unusedVariables false
set_option linter.unusedSimpArgs false

def gl_smult : GL := [v_mult, v_rorder]
abbrev G_smult : Nat → AV := lookGL gl_smult
def sc_law_smult : { c : SC // strip (body Tryd.f9) = c } := ⟨_, by cbv⟩
theorem walk_law_smult (A : Ops) (hA : A = realOps) (a : Nat → Int) (b : Nat → Int) (c : Nat → Int) (ha : IsBytes 32 a) (hb : IsBytes 32 b) (hc : IsBytes 32 c) (MA : (Nat → Int) → (Nat → Int) → (Nat → Int) → Nat → Int) (hMA : MA = fun a b c => sb (se a * se b + se c)) (AD : (Nat → Int) → (Nat → Int) → Nat → Int) (hAD : AD = fun f g => sb (se f + se g)) (NE : (Nat → Int) → Nat → Int) (hNE : NE = fun f => sb (- se f)) (RM : (Nat → Int) → (Nat → Int) → (Nat → Int) → Nat → Int) (hRM : RM = fun a b c => sb (se a * se b + se c)) (RA : (Nat → Int) → (Nat → Int) → Nat → Int) (hRA : RA = fun f g => sb (se f + se g)) (RN : (Nat → Int) → Nat → Int) (hRN : RN = fun f => sb (- se f))  :
    Walk (mkEnv A tab.1 G_smult [(26, tri32C MA), (28, bin32C AD), (32, un32C NE), (30, tri32C RM), (31, bin32C RA), (33, un32C RN)] []) sc_law_smult.1 32 [.tmp 6] [.arr .u8 32 a, .arr .u8 32 b, .arr .u8 32 c] (.bool (.sym true)) := by
  obtain ⟨bi, cm, un, cv, na, eq⟩ := A
  have hbi : bi = realBin := congrArg Ops.bin hA
  have hcm : cm = realCmp := congrArg Ops.cmp hA
  have hna : na = Int.toNat := congrArg Ops.nat hA
  have hcv : cv = fun k n => k.wrap n := congrArg Ops.cnv hA
  have heq : eq = realEqA := congrArg Ops.eqA hA
  clear hA
  refine ⟨?_⟩
  have k1 : eq 32 (MA a b c) (RM a b c) = true := by
    try rw [heq]
    subst hMA hAD hNE hRM hRA hRN
    try dsimp only at *
    exact sb_same rfl
  have k2 : eq 32 (AD a b) (RA a b) = true := by
    try rw [heq]
    subst hMA hAD hNE hRM hRA hRN
    try dsimp only at *
    exact sb_same rfl
  have k3 : eq 32 (NE c) (RN c) = true := by
    try rw [heq]
    subst hMA hAD hNE hRM hRA hRN
    try dsimp only at *
    exact sb_same rfl
  clear hMA hAD hNE hRM hRA hRN
  cbv
  try dsimp only [SI.val, SO.val]
  simp [k1, k2, k3]

theorem ok_law_smult : Sound Tryd.prog G_smult 9 (bool332C fun _ _ _ => true) := by
  refine sound_each (n := 32) (rs := [.tmp 6]) (sc := sc_law_smult.1) mixed Tryd.func9 rfl rfl rfl rfl sc_law_smult.2 ?_
  intro vs cs r h
  unfold bool332C at h
  split at h
  · rename_i a b c
    cases h
    exact ⟨by simp, fun hcs hwf => ⟨_, envOK tabOK ((.cons (ok_muladd.sub (sub_of (by decide))) (.cons (ok_addS32.sub (sub_of (by decide))) (.cons (ok_negS.sub (sub_of (by decide))) (.cons (ok_refmuladd.sub (sub_of (by decide))) (.cons (ok_refadd.sub (sub_of (by decide))) (.cons (ok_refneg.sub (sub_of (by decide))) .nil))))))), rfl, walk_law_smult realOps rfl a b c (isB (hwf _ (by simp))) (isB (hwf _ (by simp))) (isB (hwf _ (by simp))) _ rfl _ rfl _ rfl _ rfl _ rfl _ rfl ⟩⟩
  · cases h
end Go.Proofs.YtfpeolihnaeolaaDoor
