/-
  FieldProducts holds for every input: the walk.
-/
import Derived.Test.YtnfbjfbndnmhmaaDoorZRefQM
import Derived.Test.YtnfbjfbndnmhmaaDoorZFieldC
import Derived.Test.YtnfbjfbndnmhmaaDoorZFieldL
namespace Go.Proofs.YtnfbjfbndnmhmaaDoor
open Go Go.Proofs Sx
set_option maxRecDepth 100000
set_option maxHeartbeats 4000000
set_option linter.unusedVariables false
set_option linter.unusedSimpArgs false

def gl_fprod : GL := [v_twice, v_prime]
abbrev G_fprod : Nat → AV := lookGL gl_fprod
def sc_law_fprod : { c : SC // strip (body Tryd.f4) = c } := ⟨_, by cbv⟩
theorem walk_law_fprod (A : Ops) (hA : A = realOps) (a : Nat → Int) (b : Nat → Int)  (MU : (Nat → Int) → (Nat → Int) → Nat → Int) (hMU : MU = fun f g => fb (fe f * fe g)) (SQ : (Nat → Int) → Nat → Int) (hSQ : SQ = fun f => fb (fe f * fe f)) (AD : (Nat → Int) → (Nat → Int) → Nat → Int) (hAD : AD = fun f g => fb (fe f + fe g)) (SU : (Nat → Int) → (Nat → Int) → Nat → Int) (hSU : SU = fun f g => fb (fe f - fe g)) (RM : (Nat → Int) → (Nat → Int) → Nat → Int) (hRM : RM = fun f g => fb (fe f * fe g)) (RQ : (Nat → Int) → Nat → Int) (hRQ : RQ = fun f => fb (fe f * fe f)) (RA : (Nat → Int) → (Nat → Int) → Nat → Int) (hRA : RA = fun f g => fb (fe f + fe g)) (RS : (Nat → Int) → (Nat → Int) → Nat → Int) (hRS : RS = fun f g => fb (fe f - fe g))  :
    Walk (mkEnv A tab.1 G_fprod [(18, bin32C MU), (20, un32C SQ), (22, bin32C AD), (24, bin32C SU), (19, bin32C RM), (21, un32C RQ), (23, bin32C RA), (25, bin32C RS)] []) sc_law_fprod.1 35 [.tmp 4] [.arr .u8 32 a, .arr .u8 32 b] (.bool (.sym true)) := by
  obtain ⟨bi, cm, un, cv, na, eq⟩ := A
  have hbi : bi = realBin := congrArg Ops.bin hA
  have hcm : cm = realCmp := congrArg Ops.cmp hA
  have hna : na = Int.toNat := congrArg Ops.nat hA
  have hcv : cv = fun k n => k.wrap n := congrArg Ops.cnv hA
  have heq : eq = realEqA := congrArg Ops.eqA hA
  clear hA
  have k1 : eq 32 (MU a b) (RM a b) = true := by
    try rw [heq]
    subst hMU hSQ hAD hSU hRM hRQ hRA hRS
    try dsimp only at *
    exact fb_same rfl
  have k2 : eq 32 (SQ a) (RQ a) = true := by
    try rw [heq]
    subst hMU hSQ hAD hSU hRM hRQ hRA hRS
    try dsimp only at *
    exact fb_same rfl
  have k3 : eq 32 (AD a b) (RA a b) = true := by
    try rw [heq]
    subst hMU hSQ hAD hSU hRM hRQ hRA hRS
    try dsimp only at *
    exact fb_same rfl
  have k4 : eq 32 (SU a b) (RS a b) = true := by
    try rw [heq]
    subst hMU hSQ hAD hSU hRM hRQ hRA hRS
    try dsimp only at *
    exact fb_same rfl
  clear hMU hSQ hAD hSU hRM hRQ hRA hRS
  refine ⟨?_⟩
  cbv
  refine ⟨fun h => ?_, fun _ => ?_⟩
  · exfalso
    revert h
    simp [k1, k2]
  cbv
  simp [k3, k4]

theorem ok_law_fprod : Sound Tryd.prog G_fprod 4 (bool232C fun _ _ => true) := by
  refine sound_each (n := 35) (rs := [.tmp 4]) (sc := sc_law_fprod.1) mixed Tryd.func4 rfl rfl rfl rfl sc_law_fprod.2 ?_
  intro vs cs r h
  unfold bool232C at h
  split at h
  · rename_i a b
    cases h
    exact ⟨by simp, fun hcs hwf => ⟨_, envOK tabOK ((.cons (ok_mulZ G_fprod) (.cons (ok_squareZ G_fprod) (.cons (ok_addZ G_fprod) (.cons (ok_subZ G_fprod (ok_less.sub (sub_of (by decide)))) (.cons (ok_qmulB.sub (sub_of (by decide))) (.cons (ok_qsquareB.sub (sub_of (by decide))) (.cons (ok_qaddB.sub (sub_of (by decide))) (.cons (ok_qsubB.sub (sub_of (by decide))) .nil))))))))), rfl, walk_law_fprod realOps rfl a b  _ rfl _ rfl _ rfl _ rfl _ rfl _ rfl _ rfl _ rfl ⟩⟩
  · cases h
end Go.Proofs.YtnfbjfbndnmhmaaDoor
