/-
  inverts holds for every input: the walk.
-/
import Derived.Test.YtnfbjfbndnmhmaaDoorFieldK
namespace Go.Proofs.YtnfbjfbndnmhmaaDoor
open Go Go.Proofs Sx
set_option maxRecDepth 100000
set_option maxHeartbeats 4000000
set_option linter.unusedVariables false
set_option linter.unusedSimpArgs false

def gl_inverts : GL := [v_two]
abbrev G_inverts : Nat → AV := lookGL gl_inverts
def sc_law_inverts : { c : SC // strip (body Tryd.f5) = c } := ⟨_, by cbv⟩
theorem walk_law_inverts (A : Ops) (hA : A = realOps) (a : Nat → Int) (b : Nat → Int) (ha : IsBytes 32 a) (hb : IsBytes 32 b) (AD : (Nat → Int) → (Nat → Int) → Nat → Int) (hAD : AD = fun f g => fb (fe f + fe g)) (MU : (Nat → Int) → (Nat → Int) → Nat → Int) (hMU : MU = fun f g => fb (fe f * fe g)) (RD : (Nat → Int) → Nat → Int) (hRD : RD = fun f => fb (fe f)) (IV : (Nat → Int) → Nat → Int) (hIV : IV = fun f => fb (zinv (fe f))) (NU : Int → Nat → Int) (hNU : NU = fun x => fb (zi pN x)) (PR : Nat → Int) (hPR : PR = byt p25) (LT : (Nat → Int) → (Nat → Int) → Bool) (hLT : LT = ltB)  :
    Walk (mkEnv A tab.1 G_inverts [(22, bin32C AD), (18, bin32C MU), (29, un32C RD), (16, un32C IV), (26, numberC NU), (28, primeC PR), (27, bool232C LT)] []) sc_law_inverts.1 55 [.tmp 4] [.arr .u8 32 a, .arr .u8 32 b] (.bool (.sym true)) := by
  obtain ⟨bi, cm, un, cv, na, eq⟩ := A
  have hbi : bi = realBin := congrArg Ops.bin hA
  have hcm : cm = realCmp := congrArg Ops.cmp hA
  have hna : na = Int.toNat := congrArg Ops.nat hA
  have hcv : cv = fun k n => k.wrap n := congrArg Ops.cnv hA
  have heq : eq = realEqA := congrArg Ops.eqA hA
  clear hA
  refine ⟨?_⟩
  have k1 : eq 32 (AD (IV (NU 2)) (IV (NU 2))) (NU 1) = true := by
    try rw [heq]
    subst hAD hMU hRD hIV hNU hPR hLT
    try dsimp only at *
    try simp only [fe_fb, zi_zero, zi_one, zi_two]
    exact fb_same (by exact zinv_two)
  have k2 : LT (IV a) PR = true := by
    try rw [heq]
    subst hAD hMU hRD hIV hNU hPR hLT
    try dsimp only at *
    exact ltB_fb _ rfl
  have k3 : eq 32 (IV (IV a)) (RD a) = true := by
    try rw [heq]
    subst hAD hMU hRD hIV hNU hPR hLT
    try dsimp only at *
    try simp only [fe_fb, zi_zero, zi_one, zi_two]
    exact fb_same (by exact zinv_inv _)
  have k4 : eq 32 (IV (MU a b)) (MU (IV a) (IV b)) = true := by
    try rw [heq]
    subst hAD hMU hRD hIV hNU hPR hLT
    try dsimp only at *
    try simp only [fe_fb, zi_zero, zi_one, zi_two]
    exact fb_same (by exact zinv_mul _ _)
  have k5 : eq 32 (RD a) (NU 0) = true → eq 32 (IV a) (NU 0) = true := by
    try rw [heq]
    subst hAD hMU hRD hIV hNU hPR hLT
    try dsimp only at *
    simp only [fe_fb, zi_zero, fb_inj]; intro h; rw [of_decide_eq_true h, zinv_zero (by decide)]; rfl
  have k6 : eq 32 (RD a) (NU 0) = false → eq 32 (MU a (IV a)) (NU 1) = true := by
    try rw [heq]
    subst hAD hMU hRD hIV hNU hPR hLT
    try dsimp only at *
    simp only [fe_fb, zi_zero, zi_one, fb_inj]; intro h; rw [mul_zinv prP (of_decide_eq_false h)]; rfl
  clear hAD hMU hRD hIV hNU hPR hLT
  cbv
  refine ⟨fun h => ?_, fun _ => ?_⟩
  · exfalso
    revert h
    try dsimp only [SI.val, SO.val]
    simp [k1, k2]
  cbv
  refine ⟨fun h => ?_, fun _ => ?_⟩
  · exfalso
    revert h
    try dsimp only [SI.val, SO.val]
    simp [k3, k4]
  cbv
  refine ⟨fun h => ?_, fun h => ?_⟩
  · cbv
    exact k5 h
  · cbv
    exact k6 h

theorem ok_law_inverts : Sound Tryd.prog G_inverts 5 (bool232C fun _ _ => true) := by
  refine sound_each (n := 55) (rs := [.tmp 4]) (sc := sc_law_inverts.1) mixed Tryd.func5 rfl rfl rfl rfl sc_law_inverts.2 ?_
  intro vs cs r h
  unfold bool232C at h
  split at h
  · rename_i a b
    cases h
    exact ⟨by simp, fun hcs hwf => ⟨_, envOK tabOK ((.cons (ok_addZ G_inverts) (.cons (ok_mulZ G_inverts) (.cons (ok_reduceZ G_inverts) (.cons (ok_invertF.sub (sub_of (by decide))) (.cons (ok_numberZ G_inverts) (.cons (ok_prime G_inverts) (.cons (ok_lless G_inverts) .nil)))))))), rfl, walk_law_inverts realOps rfl a b (isB (hwf _ (by simp))) (isB (hwf _ (by simp))) _ rfl _ rfl _ rfl _ rfl _ rfl _ rfl _ rfl ⟩⟩
  · cases h
end Go.Proofs.YtnfbjfbndnmhmaaDoor
