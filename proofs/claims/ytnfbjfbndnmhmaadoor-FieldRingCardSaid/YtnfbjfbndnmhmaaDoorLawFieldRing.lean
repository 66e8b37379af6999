/-
  ring holds for every input: the walk.
-/
import Derived.Test.YtnfbjfbndnmhmaaDoorFieldK
namespace Go.Proofs.YtnfbjfbndnmhmaaDoor
open Go Go.Proofs Sx
set_option maxRecDepth 100000
set_option maxHeartbeats 4000000
set_option linter.unusedVariables false
set_option linter.unusedSimpArgs false

def gl_ring : GL := [v_twice]
abbrev G_ring : Nat → AV := lookGL gl_ring
def sc_law_ring : { c : SC // strip (body Tryd.f6) = c } := ⟨_, by cbv⟩
theorem walk_law_ring (A : Ops) (hA : A = realOps) (a : Nat → Int) (b : Nat → Int) (c : Nat → Int) (ha : IsBytes 32 a) (hb : IsBytes 32 b) (hc : IsBytes 32 c) (AD : (Nat → Int) → (Nat → Int) → Nat → Int) (hAD : AD = fun f g => fb (fe f + fe g)) (SU : (Nat → Int) → (Nat → Int) → Nat → Int) (hSU : SU = fun f g => fb (fe f - fe g)) (MU : (Nat → Int) → (Nat → Int) → Nat → Int) (hMU : MU = fun f g => fb (fe f * fe g)) (NE : (Nat → Int) → Nat → Int) (hNE : NE = fun f => fb (- fe f)) (SQ : (Nat → Int) → Nat → Int) (hSQ : SQ = fun f => fb (fe f * fe f)) (RD : (Nat → Int) → Nat → Int) (hRD : RD = fun f => fb (fe f)) (NU : Int → Nat → Int) (hNU : NU = fun x => fb (zi pN x))  :
    Walk (mkEnv A tab.1 G_ring [(22, bin32C AD), (24, bin32C SU), (18, bin32C MU), (30, un32C NE), (20, un32C SQ), (29, un32C RD), (26, numberC NU)] []) sc_law_ring.1 150 [.tmp 6] [.arr .u8 32 a, .arr .u8 32 b, .arr .u8 32 c] (.bool (.sym true)) := by
  obtain ⟨bi, cm, un, cv, na, eq⟩ := A
  have hbi : bi = realBin := congrArg Ops.bin hA
  have hcm : cm = realCmp := congrArg Ops.cmp hA
  have hna : na = Int.toNat := congrArg Ops.nat hA
  have hcv : cv = fun k n => k.wrap n := congrArg Ops.cnv hA
  have heq : eq = realEqA := congrArg Ops.eqA hA
  clear hA
  refine ⟨?_⟩
  have k1 : eq 32 (MU (NU 2) (NU 3)) (NU 6) = true := by
    rw [heq]
    subst hAD hSU hMU hNE hSQ hRD hNU
    dsimp only
    try simp only [fe_fb, zi_zero, zi_one, zi_two]
    exact fb_same (by decide +kernel)
  have k2 : eq 32 (AD a b) (AD b a) = true := by
    rw [heq]
    subst hAD hSU hMU hNE hSQ hRD hNU
    dsimp only
    try simp only [fe_fb, zi_zero, zi_one, zi_two]
    exact fb_same (by grind)
  have k3 : eq 32 (AD (AD a b) c) (AD a (AD b c)) = true := by
    rw [heq]
    subst hAD hSU hMU hNE hSQ hRD hNU
    dsimp only
    try simp only [fe_fb, zi_zero, zi_one, zi_two]
    exact fb_same (by grind)
  have k4 : eq 32 (AD a (NU 0)) (RD a) = true := by
    rw [heq]
    subst hAD hSU hMU hNE hSQ hRD hNU
    dsimp only
    try simp only [fe_fb, zi_zero, zi_one, zi_two]
    exact fb_same (by grind)
  have k5 : eq 32 (SU (AD a b) b) (RD a) = true := by
    rw [heq]
    subst hAD hSU hMU hNE hSQ hRD hNU
    dsimp only
    try simp only [fe_fb, zi_zero, zi_one, zi_two]
    exact fb_same (by grind)
  have k6 : eq 32 (NE a) (SU (NU 0) a) = true := by
    rw [heq]
    subst hAD hSU hMU hNE hSQ hRD hNU
    dsimp only
    try simp only [fe_fb, zi_zero, zi_one, zi_two]
    exact fb_same (by grind)
  have k7 : eq 32 (AD a (NE a)) (NU 0) = true := by
    rw [heq]
    subst hAD hSU hMU hNE hSQ hRD hNU
    dsimp only
    try simp only [fe_fb, zi_zero, zi_one, zi_two]
    exact fb_same (by grind)
  have k8 : eq 32 (MU a b) (MU b a) = true := by
    rw [heq]
    subst hAD hSU hMU hNE hSQ hRD hNU
    dsimp only
    try simp only [fe_fb, zi_zero, zi_one, zi_two]
    exact fb_same (by grind)
  have k9 : eq 32 (MU (MU a b) c) (MU a (MU b c)) = true := by
    rw [heq]
    subst hAD hSU hMU hNE hSQ hRD hNU
    dsimp only
    try simp only [fe_fb, zi_zero, zi_one, zi_two]
    exact fb_same (by grind)
  have k10 : eq 32 (MU a (NU 1)) (RD a) = true := by
    rw [heq]
    subst hAD hSU hMU hNE hSQ hRD hNU
    dsimp only
    try simp only [fe_fb, zi_zero, zi_one, zi_two]
    exact fb_same (by grind)
  have k11 : eq 32 (MU a (NU 0)) (NU 0) = true := by
    rw [heq]
    subst hAD hSU hMU hNE hSQ hRD hNU
    dsimp only
    try simp only [fe_fb, zi_zero, zi_one, zi_two]
    exact fb_same (by grind)
  have k12 : eq 32 (MU a (AD b c)) (AD (MU a b) (MU a c)) = true := by
    rw [heq]
    subst hAD hSU hMU hNE hSQ hRD hNU
    dsimp only
    try simp only [fe_fb, zi_zero, zi_one, zi_two]
    exact fb_same (by grind)
  have k13 : eq 32 (MU (NE a) b) (NE (MU a b)) = true := by
    rw [heq]
    subst hAD hSU hMU hNE hSQ hRD hNU
    dsimp only
    try simp only [fe_fb, zi_zero, zi_one, zi_two]
    exact fb_same (by grind)
  have k14 : eq 32 (SQ (AD a b)) (MU (AD a b) (AD a b)) = true := by
    rw [heq]
    subst hAD hSU hMU hNE hSQ hRD hNU
    dsimp only
    try simp only [fe_fb, zi_zero, zi_one, zi_two]
    exact fb_same (by grind)
  have k15 : eq 32 (SQ (AD a b)) (AD (AD (SQ a) (SQ b)) (AD (MU a b) (MU a b))) = true := by
    rw [heq]
    subst hAD hSU hMU hNE hSQ hRD hNU
    dsimp only
    try simp only [fe_fb, zi_zero, zi_one, zi_two]
    exact fb_same (by grind)
  clear hAD hSU hMU hNE hSQ hRD hNU
  cbv
  refine ⟨fun h => ?_, fun _ => ?_⟩
  · exfalso
    revert h
    try dsimp only [SI.val, SO.val]
    simp [k1]
  cbv
  refine ⟨fun h => ?_, fun _ => ?_⟩
  · exfalso
    revert h
    try dsimp only [SI.val, SO.val]
    simp [k2, k3, k4]
  cbv
  refine ⟨fun h => ?_, fun _ => ?_⟩
  · exfalso
    revert h
    try dsimp only [SI.val, SO.val]
    simp [k5, k6, k7]
  cbv
  refine ⟨fun h => ?_, fun _ => ?_⟩
  · exfalso
    revert h
    try dsimp only [SI.val, SO.val]
    simp [k8, k9, k10, k11]
  cbv
  refine ⟨fun h => ?_, fun _ => ?_⟩
  · exfalso
    revert h
    try dsimp only [SI.val, SO.val]
    simp [k12, k13]
  cbv
  try dsimp only [SI.val, SO.val]
  simp [k14, k15]

theorem ok_law_ring : Sound Tryd.prog G_ring 6 (bool332C fun _ _ _ => true) := by
  refine sound_each (n := 150) (rs := [.tmp 6]) (sc := sc_law_ring.1) mixed Tryd.func6 rfl rfl rfl rfl sc_law_ring.2 ?_
  intro vs cs r h
  unfold bool332C at h
  split at h
  · rename_i a b c
    cases h
    exact ⟨by simp, fun hcs hwf => ⟨_, envOK tabOK ((.cons (ok_addZ G_ring) (.cons (ok_subZ G_ring (ok_less.sub (sub_of (by decide)))) (.cons (ok_mulZ G_ring) (.cons (ok_negZ G_ring (ok_less.sub (sub_of (by decide)))) (.cons (ok_squareZ G_ring) (.cons (ok_reduceZ G_ring) (.cons (ok_numberZ G_ring) .nil)))))))), rfl, walk_law_ring realOps rfl a b c (isB (hwf _ (by simp))) (isB (hwf _ (by simp))) (isB (hwf _ (by simp))) _ rfl _ rfl _ rfl _ rfl _ rfl _ rfl _ rfl ⟩⟩
  · cases h
end Go.Proofs.YtnfbjfbndnmhmaaDoor
