/-
  roots holds for every input: the walk.
-/
import Derived.Test.YtnfbjfbndnmhmaaDoorFieldK
import Derived.Test.YtnfbjfbndnmhmaaDoorFieldS
namespace Go.Proofs.YtnfbjfbndnmhmaaDoor
open Go Go.Proofs Sx
set_option maxRecDepth 100000
set_option maxHeartbeats 4000000
set_option linter.unusedVariables false
set_option linter.unusedSimpArgs false

def gl_roots : GL := [v_eighth, v_root, v_half, v_twice]
abbrev G_roots : Nat → AV := lookGL gl_roots
def sc_law_roots : { c : SC // strip (body Tryd.f12) = c } := ⟨_, by cbv⟩
theorem walk_law_roots (A : Ops) (hA : A = realOps) (u : Nat → Int) (v : Nat → Int) (hu : IsBytes 32 u) (hv : IsBytes 32 v) (SB : (Nat → Int) → (Nat → Int) → Bool) (hSB : SB = sqrtB) (SR : (Nat → Int) → (Nat → Int) → Nat → Int) (hSR : SR = sqrtR) (SQ : (Nat → Int) → Nat → Int) (hSQ : SQ = fun f => fb (fe f * fe f)) (MU : (Nat → Int) → (Nat → Int) → Nat → Int) (hMU : MU = fun f g => fb (fe f * fe g)) (AD : (Nat → Int) → (Nat → Int) → Nat → Int) (hAD : AD = fun f g => fb (fe f + fe g)) (RD : (Nat → Int) → Nat → Int) (hRD : RD = fun f => fb (fe f)) (LE : (Nat → Int) → Int) (hLE : LE = fun f => legZ (fe f)) (NU : Int → Nat → Int) (hNU : NU = fun x => fb (zi pN x)) (CA : (Nat → Int) → Bool) (hCA : CA = canB)  :
    Walk (mkEnv A tab.1 G_roots [(39, sqrtC SR SB), (20, un32C SQ), (18, bin32C MU), (22, bin32C AD), (29, un32C RD), (31, leg32C LE), (26, numberC NU), (41, bool32C CA)] [(1000070, .cut 8)]) sc_law_roots.1 110 [.tmp 4] [.arr .u8 32 u, .arr .u8 32 v] (.bool (.sym true)) := by
  obtain ⟨bi, cm, un, cv, na, eq⟩ := A
  have hbi : bi = realBin := congrArg Ops.bin hA
  have hcm : cm = realCmp := congrArg Ops.cmp hA
  have hna : na = Int.toNat := congrArg Ops.nat hA
  have hcv : cv = fun k n => k.wrap n := congrArg Ops.cnv hA
  have heq : eq = realEqA := congrArg Ops.eqA hA
  clear hA
  refine ⟨?_⟩
  have k1 : SB u v = false → eq 32 (SR u v) (NU 0) = true := by
    try rw [heq]
    subst hSR hSQ hMU hAD hRD hLE hNU hCA hSB
    try dsimp only at *
    intro h; rw [zi_zero]; unfold sqrtR; rw [sqrt_false h]; exact fb_same rfl
  have k2 : SB (SQ u) (NU 1) = true := by
    try rw [heq]
    subst hSR hSQ hMU hAD hRD hLE hNU hCA hSB
    try dsimp only at *
    unfold sqrtB; rw [fe_fb, fe_fb, zi_one]; exact sqrt_sq _
  have k3 : eq 32 (SQ (SR (SQ u) (NU 1))) (SQ u) = true := by
    try rw [heq]
    subst hSR hSQ hMU hAD hRD hLE hNU hCA hSB
    try dsimp only at *
    unfold sqrtR; rw [fe_fb, fe_fb, fe_fb, zi_one]; have h := (sqrt_root (sqrt_sq (fe u))).1; exact fb_same (by grind)
  have k4 : cm .eql (bi .rem .u8 (SR (SQ u) (NU 1) 0) 2) 1 = false := by
    try rw [heq]
    subst hSR hSQ hMU hAD hRD hLE hNU hCA hSB
    try dsimp only at *
    rw [hcm, hbi]; unfold sqrtR; rw [fe_fb, fe_fb, zi_one]; exact even_z _ (sqrt_root (sqrt_sq (fe u))).2
  have k5 : eq 32 (RD u) (NU 0) = true → SB u v = true ∧ eq 32 (SR u v) (NU 0) = true := by
    try rw [heq]
    subst hSR hSQ hMU hAD hRD hLE hNU hCA hSB
    try dsimp only at *
    rw [zi_zero, fb_inj]; intro h; have h1 := of_decide_eq_true h; unfold sqrtB sqrtR; rw [h1, sqrt_u0]; exact ⟨rfl, fb_same rfl⟩
  have k6 : eq 32 (RD u) (NU 0) = false → eq 32 (RD v) (NU 0) = true → SB u v = false := by
    try rw [heq]
    subst hSR hSQ hMU hAD hRD hLE hNU hCA hSB
    try dsimp only at *
    rw [zi_zero, fb_inj, fb_inj]; intro h h'; have h1 := of_decide_eq_false h; have h2 := of_decide_eq_true h'; unfold sqrtB; rw [h2, sqrt_v0 h1]
  have k7 : SB u v = true → eq 32 (MU v (SQ (SR u v))) (RD u) = true ∧ cm .eql (bi .rem .u8 (SR u v 0) 2) 1 = false ∧ CA (SR u v) = true := by
    try rw [heq]
    subst hSR hSQ hMU hAD hRD hLE hNU hCA hSB
    try dsimp only at *
    intro h; have h1 := sqrt_root h; rw [hcm, hbi]; unfold sqrtR; rw [fe_fb, fe_fb]; exact ⟨fb_same (by have := h1.1; grind), even_z _ h1.2, canB_fb _⟩
  have k8 : eq 32 (RD u) (NU 0) = false → eq 32 (RD v) (NU 0) = false → SB (AD u u) v = !SB u v ∧ SB u v = cm .eql (LE (MU u v)) 1 := by
    try rw [heq]
    subst hSR hSQ hMU hAD hRD hLE hNU hCA hSB
    try dsimp only at *
    rw [zi_zero, fb_inj, fb_inj, hcm]; intro h h'; have h1 := of_decide_eq_false h; have h2 := of_decide_eq_false h'; unfold sqrtB; rw [fe_fb, fe_fb]; exact ⟨leg_dbl h1 h2, (sqrt_ok h1 h2).trans (by rw [Bool.eq_iff_iff]; simp [realCmp])⟩
  clear hSR hSQ hMU hAD hRD hLE hNU hCA hSB
  cbv
  refine ⟨fun h => ?_, fun _ => ?_⟩
  · exfalso
    revert h
    try dsimp only [SI.val, SO.val]
    cases hb : SB u v with
    | false => simp [k1 hb]
    | true => simp
  cbv
  refine ⟨fun h => ?_, fun _ => ?_⟩
  · exfalso
    revert h
    try dsimp only [SI.val, SO.val]
    simp [k2, k3, k4]
  cbv
  refine ⟨fun h => ?_, fun h => ?_⟩
  · cbv
    obtain ⟨x1, x2⟩ := k5 h
    try dsimp only [SI.val, SO.val]
    simp [x1, x2]
  cbv
  refine ⟨fun h2 => ?_, fun h2 => ?_⟩
  · cbv
    have x1 := k6 h h2
    try dsimp only [SI.val, SO.val]
    simp [x1]
  cbv
  obtain ⟨x1, x2⟩ := k8 h h2
  refine ⟨fun hb => ?_, fun hb => ?_⟩
  · cbv
    obtain ⟨y1, y2, y3⟩ := k7 hb
    refine ⟨fun h3 => ?_, fun _ => ?_⟩
    · exfalso
      revert h3
      try dsimp only [SI.val, SO.val]
      simp [y1, y2, y3]
    cbv
    rw [hb] at x1 x2
    try dsimp only [SI.val, SO.val]
    rw [x1, ← x2]
    rfl
  · cbv
    rw [hb] at x1 x2
    try dsimp only [SI.val, SO.val]
    rw [x1, ← x2]
    rfl

theorem ok_law_roots : Sound Tryd.prog G_roots 12 (bool232C fun _ _ => true) := by
  refine sound_each (n := 110) (rs := [.tmp 4]) (sc := sc_law_roots.1) mixed Tryd.func12 rfl rfl rfl rfl sc_law_roots.2 ?_
  intro vs cs r h
  unfold bool232C at h
  split at h
  · rename_i u v
    cases h
    exact ⟨by simp, fun hcs hwf => ⟨_, envOK tabOK ((.cons (ok_sqrtF.sub (sub_of (by decide))) (.cons (ok_squareZ G_roots) (.cons (ok_mulZ G_roots) (.cons (ok_addZ G_roots) (.cons (ok_reduceZ G_roots) (.cons (ok_legendreF.sub (sub_of (by decide))) (.cons (ok_numberZ G_roots) (.cons (ok_canonF G_roots) .nil))))))))), rfl, walk_law_roots realOps rfl u v (isB (hwf _ (by simp))) (isB (hwf _ (by simp))) _ rfl _ rfl _ rfl _ rfl _ rfl _ rfl _ rfl _ rfl _ rfl ⟩⟩
  · cases h
end Go.Proofs.YtnfbjfbndnmhmaaDoor
