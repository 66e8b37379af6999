/-
  fermat holds for every input: the walk.
-/
import Derived.Test.YtnfbjfbndnmhmaaDoorFieldK
namespace Go.Proofs.YtnfbjfbndnmhmaaDoor
open Go Go.Proofs Sx
set_option maxRecDepth 100000
set_option maxHeartbeats 4000000
set_option linter.unusedVariables false
set_option linter.unusedSimpArgs false

def gl_fermat : GL := [v_two, v_half, v_twice]
abbrev G_fermat : Nat → AV := lookGL gl_fermat
def sc_law_fermat : { c : SC // strip (body Tryd.f7) = c } := ⟨_, by cbv⟩
theorem walk_law_fermat (A : Ops) (hA : A = realOps) (a : Nat → Int) (ha : IsBytes 32 a) (PW : (Nat → Int) → (Nat → Int) → Nat → Int) (hPW : PW = fun f e => fb (zp (fe f) (num 32 e).toNat)) (IV : (Nat → Int) → Nat → Int) (hIV : IV = fun f => fb (zinv (fe f))) (LE : (Nat → Int) → Int) (hLE : LE = fun f => legZ (fe f)) (RD : (Nat → Int) → Nat → Int) (hRD : RD = fun f => fb (fe f)) (NE : (Nat → Int) → Nat → Int) (hNE : NE = fun f => fb (- fe f)) (NU : Int → Nat → Int) (hNU : NU = fun x => fb (zi pN x)) (PR : Nat → Int) (hPR : PR = byt p25)  :
    Walk (mkEnv A tab.1 G_fermat [(14, bin32C PW), (16, un32C IV), (31, leg32C LE), (29, un32C RD), (30, un32C NE), (26, numberC NU), (28, primeC PR)] []) sc_law_fermat.1 83 [.tmp 2] [.arr .u8 32 a] (.bool (.sym true)) := by
  obtain ⟨bi, cm, un, cv, na, eq⟩ := A
  have hbi : bi = realBin := congrArg Ops.bin hA
  have hcm : cm = realCmp := congrArg Ops.cmp hA
  have hna : na = Int.toNat := congrArg Ops.nat hA
  have hcv : cv = fun k n => k.wrap n := congrArg Ops.cnv hA
  have heq : eq = realEqA := congrArg Ops.eqA hA
  clear hA
  refine ⟨?_⟩
  have e1 : ∀ f, PW f (upd PR 0 (bi .sub .u8 (PR 0) 1)) = fb (zp (fe f) (pN - 1)) := by
    try rw [heq]
    subst hPW hIV hLE hRD hNE hNU hPR
    try dsimp only at *
    intro f; rw [hbi]; exact pw_one (by decide)
  have e2 : ∀ f, PW f (upd PR 0 (bi .sub .u8 (PR 0) 2)) = fb (zinv (fe f)) := by
    try rw [heq]
    subst hPW hIV hLE hRD hNE hNU hPR
    try dsimp only at *
    intro f; rw [hbi]; exact pw_two (by decide)
  have e3 : ∀ f, PW f (upd (upd PR 0 246) 31 63) = fb (zp (fe f) halfN) := by
    try rw [heq]
    subst hPW hIV hLE hRD hNE hNU hPR
    try dsimp only at *
    intro f; exact pw_half (by decide)
  have k1 : eq 32 (PW (NU 2) (upd PR 0 (bi .sub .u8 (PR 0) 1))) (NU 1) = true := by
    try rw [heq]
    subst hPW hIV hLE hRD hNE hNU hPR
    try dsimp only at *
    rw [e1]; simp only [fe_fb, zi_zero, zi_one, zi_two]; exact fb_same fermat_two
  have k2 : eq 32 (PW a (upd PR 0 (bi .sub .u8 (PR 0) 2))) (IV a) = true := by
    try rw [heq]
    subst hPW hIV hLE hRD hNE hNU hPR
    try dsimp only at *
    rw [e2]; exact fb_same rfl
  have k3 : cm .eql (LE a) 0 = true → eq 32 (RD a) (NU 0) = true ∧ eq 32 (PW a (upd PR 0 (bi .sub .u8 (PR 0) 1))) (NU 0) = true ∧ eq 32 (PW a (upd (upd PR 0 246) 31 63)) (NU 0) = true := by
    try rw [heq]
    subst hPW hIV hLE hRD hNE hNU hPR
    try dsimp only at *
    intro h; rw [hcm] at h; have h1 := legZ_zero.1 (eq_of_beq h); rw [e1, e3, h1, zp_last_zero, zp_half_zero, zi_zero]; exact ⟨fb_same rfl, fb_same rfl, fb_same rfl⟩
  have k4 : cm .eql (LE a) 1 = true → eq 32 (PW a (upd PR 0 (bi .sub .u8 (PR 0) 1))) (NU 1) = true ∧ eq 32 (PW a (upd (upd PR 0 246) 31 63)) (NU 1) = true := by
    try rw [heq]
    subst hPW hIV hLE hRD hNE hNU hPR
    try dsimp only at *
    intro h; rw [hcm] at h; have h1 := legZ_one.1 (eq_of_beq h); rcases legZ_cases (fe a) with ⟨h2, h3⟩ | ⟨h2, h3, h4⟩ | ⟨h2, h3, h4⟩
    · rw [h3] at h; cases h
    · rw [e1, e3, h1, zfermat prP h2, zi_one]; exact ⟨fb_same rfl, fb_same rfl⟩
    · rw [h4] at h; cases h
  have k5 : cm .eql (LE a) (-1) = true → eq 32 (PW a (upd PR 0 (bi .sub .u8 (PR 0) 1))) (NU 1) = true ∧ eq 32 (PW a (upd (upd PR 0 246) 31 63)) (NE (NU 1)) = true := by
    try rw [heq]
    subst hPW hIV hLE hRD hNE hNU hPR
    try dsimp only at *
    intro h; rw [hcm] at h; have h1 := legZ_neg.1 (eq_of_beq h); rcases legZ_cases (fe a) with ⟨h2, h3⟩ | ⟨h2, h3, h4⟩ | ⟨h2, h3, h4⟩
    · rw [h3] at h; cases h
    · rw [h4] at h; cases h
    · rw [e1, e3, h1, zfermat prP h2, zi_one, fe_fb]; exact ⟨fb_same rfl, fb_same rfl⟩
  have k6 : cm .eql (LE a) 0 = true ∨ cm .eql (LE a) 1 = true ∨ cm .eql (LE a) (-1) = true := by
    try rw [heq]
    subst hPW hIV hLE hRD hNE hNU hPR
    try dsimp only at *
    rw [hcm]; rcases legZ_range (fe a) with h | h | h <;> rw [h] <;> simp [realCmp]
  clear hPW hIV hLE hRD hNE hNU hPR
  cbv
  refine ⟨fun h => ?_, fun _ => ?_⟩
  · exfalso
    revert h
    try dsimp only [SI.val, SO.val]
    simp [k1, k2]
  cbv
  clear e1 e2 e3
  refine ⟨fun h => ?_, fun h => ?_⟩
  · cbv
    obtain ⟨x1, x2, x3⟩ := k3 h
    try dsimp only [SI.val, SO.val]
    simp [x1, x2, x3]
  cbv
  refine ⟨fun h1 => ?_, fun h1 => ?_⟩
  · cbv
    obtain ⟨x1, x2⟩ := k4 h1
    try dsimp only [SI.val, SO.val]
    simp [x1, x2]
  cbv
  refine ⟨fun h2 => ?_, fun h2 => ?_⟩
  · cbv
    obtain ⟨x1, x2⟩ := k5 h2
    try dsimp only [SI.val, SO.val]
    simp [x1, x2]
  · exfalso
    rcases k6 with h3 | h3 | h3
    · rw [h3] at h; cases h
    · rw [h3] at h1; cases h1
    · rw [h3] at h2; cases h2

theorem ok_law_fermat : Sound Tryd.prog G_fermat 7 (bool32C fun _ => true) := by
  refine sound_each (n := 83) (rs := [.tmp 2]) (sc := sc_law_fermat.1) mixed Tryd.func7 rfl rfl rfl rfl sc_law_fermat.2 ?_
  intro vs cs r h
  unfold bool32C at h
  split at h
  · rename_i a
    cases h
    exact ⟨by simp, fun hcs hwf => ⟨_, envOK tabOK ((.cons (ok_powF G_fermat) (.cons (ok_invertF.sub (sub_of (by decide))) (.cons (ok_legendreF.sub (sub_of (by decide))) (.cons (ok_reduceZ G_fermat) (.cons (ok_negZ G_fermat (ok_less.sub (sub_of (by decide)))) (.cons (ok_numberZ G_fermat) (.cons (ok_prime G_fermat) .nil)))))))), rfl, walk_law_fermat realOps rfl a (isB (hwf _ (by simp))) _ rfl _ rfl _ rfl _ rfl _ rfl _ rfl _ rfl ⟩⟩
  · cases h
end Go.Proofs.YtnfbjfbndnmhmaaDoor
