/-
  symbols holds for every input: the walk.
-/
import Derived.Test.YtnfbjfbndnmhmaaDoorFieldK
namespace Go.Proofs.YtnfbjfbndnmhmaaDoor
open Go Go.Proofs Sx
set_option maxRecDepth 100000
set_option maxHeartbeats 4000000
set_option linter.unusedVariables false
set_option linter.unusedSimpArgs false

def gl_symbols : GL := [v_half, v_twice]
abbrev G_symbols : Nat → AV := lookGL gl_symbols
def sc_law_symbols : { c : SC // strip (body Tryd.f8) = c } := ⟨_, by cbv⟩
theorem walk_law_symbols (A : Ops) (hA : A = realOps) (a : Nat → Int) (b : Nat → Int) (ha : IsBytes 32 a) (hb : IsBytes 32 b) (LE : (Nat → Int) → Int) (hLE : LE = fun f => legZ (fe f)) (MU : (Nat → Int) → (Nat → Int) → Nat → Int) (hMU : MU = fun f g => fb (fe f * fe g)) (NE : (Nat → Int) → Nat → Int) (hNE : NE = fun f => fb (- fe f)) (SQ : (Nat → Int) → Nat → Int) (hSQ : SQ = fun f => fb (fe f * fe f)) (RD : (Nat → Int) → Nat → Int) (hRD : RD = fun f => fb (fe f)) (NU : Int → Nat → Int) (hNU : NU = fun x => fb (zi pN x))  :
    Walk (mkEnv A tab.1 G_symbols [(31, leg32C LE), (18, bin32C MU), (30, un32C NE), (20, un32C SQ), (29, un32C RD), (26, numberC NU)] []) sc_law_symbols.1 54 [.tmp 4] [.arr .u8 32 a, .arr .u8 32 b] (.bool (.sym true)) := by
  obtain ⟨bi, cm, un, cv, na, eq⟩ := A
  have hbi : bi = realBin := congrArg Ops.bin hA
  have hcm : cm = realCmp := congrArg Ops.cmp hA
  have hna : na = Int.toNat := congrArg Ops.nat hA
  have hcv : cv = fun k n => k.wrap n := congrArg Ops.cnv hA
  have heq : eq = realEqA := congrArg Ops.eqA hA
  clear hA
  refine ⟨?_⟩
  have k1 : cm .neq (LE (NE (NU 1))) 1 = false := by
    try rw [heq]
    subst hLE hMU hNE hSQ hRD hNU
    try dsimp only at *
    rw [hcm]; simp only [fe_fb, zi_one]; rw [legZ_one.2 leg_neg_one]; rfl
  have k2 : cm .neq (LE (NU 2)) (-1) = false := by
    try rw [heq]
    subst hLE hMU hNE hSQ hRD hNU
    try dsimp only at *
    rw [hcm]; simp only [fe_fb, zi_two]; rw [legZ_two]; rfl
  have k3 : cm .eql (LE a) 0 = eq 32 (RD a) (NU 0) := by
    try rw [heq]
    subst hLE hMU hNE hSQ hRD hNU
    try dsimp only at *
    rw [hcm, zi_zero, fb_inj, Bool.eq_iff_iff]; simp only [realCmp, beq_iff_eq, decide_eq_true_eq]; exact legZ_zero
  have k4 : cm .lss (LE a) (-1) = false := by
    try rw [heq]
    subst hLE hMU hNE hSQ hRD hNU
    try dsimp only at *
    rw [hcm]; rcases legZ_range (fe a) with h | h | h <;> rw [h] <;> rfl
  have k5 : cm .gtr (LE a) 1 = false := by
    try rw [heq]
    subst hLE hMU hNE hSQ hRD hNU
    try dsimp only at *
    rw [hcm]; rcases legZ_range (fe a) with h | h | h <;> rw [h] <;> rfl
  have k6 : cm .eql (LE (MU a b)) (bi .mul .i64 (LE a) (LE b)) = true := by
    try rw [heq]
    subst hLE hMU hNE hSQ hRD hNU
    try dsimp only at *
    rw [hcm, hbi, mul_leg_i64, fe_fb, leg_mul]; exact beq_self_eq_true _
  have k7 : cm .eql (LE (SQ a)) (bi .mul .i64 (LE a) (LE a)) = true := by
    try rw [heq]
    subst hLE hMU hNE hSQ hRD hNU
    try dsimp only at *
    rw [hcm, hbi, mul_leg_i64, fe_fb, leg_mul]; exact beq_self_eq_true _
  clear hLE hMU hNE hSQ hRD hNU
  cbv
  refine ⟨fun h => ?_, fun _ => ?_⟩
  · exfalso
    revert h
    try dsimp only [SI.val, SO.val]
    simp [k1, k2]
  cbv
  refine ⟨fun h => ?_, fun _ => ?_⟩
  · exfalso
    revert h
    try dsimp only [SI.val, SO.val]
    simp [k3, k4, k5]
  cbv
  try dsimp only [SI.val, SO.val]
  simp [k6, k7]

theorem ok_law_symbols : Sound Tryd.prog G_symbols 8 (bool232C fun _ _ => true) := by
  refine sound_each (n := 54) (rs := [.tmp 4]) (sc := sc_law_symbols.1) mixed Tryd.func8 rfl rfl rfl rfl sc_law_symbols.2 ?_
  intro vs cs r h
  unfold bool232C at h
  split at h
  · rename_i a b
    cases h
    exact ⟨by simp, fun hcs hwf => ⟨_, envOK tabOK ((.cons (ok_legendreF.sub (sub_of (by decide))) (.cons (ok_mulZ G_symbols) (.cons (ok_negZ G_symbols (ok_less.sub (sub_of (by decide)))) (.cons (ok_squareZ G_symbols) (.cons (ok_reduceZ G_symbols) (.cons (ok_numberZ G_symbols) .nil))))))), rfl, walk_law_symbols realOps rfl a b (isB (hwf _ (by simp))) (isB (hwf _ (by simp))) _ rfl _ rfl _ rfl _ rfl _ rfl _ rfl ⟩⟩
  · cases h
end Go.Proofs.YtnfbjfbndnmhmaaDoor
