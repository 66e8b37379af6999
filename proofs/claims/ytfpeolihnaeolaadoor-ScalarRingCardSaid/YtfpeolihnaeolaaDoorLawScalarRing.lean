/-
  ScalarRing holds for every input: the walk.
-/
import Derived.Test.YtfpeolihnaeolaaDoorScalL
namespace Go.Proofs.YtfpeolihnaeolaaDoor
open Go Go.Proofs Sx
set_option maxRecDepth 100000
set_option maxHeartbeats 4000000
set_option linter.unusedVariables false
set_option linter.unusedSimpArgs false

def gl_sring : GL := [v_mult]
abbrev G_sring : Nat → AV := lookGL gl_sring
def sc_law_sring : { c : SC // strip (body Tryd.f10) = c } := ⟨_, by cbv⟩
theorem walk_law_sring (A : Ops) (hA : A = realOps) (a : Nat → Int) (b : Nat → Int) (c : Nat → Int) (ha : IsBytes 32 a) (hb : IsBytes 32 b) (hc : IsBytes 32 c) (AD : (Nat → Int) → (Nat → Int) → Nat → Int) (hAD : AD = fun f g => sb (se f + se g)) (NE : (Nat → Int) → Nat → Int) (hNE : NE = fun f => sb (- se f)) (MA : (Nat → Int) → (Nat → Int) → (Nat → Int) → Nat → Int) (hMA : MA = fun a b c => sb (se a * se b + se c)) (CU : (Nat → Int) → Nat → Int) (hCU : CU = fun f => sb (se f)) (NU : Int → Nat → Int) (hNU : NU = fun x => sb (zi lN x))  :
    Walk (mkEnv A tab.1 G_sring [(28, bin32C AD), (32, un32C NE), (26, tri32C MA), (27, un32C CU), (24, numberC NU)] []) sc_law_sring.1 132 [.tmp 6] [.arr .u8 32 a, .arr .u8 32 b, .arr .u8 32 c] (.bool (.sym true)) := by
  obtain ⟨bi, cm, un, cv, na, eq⟩ := A
  have hbi : bi = realBin := congrArg Ops.bin hA
  have hcm : cm = realCmp := congrArg Ops.cmp hA
  have hna : na = Int.toNat := congrArg Ops.nat hA
  have hcv : cv = fun k n => k.wrap n := congrArg Ops.cnv hA
  have heq : eq = realEqA := congrArg Ops.eqA hA
  clear hA
  refine ⟨?_⟩
  have k1 : eq 32 (MA (NU 2) (NU 2) (NU 2)) (NU 6) = true := by
    try rw [heq]
    subst hAD hNE hMA hCU hNU
    try dsimp only at *
    try simp only [se_sb]
    exact sb_same (by decide +kernel)
  have k2 : eq 32 (AD a b) (AD b a) = true := by
    try rw [heq]
    subst hAD hNE hMA hCU hNU
    try dsimp only at *
    try simp only [se_sb, zi_zero, zi_one]
    exact sb_same (by grind)
  have k3 : eq 32 (AD (AD a b) c) (AD a (AD b c)) = true := by
    try rw [heq]
    subst hAD hNE hMA hCU hNU
    try dsimp only at *
    try simp only [se_sb, zi_zero, zi_one]
    exact sb_same (by grind)
  have k4 : eq 32 (AD a (NE a)) (NU 0) = true := by
    try rw [heq]
    subst hAD hNE hMA hCU hNU
    try dsimp only at *
    try simp only [se_sb, zi_zero, zi_one]
    exact sb_same (by grind)
  have k5 : eq 32 (NE (NE a)) (CU a) = true := by
    try rw [heq]
    subst hAD hNE hMA hCU hNU
    try dsimp only at *
    try simp only [se_sb, zi_zero, zi_one]
    exact sb_same (by grind)
  have k6 : eq 32 (MA a b (NU 0)) (MA b a (NU 0)) = true := by
    try rw [heq]
    subst hAD hNE hMA hCU hNU
    try dsimp only at *
    try simp only [se_sb, zi_zero, zi_one]
    exact sb_same (by grind)
  have k7 : eq 32 (MA (MA a b (NU 0)) c (NU 0)) (MA a (MA b c (NU 0)) (NU 0)) = true := by
    try rw [heq]
    subst hAD hNE hMA hCU hNU
    try dsimp only at *
    try simp only [se_sb, zi_zero, zi_one]
    exact sb_same (by grind)
  have k8 : eq 32 (MA a (NU 1) (NU 0)) (AD a (NU 0)) = true := by
    try rw [heq]
    subst hAD hNE hMA hCU hNU
    try dsimp only at *
    try simp only [se_sb, zi_zero, zi_one]
    exact sb_same (by grind)
  have k9 : eq 32 (MA a (NU 0) b) (AD b (NU 0)) = true := by
    try rw [heq]
    subst hAD hNE hMA hCU hNU
    try dsimp only at *
    try simp only [se_sb, zi_zero, zi_one]
    exact sb_same (by grind)
  have k10 : eq 32 (MA a (AD b c) (NU 0)) (AD (MA a b (NU 0)) (MA a c (NU 0))) = true := by
    try rw [heq]
    subst hAD hNE hMA hCU hNU
    try dsimp only at *
    try simp only [se_sb, zi_zero, zi_one]
    exact sb_same (by grind)
  have k11 : eq 32 (MA a b c) (AD (MA a b (NU 0)) c) = true := by
    try rw [heq]
    subst hAD hNE hMA hCU hNU
    try dsimp only at *
    try simp only [se_sb, zi_zero, zi_one]
    exact sb_same (by grind)
  have k12 : eq 32 (MA (NE a) b (MA a b (NU 0))) (NU 0) = true := by
    try rw [heq]
    subst hAD hNE hMA hCU hNU
    try dsimp only at *
    try simp only [se_sb, zi_zero, zi_one]
    exact sb_same (by grind)
  clear hAD hNE hMA hCU hNU
  cbv
  refine ⟨fun h => ?_, fun _ => ?_⟩
  · exfalso
    revert h
    try dsimp only [SI.val, SO.val]
    simp [k1]
  cbv
  refine ⟨fun h => ?_, fun _ => ?_⟩
  · exfalso
    revert h
    try dsimp only [SI.val, SO.val]
    simp [k2, k3]
  cbv
  refine ⟨fun h => ?_, fun _ => ?_⟩
  · exfalso
    revert h
    try dsimp only [SI.val, SO.val]
    simp [k4, k5]
  cbv
  refine ⟨fun h => ?_, fun _ => ?_⟩
  · exfalso
    revert h
    try dsimp only [SI.val, SO.val]
    simp [k6, k7]
  cbv
  refine ⟨fun h => ?_, fun _ => ?_⟩
  · exfalso
    revert h
    try dsimp only [SI.val, SO.val]
    simp [k8, k9]
  cbv
  try dsimp only [SI.val, SO.val]
  simp [k10, k11, k12]

theorem ok_law_sring : Sound Tryd.prog G_sring 10 (bool332C fun _ _ _ => true) := by
  refine sound_each (n := 132) (rs := [.tmp 6]) (sc := sc_law_sring.1) mixed Tryd.func10 rfl rfl rfl rfl sc_law_sring.2 ?_
  intro vs cs r h
  unfold bool332C at h
  split at h
  · rename_i a b c
    cases h
    exact ⟨by simp, fun hcs hwf => ⟨_, envOK tabOK ((.cons (ok_addS32) (.cons (ok_negS) (.cons (ok_muladd) (.cons (ok_cut) (.cons (ok_numberS Gmul) .nil)))))), rfl, walk_law_sring realOps rfl a b c (isB (hwf _ (by simp))) (isB (hwf _ (by simp))) (isB (hwf _ (by simp))) _ rfl _ rfl _ rfl _ rfl _ rfl ⟩⟩
  · cases h
end Go.Proofs.YtfpeolihnaeolaaDoor
