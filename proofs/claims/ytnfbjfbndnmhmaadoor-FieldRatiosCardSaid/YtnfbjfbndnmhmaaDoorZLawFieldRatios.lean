/-
  FieldRatios holds for every input: the walk.
-/
import Derived.Test.YtnfbjfbndnmhmaaDoorZRefQX
import Derived.Test.YtnfbjfbndnmhmaaDoorZFieldS
import Derived.Test.YtnfbjfbndnmhmaaDoorZFieldP
namespace Go.Proofs.YtnfbjfbndnmhmaaDoor
open Go Go.Proofs Sx
set_option maxRecDepth 100000
set_option maxHeartbeats 4000000
set_option linter.unusedVariables false
set_option linter.unusedSimpArgs false

def gl_fratios : GL := [v_eighth, v_root, v_half, v_twice, v_prime]
abbrev G_fratios : Nat → AV := lookGL gl_fratios
def sc_law_fratios : { c : SC // strip (body Tryd.f11) = c } := ⟨_, by cbv⟩
theorem walk_law_fratios (A : Ops) (hA : A = realOps) (u : Nat → Int) (v : Nat → Int)  (RR : (Nat → Int) → (Nat → Int) → Nat → Int) (hRR : RR = sqrtR) (SR : (Nat → Int) → (Nat → Int) → Nat → Int) (hSR : SR = sqrtR) (LE : (Nat → Int) → Int) (hLE : LE = fun f => legZ (fe f)) (RL : (Nat → Int) → Int) (hRL : RL = fun f => legZ (fe f)) (RB : (Nat → Int) → (Nat → Int) → Bool) (hRB : RB = sqrtB) (SB : (Nat → Int) → (Nat → Int) → Bool) (hSB : SB = sqrtB)  :
    Walk (mkEnv A tab.1 G_fratios [(38, sqrtC RR RB), (39, sqrtC SR SB), (31, leg32C LE), (40, leg32C RL)] []) sc_law_fratios.1 36 [.tmp 4] [.arr .u8 32 u, .arr .u8 32 v] (.bool (.sym true)) := by
  obtain ⟨bi, cm, un, cv, na, eq⟩ := A
  have hbi : bi = realBin := congrArg Ops.bin hA
  have hcm : cm = realCmp := congrArg Ops.cmp hA
  have hna : na = Int.toNat := congrArg Ops.nat hA
  have hcv : cv = fun k n => k.wrap n := congrArg Ops.cnv hA
  have heq : eq = realEqA := congrArg Ops.eqA hA
  clear hA
  have k1 : eq 32 (SR u v) (RR u v) = true := by
    try rw [heq]
    subst hRR hSR hLE hRL hRB hSB
    try dsimp only at *
    exact fb_same rfl
  have k2 : SB u v = RB u v := by
    try rw [heq]
    subst hRR hSR hLE hRL hRB hSB
    try dsimp only at *
    all_goals rfl
  have k3 : cm .eql (LE u) (RL u) = true := by
    try rw [heq]
    subst hRR hSR hLE hRL hRB hSB
    try dsimp only at *
    all_goals (rw [hcm]; exact beq_self_eq_true _)
  clear hRR hSR hLE hRL hRB hSB
  refine ⟨?_⟩
  cbv
  simp [k1, k2, k3]

theorem ok_law_fratios : Sound Tryd.prog G_fratios 11 (bool232C fun _ _ => true) := by
  refine sound_each (n := 36) (rs := [.tmp 4]) (sc := sc_law_fratios.1) mixed Tryd.func11 rfl rfl rfl rfl sc_law_fratios.2 ?_
  intro vs cs r h
  unfold bool232C at h
  split at h
  · rename_i u v
    cases h
    exact ⟨by simp, fun hcs hwf => ⟨_, envOK tabOK ((.cons (ok_qratioB.sub (sub_of (by decide))) (.cons (ok_sqrtF.sub (sub_of (by decide))) (.cons (ok_legendreF.sub (sub_of (by decide))) (.cons (ok_qlegB.sub (sub_of (by decide))) .nil))))), rfl, walk_law_fratios realOps rfl u v  _ rfl _ rfl _ rfl _ rfl _ rfl _ rfl ⟩⟩
  · cases h
end Go.Proofs.YtnfbjfbndnmhmaaDoor
