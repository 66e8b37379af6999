/-
  ScalarInverts holds for every input: the walk.
-/
import Derived.Test.YtfpeolihnaeolaaDoorScalL
import Derived.Test.YtfpeolihnaeolaaDoorScalD
namespace Go.Proofs.YtfpeolihnaeolaaDoor
open Go Go.Proofs Sx
set_option maxRecDepth 100000
set_option maxHeartbeats 4000000
set_option linter.unusedVariables false
set_option linter.unusedSimpArgs false

def gl_sinverts : GL := [v_order, v_mult]
abbrev G_sinverts : Nat → AV := lookGL gl_sinverts
def sc_law_sinverts : { c : SC // strip (body Tryd.f11) = c } := ⟨_, by cbv⟩
theorem walk_law_sinverts (A : Ops) (hA : A = realOps) (a : Nat → Int) (ha : IsBytes 32 a) (AD : (Nat → Int) → (Nat → Int) → Nat → Int) (hAD : AD = fun f g => sb (se f + se g)) (MA : (Nat → Int) → (Nat → Int) → (Nat → Int) → Nat → Int) (hMA : MA = fun a b c => sb (se a * se b + se c)) (CU : (Nat → Int) → Nat → Int) (hCU : CU = fun f => sb (se f)) (NU : Int → Nat → Int) (hNU : NU = fun x => sb (zi lN x)) (LT : (Nat → Int) → (Nat → Int) → Bool) (hLT : LT = ltB) (IV : (Nat → Int) → Nat → Int) (hIV : IV = fun f => sb (zinv (se f))) (OR : Nat → Int) (hOR : OR = byt lI)  :
    Walk (mkEnv A tab.1 G_sinverts [(28, bin32C AD), (26, tri32C MA), (27, un32C CU), (24, numberC NU), (29, bool232C LT), (34, un32C IV), (25, primeC OR)] []) sc_law_sinverts.1 41 [.tmp 2] [.arr .u8 32 a] (.bool (.sym true)) := by
  obtain ⟨bi, cm, un, cv, na, eq⟩ := A
  have hbi : bi = realBin := congrArg Ops.bin hA
  have hcm : cm = realCmp := congrArg Ops.cmp hA
  have hna : na = Int.toNat := congrArg Ops.nat hA
  have hcv : cv = fun k n => k.wrap n := congrArg Ops.cnv hA
  have heq : eq = realEqA := congrArg Ops.eqA hA
  clear hA
  refine ⟨?_⟩
  have k1 : eq 32 (AD (IV (NU 2)) (IV (NU 2))) (NU 1) = true := by
    try rw [heq]
    subst hAD hMA hCU hNU hLT hIV hOR
    try dsimp only at *
    try simp only [se_sb, zi_one]
    exact sb_same inv_two
  have k2 : LT (IV a) OR = true := by
    try rw [heq]
    subst hAD hMA hCU hNU hLT hIV hOR
    try dsimp only at *
    exact canon_s2 _
  have k3 : eq 32 (CU a) (NU 0) = true → eq 32 (IV a) (NU 0) = true := by
    try rw [heq]
    subst hAD hMA hCU hNU hLT hIV hOR
    try dsimp only at *
    simp only [zi_zero, sb_inj]; intro h; rw [of_decide_eq_true h, zinv_zero (by decide)]; rfl
  have k4 : eq 32 (CU a) (NU 0) = false → eq 32 (MA a (IV a) (NU 0)) (NU 1) = true ∧ eq 32 (IV (IV a)) (CU a) = true := by
    try rw [heq]
    subst hAD hMA hCU hNU hLT hIV hOR
    try dsimp only at *
    simp only [se_sb, zi_zero, zi_one, sb_inj]; intro h; have h1 := of_decide_eq_false h; exact ⟨decide_eq_true (by rw [mul_zinv prL h1]; grind), decide_eq_true (zinv_zinv' prL h1)⟩
  clear hAD hMA hCU hNU hLT hIV hOR
  cbv
  refine ⟨fun h => ?_, fun _ => ?_⟩
  · exfalso
    revert h
    try dsimp only [SI.val, SO.val]
    simp [k1, k2]
  cbv
  refine ⟨fun h => ?_, fun h => ?_⟩
  · cbv
    exact k3 h
  · cbv
    obtain ⟨x1, x2⟩ := k4 h
    try dsimp only [SI.val, SO.val]
    simp [x1, x2]

theorem ok_law_sinverts : Sound Tryd.prog G_sinverts 11 (bool32C fun _ => true) := by
  refine sound_each (n := 41) (rs := [.tmp 2]) (sc := sc_law_sinverts.1) mixed Tryd.func11 rfl rfl rfl rfl sc_law_sinverts.2 ?_
  intro vs cs r h
  unfold bool32C at h
  split at h
  · rename_i a
    cases h
    exact ⟨by simp, fun hcs hwf => ⟨_, envOK tabOK ((.cons (ok_addS32.sub (sub_of (by decide))) (.cons (ok_muladd.sub (sub_of (by decide))) (.cons (ok_cut.sub (sub_of (by decide))) (.cons (ok_numberS G_sinverts) (.cons (ok_llessS G_sinverts) (.cons (ok_invertS.sub (sub_of (by decide))) (.cons (ok_orderS.sub (sub_of (by decide))) .nil)))))))), rfl, walk_law_sinverts realOps rfl a (isB (hwf _ (by simp))) _ rfl _ rfl _ rfl _ rfl _ rfl _ rfl _ rfl ⟩⟩
  · cases h
end Go.Proofs.YtfpeolihnaeolaaDoor
