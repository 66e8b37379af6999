/-
  FieldPows holds for every input: the walk.
-/
import Derived.Test.YtnfbjfbndnmhmaaDoorZRefQW
import Derived.Test.YtnfbjfbndnmhmaaDoorZFieldP
namespace Go.Proofs.YtnfbjfbndnmhmaaDoor
open Go Go.Proofs Sx
set_option maxRecDepth 100000
set_option maxHeartbeats 4000000
set_option linter.unusedVariables false
set_option linter.unusedSimpArgs false

def gl_fpows : GL := [v_two, v_prime]
abbrev G_fpows : Nat → AV := lookGL gl_fpows
def sc_law_fpows : { c : SC // strip (body Tryd.f3) = c } := ⟨_, by cbv⟩
theorem walk_law_fpows (A : Ops) (hA : A = realOps) (a : Nat → Int) (e : Nat → Int)  (PW : (Nat → Int) → (Nat → Int) → Nat → Int) (hPW : PW = fun f e => fb (zp (fe f) (num 32 e).toNat)) (IV : (Nat → Int) → Nat → Int) (hIV : IV = fun f => fb (zinv (fe f))) (RP : (Nat → Int) → (Nat → Int) → Nat → Int) (hRP : RP = fun f e => fb (zp (fe f) (num 32 e).toNat)) (RI : (Nat → Int) → Nat → Int) (hRI : RI = fun f => fb (zinv (fe f)))  :
    Walk (mkEnv A tab.1 G_fpows [(14, bin32C PW), (16, un32C IV), (15, bin32C RP), (17, un32C RI)] []) sc_law_fpows.1 19 [.tmp 4] [.arr .u8 32 a, .arr .u8 32 e] (.bool (.sym true)) := by
  obtain ⟨bi, cm, un, cv, na, eq⟩ := A
  have hbi : bi = realBin := congrArg Ops.bin hA
  have hcm : cm = realCmp := congrArg Ops.cmp hA
  have hna : na = Int.toNat := congrArg Ops.nat hA
  have hcv : cv = fun k n => k.wrap n := congrArg Ops.cnv hA
  have heq : eq = realEqA := congrArg Ops.eqA hA
  clear hA
  have k1 : eq 32 (PW a e) (RP a e) = true := by
    try rw [heq]
    subst hPW hIV hRP hRI
    try dsimp only at *
    exact fb_same rfl
  have k2 : eq 32 (IV a) (RI a) = true := by
    try rw [heq]
    subst hPW hIV hRP hRI
    try dsimp only at *
    exact fb_same rfl
  clear hPW hIV hRP hRI
  refine ⟨?_⟩
  cbv
  simp [k1, k2]

theorem ok_law_fpows : Sound Tryd.prog G_fpows 3 (bool232C fun _ _ => true) := by
  refine sound_each (n := 19) (rs := [.tmp 4]) (sc := sc_law_fpows.1) mixed Tryd.func3 rfl rfl rfl rfl sc_law_fpows.2 ?_
  intro vs cs r h
  unfold bool232C at h
  split at h
  · rename_i a e
    cases h
    exact ⟨by simp, fun hcs hwf => ⟨_, envOK tabOK ((.cons (ok_powF G_fpows) (.cons (ok_invertF.sub (sub_of (by decide))) (.cons (ok_qpowB.sub (sub_of (by decide))) (.cons (ok_qinvB.sub (sub_of (by decide))) .nil))))), rfl, walk_law_fpows realOps rfl a e  _ rfl _ rfl _ rfl _ rfl ⟩⟩
  · cases h
end Go.Proofs.YtnfbjfbndnmhmaaDoor
