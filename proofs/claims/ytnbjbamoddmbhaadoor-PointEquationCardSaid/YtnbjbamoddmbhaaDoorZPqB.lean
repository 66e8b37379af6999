/-
  Package point: the test, forms, tables.
-/
import Derived.Test.YtnbjbamoddmbhaaDoorZPqA
import Derived.Test.YtnbjbamoddmbhaaDoorZNA
namespace Go.Proofs.YtnbjbamoddmbhaaDoor
open Go Go.Proofs Sx
set_option maxRecDepth 100000
set_option maxHeartbeats 4000000
set_option linter.unusedVariables false
set_option linter.unusedSimpArgs false

def sc_pton : { c : SC // strip (body Tryd.f26) = c } := ⟨_, by cbv⟩
theorem walk_pton (A : Ops) (hA : A = realOps) (f : Nat → Int) (hb : IsBytes 64 f) (CA : (Nat → Int) → Bool) (hCA : CA = canB) (SQ : (Nat → Int) → Nat → Int) (hSQ : SQ = fun f => fb (fe f * fe f)) (MU : (Nat → Int) → (Nat → Int) → Nat → Int) (hMU : MU = fun f g => fb (fe f * fe g)) (AD : (Nat → Int) → (Nat → Int) → Nat → Int) (hAD : AD = fun f g => fb (fe f + fe g)) (SU : (Nat → Int) → (Nat → Int) → Nat → Int) (hSU : SU = fun f g => fb (fe f - fe g)) (R : (Nat → Int) → Bool) (hR : R = onB)  :
    Walk (mkEnv A tab.1 Gpt [(46, bool32C CA), (38, un32C SQ), (41, bin32C MU), (42, bin32C AD), (39, bin32C SU)] []) sc_pton.1 34 [.tmp 2] [.arr .u8 64 f] (.bool (.sym (R f))) := by
  obtain ⟨bi, cm, un, cv, na, eq⟩ := A
  have hbi : bi = realBin := congrArg Ops.bin hA
  have hcm : cm = realCmp := congrArg Ops.cmp hA
  have hna : na = Int.toNat := congrArg Ops.nat hA
  have hcv : cv = fun k n => k.wrap n := congrArg Ops.cnv hA
  have heq : eq = realEqA := congrArg Ops.eqA hA
  clear hA
  refine ⟨?_⟩
  cbv
  refine ⟨fun h => ?_, fun h => ?_⟩
  · cbv
    have hh := mor_yes (a := CA f) (b := CA (nx 32 f)) h
    subst hCA hR
    exact on_no hh
  · cbv
    have hh := mor_no (a := CA f) (b := CA (nx 32 f)) h
    subst hCA hR hSQ hMU hAD hSU heq
    exact on_is (fe_of pt_curve) (fe_of pt_one) hh

theorem ok_pton : Sound Tryd.prog Gpt 26 (onPC onB) := by
  refine sound_each (n := 34) (rs := [.tmp 2]) (sc := sc_pton.1) mixed Tryd.func26 rfl rfl rfl rfl sc_pton.2 ?_
  intro vs cs r h
  unfold onPC at h
  split at h
  · rename_i f
    cases h
    exact ⟨by simp, fun hcs hwf => ⟨_, envOK tabOK ((.cons (ok_canonF Gpt) (.cons (ok_squareZ Gpt) (.cons (ok_mulZ Gpt) (.cons (ok_addZ Gpt) (.cons (ok_subZ Gpt (ok_less.sub (sub_of (by decide)))) .nil)))))), rfl, walk_pton realOps rfl f (isB64 (hwf _ (by simp))) _ rfl _ rfl _ rfl _ rfl _ rfl _ rfl ⟩⟩
  · cases h
def sc_ptenc : { c : SC // strip (body Tryd.f28) = c } := ⟨_, by cbv⟩
theorem walk_ptenc (A : Ops) (hA : A = realOps) (f : Nat → Int) (hb : IsBytes 64 f) (ON : (Nat → Int) → Bool) (hON : ON = onB) (R : (Nat → Int) → Nat → Int) (hR : R = encF) (E : (Nat → Int) → Int) (hE : E = offE)  :
    Walk (mkEnv A tab.1 Gpt [(26, onPC ON)] []) sc_ptenc.1 21 [.cell 2 23, .tmp 3] [.arr .u8 64 f] (.tup [.arr .u8 32 (R f), .int .i64 (.sym (E f))]) := by
  obtain ⟨bi, cm, un, cv, na, eq⟩ := A
  have hbi : bi = realBin := congrArg Ops.bin hA
  have hcm : cm = realCmp := congrArg Ops.cmp hA
  have hna : na = Int.toNat := congrArg Ops.nat hA
  have hcv : cv = fun k n => k.wrap n := congrArg Ops.cnv hA
  have heq : eq = realEqA := congrArg Ops.eqA hA
  clear hA
  refine ⟨?_⟩
  cbv
  refine ⟨fun h => ?_, fun h => ?_⟩
  · cbv
    have hh := mnot_yes (a := ON f) h
    subst hON hR hE
    exact off_off hh
  · cbv
    have hh := mnot_no (a := ON f) h
    subst hON hR hE hbi
    exact ⟨enc_is ⟨hh⟩ hb, off_on hh, trivial⟩

theorem ok_ptenc : Sound Tryd.prog Gpt 28 (encC encF offE) := by
  refine sound_each (n := 21) (rs := [.cell 2 23, .tmp 3]) (sc := sc_ptenc.1) mixed Tryd.func28 rfl rfl rfl rfl sc_ptenc.2 ?_
  intro vs cs r h
  unfold encC at h
  split at h
  · rename_i f
    cases h
    exact ⟨by simp, fun hcs hwf => ⟨_, envOK tabOK ((.cons (ok_pton) .nil)), rfl, walk_ptenc realOps rfl f (isB64 (hwf _ (by simp))) _ rfl _ rfl _ rfl ⟩⟩
  · cases h
end Go.Proofs.YtnbjbamoddmbhaaDoor
