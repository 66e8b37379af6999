/-
  ScalarDigits holds for every input: the walk.
-/
import Derived.Test.YtfpeolihnaeolaaDigA
import Derived.Test.YtfpeolihnaeolaaDigB
import Derived.Test.YtfpeolihnaeolaaDigS
namespace Go.Proofs.Ytfpeolihnaeolaa
open Go Go.Proofs Sx
set_option maxRecDepth 100000
set_option maxHeartbeats 4000000
set_option linter.unusedVariables false
set_option linter.unusedSimpArgs false

def sc_law_sdig : { c : SC // strip (body Try.f4) = c } := ⟨_, by cbv⟩
theorem walk_law_sdig (A : Ops) (hA : A = realOps) (a : Nat → Int) (w : Int) (ha : IsBytes 32 a) (DD : (Nat → Int) → Int → Nat → Int) (hDD : DD = digF) (DR : (Nat → Int) → Int → Nat → Int) (hDR : DR = digF) (SM : Nat → (Nat → Int) → Nat → (Nat → Int) → Bool) (hSM : SM = sameB) (LL : Int → Nat) (hLL : LL = digL) (EE : Int → Int) (hEE : EE = digE)  :
    Walk (mkEnv A tab.1 G0 [(7, digitsC DD LL EE), (8, digitsC DR LL EE), (9, sameC SM)] []) sc_law_sdig.1 43 [.tmp 4] [.arr .u8 32 a, .int .i64 (.sym w)] (.bool (.sym true)) := by
  obtain ⟨bi, cm, un, cv, na, eq⟩ := A
  have hbi : bi = realBin := congrArg Ops.bin hA
  have hcm : cm = realCmp := congrArg Ops.cmp hA
  have hna : na = Int.toNat := congrArg Ops.nat hA
  have hcv : cv = fun k n => k.wrap n := congrArg Ops.cnv hA
  have heq : eq = realEqA := congrArg Ops.eqA hA
  clear hA
  have k1 : cm .neq (EE 2) 0 = false := by rw [hcm, hEE, dig_two.1]; rfl
  have k2 : cm .neq (Int.ofNat (LL 2)) 257 = false := by rw [hcm, hLL, dig_two.2]; rfl
  have k3 : SM (LL w) (DD a w) (LL w) (DR a w) = true := by rw [hSM, hDD, hDR]; exact sameB_self _ _
  have k4 : cm .eql (EE w) (EE w) = true := by rw [hcm]; show (EE w == EE w) = true; simp
  clear hDD hDR hSM hLL hEE
  refine ⟨?_⟩
  cbv
  have k5 : cm .neq ((LL 2 : Nat) : Int) 257 = false := k2
  refine ⟨fun h => ?_, fun _ => ?_⟩
  · exfalso
    revert h
    try dsimp only [SI.val, SO.val]
    simp [k1, k2, k5]
  cbv
  refine ⟨⟨Nat.le_refl _⟩, ⟨Nat.le_refl _⟩, ?_⟩
  show (match SM (LL w) (fun j => DD a w (0 + j)) (LL w) (fun j => DR a w (0 + j)) with | true => cm .eql (EE w) (EE w) | false => false) = true
  rw [zero_off, zero_off, k3]
  exact k4

theorem ok_law_sdig : Sound Try.prog G0 4 (boolAIC fun _ _ => true) := by
  refine sound_sym (n := 43) (rs := [.tmp 4]) (sc := sc_law_sdig.1) mixed Try.func4 rfl rfl rfl rfl sc_law_sdig.2 ?_
  intro vs cs r h
  unfold boolAIC at h
  split at h
  · rename_i a w
    cases h
    exact ⟨by simp, fun hcs hwf => ⟨_, envOK tabOK ((.cons (ok_sdigits G0) (.cons (ok_rdigits G0) (.cons (ok_same G0) .nil)))), rfl, walk_law_sdig realOps rfl a w.val (isB (hwf _ (by simp))) _ rfl _ rfl _ rfl _ rfl _ rfl ⟩⟩
  · cases h
end Go.Proofs.Ytfpeolihnaeolaa
