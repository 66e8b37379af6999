/- What a number is modulo p: FieldCanon holds for every input. -/
import Derived.Test.YtnfbjfbndnmhmaaLawF
import Derived.Test.YtnfbjfbndnmhmaaLwA
import Derived.Test.YtnfbjfbndnmhmaaSxQ
import Derived.Test.YtnfbjfbndnmhmaaRows
namespace Go.Proofs.Ytnfbjfbndnmhmaa
open Go Go.Proofs Sx
set_option maxRecDepth 100000
set_option maxHeartbeats 4000000
set_option linter.unusedVariables false

def sc_law_canon : { c : SC // strip (body Try.f3) = c } := ⟨_, by cbv⟩
theorem walk_law_canon (A : Ops) (hA : A = realOps) (a : Nat → Int) (ha : IsBytes 32 a) (PR : Nat → Int) (hPR : PR = byt p25) (RD : (Nat → Int) → Nat → Int) (hRD : RD = fun f => byt (redN f)) (LT : (Nat → Int) → (Nat → Int) → Bool) (hLT : LT = ltB)
    (CA : (Nat → Int) → Bool) (hCA : CA = canB) (S : (Nat → Int) → (Nat → Int) → Nat → Int) (hS : S = fun f g => byt (sumN f g)) (C : (Nat → Int) → (Nat → Int) → Int) (hC : C = fun f g => sumC f g 32)
    (AD : (Nat → Int) → (Nat → Int) → Nat → Int) (hAD : AD = fun f g => byt (addN f g)) (NU : Int → Nat → Int) (hNU : NU = byt) (OD : (Nat → Int) → Bool) (hOD : OD = oddB) (EQ : (Nat → Int) → (Nat → Int) → Bool) (hEQ : EQ = eqB) :
    Walk (mkEnv A tab.1 G0 [(6, primeC PR), (7, un32C RD), (8, bool232C LT), (9, bool32C CA), (10, lplusC S C),
      (11, bin32C AD), (12, numberC NU), (13, bool32C OD), (14, bool232C EQ)] []) sc_law_canon.1 86 [.tmp 2] [.arr .u8 32 a] (.bool (.sym true)) := by
  obtain ⟨bi, cm, un, cv, na, eq⟩ := A
  have hbi : bi = realBin := congrArg Ops.bin hA
  have hcm : cm = realCmp := congrArg Ops.cmp hA
  have heq : eq = realEqA := congrArg Ops.eqA hA
  clear hA
  refine ⟨?_⟩
  have k1 : LT (RD a) PR = true := by rw [hLT, hRD, hPR]; exact canon_1
  have k2 : CA a = LT a PR := by rw [hLT, hCA, hPR]; exact canon_2
  have k3 : CA (RD a) = true := by rw [hCA, hRD]; exact canon_3
  have k4 : eq 32 a (RD a) = true ∨ eq 32 a (S (RD a) PR) = true ∨ eq 32 a (S (S (RD a) PR) PR) = true := by rw [heq, hS, hRD, hPR]; exact canon_4 ha
  have k5 : OD a = cm .eql (bi .rem .u8 (RD a 0) 2) 1 := by rw [hcm, hbi, hOD, hRD]; exact canon_5
  have k6 : EQ a (RD a) = true := by rw [hEQ, hRD]; exact canon_6
  have k7 : EQ (RD a) (S (RD a) PR) = true := by rw [hEQ, hRD, hS, hPR]; exact canon_7
  have k8 : EQ a (AD a (NU 1)) = false := by rw [hEQ, hAD, hNU]; exact canon_8
  have k9 : eq 32 (RD (S (RD a) PR)) (RD a) = true := by rw [heq, hRD, hS, hPR]; exact canon_9
  clear hPR hRD hLT hCA hS hC hAD hNU hOD hEQ
  cbv
  refine ⟨fun h => ?_, fun _ => ?_⟩
  · exfalso
    simp [k1, k2, k3] at h
  cbv
  refine ⟨fun h => ?_, fun _ => ?_⟩
  · exfalso
    revert h k4
    cases eq 32 a (RD a) <;> cases eq 32 a (S (RD a) PR) <;> cases eq 32 a (S (S (RD a) PR) PR) <;> simp
  cbv
  refine ⟨fun h => ?_, fun _ => ?_⟩
  · exfalso
    clear k1 k2 k3 k4 k9
    revert h
    dsimp only [SI.val, SO.val]
    simp [k5, k6, k7, k8]
  cbv
  exact k9
theorem ok_law_canon : Sound Try.prog G0 3 (bool32C fun _ => true) := by
  refine sound_each (n := 86) (rs := [.tmp 2]) (sc := sc_law_canon.1) mixed Try.func3 rfl rfl rfl rfl sc_law_canon.2 ?_
  intro vs cs r h
  unfold bool32C at h
  split at h
  · rename_i f
    cases h
    exact ⟨by simp, fun hcs hwf => ⟨_, envOK tabOK (.cons (ok_prime G0) (.cons ok_reduceF (.cons (ok_lless G0) (.cons ok_canonF (.cons (ok_lplus G0) (.cons ok_addF (.cons (ok_number G0) (.cons ok_oddF (.cons ok_equalF .nil))))))))), rfl,
      walk_law_canon realOps rfl f (isB (hwf _ (by simp))) _ rfl _ rfl _ rfl _ rfl _ rfl _ rfl _ rfl _ rfl _ rfl _ rfl⟩⟩
  · cases h

section
open Go.ChangeShapes Go.WideShapes Go.ChangeAt Go.RowKit
theorem own : ownKnob Try.prog.godebug = none := by kernel_rfl
theorem contract_canon (H : Type) (enc : TypeId × Value → H) (W : World) (base : Nat) (args : Array Value) (ds gs : List (DataW H)) (before : List MemPlace)
    (hval : ∀ (j : Nat) t v, Try.f3.params[j]? = some t → args[j]? = some v → Value.okWide Try.prog W .any base t v)
    (hW : DataW.Whole enc Try.prog Try.f3.params.toList Rows.fieldCanonSpec.vars false W args.toList ds gs before) (hL : laidMet Try.prog [] W) :
    Calls Try.prog 3 args W fun e W' => ∃ v, e = .returned v ∧ Rows.fieldCanonSpec.post enc Try.prog Try.f3 false true false false W args v W' :=
  law32 (n := 1) (t := 22) (tb := 4) (by kernel_rfl) rfl (by kernel_rfl) (by kernel_rfl) rfl (by kernel_rfl) rfl (fun ds h => match ds, h with | [_], _ => rfl) ok_law_canon Try.func3 rfl rfl (fun fs h => match fs, h with | [_], _ => rfl)
    (globOK_of hL rfl) hval hW
end
end Go.Proofs.Ytnfbjfbndnmhmaa
