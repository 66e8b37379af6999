/- A number is the sum of its bytes times the powers of 256: FieldDigits holds for every input. -/
import Derived.Test.YtnfbjfbndnmhmaaLawF
import Derived.Test.YtnfbjfbndnmhmaaLwB
namespace Go.Proofs.Ytnfbjfbndnmhmaa
open Go Go.Proofs Sx
set_option maxRecDepth 100000
set_option maxHeartbeats 4000000
set_option linter.unusedVariables false

def sc_law_digits : { c : SC // strip (body Try.f4) = c } := ⟨_, by cbv⟩
theorem walk_law_digits (A : Ops) (hA : A = realOps) (a : Nat → Int) (ha : IsBytes 32 a) (RD : (Nat → Int) → Nat → Int) (hRD : RD = fun f => byt (redN f))
    (AD : (Nat → Int) → (Nat → Int) → Nat → Int) (hAD : AD = fun f g => byt (addN f g)) (MU : (Nat → Int) → (Nat → Int) → Nat → Int) (hMU : MU = fun f g => byt (mulN f g)) (NU : Int → Nat → Int) (hNU : NU = byt)
    (BG : Nat → Int) (hBG : BG = byt 256) (D : Nat → Nat → Int) (hD : D = digN a) (Y : Nat → Nat → Int) (hY : Y = dblN)
    (I : { x : Int // -1 ≤ x ∧ x ≤ 31 } → St) (hI : I = fun x => slots 45 [(1, .own (.arr .u8 32 a)), (3, .own (.arr .u8 32 BG)), (4, .own (.arr .u8 32 (D (x.1 + 1).toNat))), (5, .int .i64 (.sym x.1))])
    (J : { i : Nat // i ≤ 255 } → St) (hJ : J = fun i => slots 45 [(6, .own (.arr .u8 32 (Y i.1))), (7, .int .i64 (.sym (i.1 : Int)))]) :
    Walk (mkEnv A tab.1 G0 [(12, numberC NU), (15, bin32C MU), (11, bin32C AD), (7, un32C RD)]
      [(4, .inv { x : Int // -1 ≤ x ∧ x ≤ 31 } I fun x => (x.1 + 1).toNat), (12, .inv { i : Nat // i ≤ 255 } J fun i => 255 - i.1)]) sc_law_digits.1 45 [.tmp 2] [.arr .u8 32 a] (.bool (.sym true)) := by
  obtain ⟨bi, cm, un, cv, na, eq⟩ := A
  have hbi : bi = realBin := congrArg Ops.bin hA
  have hcm : cm = realCmp := congrArg Ops.cmp hA
  have hna : na = Int.toNat := congrArg Ops.nat hA
  have heq : eq = realEqA := congrArg Ops.eqA hA
  clear hA
  refine ⟨?_⟩
  cbv
  refine ⟨⟨⟨31, by decide, by decide⟩, ?_⟩, fun x _ => ?_⟩
  · subst hI
    cbv
    refine ⟨fun _ _ => rfl, by rw [hBG]; exact big_bytes, fun i _ => ?_, trivial⟩
    rw [hNU, hD]
    show byt 0 i = digN a 32 i
    rw [dig_top]
  · subst hI
    cbv
    obtain ⟨x, h1, h2⟩ := x
    refine ⟨fun h => ?_, fun h => ?_⟩
    · cbv
      have hx : 0 ≤ x := by rw [hcm] at h; exact of_decide_eq_true h
      obtain ⟨y, hy⟩ : ∃ y : Int, y = x - 1 := ⟨_, rfl⟩
      refine ⟨⟨by omega⟩, ⟨by rw [hna]; show x.toNat + 1 ≤ 32; omega⟩, ⟨y, by omega, by omega⟩, ?_, ?_⟩
      · cbv
        refine ⟨fun _ _ => rfl, fun _ _ => rfl, fun i _ => ?_, ?_, trivial⟩
        · have e1 : (x + 1).toNat = x.toNat + 1 := by omega
          have e2 : (y + 1).toNat = x.toNat := by omega
          have e3 := dig_step ha (k := x.toNat) (by omega)
          rw [hAD, hMU, hNU, hBG, hD, hna]
          show byt (addN (byt (mulN (digN a (x + 1).toNat) (byt 256))) (byt (a x.toNat))) i = digN a (y + 1).toNat i
          rw [e1, e2, e3]
        · rw [hbi, hy]
          exact sub_i64 (by omega)
      · show (y + 1).toNat < (x + 1).toNat
        omega
    · cbv
      have hx : x = -1 := by
        rw [hcm] at h
        have h4 : ¬ (0 ≤ x) := of_decide_eq_false h
        omega
      have k1 : eq 32 (D (x + 1).toNat) (RD a) = true := by
        rw [heq, hD, hRD, hx]
        show realEqA 32 (digN a 0) (byt (redN a)) = true
        rw [dig_zero]
        exact eqA_true fun _ _ => rfl
      have k2 : eq 32 (AD (NU 255) (NU 1)) BG = true := by
        rw [heq, hAD, hNU, hBG]
        show realEqA 32 (byt (addN (byt 255) (byt 1))) (byt 256) = true
        rw [dig_big]
        exact eqA_true fun _ _ => rfl
      refine ⟨fun h2 => ?_, fun _ => ?_⟩
      · exfalso
        dsimp only [SI.val] at h2
        simp [k1, k2] at h2
      cbv
      refine ⟨⟨⟨0, by decide⟩, ?_⟩, fun i _ => ?_⟩
      · subst hJ
        cbv
        refine ⟨fun i _ => ?_, rfl, trivial⟩
        rw [hNU, hY]
        show byt 1 i = dblN 0 i
        rw [dbl_zero]
      · subst hJ
        cbv
        obtain ⟨i, hi⟩ := i
        refine ⟨fun h => ?_, fun h => ?_⟩
        · cbv
          have hlt : i < 255 := by
            rw [hcm] at h
            exact Int.ofNat_lt.1 (of_decide_eq_true h)
          refine ⟨⟨i + 1, by omega⟩, ?_, ?_⟩
          · cbv
            refine ⟨fun j _ => ?_, ?_, trivial⟩
            · rw [hAD, hY]
              show byt (addN (dblN i) (dblN i)) j = dblN (i + 1) j
              rw [dbl_step]
            · rw [hbi]
              show realBin .add .i64 (Int.ofNat i) 1 = Int.ofNat (i + 1)
              rw [add_i64 (by simp only [Int.ofNat_eq_natCast]; omega)]
              rfl
          · show 255 - (i + 1) < 255 - i
            omega
        · cbv
          have hlt : i = 255 := by
            rw [hcm] at h
            have h3 : ¬ (i < 255) := fun hh => of_decide_eq_false h (Int.ofNat_lt.2 hh)
            omega
          subst hlt
          rw [heq, hY, hNU]
          show realEqA 32 (dblN 255) (byt 19) = true
          rw [dbl_last]
          exact eqA_true fun _ _ => rfl
theorem ok_law_digits : Sound Try.prog G0 4 (bool32C fun _ => true) := by
  refine sound_each (n := 45) (rs := [.tmp 2]) (sc := sc_law_digits.1) mixed Try.func4 rfl rfl rfl rfl sc_law_digits.2 ?_
  intro vs cs r h
  unfold bool32C at h
  split at h
  · rename_i f
    cases h
    exact ⟨by simp, fun hcs hwf => ⟨_, envOK tabOK (.cons (ok_number G0) (.cons ok_mulF (.cons ok_addF (.cons ok_reduceF .nil)))), rfl,
      walk_law_digits realOps rfl f (isB (hwf _ (by simp))) _ rfl _ rfl _ rfl _ rfl _ rfl _ rfl _ rfl _ rfl _ rfl⟩⟩
  · cases h
end Go.Proofs.Ytnfbjfbndnmhmaa
