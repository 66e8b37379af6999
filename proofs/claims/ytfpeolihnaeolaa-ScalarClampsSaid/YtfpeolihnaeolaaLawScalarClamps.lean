/-
  ScalarClamps holds for every input.
-/
import Derived.Test.YtfpeolihnaeolaaScalK
namespace Go.Proofs.Ytfpeolihnaeolaa
open Go Go.Proofs Sx
set_option maxRecDepth 100000
set_option maxHeartbeats 4000000
set_option linter.unusedVariables false
set_option linter.unusedSimpArgs false

def sc_law_clamps : { c : SC // strip (body Try.f3) = c } := ⟨_, by cbv⟩
theorem walk_law_clamps (A : Ops) (hA : A = realOps) (h : Nat → Int) (hh : IsBytes 32 h) (C : (Nat → Int) → Nat → Int) (hC : C = clampF) (I : { i : Nat // 1 ≤ i ∧ i ≤ 31 } → St) (hI : I = fun i => slots 54 [(1, .own (.arr .u8 32 h)), (3, .own (.arr .u8 32 (C h))), (4, .int .i64 (.sym (i.1 : Int)))]) :
    Walk (mkEnv A tab.1 G0 [(6, un32C C)] [(5, .inv { i : Nat // 1 ≤ i ∧ i ≤ 31 } I fun i => 31 - i.1)]) sc_law_clamps.1 54 [.tmp 2] [.arr .u8 32 h] (.bool (.sym true)) := by
  obtain ⟨bi, cm, un, cv, na, eq⟩ := A
  have hbi : bi = realBin := congrArg Ops.bin hA
  have hcm : cm = realCmp := congrArg Ops.cmp hA
  have hna : na = Int.toNat := congrArg Ops.nat hA
  have hcv : cv = fun k n => k.wrap n := congrArg Ops.cnv hA
  have heq : eq = realEqA := congrArg Ops.eqA hA
  clear hA
  have k1 : cm .neq (bi .rem .u8 (C h 0) 8) 0 = false := by rw [hcm, hbi, hC]; exact clamp_1 hh
  have k2 : cm .lss (C h 31) 64 = false := by rw [hcm, hC]; exact clamp_2 hh
  have k3 : cm .geq (C h 31) 128 = false := by rw [hcm, hC]; exact clamp_3 hh
  have k4 : cm .neq (bi .quo .u8 (C h 0) 8) (bi .quo .u8 (h 0) 8) = false := by rw [hcm, hbi, hC]; exact clamp_4 hh
  have k5 : cm .neq (bi .rem .u8 (C h 31) 64) (bi .rem .u8 (h 31) 64) = false := by rw [hcm, hbi, hC]; exact clamp_5 hh
  have k6 : ∀ i : Nat, 1 ≤ i → i < 31 → C h i = h i := fun i h1 h2 => by rw [hC]; exact clamp_6 h1 h2
  have k7 : eq 32 (C (C h)) (C h) = true := by rw [heq, hC]; exact clamp_7 hh
  clear hC
  refine ⟨?_⟩
  cbv
  refine ⟨fun hd => ?_, fun _ => ?_⟩
  · exfalso
    revert hd
    try dsimp only [SI.val, SO.val]
    simp [k1, k2, k3, k4, k5]
  cbv
  refine ⟨⟨⟨1, by decide⟩, ?_⟩, fun i _ => ?_⟩
  · subst hI
    cbv
    exact ⟨fun _ _ => rfl, fun _ _ => rfl, rfl, trivial⟩
  · subst hI
    cbv
    obtain ⟨i, hi⟩ := i
    refine ⟨fun hl => ?_, fun hl => ?_⟩
    · cbv
      have hlt : i < 31 := by
        rw [hcm] at hl
        exact Int.ofNat_lt.1 (of_decide_eq_true hl)
      have q5 : na (Int.ofNat i) = i := by rw [hna]; rfl
      have q4 : bi .add .i64 (Int.ofNat i) 1 = Int.ofNat (i + 1) := by rw [hbi, add_i64 (by simp only [Int.ofNat_eq_natCast]; omega)]; rfl
      refine ⟨⟨by simp only [Int.ofNat_eq_natCast]; omega⟩, ⟨by show na (Int.ofNat i) + 1 ≤ 32; rw [q5]; omega⟩, ⟨by simp only [Int.ofNat_eq_natCast]; omega⟩, ⟨by show na (Int.ofNat i) + 1 ≤ 32; rw [q5]; omega⟩, fun hn => ?_, fun _ => ?_⟩
      · exfalso
        revert hn
        show cm .neq (C h (na (Int.ofNat i))) (h (na (Int.ofNat i))) = true → False
        rw [q5, k6 i hi.1 hlt, hcm]
        simp [realCmp]
      · cbv
        refine ⟨⟨i + 1, by omega⟩, ?_, ?_⟩
        · cbv
          exact ⟨fun _ _ => rfl, fun _ _ => rfl, q4, trivial⟩
        · show 31 - (i + 1) < 31 - i
          omega
    · cbv
      exact k7

theorem ok_law_clamps : Sound Try.prog G0 3 (bool32C fun _ => true) := by
  refine sound_each (n := 54) (rs := [.tmp 2]) (sc := sc_law_clamps.1) mixed Try.func3 rfl rfl rfl rfl sc_law_clamps.2 ?_
  intro vs cs r h
  unfold bool32C at h
  split at h
  · rename_i h
    cases h
    exact ⟨by simp, fun hcs hwf => ⟨_, envOK tabOK ((.cons (ok_clampF G0) .nil)), rfl, walk_law_clamps realOps rfl h (isB (hwf _ (by simp))) _ rfl _ rfl⟩⟩
  · cases h
end Go.Proofs.Ytfpeolihnaeolaa
