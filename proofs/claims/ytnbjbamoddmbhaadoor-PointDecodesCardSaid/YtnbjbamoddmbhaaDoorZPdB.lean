/-
  Package point: the test, forms, tables.
-/
import Derived.Test.YtnbjbamoddmbhaaDoorZPdA
import Derived.Test.YtnbjbamoddmbhaaDoorZNA
namespace Go.Proofs.YtnbjbamoddmbhaaDoor
open Go Go.Proofs Sx
set_option maxRecDepth 100000
set_option maxHeartbeats 4000000
set_option linter.unusedVariables false
set_option linter.unusedSimpArgs false

def sc_ptdec : { c : SC // strip (body Tryd.f22) = c } := ⟨_, by cbv⟩
theorem walk_ptdec (A : Ops) (hA : A = realOps) (f : Nat → Int) (hb : IsBytes 32 f) (CA : (Nat → Int) → Bool) (hCA : CA = canB) (SQ : (Nat → Int) → Nat → Int) (hSQ : SQ = fun f => fb (fe f * fe f)) (SU : (Nat → Int) → (Nat → Int) → Nat → Int) (hSU : SU = fun f g => fb (fe f - fe g)) (MU : (Nat → Int) → (Nat → Int) → Nat → Int) (hMU : MU = fun f g => fb (fe f * fe g)) (AD : (Nat → Int) → (Nat → Int) → Nat → Int) (hAD : AD = fun f g => fb (fe f + fe g)) (SR : (Nat → Int) → (Nat → Int) → Nat → Int) (hSR : SR = sqrtR) (NE : (Nat → Int) → Nat → Int) (hNE : NE = fun f => fb (- fe f)) (SB : (Nat → Int) → (Nat → Int) → Bool) (hSB : SB = sqrtB) (R : (Nat → Int) → Nat → Int) (hR : R = decF) (E : (Nat → Int) → Int) (hE : E = decE)  :
    Walk (mkEnv A tab.1 Gpt [(46, bool32C CA), (38, un32C SQ), (39, bin32C SU), (41, bin32C MU), (42, bin32C AD), (65, sqrtC SR SB), (43, un32C NE)] []) sc_ptdec.1 48 [.cell 2 25, .tmp 3] [.arr .u8 32 f] (.tup [.arr .u8 64 (R f), .int .i64 (.sym (E f))]) := by
  obtain ⟨bi, cm, un, cv, na, eq⟩ := A
  have hbi : bi = realBin := congrArg Ops.bin hA
  have hcm : cm = realCmp := congrArg Ops.cmp hA
  have hna : na = Int.toNat := congrArg Ops.nat hA
  have hcv : cv = fun k n => k.wrap n := congrArg Ops.cnv hA
  have heq : eq = realEqA := congrArg Ops.eqA hA
  clear hA
  refine ⟨?_⟩
  have hy : upd f 31 (bi .and .u8 (f 31) 127) = dcY f := by rw [hbi]; exact dcY_is hb
  have eb : SB (SU (SQ (dcY f)) (fun i => v_ptone.2.2.getD i 0)) (AD (MU (fun i => v_ptcurve.2.2.getD i 0) (SQ (dcY f))) (fun i => v_ptone.2.2.getD i 0)) = (dcR f).2 := by
    rw [hSB, hSU, hSQ, hAD, hMU]
    exact dc_sb (fe_of pt_curve) (fe_of pt_one)
  have er : SR (SU (SQ (dcY f)) (fun i => v_ptone.2.2.getD i 0)) (AD (MU (fun i => v_ptcurve.2.2.getD i 0) (SQ (dcY f))) (fun i => v_ptone.2.2.getD i 0)) = fb (dcR f).1 := by
    rw [hSR, hSU, hSQ, hAD, hMU]
    exact dc_sr (fe_of pt_curve) (fe_of pt_one)
  rw [← hy] at eb er
  have c40 := @dec_40 f
  have c41 := @dec_41 f
  have c42 := @dec_42 f
  have c00 := @dec_00 f hb
  rw [← hy, ← hCA] at c40 c41 c42 c00
  rw [← hR, ← hE] at c40 c41 c42 c00
  cbv
  refine ⟨fun h0 => ?_, fun h0 => ?_⟩
  · cbv
    exact c40 (mnot_yes h0)
  · have h0 := mnot_no h0
    cbv
    refine ⟨fun h1 => ?_, fun h1 => ?_⟩
    · cbv
      exact c41 h0 (eb ▸ mnot_yes h1)
    · have h1 : (dcR f).2 = true := eb ▸ mnot_no h1
      cbv
      refine ⟨fun h2 => ?_, fun h2 => ?_⟩
      · have h2 : dcS f = true := by rw [hcm] at h2; exact h2
        cbv
        refine ⟨fun h3 => ?_, fun h3 => ?_⟩
        · cbv
          have h3 : (dcR f).1 = 0 := by
            have h3' : eq 32 (fb (dcR f).1) (fun i => v_ptzero.2.2.getD i 0) = true := by rw [← er]; exact h3
            rw [heq] at h3'
            exact of_zero32 pt_zero h3'
          exact c42 h0 h1 h2 h3
        · cbv
          have h3 : (dcR f).1 ≠ 0 := by
            have h3' : eq 32 (fb (dcR f).1) (fun i => v_ptzero.2.2.getD i 0) = false := by rw [← er]; exact h3
            rw [heq] at h3'
            exact of_zero32' pt_zero h3'
          refine c00 h0 h1 (fun h => h3 h.2) (fun i _ => ?_)
          have e : NE (fb (dcR f).1) i = fb (if dcS f = true then -(dcR f).1 else (dcR f).1) i := by rw [hNE, if_pos h2]; show fb (- fe (fb (dcR f).1)) i = _; rw [fe_fb]
          rw [← er] at e
          exact e
      · have h2 : dcS f = false := by rw [hcm] at h2; exact h2
        cbv
        refine c00 h0 h1 (fun h => by rw [h2] at h; exact absurd h.1 (by decide)) (fun i _ => ?_)
        have e : fb (dcR f).1 i = fb (if dcS f = true then -(dcR f).1 else (dcR f).1) i := by rw [if_neg (by rw [h2]; decide)]
        rw [← er] at e
        exact e

theorem ok_ptdec : Sound Tryd.prog Gpt 22 (decC decF decE) := by
  refine sound_each (n := 48) (rs := [.cell 2 25, .tmp 3]) (sc := sc_ptdec.1) mixed Tryd.func22 rfl rfl rfl rfl sc_ptdec.2 ?_
  intro vs cs r h
  unfold decC at h
  split at h
  · rename_i f
    cases h
    exact ⟨by simp, fun hcs hwf => ⟨_, envOK tabOK ((.cons (ok_canonF Gpt) (.cons (ok_squareZ Gpt) (.cons (ok_subZ Gpt (ok_less.sub (sub_of (by decide)))) (.cons (ok_mulZ Gpt) (.cons (ok_addZ Gpt) (.cons (ok_sqrtF.sub (sub_of (by decide))) (.cons (ok_negZ Gpt (ok_less.sub (sub_of (by decide)))) .nil)))))))), rfl, walk_ptdec realOps rfl f (isB (hwf _ (by simp))) _ rfl _ rfl _ rfl _ rfl _ rfl _ rfl _ rfl _ rfl _ rfl _ rfl ⟩⟩
  · cases h
end Go.Proofs.YtnbjbamoddmbhaaDoor
