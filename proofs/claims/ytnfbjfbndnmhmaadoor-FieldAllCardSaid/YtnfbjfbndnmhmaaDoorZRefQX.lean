/-
  The document's ratios' roots and symbols of 32 bytes.
-/
import Derived.Test.YtnfbjfbndnmhmaaDoorZRefQR
import Derived.Test.YtnfbjfbndnmhmaaDoorZRefQS
import Derived.Test.YtnfbjfbndnmhmaaDoorZRefQV
import Derived.Test.YtnfbjfbndnmhmaaDoorZMA
import Derived.Test.YtnfbjfbndnmhmaaDoorZNA
namespace Go.Proofs.YtnfbjfbndnmhmaaDoor
open Go Go.Proofs Sx
set_option maxRecDepth 100000
set_option maxHeartbeats 4000000
set_option linter.unusedVariables false
set_option linter.unusedSimpArgs false

def sc_qlegB : { c : SC // strip (body Tryd.f40) = c } := ⟨_, by cbv⟩
theorem walk_qlegB (A : Ops) (hA : A = realOps) (a : Nat → Int)  (FR : (Nat → Int) → Nat → Int) (hFR : FR = fun a => nb (fe a)) (SY : (Nat → Int) → Int) (hSY : SY = fun a => legZ (nv a)) (R : (Nat → Int) → Int) (hR : R = fun a => legZ (fe a))  :
    Walk (mkEnv A tab.1 Gqprime [(49, qrawC FR), (59, qsymC SY)] []) sc_qlegB.1 8 [.tmp 2] [.arr .u8 32 a] (.int .i64 (.sym (R a))) := by
  obtain ⟨bi, cm, un, cv, na, eq⟩ := A
  have hbi : bi = realBin := congrArg Ops.bin hA
  have hcm : cm = realCmp := congrArg Ops.cmp hA
  have hna : na = Int.toNat := congrArg Ops.nat hA
  have hcv : cv = fun k n => k.wrap n := congrArg Ops.cnv hA
  have heq : eq = realEqA := congrArg Ops.eqA hA
  clear hA
  have n1 : ∀ a, Num16 (FR a) := by intro a; rw [hFR]; exact num16_nb _
  have en : SY (FR a) = R a := by rw [hSY, hFR, hR]; dsimp only; rw [nv_nb]
  clear hSY hFR hR
  refine ⟨?_⟩
  cbv
  exact ⟨n1 a, en⟩

theorem ok_qlegB : Sound Tryd.prog Gqprime 40 (leg32C (fun a => legZ (fe a))) := by
  refine sound_each (n := 8) (rs := [.tmp 2]) (sc := sc_qlegB.1) mixed Tryd.func40 rfl rfl rfl rfl sc_qlegB.2 ?_
  intro vs cs r h
  unfold leg32C at h
  split at h
  · rename_i a
    cases h
    exact ⟨by simp, fun hcs hwf => ⟨_, envOK tabOK ((.cons (ok_qfrom) (.cons (ok_qsymbol) .nil))), rfl, walk_qlegB realOps rfl a  _ rfl _ rfl _ rfl ⟩⟩
  · cases h
def sc_qratioB : { c : SC // strip (body Tryd.f38) = c } := ⟨_, by cbv⟩
theorem walk_qratioB (A : Ops) (hA : A = realOps) (f : Nat → Int) (g : Nat → Int)  (FR : (Nat → Int) → Nat → Int) (hFR : FR = fun a => nb (fe a)) (ZR : (Nat → Int) → Bool) (hZR : ZR = zero16) (IV : (Nat → Int) → Nat → Int) (hIV : IV = fun a => nb (zinv (nv a))) (TM : (Nat → Int) → (Nat → Int) → Nat → Int) (hTM : TM = fun a b => nb (nv a * nv b)) (SY : (Nat → Int) → Int) (hSY : SY = fun a => legZ (nv a)) (RO : (Nat → Int) → Nat → Int) (hRO : RO = fun a => nb (rootZ (nv a))) (BY : (Nat → Int) → Nat → Int) (hBY : BY = fun n => byt (V16 n)) (R : (Nat → Int) → (Nat → Int) → Nat → Int) (hR : R = sqrtR) (E : (Nat → Int) → (Nat → Int) → Bool) (hE : E = sqrtB)  :
    Walk (mkEnv A tab.1 Gqprime [(49, qrawC FR), (58, qzeroC ZR), (51, qunC IV), (53, qbinC TM), (59, qsymC SY), (60, qlowC RO), (42, qbytesC BY)] []) sc_qratioB.1 35 [.cell 4 22, .tmp 5] [.arr .u8 32 f, .arr .u8 32 g] (.tup [.arr .u8 32 (R f g), .bool (.sym (E f g))]) := by
  obtain ⟨bi, cm, un, cv, na, eq⟩ := A
  have hbi : bi = realBin := congrArg Ops.bin hA
  have hcm : cm = realCmp := congrArg Ops.cmp hA
  have hna : na = Int.toNat := congrArg Ops.nat hA
  have hcv : cv = fun k n => k.wrap n := congrArg Ops.cnv hA
  have heq : eq = realEqA := congrArg Ops.eqA hA
  clear hA
  have n1 : ∀ a, Num16 (FR a) := by intro a; rw [hFR]; exact num16_nb _
  have n2 : ∀ a, Num16 (IV a) := by intro a; rw [hIV]; exact num16_nb _
  have n3 : ∀ a b, Num16 (TM a b) := by intro a b; rw [hTM]; exact num16_nb _
  have n4 : ∀ a, Num16 (RO a) := by intro a; rw [hRO]; exact num16_nb _
  have l3 : ∀ a b, Low (TM a b) := by intro a b; rw [hTM]; exact low_nb _
  have zt : ∀ a, ZR (FR a) = true → fe a = 0 := by
    intro a h
    rw [hZR, hFR] at h
    have h1 := of_decide_eq_true h
    rw [V16_nb] at h1
    exact Fin.ext (by have : (fe a).val = 0 := by omega
                      rw [this]; rfl)
  have zf : ∀ a, ZR (FR a) = false → fe a ≠ 0 := by
    intro a h e
    rw [hZR, hFR] at h
    have h1 := of_decide_eq_false h
    rw [V16_nb, e] at h1
    exact h1 rfl
  have q : TM (FR f) (IV (FR g)) = nb (fe f * zinv (fe g)) := by rw [hTM, hFR, hIV]; dsimp only; rw [nv_nb, nv_nb, nv_nb]
  have sy : SY (TM (FR f) (IV (FR g))) = legZ (fe f * zinv (fe g)) := by rw [hSY, q]; dsimp only; rw [nv_nb]
  have ro : ∀ i, BY (RO (TM (FR f) (IV (FR g)))) i = fb (rootZ (fe f * zinv (fe g))) i := by intro i; rw [hBY, hRO, q]; dsimp only; rw [V16_nb, nv_nb]; rfl
  have k1 : ZR (FR f) = true → (∀ i, 0 = R f g i) ∧ true = E f g := by
    intro h
    have e := zt f h
    rw [hR, hE]
    unfold sqrtR sqrtB
    rw [e, sqrt_u0]
    exact ⟨fun i => (fb_nil i).symm, rfl⟩
  have k2 : ZR (FR f) = false → ZR (FR g) = true → (∀ i, 0 = R f g i) ∧ false = E f g := by
    intro h h2
    have e := zt g h2
    rw [hR, hE]
    unfold sqrtR sqrtB
    rw [e, sqrt_v0 (zf f h)]
    exact ⟨fun i => (fb_nil i).symm, rfl⟩
  have k3 : ZR (FR f) = false → ZR (FR g) = false → cm .neq (SY (TM (FR f) (IV (FR g)))) 1 = true → (∀ i, 0 = R f g i) ∧ false = E f g := by
    intro h h2 h3
    rw [sy, hcm] at h3
    have h4 : legZ (fe f * zinv (fe g)) ≠ 1 := bne_iff_ne.1 h3
    rw [hR, hE]
    unfold sqrtR sqrtB
    rw [ratio_no (zf f h) (zf g h2) h4]
    exact ⟨fun i => (fb_nil i).symm, rfl⟩
  have k4 : ZR (FR f) = false → ZR (FR g) = false → cm .neq (SY (TM (FR f) (IV (FR g)))) 1 = false → (∀ i, BY (RO (TM (FR f) (IV (FR g)))) i = R f g i) ∧ true = E f g := by
    intro h h2 h3
    rw [sy, hcm] at h3
    have h4 : legZ (fe f * zinv (fe g)) = 1 := by
      have h5 : (legZ (fe f * zinv (fe g)) != 1) = false := h3
      simpa using h5
    rw [hR, hE]
    unfold sqrtR sqrtB
    rw [ratio_yes (zf f h) (zf g h2) h4]
    exact ⟨fun i => ro i, rfl⟩
  clear hR hE hBY hRO hSY hTM hIV hFR hZR q sy ro zt zf
  refine ⟨?_⟩
  cbv
  refine ⟨n1 f, fun h => ?_, fun h => ?_⟩
  · have z := k1 h
    cbv
    exact ⟨fun i _ => z.1 i, z.2, trivial⟩
  · cbv
    refine ⟨n1 g, fun h2 => ?_, fun h2 => ?_⟩
    · have z := k2 h h2
      cbv
      exact ⟨fun i _ => z.1 i, z.2, trivial⟩
    · cbv
      refine ⟨n1 g, n1 f, n2 _, n3 _ _, fun h3 => ?_, fun h3 => ?_⟩
      · have z := k3 h h2 h3
        cbv
        exact ⟨fun i _ => z.1 i, z.2, trivial⟩
      · have z := k4 h h2 h3
        cbv
        exact ⟨l3 _ _, n4 _, fun i _ => z.1 i, z.2, trivial⟩

theorem ok_qratioB : Sound Tryd.prog Gqprime 38 (sqrtC sqrtR sqrtB) := by
  refine sound_each (n := 35) (rs := [.cell 4 22, .tmp 5]) (sc := sc_qratioB.1) mixed Tryd.func38 rfl rfl rfl rfl sc_qratioB.2 ?_
  intro vs cs r h
  unfold sqrtC at h
  split at h
  · rename_i f g
    cases h
    exact ⟨by simp, fun hcs hwf => ⟨_, envOK tabOK ((.cons (ok_qfrom) (.cons (ok_qzero Gqprime) (.cons (ok_qinverse) (.cons (ok_qtimes) (.cons (ok_qsymbol) (.cons (ok_qroot) (.cons (ok_qbytes Gqprime) .nil)))))))), rfl, walk_qratioB realOps rfl f g  _ rfl _ rfl _ rfl _ rfl _ rfl _ rfl _ rfl _ rfl _ rfl ⟩⟩
  · cases h
end Go.Proofs.YtnfbjfbndnmhmaaDoor
