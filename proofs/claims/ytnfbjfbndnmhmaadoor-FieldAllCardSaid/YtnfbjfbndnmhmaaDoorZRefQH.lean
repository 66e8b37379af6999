/-
  The document's numbers modulo p: halving modulo p.
-/
import Derived.Test.YtnfbjfbndnmhmaaDoorZRefQC
namespace Go.Proofs.YtnfbjfbndnmhmaaDoor
open Go Go.Proofs Sx
set_option maxRecDepth 100000
set_option maxHeartbeats 4000000
set_option linter.unusedVariables false
set_option linter.unusedSimpArgs false

def sc_qhalfmod : { c : SC // strip (body Tryd.f70) = c } := ⟨_, by cbv⟩
theorem walk_qhalfmod (A : Ops) (hA : A = realOps) (a : Nat → Int) (ha : Low a) (HF : (Nat → Int) → Nat → Int) (hHF : HF = fun a => D16 (V16 a / 2)) (R : (Nat → Int) → Nat → Int) (hR : R = fun a => nb (halfZ (nv a))) (PV : Nat → Int) (hPV : PV = fun i => v_prime.2.2.getD i 0) (AC : Nat → Int) (hAC : AC = carB b16 (fun j => a j + D16 p25 j) 0) (AD : Nat → Int) (hAD : AD = D16 (V16 a + p25)) (AA : Nat → Nat → Int) (hAA : AA = fun i j => if j < i then D16 (V16 a + p25) j else a j) (I : { i : Nat // i ≤ 16 } → St) (hI : I = fun i => slots 33 [(1, .own (.arr .i64 16 (AA i.1))), (2, .own (.arr .i64 16 fun _ => 0)), (3, .int .i64 (.sym (AC i.1))), (4, .int .i64 (.sym (i.1 : Int)))]) :
    Walk (mkEnv A tab.1 (gQprime PV) [(69, qunC HF)] [(5, .inv { i : Nat // i ≤ 16 } I fun i => 16 - i.1)]) sc_qhalfmod.1 33 [.cell 2 46] [.arr .i64 16 a] (.arr .i64 16 (R a)) := by
  obtain ⟨bi, cm, un, cv, na, eq⟩ := A
  have hbi : bi = realBin := congrArg Ops.bin hA
  have hcm : cm = realCmp := congrArg Ops.cmp hA
  have hna : na = Int.toNat := congrArg Ops.nat hA
  have hcv : cv = fun k n => k.wrap n := congrArg Ops.cnv hA
  have heq : eq = realEqA := congrArg Ops.eqA hA
  clear hA
  have va := V16_range ha.n
  have hv := low_val ha
  have pv : ∀ i, i < 16 → PV i = D16 p25 i := by rw [hPV]; exact qprime_dig
  have a0 : a 0 % 2 = V16 a % 2 := by
    have h1 := D16_V16 ha.n (show 0 < 16 by decide)
    rw [← h1]
    exact D16_low _
  have ev : V16 a % 2 = 0 → ∀ k, k < 16 → HF a k = R a k := by
    intro h k _
    rw [hHF, hR]
    dsimp only
    rw [nb_half, hv]
    unfold hm
    rw [if_pos h]
  have sm : sumB b16 16 (fun j => a j + D16 p25 j) = V16 a + p25 := by
    rw [sumB_add]
    have : sumB b16 16 (D16 p25) = p25 := V16_D16 (by decide) (by decide)
    rw [this]
    rfl
  have sx : ∀ i, i < 16 → (a i + PV i + AC i) % 65536 = AD i ∧ (a i + PV i + AC i) / 65536 = AC (i + 1) := by
    intro i hi
    rw [pv i hi, hAC, hAD]
    have h1 := dgt_car b16_pos (fun j => a j + D16 p25 j) 0 hi
    rw [Int.add_zero, sm] at h1
    exact ⟨h1.symm, (carB_succ b16_pos (fun j => a j + D16 p25 j) 0 i).symm⟩
  have ar : ∀ i, i < 16 → 0 ≤ a i ∧ a i ≤ 65535 := by
    intro i hi
    have := ha.n.h i hi
    simp only [b16] at this
    omega
  have pr : ∀ i, i < 16 → 0 ≤ PV i ∧ PV i ≤ 65535 := by
    intro i hi
    have := D16_range p25 i
    rw [pv i hi]
    omega
  have ac : ∀ i, i ≤ 16 → 0 ≤ AC i ∧ AC i ≤ 2 := by
    intro i hi
    rw [hAC]
    refine carB_bound b16_pos (X := 131070) (by omega) (fun j hj => ?_) (by simp only [b16]; omega) i hi
    have h1 := ar j hj
    have h2 := D16_range p25 j
    omega
  have ac0 : 0 = AC 0 := by rw [hAC]; exact (carB_zero ..).symm
  have aa0 : ∀ k, k < 16 → a k = AA 0 k := by intro k _; rw [hAA]; exact (if_neg (Nat.not_lt_zero k)).symm
  have aaa : ∀ i, AA i i = a i := by intro i; rw [hAA]; exact if_neg (Nat.lt_irrefl i)
  have au : ∀ i k, (if k = i then AD i else AA i k) = AA (i + 1) k := by intro i k; rw [hAA, hAD]; exact fill_one (D16 (V16 a + p25)) a i k
  have nA : Num16 (AA 16) := by
    rw [hAA]
    refine ⟨fun i hi => ?_⟩
    dsimp only
    rw [if_pos hi]
    exact D16_range _ i
  have od : ¬ V16 a % 2 = 0 → ∀ k, k < 16 → HF (AA 16) k = R a k := by
    intro h k _
    have e : V16 (AA 16) = V16 a + p25 := by
      rw [hAA, ← V16_D16 (n := V16 a + p25) (by have := va.1; have : 0 < p25 := by decide
                                                omega) (Int.lt_trans (Int.add_lt_add_right ha.h p25) p25_q)]
      exact V16_congr fun i hi => by dsimp only; rw [if_pos hi, V16_D16 (by have := va.1; have : 0 < p25 := by decide
                                                                            omega) (Int.lt_trans (Int.add_lt_add_right ha.h p25) p25_q)]
    rw [hHF, hR]
    dsimp only
    rw [e, nb_half, hv]
    unfold hm
    rw [if_neg h]
  have nH : Num16 a := ha.n
  have r0 := ar 0 (by decide)
  clear hAA hAC hAD hPV hHF hR
  refine ⟨?_⟩
  cbv
  refine ⟨fun h => ?_, fun h => ?_⟩
  · cbv
    have h0 : V16 a % 2 = 0 := by
      try dsimp only [SI.val, SO.val] at h
      rw [hcm, hbi] at h
      have h1 : realBin .rem .i64 (a 0) 2 = 0 := by simpa [realCmp] using h
      rw [rem_i64 r0.1, a0] at h1
      exact h1
    exact ⟨nH, ev h0⟩
  · cbv
    have h0 : ¬ V16 a % 2 = 0 := by
      intro e
      try dsimp only [SI.val, SO.val] at h
      rw [hcm, hbi] at h
      have h1 : realBin .rem .i64 (a 0) 2 ≠ 0 := by simpa [realCmp] using h
      rw [rem_i64 r0.1, a0] at h1
      exact h1 e
    refine ⟨⟨⟨0, by decide⟩, ?_⟩, fun i _ => ?_⟩
    · subst hI
      cbv
      exact ⟨aa0, fun _ _ => rfl, ac0, rfl, trivial⟩
    · subst hI
      cbv
      obtain ⟨i, hi⟩ := i
      refine ⟨fun h => ?_, fun h => ?_⟩
      · cbv
        rw [hcm] at h
        have hlt := ltT h
        simp only [Int.ofNat_eq_natCast] at hlt
        have hlt2 : i < 16 := by omega
        have qi : na (Int.ofNat i) = i := by rw [hna]; rfl
        have q4 : bi .add .i64 (Int.ofNat i) 1 = Int.ofNat (i + 1) := by rw [hbi, add_i64 (by simp only [Int.ofNat_eq_natCast]; omega)]; rfl
        have r1 := ar i hlt2
        have r2 := pr i hlt2
        have r3 := ac i (by omega)
        have s := sx i hlt2
        have w : bi .add .i64 (a i) (PV i) = a i + PV i := by rw [hbi]; exact add_i64 (by omega)
        have v : bi .add .i64 (bi .add .i64 (AA i (na (Int.ofNat i))) (PV (na (Int.ofNat i)))) (AC i) = a i + PV i + AC i := by rw [qi, aaa, w, hbi, add_i64 (by omega)]
        have v1 : bi .rem .i64 (bi .add .i64 (bi .add .i64 (AA i (na (Int.ofNat i))) (PV (na (Int.ofNat i)))) (AC i)) 65536 = AD i := by rw [v, hbi, rem_i64 (by omega)]; exact s.1
        have v2 : bi .quo .i64 (bi .add .i64 (bi .add .i64 (AA i (na (Int.ofNat i))) (PV (na (Int.ofNat i)))) (AC i)) 65536 = AC (i + 1) := by rw [v, hbi, quo_i64 (by omega) (by omega)]; exact s.2
        refine ⟨(by constructor; (try dsimp only [SI.val, SO.val]); (try simp (disch := omega) only [hbi, hna, hcv, Int.ofNat_eq_natCast, add_i64, sub_i64, mul_i64, quo_i64, rem_i64, wrap_i64, wrap_u8, Int.toNat_natCast]); omega), (by constructor; (try dsimp only [SI.val, SO.val]); (try simp (disch := omega) only [hbi, hna, hcv, Int.ofNat_eq_natCast, add_i64, sub_i64, mul_i64, quo_i64, rem_i64, wrap_i64, wrap_u8, Int.toNat_natCast]); omega), (by constructor; (try dsimp only [SI.val, SO.val]); (try simp (disch := omega) only [hbi, hna, hcv, Int.ofNat_eq_natCast, add_i64, sub_i64, mul_i64, quo_i64, rem_i64, wrap_i64, wrap_u8, Int.toNat_natCast]); omega), (by constructor; (try dsimp only [SI.val, SO.val]); (try simp (disch := omega) only [hbi, hna, hcv, Int.ofNat_eq_natCast, add_i64, sub_i64, mul_i64, quo_i64, rem_i64, wrap_i64, wrap_u8, Int.toNat_natCast]); omega), (by constructor; (try dsimp only [SI.val, SO.val]); (try simp (disch := omega) only [hbi, hna, hcv, Int.ofNat_eq_natCast, add_i64, sub_i64, mul_i64, quo_i64, rem_i64, wrap_i64, wrap_u8, Int.toNat_natCast]); omega), (by constructor; (try dsimp only [SI.val, SO.val]); (try simp (disch := omega) only [hbi, hna, hcv, Int.ofNat_eq_natCast, add_i64, sub_i64, mul_i64, quo_i64, rem_i64, wrap_i64, wrap_u8, Int.toNat_natCast]); omega), ⟨i + 1, by omega⟩, ?_, by show 16 - (i + 1) < 16 - i; omega⟩
        cbv
        refine ⟨fun k _ => ?_, fun _ _ => rfl, v2, q4, trivial⟩
        show (if k = na (Int.ofNat i) then bi .rem .i64 (bi .add .i64 (bi .add .i64 (AA i (na (Int.ofNat i))) (PV (na (Int.ofNat i)))) (AC i)) 65536 else AA i k) = AA (i + 1) k
        rw [v1, qi]
        exact au i k
      · cbv
        have hN : i = 16 := by
          rw [hcm] at h
          have := ltF h
          simp only [Int.ofNat_eq_natCast] at this
          omega
        subst hN
        exact ⟨nA, od h0⟩

theorem ok_qhalfmod : Sound Tryd.prog Gqprime 70 (qlowC (fun a => nb (halfZ (nv a)))) := by
  refine sound_each (n := 33) (rs := [.cell 2 46]) (sc := sc_qhalfmod.1) mixed Tryd.func70 rfl rfl rfl rfl sc_qhalfmod.2 ?_
  intro vs cs r h
  unfold qlowC at h
  split at h
  · rename_i a
    cases h
    exact ⟨by simp, fun hcs hwf => ⟨_, envOK tabOK ((.cons (ok_qhalf Gqprime) .nil)), rfl, walk_qhalfmod realOps rfl a ((hcs _ (by simp) : Low a)) _ rfl _ rfl _ rfl _ rfl _ rfl _ rfl _ rfl⟩⟩
  · cases h
end Go.Proofs.YtnfbjfbndnmhmaaDoor
