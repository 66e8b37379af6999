/-
  The document's numbers modulo p: taking p away, halving.
-/
import Derived.Test.YtnfbjfbndnmhmaaDoorZRefQB
namespace Go.Proofs.YtnfbjfbndnmhmaaDoor
open Go Go.Proofs Sx
set_option maxRecDepth 100000
set_option maxHeartbeats 4000000
set_option linter.unusedVariables false
set_option linter.unusedSimpArgs false

theorem sub_p25 (f : Int) : (f - p25) % p25 = f % p25 := by simp only [p25]; omega
def Fits (a : Nat → Int) : Type := { f : Int // 0 ≤ f ∧ f < qP ∧ f % p25 = V16 a % p25 }

def sc_qfit : { c : SC // strip (body Tryd.f66) = c } := ⟨_, by cbv⟩
theorem walk_qfit (A : Ops) (hA : A = realOps) (a : Nat → Int) (ha : Num16 a) (P : Nat → Int) (hP : P = D16 p25) (BL : (Nat → Int) → (Nat → Int) → Bool) (hBL : BL = below16) (LS : (Nat → Int) → (Nat → Int) → Nat → Int) (hLS : LS = fun a b => D16 (V16 a - V16 b)) (R : (Nat → Int) → Nat → Int) (hR : R = fun a => nb (nv a)) (pc : Int) (hpc : pc = p25) (DF : Int → Nat → Int) (hDF : DF = D16) (I : Fits a → St) (hI : I = fun f => slots 14 [(1, .own (.arr .i64 16 (DF f.1))), (2, .own (.arr .i64 16 fun _ => 0)), (3, .own (.arr .i64 16 P))]) :
    Walk (mkEnv A tab.1 Gqprime [(44, qprimeC P), (71, qbelowC BL), (72, qlessC LS)] [(2, .inv (Fits a) I fun f => f.1.toNat)]) sc_qfit.1 14 [.cell 2 46] [.arr .i64 16 a] (.arr .i64 16 (R a)) := by
  obtain ⟨bi, cm, un, cv, na, eq⟩ := A
  have hbi : bi = realBin := congrArg Ops.bin hA
  have hcm : cm = realCmp := congrArg Ops.cmp hA
  have hna : na = Int.toNat := congrArg Ops.nat hA
  have hcv : cv = fun k n => k.wrap n := congrArg Ops.cnv hA
  have heq : eq = realEqA := congrArg Ops.eqA hA
  clear hA
  have va := V16_range ha
  have bl : ∀ f, 0 ≤ f → f < qP → BL (DF f) P = decide (f < pc) := by
    intro f h0 h1
    rw [hpc, hBL, hP, hDF]
    unfold below16
    rw [V16_D16 h0 h1, V16_D16 (by decide) (by decide)]
  have nf : ∀ f, Num16 (DF f) := by intro f; rw [hDF]; exact num16_D16 f
  have nP : Num16 P := by rw [hP]; exact num16_D16 _
  have ov : ∀ f, 0 ≤ f → f < qP → pc ≤ f → Over (DF f) P := by
    intro f h0 h1 h2
    rw [hpc] at h2
    rw [hP, hDF]
    exact ⟨by rw [V16_D16 h0 h1, V16_D16 (by decide) (by decide)]; exact h2⟩
  have ls : ∀ f, 0 ≤ f → f < qP → ∀ k, k < 16 → LS (DF f) P k = DF (f - pc) k := by
    intro f h0 h1 k _
    rw [hpc, hLS, hP, hDF]
    dsimp only
    rw [V16_D16 h0 h1, V16_D16 (by decide) (by decide)]
  have en : ∀ f, 0 ≤ f → f < pc → f % p25 = V16 a % p25 → ∀ k, k < 16 → DF f k = R a k := by
    intro f h0 h1 h2 k _
    rw [hpc] at h1
    rw [hDF, hR]
    dsimp only
    rw [fit_is, ← h2, Int.emod_eq_of_lt h0 h1]
  have st : ∀ k, k < 16 → a k = DF (V16 a) k := by
    intro k hk
    rw [hDF]
    exact (D16_V16 ha hk).symm
  have md : ∀ f : Int, (f - pc) % p25 = f % p25 := by rw [hpc]; exact sub_p25
  have pp : 0 < pc := by rw [hpc]; decide
  clear hpc hDF hP hBL hLS hR
  refine ⟨?_⟩
  cbv
  refine ⟨⟨⟨V16 a, va.1, va.2, rfl⟩, ?_⟩, fun f _ => ?_⟩
  · subst hI
    cbv
    exact ⟨st, fun _ _ => rfl, fun _ _ => rfl, trivial⟩
  · subst hI
    cbv
    obtain ⟨f, h0, h1, h2⟩ := f
    refine ⟨nf f, nP, fun h => ?_, fun h => ?_⟩
    · cbv
      have hlt : f < pc := by
        have := (bl f h0 h1).symm.trans h
        exact of_decide_eq_true this
      exact en f h0 hlt h2
    · cbv
      have hge : pc ≤ f := by
        have := (bl f h0 h1).symm.trans h
        have := of_decide_eq_false this
        omega
      refine ⟨nf f, nP, ov f h0 h1 hge, ⟨f - pc, by omega, Int.lt_of_le_of_lt (by omega : f - pc ≤ f) h1, (md f).trans h2⟩, ?_, ?_⟩
      · cbv
        exact ⟨ls f h0 h1, fun _ _ => rfl, fun _ _ => rfl, trivial⟩
      · show (f - pc).toNat < f.toNat
        omega

theorem ok_qfit : Sound Tryd.prog Gqprime 66 (qunC (fun a => nb (nv a))) := by
  refine sound_each (n := 14) (rs := [.cell 2 46]) (sc := sc_qfit.1) mixed Tryd.func66 rfl rfl rfl rfl sc_qfit.2 ?_
  intro vs cs r h
  unfold qunC at h
  split at h
  · rename_i a
    cases h
    exact ⟨by simp, fun hcs hwf => ⟨_, envOK tabOK ((.cons (ok_qprime) (.cons (ok_qbelow Gqprime) (.cons (ok_qless Gqprime) .nil)))), rfl, walk_qfit realOps rfl a ((hcs _ (by simp) : Num16 a)) _ rfl _ rfl _ rfl _ rfl _ rfl _ rfl _ rfl⟩⟩
  · cases h
def sc_qfrom : { c : SC // strip (body Tryd.f49) = c } := ⟨_, by cbv⟩
theorem walk_qfrom (A : Ops) (hA : A = realOps) (a : Nat → Int) (ha : IsBytes 32 a) (RW : (Nat → Int) → Nat → Int) (hRW : RW = fun a => D16 (num 32 a)) (FT : (Nat → Int) → Nat → Int) (hFT : FT = fun a => nb (nv a)) (R : (Nat → Int) → Nat → Int) (hR : R = fun a => nb (fe a))  :
    Walk (mkEnv A tab.1 Gqprime [(65, qrawC RW), (66, qunC FT)] []) sc_qfrom.1 8 [.cell 2 46] [.arr .u8 32 a] (.arr .i64 16 (R a)) := by
  obtain ⟨bi, cm, un, cv, na, eq⟩ := A
  have hbi : bi = realBin := congrArg Ops.bin hA
  have hcm : cm = realCmp := congrArg Ops.cmp hA
  have hna : na = Int.toNat := congrArg Ops.nat hA
  have hcv : cv = fun k n => k.wrap n := congrArg Ops.cnv hA
  have heq : eq = realEqA := congrArg Ops.eqA hA
  clear hA
  have nf : Num16 (RW a) := by rw [hRW]; exact num16_D16 _
  have en : ∀ k, k < 16 → FT (RW a) k = R a k := by
    intro k _
    have hb := num_bounds 32 a ha
    rw [hFT, hRW, hR]
    dsimp only
    unfold nv fe
    rw [V16_D16 hb.1 (Int.lt_of_lt_of_le hb.2 (by decide))]
  refine ⟨?_⟩
  cbv
  exact ⟨nf, en⟩

theorem ok_qfrom : Sound Tryd.prog Gqprime 49 (qrawC (fun a => nb (fe a))) := by
  refine sound_each (n := 8) (rs := [.cell 2 46]) (sc := sc_qfrom.1) mixed Tryd.func49 rfl rfl rfl rfl sc_qfrom.2 ?_
  intro vs cs r h
  unfold qrawC at h
  split at h
  · rename_i a
    cases h
    exact ⟨by simp, fun hcs hwf => ⟨_, envOK tabOK ((.cons (ok_qraw Gqprime) (.cons (ok_qfit) .nil))), rfl, walk_qfrom realOps rfl a (isB (hwf _ (by simp))) _ rfl _ rfl _ rfl ⟩⟩
  · cases h
def sc_qhalf : { c : SC // strip (body Tryd.f69) = c } := ⟨_, by cbv⟩
theorem walk_qhalf (A : Ops) (hA : A = realOps) (G : Nat → AV) (a : Nat → Int) (ha : Num16 a) (R : (Nat → Int) → Nat → Int) (hR : R = fun a => D16 (V16 a / 2)) (CC : Int → Int) (hCC : CC = fun x => D16 (V16 a) (x + 1).toNat % 2) (FA : Int → Nat → Int) (hFA : FA = fun x j => if x < Int.ofNat j then D16 (V16 a / 2) j else 0) (I : { x : Int // -1 ≤ x ∧ x ≤ 15 } → St) (hI : I = fun x => slots 24 [(1, .own (.arr .i64 16 a)), (2, .own (.arr .i64 16 fun _ => 0)), (3, .own (.arr .i64 16 (FA x.1))), (4, .int .i64 (.sym (CC x.1))), (5, .int .i64 (.sym x.1))]) :
    Walk (mkEnv A tab.1 G [] [(4, .inv { x : Int // -1 ≤ x ∧ x ≤ 15 } I fun x => (x.1 + 1).toNat)]) sc_qhalf.1 24 [.cell 2 46] [.arr .i64 16 a] (.arr .i64 16 (R a)) := by
  obtain ⟨bi, cm, un, cv, na, eq⟩ := A
  have hbi : bi = realBin := congrArg Ops.bin hA
  have hcm : cm = realCmp := congrArg Ops.cmp hA
  have hna : na = Int.toNat := congrArg Ops.nat hA
  have hcv : cv = fun k n => k.wrap n := congrArg Ops.cnv hA
  have heq : eq = realEqA := congrArg Ops.eqA hA
  clear hA
  have va := V16_range ha
  have f0 : ∀ k, k < 16 → 0 = FA 15 k := by
    intro k hk
    rw [hFA]
    exact (if_neg (by simp only [Int.ofNat_eq_natCast]; omega)).symm
  have c0 : 0 = CC 15 := by
    rw [hCC]
    show 0 = D16 (V16 a) 16 % 2
    rw [D16_top va.1 va.2]
    rfl
  have cr : ∀ x, 0 ≤ CC x ∧ CC x ≤ 1 := by
    intro x
    rw [hCC]
    dsimp only
    omega
  have dv : ∀ i, i < 16 → (CC (Int.ofNat i) * 65536 + a i) / 2 = R a i := by
    intro i hi
    rw [hCC, hR]
    dsimp only
    rw [half_digit, D16_V16 ha hi]
    rfl
  have cs : ∀ i : Nat, i < 16 → ∀ y : Int, y + 1 = Int.ofNat i → (CC (Int.ofNat i) * 65536 + a i) % 2 = CC y := by
    intro i hi y hy
    rw [hCC]
    dsimp only
    rw [hy, ← D16_V16 ha hi, half_carry]
    rfl
  have fs : ∀ i : Nat, i < 16 → ∀ y : Int, y + 1 = Int.ofNat i → ∀ k, (if k = i then R a i else FA (Int.ofNat i) k) = FA y k := by
    intro i hi y hy k
    rw [hFA, hR]
    dsimp only
    simp only [Int.ofNat_eq_natCast] at hy ⊢
    by_cases h : k = i
    · subst h
      rw [if_pos rfl, if_pos (by omega)]
    · rw [if_neg h]
      by_cases h2 : (i : Int) < k
      · rw [if_pos h2, if_pos (by omega)]
      · rw [if_neg h2, if_neg (by omega)]
  have fe : ∀ x : Int, x = -1 → ∀ k, k < 16 → FA x k = R a k := by
    intro x hx k _
    rw [hFA, hR]
    exact if_pos (by simp only [Int.ofNat_eq_natCast]; omega)
  clear hFA hCC hR
  refine ⟨?_⟩
  cbv
  refine ⟨⟨⟨15, by omega, by omega⟩, ?_⟩, fun x _ => ?_⟩
  · subst hI
    cbv
    exact ⟨fun _ _ => rfl, fun _ _ => rfl, f0, c0, trivial⟩
  · subst hI
    cbv
    obtain ⟨x, h1, h2⟩ := x
    refine ⟨fun h => ?_, fun h => ?_⟩
    · cbv
      have hx : 0 ≤ x := by rw [hcm] at h; exact geT h
      obtain ⟨i, rfl⟩ := Int.eq_ofNat_of_zero_le hx
      have hi : i < 16 := by omega
      have qi : na (Int.ofNat i) = i := by rw [hna]; rfl
      have r1 := ha.h i hi
      simp only [b16] at r1
      have r2 := cr (Int.ofNat i)
      have w : bi .mul .i64 (CC (Int.ofNat i)) 65536 = CC (Int.ofNat i) * 65536 := by rw [hbi]; exact mul_i64 (by omega)
      have vx : bi .add .i64 (bi .mul .i64 (CC (Int.ofNat i)) 65536) (a (na (Int.ofNat i))) = CC (Int.ofNat i) * 65536 + a i := by rw [qi, w, hbi]; exact add_i64 (by omega)
      have v1 : bi .quo .i64 (bi .add .i64 (bi .mul .i64 (CC (Int.ofNat i)) 65536) (a (na (Int.ofNat i)))) 2 = R a i := by rw [vx, hbi, quo_i64 (by omega) (by omega)]; exact dv i hi
      obtain ⟨y, hy⟩ : ∃ y : Int, y + 1 = Int.ofNat i := ⟨Int.ofNat i - 1, by omega⟩
      have v2 : bi .rem .i64 (bi .add .i64 (bi .mul .i64 (CC (Int.ofNat i)) 65536) (a (na (Int.ofNat i)))) 2 = CC y := by rw [vx, hbi, rem_i64 (by omega)]; exact cs i hi y hy
      have v3 : bi .sub .i64 (Int.ofNat i) 1 = y := by rw [hbi, sub_i64 (by simp only [Int.ofNat_eq_natCast]; omega)]; omega
      have yb : -1 ≤ y ∧ y ≤ 15 := by simp only [Int.ofNat_eq_natCast] at hy; omega
      have ym : (y + 1).toNat < (Int.ofNat i + 1).toNat := by simp only [Int.ofNat_eq_natCast] at hy ⊢; omega
      refine ⟨(by constructor; (try dsimp only [SI.val, SO.val]); (try simp (disch := omega) only [hbi, hna, hcv, Int.ofNat_eq_natCast, add_i64, sub_i64, mul_i64, quo_i64, rem_i64, wrap_i64, wrap_u8, Int.toNat_natCast]); omega), (by constructor; (try dsimp only [SI.val, SO.val]); (try simp (disch := omega) only [hbi, hna, hcv, Int.ofNat_eq_natCast, add_i64, sub_i64, mul_i64, quo_i64, rem_i64, wrap_i64, wrap_u8, Int.toNat_natCast]); omega), (by constructor; (try dsimp only [SI.val, SO.val]); (try simp (disch := omega) only [hbi, hna, hcv, Int.ofNat_eq_natCast, add_i64, sub_i64, mul_i64, quo_i64, rem_i64, wrap_i64, wrap_u8, Int.toNat_natCast]); omega), (by constructor; (try dsimp only [SI.val, SO.val]); (try simp (disch := omega) only [hbi, hna, hcv, Int.ofNat_eq_natCast, add_i64, sub_i64, mul_i64, quo_i64, rem_i64, wrap_i64, wrap_u8, Int.toNat_natCast]); omega), ⟨y, yb.1, yb.2⟩, ?_, ym⟩
      cbv
      refine ⟨fun _ _ => rfl, fun _ _ => rfl, fun k _ => ?_, v2, v3, trivial⟩
      show (if k = na (Int.ofNat i) then bi .quo .i64 (bi .add .i64 (bi .mul .i64 (CC (Int.ofNat i)) 65536) (a (na (Int.ofNat i)))) 2 else FA (Int.ofNat i) k) = FA y k
      rw [v1, qi]
      exact fs i hi y hy k
    · cbv
      have hx : x = -1 := by rw [hcm] at h; have := geF h; dsimp only at this; omega
      exact fe x hx

theorem ok_qhalf (G : Nat → AV) : Sound Tryd.prog G 69 (qunC (fun a => D16 (V16 a / 2))) := by
  refine sound_each (n := 24) (rs := [.cell 2 46]) (sc := sc_qhalf.1) mixed Tryd.func69 rfl rfl rfl rfl sc_qhalf.2 ?_
  intro vs cs r h
  unfold qunC at h
  split at h
  · rename_i a
    cases h
    exact ⟨by simp, fun hcs hwf => ⟨_, envOK tabOK ( .nil), rfl, walk_qhalf realOps rfl G a ((hcs _ (by simp) : Num16 a)) _ rfl _ rfl _ rfl _ rfl⟩⟩
  · cases h
end Go.Proofs.YtnfbjfbndnmhmaaDoor
