/-
  The document's numbers modulo p: sums, differences.
-/
import Derived.Test.YtnfbjfbndnmhmaaDoorZRefQF
namespace Go.Proofs.YtnfbjfbndnmhmaaDoor
open Go Go.Proofs Sx
set_option maxRecDepth 100000
set_option maxHeartbeats 4000000
set_option linter.unusedVariables false
set_option linter.unusedSimpArgs false

def sc_qplus : { c : SC // strip (body Tryd.f55) = c } := ⟨_, by cbv⟩
theorem walk_qplus (A : Ops) (hA : A = realOps) (a : Nat → Int) (b : Nat → Int) (ha : Num16 a) (hb : Num16 b) (FO : (Nat → Int) → Nat → Int) (hFO : FO = fun w => nb (zi pN (W32 w))) (R : (Nat → Int) → (Nat → Int) → Nat → Int) (hR : R = fun a b => nb (nv a + nv b)) (FA : Nat → Nat → Int) (hFA : FA = fun i j => if j < i then a j + b j else 0) (I : { i : Nat // i ≤ 16 } → St) (hI : I = fun i => slots 22 [(2, .own (.arr .i64 16 a)), (3, .own (.arr .i64 16 b)), (4, .own (.arr .i64 16 fun _ => 0)), (5, .own (.arr .i64 32 (FA i.1))), (6, .int .i64 (.sym (i.1 : Int)))]) :
    Walk (mkEnv A tab.1 Gqprime [(75, qfoldC FO)] [(3, .inv { i : Nat // i ≤ 16 } I fun i => 16 - i.1)]) sc_qplus.1 22 [.cell 4 46] [.arr .i64 16 a, .arr .i64 16 b] (.arr .i64 16 (R a b)) := by
  obtain ⟨bi, cm, un, cv, na, eq⟩ := A
  have hbi : bi = realBin := congrArg Ops.bin hA
  have hcm : cm = realCmp := congrArg Ops.cmp hA
  have hna : na = Int.toNat := congrArg Ops.nat hA
  have hcv : cv = fun k n => k.wrap n := congrArg Ops.cnv hA
  have heq : eq = realEqA := congrArg Ops.eqA hA
  clear hA
  have cf : Cols (FA 16) := by rw [hFA]; exact (add_cols ha hb).1
  have en : ∀ k, k < 16 → FO (FA 16) k = R a b k := by
    intro k _
    have e : zi pN (W32 (FA 16)) = nv a + nv b := by rw [hFA]; exact (add_cols ha hb).2
    rw [hFO, hR]
    dsimp only
    rw [e]
  clear hFO hR
  refine ⟨?_⟩
  cbv
  refine ⟨⟨⟨0, by decide⟩, ?_⟩, fun i _ => ?_⟩
  · subst hI
    cbv
    exact ⟨fun _ _ => rfl, fun _ _ => rfl, fun _ _ => rfl, (fun k _ => by rw [hFA]; exact (if_neg (Nat.not_lt_zero k)).symm), rfl, trivial⟩
  · subst hI
    cbv
    obtain ⟨i, hi⟩ := i
    refine ⟨fun h => ?_, fun h => ?_⟩
    · cbv
      rw [hcm] at h
      have hlt := ltT h
      simp only [Int.ofNat_eq_natCast] at hlt
      have hlt2 : i < 16 := by omega
      have qi : na (Int.ofNat i) = i := by rw [hna]; rfl
      have q4 : bi .add .i64 (Int.ofNat i) 1 = Int.ofNat (i + 1) := by rw [hbi, add_i64 (by simp only [Int.ofNat_eq_natCast]; omega)]; rfl
      have r1 := ha.h i hlt2
      have r2 := hb.h i hlt2
      simp only [b16] at r1 r2
      have v : bi .add .i64 (a i) (b i) = a i + b i := by rw [hbi]; exact add_i64 (by omega)
      refine ⟨(by constructor; (try dsimp only [SI.val, SO.val]); (try simp (disch := omega) only [hbi, hna, hcv, Int.ofNat_eq_natCast, add_i64, sub_i64, mul_i64, quo_i64, rem_i64, wrap_i64, wrap_u8, Int.toNat_natCast]); omega), (by constructor; (try dsimp only [SI.val, SO.val]); (try simp (disch := omega) only [hbi, hna, hcv, Int.ofNat_eq_natCast, add_i64, sub_i64, mul_i64, quo_i64, rem_i64, wrap_i64, wrap_u8, Int.toNat_natCast]); omega), (by constructor; (try dsimp only [SI.val, SO.val]); (try simp (disch := omega) only [hbi, hna, hcv, Int.ofNat_eq_natCast, add_i64, sub_i64, mul_i64, quo_i64, rem_i64, wrap_i64, wrap_u8, Int.toNat_natCast]); omega), (by constructor; (try dsimp only [SI.val, SO.val]); (try simp (disch := omega) only [hbi, hna, hcv, Int.ofNat_eq_natCast, add_i64, sub_i64, mul_i64, quo_i64, rem_i64, wrap_i64, wrap_u8, Int.toNat_natCast]); omega), (by constructor; (try dsimp only [SI.val, SO.val]); (try simp (disch := omega) only [hbi, hna, hcv, Int.ofNat_eq_natCast, add_i64, sub_i64, mul_i64, quo_i64, rem_i64, wrap_i64, wrap_u8, Int.toNat_natCast]); omega), (by constructor; (try dsimp only [SI.val, SO.val]); (try simp (disch := omega) only [hbi, hna, hcv, Int.ofNat_eq_natCast, add_i64, sub_i64, mul_i64, quo_i64, rem_i64, wrap_i64, wrap_u8, Int.toNat_natCast]); omega), ⟨i + 1, by omega⟩, ?_, by show 16 - (i + 1) < 16 - i; omega⟩
      cbv
      refine ⟨fun _ _ => rfl, fun _ _ => rfl, fun _ _ => rfl, fun k _ => ?_, q4, trivial⟩
      show (if k = na (Int.ofNat i) then bi .add .i64 (a (na (Int.ofNat i))) (b (na (Int.ofNat i))) else FA i k) = FA (i + 1) k
      rw [qi, v, hFA]
      exact fill_one (fun k => a k + b k) (fun _ => 0) i k

    · cbv
      have hN : i = 16 := by
        rw [hcm] at h
        have := ltF h
        simp only [Int.ofNat_eq_natCast] at this
        omega
      subst hN
      exact ⟨cf, en⟩

theorem ok_qplus : Sound Tryd.prog Gqprime 55 (qbinC (fun a b => nb (nv a + nv b))) := by
  refine sound_each (n := 22) (rs := [.cell 4 46]) (sc := sc_qplus.1) mixed Tryd.func55 rfl rfl rfl rfl sc_qplus.2 ?_
  intro vs cs r h
  unfold qbinC at h
  split at h
  · rename_i a b
    cases h
    exact ⟨by simp, fun hcs hwf => ⟨_, envOK tabOK ((.cons (ok_qfold) .nil)), rfl, walk_qplus realOps rfl a b ((hcs _ (by simp) : Num16 a)) ((hcs _ (by simp) : Num16 b)) _ rfl _ rfl _ rfl _ rfl⟩⟩
  · cases h
def sc_qminus : { c : SC // strip (body Tryd.f57) = c } := ⟨_, by cbv⟩
theorem walk_qminus (A : Ops) (hA : A = realOps) (a : Nat → Int) (b : Nat → Int) (ha : Num16 a) (hb : Num16 b) (FT : (Nat → Int) → Nat → Int) (hFT : FT = fun a => nb (nv a)) (P : Nat → Int) (hP : P = D16 p25) (LS : (Nat → Int) → (Nat → Int) → Nat → Int) (hLS : LS = fun a b => D16 (V16 a - V16 b)) (PL : (Nat → Int) → (Nat → Int) → Nat → Int) (hPL : PL = fun a b => nb (nv a + nv b)) (R : (Nat → Int) → (Nat → Int) → Nat → Int) (hR : R = fun a b => nb (nv a - nv b))  :
    Walk (mkEnv A tab.1 Gqprime [(66, qunC FT), (44, qprimeC P), (72, qlessC LS), (55, qbinC PL)] []) sc_qminus.1 20 [.cell 4 46] [.arr .i64 16 a, .arr .i64 16 b] (.arr .i64 16 (R a b)) := by
  obtain ⟨bi, cm, un, cv, na, eq⟩ := A
  have hbi : bi = realBin := congrArg Ops.bin hA
  have hcm : cm = realCmp := congrArg Ops.cmp hA
  have hna : na = Int.toNat := congrArg Ops.nat hA
  have hcv : cv = fun k n => k.wrap n := congrArg Ops.cnv hA
  have heq : eq = realEqA := congrArg Ops.eqA hA
  clear hA
  have nP : Num16 P := by rw [hP]; exact num16_D16 _
  have nF : ∀ f, Num16 (FT f) := by intro f; rw [hFT]; exact num16_nb _
  have nL : ∀ f g, Num16 (LS f g) := by intro f g; rw [hLS]; exact num16_D16 _
  have ov : Over P (FT b) := by
    rw [hP, hFT]
    refine ⟨?_⟩
    dsimp only
    rw [V16_nb, V16_D16 (by decide) (by decide)]
    exact Int.le_of_lt (zval_bounds _).2
  have en : ∀ k, k < 16 → PL (FT a) (LS P (FT b)) k = R a b k := by
    intro k _
    have hv := zval_bounds (nv b)
    rw [hPL, hR, hLS, hP, hFT]
    dsimp only
    rw [V16_nb, V16_D16 (by decide) (by decide), nv_nb]
    have e : nv (D16 (p25 - ((nv b).val : Int))) = - nv b := by
      unfold nv
      rw [V16_D16 (by unfold nv at hv; omega) (Int.lt_of_le_of_lt (Int.sub_le_self _ (by unfold nv at hv; exact hv.1)) (by decide)), zi_sub, zi_p25, zi_of_val]
      grind
    rw [e]
    congr 1
    grind
  clear hPL hR hLS hP hFT
  refine ⟨?_⟩
  cbv
  exact ⟨ha, hb, nP, nF b, ov, nF a, nL _ _, en⟩

theorem ok_qminus : Sound Tryd.prog Gqprime 57 (qbinC (fun a b => nb (nv a - nv b))) := by
  refine sound_each (n := 20) (rs := [.cell 4 46]) (sc := sc_qminus.1) mixed Tryd.func57 rfl rfl rfl rfl sc_qminus.2 ?_
  intro vs cs r h
  unfold qbinC at h
  split at h
  · rename_i a b
    cases h
    exact ⟨by simp, fun hcs hwf => ⟨_, envOK tabOK ((.cons (ok_qfit) (.cons (ok_qprime) (.cons (ok_qless Gqprime) (.cons (ok_qplus) .nil))))), rfl, walk_qminus realOps rfl a b ((hcs _ (by simp) : Num16 a)) ((hcs _ (by simp) : Num16 b)) _ rfl _ rfl _ rfl _ rfl _ rfl ⟩⟩
  · cases h
end Go.Proofs.YtnfbjfbndnmhmaaDoor
