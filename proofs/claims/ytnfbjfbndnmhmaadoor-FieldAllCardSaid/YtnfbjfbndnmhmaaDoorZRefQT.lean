/-
  The document's numbers modulo p: products.
-/
import Derived.Test.YtnfbjfbndnmhmaaDoorZRefQF
namespace Go.Proofs.YtnfbjfbndnmhmaaDoor
open Go Go.Proofs Sx
set_option maxRecDepth 100000
set_option maxHeartbeats 4000000
set_option linter.unusedVariables false
set_option linter.unusedSimpArgs false

def sc_qtimes : { c : SC // strip (body Tryd.f53) = c } := ⟨_, by cbv⟩
theorem walk_qtimes (A : Ops) (hA : A = realOps) (a : Nat → Int) (b : Nat → Int) (ha : Num16 a) (hb : Num16 b) (FO : (Nat → Int) → Nat → Int) (hFO : FO = fun w => nb (zi pN (W32 w))) (R : (Nat → Int) → (Nat → Int) → Nat → Int) (hR : R = fun a b => nb (nv a * nv b)) (MC : Nat → Nat → Int) (hMC : MC = prdC a b) (MD : Nat → Nat → Nat → Int) (hMD : MD = prdD a b) (I : { i : Nat // i ≤ 16 } → St) (hI : I = fun i => slots 37 [(2, .own (.arr .i64 16 a)), (3, .own (.arr .i64 16 b)), (4, .own (.arr .i64 16 fun _ => 0)), (5, .own (.arr .i64 32 (MC i.1))), (6, .int .i64 (.sym (i.1 : Int)))]) (J : St → { j : Nat // j ≤ 16 } → St) (hJ : J = fun s j => slots 37 ([(2, .own (.arr .i64 16 a)), (3, .own (.arr .i64 16 b)), (4, .own (.arr .i64 16 fun _ => 0)), (5, .own (.arr .i64 32 (MD (natIn s 6) j.1)))] ++ keepS s [6, 7] ++ [(8, .int .i64 (.sym (j.1 : Int)))])) :
    Walk (mkEnv A tab.1 Gqprime [(75, qfoldC FO)] [(3, .inv { i : Nat // i ≤ 16 } I fun i => 16 - i.1), (7, .invd { j : Nat // j ≤ 16 } J fun j => 16 - j.1)]) sc_qtimes.1 37 [.cell 4 46] [.arr .i64 16 a, .arr .i64 16 b] (.arr .i64 16 (R a b)) := by
  obtain ⟨bi, cm, un, cv, na, eq⟩ := A
  have hbi : bi = realBin := congrArg Ops.bin hA
  have hcm : cm = realCmp := congrArg Ops.cmp hA
  have hna : na = Int.toNat := congrArg Ops.nat hA
  have hcv : cv = fun k n => k.wrap n := congrArg Ops.cnv hA
  have heq : eq = realEqA := congrArg Ops.eqA hA
  clear hA
  have m0 : ∀ k, k < 32 → 0 = MC 0 k := by intro k _; rw [hMC]; rfl
  have md0 : ∀ i k, MC i k = MD i 0 k := by intro i k; rw [hMC, hMD]; exact (prdD_zero a b i k).symm
  have mde : ∀ i k, MD i 16 k = MC (i + 1) k := by intro i k; rw [hMC, hMD]; rfl
  have ms : ∀ i j k, (if k = i + j then MD i j (i + j) + a i * b j else MD i j k) = MD i (j + 1) k := by intro i j k; rw [hMD]; exact prdD_step a b i j k
  have mr : ∀ i j k, i < 16 → j ≤ 16 → 0 ≤ MD i j k ∧ MD i j k ≤ 68719476736 := by intro i j k hi hj; rw [hMD]; exact prdD_range ha hb hi hj k
  have pr : ∀ i j, i < 16 → j < 16 → 0 ≤ a i * b j ∧ a i * b j ≤ 4294836225 := by
    intro i j hi hj
    have h1 := ha.h i hi
    have h2 := hb.h j hj
    simp only [b16] at h1 h2
    exact ⟨Int.mul_nonneg h1.1 h2.1, Int.mul_le_mul (show a i ≤ 65535 by omega) (show b j ≤ 65535 by omega) h2.1 (by decide)⟩
  have cf : Cols (MC 16) := by rw [hMC]; exact (prd_cols ha hb).1
  have en : ∀ k, k < 16 → FO (MC 16) k = R a b k := by
    intro k _
    have e : zi pN (W32 (MC 16)) = nv a * nv b := by rw [hMC]; exact (prd_cols ha hb).2
    rw [hFO, hR]
    dsimp only
    rw [e]
  clear hMC hMD hFO hR
  refine ⟨?_⟩
  cbv
  refine ⟨⟨⟨0, by decide⟩, ?_⟩, fun i _ => ?_⟩
  · subst hI
    cbv
    exact ⟨fun _ _ => rfl, fun _ _ => rfl, fun _ _ => rfl, m0, rfl, trivial⟩
  · subst hI
    cbv
    obtain ⟨i, hi⟩ := i
    refine ⟨fun h => ?_, fun h => ?_⟩
    · cbv
      rw [hcm] at h
      have hlt := ltT h
      simp only [Int.ofNat_eq_natCast] at hlt
      have hi2 : i < 16 := by omega
      have qi : na (Int.ofNat i) = i := by rw [hna]; rfl
      have p4 : bi .add .i64 (Int.ofNat i) 1 = Int.ofNat (i + 1) := by rw [hbi, add_i64 (by simp only [Int.ofNat_eq_natCast]; omega)]; rfl
      refine ⟨(by constructor; (try dsimp only [SI.val, SO.val]); (try simp (disch := omega) only [hbi, hna, hcv, Int.ofNat_eq_natCast, add_i64, sub_i64, mul_i64, quo_i64, rem_i64, wrap_i64, wrap_u8, Int.toNat_natCast]); omega), (by constructor; (try dsimp only [SI.val, SO.val]); (try simp (disch := omega) only [hbi, hna, hcv, Int.ofNat_eq_natCast, add_i64, sub_i64, mul_i64, quo_i64, rem_i64, wrap_i64, wrap_u8, Int.toNat_natCast]); omega), ⟨⟨0, by decide⟩, ?_⟩, fun j hwf => ?_⟩
      · subst hJ
        cbv
        exact ⟨fun _ _ => rfl, fun _ _ => rfl, fun _ _ => rfl, fun k _ => md0 i k, rfl, trivial⟩
      · subst hJ
        clear hwf
        obtain ⟨j, hj⟩ := j
        cbv
        refine ⟨fun h => ?_, fun h => ?_⟩
        · cbv
          rw [hcm] at h
          have hlt := ltT h
          simp only [Int.ofNat_eq_natCast] at hlt
          have hj2 : j < 16 := by omega
          have qj : na (Int.ofNat j) = j := by rw [hna]; rfl
          have q4 : bi .add .i64 (Int.ofNat j) 1 = Int.ofNat (j + 1) := by rw [hbi, add_i64 (by simp only [Int.ofNat_eq_natCast]; omega)]; rfl
          have q5 : na (bi .add .i64 (Int.ofNat i) (Int.ofNat j)) = i + j := by rw [hbi, add_i64 (by simp only [Int.ofNat_eq_natCast]; omega), hna]; rfl
          have r1 := mr i j (i + j) hi2 hj
          have r2 := pr i j hi2 hj2
          have w : bi .mul .i64 (a i) (b j) = a i * b j := by rw [hbi]; exact mul_i64 (by omega)
          have v : bi .add .i64 (MD i j (na (bi .add .i64 (Int.ofNat i) (Int.ofNat j)))) (bi .mul .i64 (a (na (Int.ofNat i))) (b (na (Int.ofNat j)))) = MD i j (i + j) + a i * b j := by rw [q5, qi, qj, w, hbi, add_i64 (by omega)]
          refine ⟨(by constructor; (try dsimp only [SI.val, SO.val]); (try simp (disch := omega) only [hbi, hna, hcv, Int.ofNat_eq_natCast, add_i64, sub_i64, mul_i64, quo_i64, rem_i64, wrap_i64, wrap_u8, Int.toNat_natCast]); omega), (by constructor; (try dsimp only [SI.val, SO.val]); (try simp (disch := omega) only [hbi, hna, hcv, Int.ofNat_eq_natCast, add_i64, sub_i64, mul_i64, quo_i64, rem_i64, wrap_i64, wrap_u8, Int.toNat_natCast]); omega), (by constructor; (try dsimp only [SI.val, SO.val]); (try simp (disch := omega) only [hbi, hna, hcv, Int.ofNat_eq_natCast, add_i64, sub_i64, mul_i64, quo_i64, rem_i64, wrap_i64, wrap_u8, Int.toNat_natCast]); omega), (by constructor; (try dsimp only [SI.val, SO.val]); (try simp (disch := omega) only [hbi, hna, hcv, Int.ofNat_eq_natCast, add_i64, sub_i64, mul_i64, quo_i64, rem_i64, wrap_i64, wrap_u8, Int.toNat_natCast]); omega), (by constructor; (try dsimp only [SI.val, SO.val]); (try simp (disch := omega) only [hbi, hna, hcv, Int.ofNat_eq_natCast, add_i64, sub_i64, mul_i64, quo_i64, rem_i64, wrap_i64, wrap_u8, Int.toNat_natCast]); omega), (by constructor; (try dsimp only [SI.val, SO.val]); (try simp (disch := omega) only [hbi, hna, hcv, Int.ofNat_eq_natCast, add_i64, sub_i64, mul_i64, quo_i64, rem_i64, wrap_i64, wrap_u8, Int.toNat_natCast]); omega), ⟨j + 1, by omega⟩, ?_, by show 16 - (j + 1) < 16 - j; omega⟩
          cbv
          refine ⟨fun _ _ => rfl, fun _ _ => rfl, fun _ _ => rfl, fun k _ => ?_, q4, trivial⟩
          show (if k = na (bi .add .i64 (Int.ofNat i) (Int.ofNat j)) then bi .add .i64 (MD i j (na (bi .add .i64 (Int.ofNat i) (Int.ofNat j)))) (bi .mul .i64 (a (na (Int.ofNat i))) (b (na (Int.ofNat j)))) else MD i j k) = MD i (j + 1) k
          rw [v, q5]
          exact ms i j k
        · cbv
          have hN : j = 16 := by
            rw [hcm] at h
            have := ltF h
            simp only [Int.ofNat_eq_natCast] at this
            omega
          subst hN
          refine ⟨⟨i + 1, by omega⟩, ?_, by show 16 - (i + 1) < 16 - i; omega⟩
          cbv
          exact ⟨fun _ _ => rfl, fun _ _ => rfl, fun _ _ => rfl, fun k _ => mde i k, p4, trivial⟩
    · cbv
      have hN : i = 16 := by
        rw [hcm] at h
        have := ltF h
        simp only [Int.ofNat_eq_natCast] at this
        omega
      subst hN
      exact ⟨cf, en⟩

theorem ok_qtimes : Sound Tryd.prog Gqprime 53 (qbinC (fun a b => nb (nv a * nv b))) := by
  refine sound_each (n := 37) (rs := [.cell 4 46]) (sc := sc_qtimes.1) mixed Tryd.func53 rfl rfl rfl rfl sc_qtimes.2 ?_
  intro vs cs r h
  unfold qbinC at h
  split at h
  · rename_i a b
    cases h
    exact ⟨by simp, fun hcs hwf => ⟨_, envOK tabOK ((.cons (ok_qfold) .nil)), rfl, walk_qtimes realOps rfl a b ((hcs _ (by simp) : Num16 a)) ((hcs _ (by simp) : Num16 b)) _ rfl _ rfl _ rfl _ rfl _ rfl _ rfl⟩⟩
  · cases h
end Go.Proofs.YtnfbjfbndnmhmaaDoor
