/-
  The document's numbers modulo p: 32 columns are folded.
-/
import Derived.Test.YtnfbjfbndnmhmaaDoorZRefQC
namespace Go.Proofs.YtnfbjfbndnmhmaaDoor
open Go Go.Proofs Sx
set_option maxRecDepth 100000
set_option maxHeartbeats 4000000
set_option linter.unusedVariables false
set_option linter.unusedSimpArgs false

def arrQ (S : St) (k : Nat) : Nat → Int := match get S k with
  | .own (.arr _ _ f) => f
  | _ => fun _ => 0
def intQ (S : St) (k : Nat) : Int := match get S k with
  | .int _ n => n.val
  | _ => 0
def rQA (n : Nat → Int) (c : Int) (i : Nat) : Nat → Int := fun j => if j < i then D16 (sumB b16 16 n + c) j else n j
def rQC (n : Nat → Int) (c : Int) (i : Nat) : Int := carB b16 n c i

def sc_qfold : { c : SC // strip (body Tryd.f75) = c } := ⟨_, by cbv⟩
theorem walk_qfold (A : Ops) (hA : A = realOps) (w : Nat → Int) (hw : Cols w) (FT : (Nat → Int) → Nat → Int) (hFT : FT = fun a => nb (nv a)) (R : (Nat → Int) → Nat → Int) (hR : R = fun w => nb (zi pN (W32 w))) (WA : Nat → Nat → Int) (hWA : WA = colA w) (WC : Nat → Int) (hWC : WC = colC w) (WD : Nat → Int) (hWD : WD = dgt b16 (W32 w)) (NA : Nat → Nat → Int) (hNA : NA = fun i j => if j < i then fold0 w j else 0) (F0 : Nat → Int) (hF0 : F0 = fold0 w) (FN : Nat → Nat → Int) (hFN : FN = foldN w) (FC : Nat → Int) (hFC : FC = foldC w) (RA : (Nat → Int) → Int → Nat → Nat → Int) (hRA : RA = rQA) (RC : (Nat → Int) → Int → Nat → Int) (hRC : RC = rQC) (RD : Nat → Nat → Int) (hRD : RD = fun k => D16 (foldS (foldT w) k)) (AG : Nat → Bool) (hAG : AG = fun k => decide (k = 0 ∨ 0 < foldC w k))
    (I1 : { i : Nat // i ≤ 32 } → St) (hI1 : I1 = fun i => slots 63 [(1, .own (.arr .i64 32 (WA i.1))), (2, .own (.arr .i64 16 fun _ => 0)), (3, .int .i64 (.sym (WC i.1))), (4, .int .i64 (.sym (i.1 : Int)))])
    (I2 : { i : Nat // i ≤ 16 } → St) (hI2 : I2 = fun i => slots 63 [(1, .own (.arr .i64 32 (WA 32))), (2, .own (.arr .i64 16 fun _ => 0)), (6, .own (.arr .i64 16 (NA i.1))), (7, .int .i64 (.sym (i.1 : Int)))])
    (I3 : { k : Nat // k ≤ 3 } → St) (hI3 : I3 = fun k => slots 63 [(2, .own (.arr .i64 16 fun _ => 0)), (3, .int .i64 (.sym (FC k.1))), (6, .own (.arr .i64 16 (FN k.1))), (8, .bool (.sym (AG k.1)))])
    (I4 : St → { i : Nat // i ≤ 16 } → St) (hI4 : I4 = fun s i => slots 63 [(2, .own (.arr .i64 16 fun _ => 0)), (3, .int .i64 (.sym (RC (arrQ s 6) (intQ s 3) i.1))), (6, .own (.arr .i64 16 (RA (arrQ s 6) (intQ s 3) i.1))), (9, .int .i64 (.sym (i.1 : Int)))]) :
    Walk (mkEnv A tab.1 Gqprime [(66, qunC FT)] [(3, .inv { i : Nat // i ≤ 32 } I1 fun i => 32 - i.1), (10, .inv { i : Nat // i ≤ 16 } I2 fun i => 16 - i.1), (15, .inv { k : Nat // k ≤ 3 } I3 fun k => 3 - k.1), (19, .invd { i : Nat // i ≤ 16 } I4 fun i => 16 - i.1)]) sc_qfold.1 63 [.cell 2 46] [.arr .i64 32 w] (.arr .i64 16 (R w)) := by
  obtain ⟨bi, cm, un, cv, na, eq⟩ := A
  have hbi : bi = realBin := congrArg Ops.bin hA
  have hcm : cm = realCmp := congrArg Ops.cmp hA
  have hna : na = Int.toNat := congrArg Ops.nat hA
  have hcv : cv = fun k n => k.wrap n := congrArg Ops.cnv hA
  have heq : eq = realEqA := congrArg Ops.eqA hA
  clear hA
  have w0 : ∀ k, k < 32 → w k = WA 0 k := by intro k _; rw [hWA]; exact (colA_zero w k).symm
  have wc0 : 0 = WC 0 := by rw [hWC]; exact (colC_zero w).symm
  have wa : ∀ i, WA i i = w i := by intro i; rw [hWA]; exact colA_at w i
  have wr : ∀ i, i ≤ 32 → 0 ≤ WC i ∧ WC i ≤ 4194304 := by intro i hi; rw [hWC]; exact col_range hw hi
  have ws : ∀ i, i < 32 → (w i + WC i) % 65536 = WD i ∧ (w i + WC i) / 65536 = WC (i + 1) := by intro i hi; rw [hWC, hWD]; exact col_step hi
  have wu : ∀ i k, (if k = i then WD i else WA i k) = WA (i + 1) k := by intro i k; rw [hWA, hWD]; exact col_upd w i k
  have we : ∀ k, k < 32 → WA 32 k = WD k := by intro k hk; rw [hWA, hWD]; exact if_pos hk
  have wd : ∀ k, 0 ≤ WD k ∧ WD k ≤ 65535 := by intro k; rw [hWD]; exact dig16 _ k
  have n0 : ∀ k, k < 16 → 0 = NA 0 k := by intro k _; rw [hNA]; exact (if_neg (Nat.not_lt_zero k)).symm
  have nf : ∀ i, WD i + 38 * WD (i + 16) = F0 i := by intro i; rw [hWD, hF0]; rfl
  have nu : ∀ i k, (if k = i then F0 i else NA i k) = NA (i + 1) k := by intro i k; rw [hNA, hF0]; exact fill_one (fold0 w) (fun _ => 0) i k
  have ne : ∀ k, k < 16 → NA 16 k = FN 0 k := by intro k hk; rw [hNA, hFN]; exact if_pos hk
  have fc0 : 0 = FC 0 := by rw [hFC]; rfl
  have ag0 : true = AG 0 := by rw [hAG]; rfl
  have agT : ∀ k, k ≤ 3 → AG k = true → k + 1 ≤ 3 := by
    intro k hk h
    rw [hAG] at h
    have h2 := of_decide_eq_true h
    have h3 := foldC_three w
    by_cases e : k = 3
    · subst e; omega
    · omega
  have agN : ∀ k, decide (0 < FC (k + 1)) = AG (k + 1) := by intro k; rw [hFC, hAG]; simp
  have fcr : ∀ k, k ≤ 3 → 0 ≤ FC k ∧ FC k ≤ 38 := by intro k hk; rw [hFC]; exact foldC_range w hk
  have fnr : ∀ k i, 0 ≤ FN k i ∧ FN k i ≤ 2555865 := by intro k i; rw [hFN]; exact foldN_range w k i
  have ra0 : ∀ n c k, n k = RA n c 0 k := by intro n c k; rw [hRA]; exact (if_neg (Nat.not_lt_zero k)).symm
  have rc0 : ∀ n c, c = RC n c 0 := by intro n c; rw [hRC]; exact (carB_zero ..).symm
  have raa : ∀ n c i, RA n c i i = n i := by intro n c i; rw [hRA]; exact if_neg (Nat.lt_irrefl i)
  have rr : ∀ k, k ≤ 3 → ∀ i, i ≤ 16 → 0 ≤ RC (FN k) (38 * FC k) i ∧ RC (FN k) (38 * FC k) i ≤ 2000 := by intro k hk i hi; rw [hRC, hFN, hFC]; exact rnd_range hk hi
  have rs : ∀ k i, i < 16 → (FN k i + RC (FN k) (38 * FC k) i) % 65536 = RD k i ∧ (FN k i + RC (FN k) (38 * FC k) i) / 65536 = RC (FN k) (38 * FC k) (i + 1) := by intro k i hi; rw [hRC, hFN, hFC, hRD]; exact rnd_step hi
  have ru : ∀ k i j, (if j = i then RD k i else RA (FN k) (38 * FC k) i j) = RA (FN k) (38 * FC k) (i + 1) j := by
    intro k i j
    rw [hRA, hFN, hFC, hRD]
    unfold rQA
    rw [fold_S]
    exact fill_one (D16 (foldS (foldT w) k)) (foldN w k) i j
  have re : ∀ k, RC (FN k) (38 * FC k) 16 = FC (k + 1) := by intro k; rw [hRC, hFN, hFC]; exact (rnd_end w k).1
  have rf : ∀ k j, j < 16 → RA (FN k) (38 * FC k) 16 j = FN (k + 1) j := by
    intro k j hj
    rw [hRA, hFN, hFC]
    unfold rQA
    rw [fold_S]
    exact if_pos hj
  have fin : ∀ k, k ≤ 3 → AG k = false → Num16 (FN k) ∧ ∀ j, j < 16 → FT (FN k) j = R w j := by
    intro k hk h
    rw [hAG] at h
    have h2 := of_decide_eq_false h
    obtain ⟨m, rfl⟩ : ∃ m, k = m + 1 := ⟨k - 1, by omega⟩
    have h3 := foldC_range w hk
    have d := fold_done hw (k := m) (by omega)
    rw [hFN, hFT, hR]
    refine ⟨d.1, fun j _ => ?_⟩
    dsimp only
    rw [d.2]
  have hwr := hw.r
  clear hWA hWC hWD hNA hF0 hFN hFC hRA hRC hRD hAG hFT hR hw
  refine ⟨?_⟩
  cbv
  refine ⟨⟨⟨0, by decide⟩, ?_⟩, fun i _ => ?_⟩
  · subst hI1
    cbv
    exact ⟨w0, fun _ _ => rfl, wc0, rfl, trivial⟩
  · subst hI1
    cbv
    obtain ⟨i, hi⟩ := i
    refine ⟨fun h => ?_, fun h => ?_⟩
    · skip
      cbv
      rw [hcm] at h
      have hlt := ltT h
      simp only [Int.ofNat_eq_natCast] at hlt
      have hlt2 : i < 32 := by omega
      have qi : na (Int.ofNat i) = i := by rw [hna]; rfl
      have q4 : bi .add .i64 (Int.ofNat i) 1 = Int.ofNat (i + 1) := by rw [hbi, add_i64 (by simp only [Int.ofNat_eq_natCast]; omega)]; rfl
      have r1 := hwr i hlt2
      have r2 := wr i (by omega)
      have s := ws i hlt2
      have v : bi .add .i64 (WA i (na (Int.ofNat i))) (WC i) = w i + WC i := by rw [qi, wa, hbi, add_i64 (by omega)]
      have v1 : bi .rem .i64 (bi .add .i64 (WA i (na (Int.ofNat i))) (WC i)) 65536 = WD i := by rw [v, hbi, rem_i64 (by omega)]; exact s.1
      have v2 : bi .quo .i64 (bi .add .i64 (WA i (na (Int.ofNat i))) (WC i)) 65536 = WC (i + 1) := by rw [v, hbi, quo_i64 (by omega) (by omega)]; exact s.2
      refine ⟨(by constructor; (try dsimp only [SI.val, SO.val]); (try simp (disch := omega) only [hbi, hna, hcv, Int.ofNat_eq_natCast, add_i64, sub_i64, mul_i64, quo_i64, rem_i64, wrap_i64, wrap_u8, Int.toNat_natCast]); omega), (by constructor; (try dsimp only [SI.val, SO.val]); (try simp (disch := omega) only [hbi, hna, hcv, Int.ofNat_eq_natCast, add_i64, sub_i64, mul_i64, quo_i64, rem_i64, wrap_i64, wrap_u8, Int.toNat_natCast]); omega), (by constructor; (try dsimp only [SI.val, SO.val]); (try simp (disch := omega) only [hbi, hna, hcv, Int.ofNat_eq_natCast, add_i64, sub_i64, mul_i64, quo_i64, rem_i64, wrap_i64, wrap_u8, Int.toNat_natCast]); omega), (by constructor; (try dsimp only [SI.val, SO.val]); (try simp (disch := omega) only [hbi, hna, hcv, Int.ofNat_eq_natCast, add_i64, sub_i64, mul_i64, quo_i64, rem_i64, wrap_i64, wrap_u8, Int.toNat_natCast]); omega), ⟨i + 1, by omega⟩, ?_, by show 32 - (i + 1) < 32 - i; omega⟩
      cbv
      refine ⟨fun k _ => ?_, fun _ _ => rfl, v2, q4, trivial⟩
      show (if k = na (Int.ofNat i) then bi .rem .i64 (bi .add .i64 (WA i (na (Int.ofNat i))) (WC i)) 65536 else WA i k) = WA (i + 1) k
      rw [v1, qi]
      exact wu i k
    · skip
      cbv
      have hN : i = 32 := by
        rw [hcm] at h
        have := ltF h
        simp only [Int.ofNat_eq_natCast] at this
        omega
      subst hN
      refine ⟨⟨⟨0, by decide⟩, ?_⟩, fun i _ => ?_⟩
      · subst hI2
        cbv
        exact ⟨fun _ _ => rfl, fun _ _ => rfl, n0, rfl, trivial⟩
      · subst hI2
        cbv
        obtain ⟨i, hi⟩ := i
        refine ⟨fun h => ?_, fun h => ?_⟩
        · skip
          cbv
          rw [hcm] at h
          have hlt := ltT h
          simp only [Int.ofNat_eq_natCast] at hlt
          have hlt2 : i < 16 := by omega
          have qi : na (Int.ofNat i) = i := by rw [hna]; rfl
          have q4 : bi .add .i64 (Int.ofNat i) 1 = Int.ofNat (i + 1) := by rw [hbi, add_i64 (by simp only [Int.ofNat_eq_natCast]; omega)]; rfl
          have r1 := wd i
          have r2 := wd (i + 16)
          have q5 : na (bi .add .i64 (Int.ofNat i) 16) = i + 16 := by rw [hbi, add_i64 (by simp only [Int.ofNat_eq_natCast]; omega), hna]; rfl
          have v1 : bi .add .i64 (WA 32 (na (Int.ofNat i))) (bi .mul .i64 38 (WA 32 (na (bi .add .i64 (Int.ofNat i) 16)))) = F0 i := by
            rw [qi, q5, we i (by omega), we (i + 16) (by omega), ← nf i, hbi, mul_i64 (by omega), add_i64 (by omega)]
          refine ⟨(by constructor; (try dsimp only [SI.val, SO.val]); (try simp (disch := omega) only [hbi, hna, hcv, Int.ofNat_eq_natCast, add_i64, sub_i64, mul_i64, quo_i64, rem_i64, wrap_i64, wrap_u8, Int.toNat_natCast]); omega), (by constructor; (try dsimp only [SI.val, SO.val]); (try simp (disch := omega) only [hbi, hna, hcv, Int.ofNat_eq_natCast, add_i64, sub_i64, mul_i64, quo_i64, rem_i64, wrap_i64, wrap_u8, Int.toNat_natCast]); omega), (by constructor; (try dsimp only [SI.val, SO.val]); (try simp (disch := omega) only [hbi, hna, hcv, Int.ofNat_eq_natCast, add_i64, sub_i64, mul_i64, quo_i64, rem_i64, wrap_i64, wrap_u8, Int.toNat_natCast]); omega), (by constructor; (try dsimp only [SI.val, SO.val]); (try simp (disch := omega) only [hbi, hna, hcv, Int.ofNat_eq_natCast, add_i64, sub_i64, mul_i64, quo_i64, rem_i64, wrap_i64, wrap_u8, Int.toNat_natCast]); omega), (by constructor; (try dsimp only [SI.val, SO.val]); (try simp (disch := omega) only [hbi, hna, hcv, Int.ofNat_eq_natCast, add_i64, sub_i64, mul_i64, quo_i64, rem_i64, wrap_i64, wrap_u8, Int.toNat_natCast]); omega), (by constructor; (try dsimp only [SI.val, SO.val]); (try simp (disch := omega) only [hbi, hna, hcv, Int.ofNat_eq_natCast, add_i64, sub_i64, mul_i64, quo_i64, rem_i64, wrap_i64, wrap_u8, Int.toNat_natCast]); omega), ⟨i + 1, by omega⟩, ?_, by show 16 - (i + 1) < 16 - i; omega⟩
          cbv
          refine ⟨fun _ _ => rfl, fun _ _ => rfl, fun k _ => ?_, q4, trivial⟩
          show (if k = na (Int.ofNat i) then bi .add .i64 (WA 32 (na (Int.ofNat i))) (bi .mul .i64 38 (WA 32 (na (bi .add .i64 (Int.ofNat i) 16)))) else NA i k) = NA (i + 1) k
          rw [v1, qi]
          exact nu i k
        · skip
          cbv
          have hN : i = 16 := by
            rw [hcm] at h
            have := ltF h
            simp only [Int.ofNat_eq_natCast] at this
            omega
          subst hN
          refine ⟨⟨⟨0, by decide⟩, ?_⟩, fun k _ => ?_⟩
          · subst hI3
            cbv
            exact ⟨fun _ _ => rfl, fc0, ne, ag0, trivial⟩
          · subst hI3
            cbv
            obtain ⟨k, hk⟩ := k
            have fr := fcr k hk
            have c38 : bi .mul .i64 38 (FC k) = 38 * FC k := by rw [hbi]; exact mul_i64 (by omega)
            refine ⟨fun hg => ?_, fun hg => ?_⟩
            · cbv
              refine ⟨⟨⟨0, by decide⟩, ?_⟩, fun i hwf => ?_⟩
              · subst hI4
                cbv
                exact ⟨fun _ _ => rfl, rc0 _ _, fun j _ => ra0 _ _ j, rfl, trivial⟩
              · subst hI4
                clear hwf
                obtain ⟨i, hi⟩ := i
                cbv
                refine ⟨fun h => ?_, fun h => ?_⟩
                · skip
                  cbv
                  rw [hcm] at h
                  have hlt := ltT h
                  simp only [Int.ofNat_eq_natCast] at hlt
                  have hlt2 : i < 16 := by omega
                  have qi : na (Int.ofNat i) = i := by rw [hna]; rfl
                  have q4 : bi .add .i64 (Int.ofNat i) 1 = Int.ofNat (i + 1) := by rw [hbi, add_i64 (by simp only [Int.ofNat_eq_natCast]; omega)]; rfl
                  have r1 := fnr k i
                  have r2 := rr k hk i (by omega)
                  have s := rs k i hlt2
                  have v : bi .add .i64 (RA (FN k) (bi .mul .i64 38 (FC k)) i (na (Int.ofNat i))) (RC (FN k) (bi .mul .i64 38 (FC k)) i) = FN k i + RC (FN k) (38 * FC k) i := by rw [qi, c38, raa, hbi, add_i64 (by omega)]
                  have v1 : bi .rem .i64 (bi .add .i64 (RA (FN k) (bi .mul .i64 38 (FC k)) i (na (Int.ofNat i))) (RC (FN k) (bi .mul .i64 38 (FC k)) i)) 65536 = RD k i := by rw [v, hbi, rem_i64 (by omega)]; exact s.1
                  have v2 : bi .quo .i64 (bi .add .i64 (RA (FN k) (bi .mul .i64 38 (FC k)) i (na (Int.ofNat i))) (RC (FN k) (bi .mul .i64 38 (FC k)) i)) 65536 = RC (FN k) (bi .mul .i64 38 (FC k)) (i + 1) := by rw [v, c38, hbi, quo_i64 (by omega) (by omega)]; exact s.2
                  refine ⟨(by constructor; (try dsimp only [SI.val, SO.val]); (try simp (disch := omega) only [hbi, hna, hcv, Int.ofNat_eq_natCast, add_i64, sub_i64, mul_i64, quo_i64, rem_i64, wrap_i64, wrap_u8, Int.toNat_natCast]); omega), (by constructor; (try dsimp only [SI.val, SO.val]); (try simp (disch := omega) only [hbi, hna, hcv, Int.ofNat_eq_natCast, add_i64, sub_i64, mul_i64, quo_i64, rem_i64, wrap_i64, wrap_u8, Int.toNat_natCast]); omega), (by constructor; (try dsimp only [SI.val, SO.val]); (try simp (disch := omega) only [hbi, hna, hcv, Int.ofNat_eq_natCast, add_i64, sub_i64, mul_i64, quo_i64, rem_i64, wrap_i64, wrap_u8, Int.toNat_natCast]); omega), (by constructor; (try dsimp only [SI.val, SO.val]); (try simp (disch := omega) only [hbi, hna, hcv, Int.ofNat_eq_natCast, add_i64, sub_i64, mul_i64, quo_i64, rem_i64, wrap_i64, wrap_u8, Int.toNat_natCast]); omega), ⟨i + 1, by omega⟩, ?_, by show 16 - (i + 1) < 16 - i; omega⟩
                  cbv
                  refine ⟨fun _ _ => rfl, v2, fun j _ => ?_, q4, trivial⟩
                  show (if j = na (Int.ofNat i) then bi .rem .i64 (bi .add .i64 (RA (FN k) (bi .mul .i64 38 (FC k)) i (na (Int.ofNat i))) (RC (FN k) (bi .mul .i64 38 (FC k)) i)) 65536 else RA (FN k) (bi .mul .i64 38 (FC k)) i j) = RA (FN k) (bi .mul .i64 38 (FC k)) (i + 1) j
                  rw [v1, qi, c38]
                  exact ru k i j
                · skip
                  cbv
                  have hN : i = 16 := by
                    rw [hcm] at h
                    have := ltF h
                    simp only [Int.ofNat_eq_natCast] at this
                    omega
                  subst hN
                  have k3 := agT k hk hg
                  refine ⟨⟨k + 1, k3⟩, ?_, by show 3 - (k + 1) < 3 - k; omega⟩
                  cbv
                  refine ⟨fun _ _ => rfl, ?_, fun j hj => ?_, ?_, trivial⟩
                  · rw [c38]
                    exact re k
                  · rw [c38]
                    exact rf k j hj
                  · show cm .gtr (RC (FN k) (bi .mul .i64 38 (FC k)) 16) 0 = AG (k + 1)
                    rw [c38, re, hcm]
                    exact agN k
            · cbv
              have e := fin k hk hg
              exact e

theorem ok_qfold : Sound Tryd.prog Gqprime 75 (qfoldC (fun w => nb (zi pN (W32 w)))) := by
  refine sound_each (n := 63) (rs := [.cell 2 46]) (sc := sc_qfold.1) mixed Tryd.func75 rfl rfl rfl rfl sc_qfold.2 ?_
  intro vs cs r h
  unfold qfoldC at h
  split at h
  · rename_i w
    cases h
    exact ⟨by simp, fun hcs hwf => ⟨_, envOK tabOK ((.cons (ok_qfit) .nil)), rfl, walk_qfold realOps rfl w ((hcs _ (by simp) : Cols w)) _ rfl _ rfl _ rfl _ rfl _ rfl _ rfl _ rfl _ rfl _ rfl _ rfl _ rfl _ rfl _ rfl _ rfl _ rfl _ rfl _ rfl⟩⟩
  · cases h
end Go.Proofs.YtnfbjfbndnmhmaaDoor
