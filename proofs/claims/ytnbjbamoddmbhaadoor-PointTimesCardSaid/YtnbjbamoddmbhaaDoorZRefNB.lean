/-
  The document's products of layer 4.
-/
import Derived.Test.YtnbjbamoddmbhaaDoorZRefNA
import Derived.Test.YtnbjbamoddmbhaaDoorZMA
namespace Go.Proofs.YtnbjbamoddmbhaaDoor
open Go Go.Proofs Sx
set_option maxRecDepth 100000
set_option maxHeartbeats 4000000
set_option linter.unusedVariables false
set_option linter.unusedSimpArgs false

def sc_ntimes : { c : SC // strip (body Tryd.f68) = c } := ⟨_, by cbv⟩
theorem walk_ntimes (A : Ops) (hA : A = realOps) (a : Nat → Int) (b : Nat → Int) (ha : Num17 a) (hb : Num17 b) (SE : (Nat → Int) → Nat → Int) (hSE : SE = setF) (R : (Nat → Int) → (Nat → Int) → Nat → Int) (hR : R = fun a b => setF (rowN a b 17)) (RF : Nat → Nat → Int) (hRF : RF = rowN a b) (PT : Nat → Nat → Nat → Int) (hPT : PT = partN a b) (MN : Nat → Nat → Nat) (hMN : MN = fun i j => min j (17 - i)) (MX : Nat → Nat → Nat) (hMX : MX = fun i j => max j (17 - i)) (I : { i : Nat // i ≤ 17 } → St) (hI : I = fun i => slots 66 [(2, .own (.arr .i64 17 a)), (3, .own (.arr .i64 17 b)), (4, .own (.arr .i64 17 fun _ => 0)), (5, .own (.arr .i64 17 (RF i.1))), (6, .int .i64 (.sym (i.1 : Int)))]) (J : St → { j : Nat // j ≤ 17 } → St) (hJ : J = fun S j => slots 66 ([(2, .own (.arr .i64 17 a)), (3, .own (.arr .i64 17 b)), (4, .own (.arr .i64 17 fun _ => 0)), (5, .own (.arr .i64 17 (PT (natIn S 6) (MN (natIn S 6) j.1))))] ++ keepS S [6, 7, 8] ++ [(9, .int .i64 (.sym (MN (natIn S 6) j.1 : Int)))])) (K : St → { j : Nat // j ≤ 17 } → St) (hK : K = fun S j => slots 66 ([(2, .own (.arr .i64 17 a)), (3, .own (.arr .i64 17 b)), (4, .own (.arr .i64 17 fun _ => 0)), (5, .own (.arr .i64 17 (PT (natIn S 6) (MX (natIn S 6) j.1))))] ++ keepS S [6, 8] ++ [(10, .int .i64 (.sym (MX (natIn S 6) j.1 : Int)))])) :
    Walk (mkEnv A tab.1 G4 [(94, nSetC SE)] [(3, .inv { i : Nat // i ≤ 17 } I fun i => 17 - i.1), (8, .invd { j : Nat // j ≤ 17 } J fun j => 17 - j.1), (12, .invd { j : Nat // j ≤ 17 } K fun j => 17 - j.1)]) sc_ntimes.1 66 [.cell 4 77] [.arr .i64 17 a, .arr .i64 17 b] (.arr .i64 17 (R a b)) := by
  obtain ⟨bi, cm, un, cv, na, eq⟩ := A
  have hbi : bi = realBin := congrArg Ops.bin hA
  have hcm : cm = realCmp := congrArg Ops.cmp hA
  have hna : na = Int.toNat := congrArg Ops.nat hA
  have hcv : cv = fun k n => k.wrap n := congrArg Ops.cnv hA
  have heq : eq = realEqA := congrArg Ops.eqA hA
  clear hA
  have z0 : ∀ k, 0 = RF 0 k := by intro k; rw [hRF]; rfl
  have b0 : ∀ i k, RF i k = PT i 0 k := by intro i k; rw [hRF, hPT]; exact partN_zero a b i k
  have be : ∀ i k, i < 17 → k < 17 → PT i 17 k = RF (i + 1) k := by intro i k hi hk; rw [hRF, hPT]; exact partN_end a b hi hk
  have st : ∀ i j k, i < 17 → j < 17 → k < 17 → (if k = plN i j then PT i j (plN i j) + (if i + j < 17 then a i * b j else 19 * a i * b j) else PT i j k) = PT i (j + 1) k := by intro i j k hi hj hk; rw [hPT]; exact partN_step a b hi hj hk
  have pr : ∀ i j k, i < 17 → k < 17 → 0 ≤ PT i j k ∧ PT i j k ≤ 346800000000 := by intro i j k hi hk; rw [hPT]; exact partN_range ha hb hi hk
  have ml : Mild17 (RF 17) := by rw [hRF]; exact rowN_mild ha hb
  have en : ∀ k, SE (RF 17) k = R a b k := by intro k; rw [hSE, hRF, hR]
  have mn1 : ∀ i j, MN i j ≤ 17 - i ∧ (MN i j < 17 - i → MN i j = j) := by intro i j; rw [hMN]; dsimp only; omega
  have mn2 : ∀ i j, j ≤ 17 - i → MN i j = j := by intro i j h; rw [hMN]; dsimp only; omega
  have mx1 : ∀ i j, 17 - i ≤ MX i j ∧ j ≤ MX i j ∧ (j ≤ 17 → MX i j ≤ 17) := by intro i j; rw [hMX]; dsimp only; omega
  have mx2 : ∀ i j, 17 - i ≤ j → MX i j = j := by intro i j h; rw [hMX]; dsimp only; omega
  have mx3 : ∀ i, MX i 0 = 17 - i := by intro i; rw [hMX]; dsimp only; omega
  have da : ∀ i, i < 17 → 0 ≤ a i ∧ a i ≤ 32767 := by intro i hi; have := ha.h i hi; simp only [b15] at this; omega
  have db : ∀ i, i < 17 → 0 ≤ b i ∧ b i ≤ 32767 := by intro i hi; have := hb.h i hi; simp only [b15] at this; omega
  have pb : ∀ i j, i < 17 → j < 17 → 0 ≤ a i * b j ∧ a i * b j ≤ 1073676289 := by
    intro i j hi hj
    have h1 := da i hi
    have h2 := db j hj
    exact ⟨Int.mul_nonneg h1.1 h2.1, Int.le_trans (Int.mul_le_mul h1.2 h2.2 h2.1 (by decide)) (by decide)⟩
  clear hRF hPT hSE hR hMN hMX
  refine ⟨?_⟩
  cbv
  refine ⟨⟨⟨0, by decide⟩, ?_⟩, fun i _ => ?_⟩
  · subst hI
    cbv
    exact ⟨fun _ _ => rfl, fun _ _ => rfl, fun _ _ => rfl, fun k _ => z0 k, rfl, trivial⟩
  · subst hI
    obtain ⟨i, hi⟩ := i
    cbv
    refine ⟨fun h => ?_, fun h => ?_⟩
    · have hlt : i < 17 := by
        have h' : cm .lss (Int.ofNat i) 17 = true := h
        rw [hcm] at h'
        have := of_decide_eq_true h'
        simp only [Int.ofNat_eq_natCast] at this
        omega
      have qi : na (Int.ofNat i) = i := by rw [hna]; rfl
      have pi : bi .add .i64 (Int.ofNat i) 1 = Int.ofNat (i + 1) := by rw [hbi, add_i64 (by simp only [Int.ofNat_eq_natCast]; omega)]; rfl
      have wi : Within (Int.ofNat i) 17 := ⟨by constructor <;> simp only [Int.ofNat_eq_natCast] <;> omega⟩
      have fi : FitsIn (na (Int.ofNat i)) 1 17 := ⟨by rw [qi]; omega⟩
      have s17 : bi .sub .i64 17 (Int.ofNat i) = Int.ofNat (17 - i) := by rw [hbi, sub_i64 (by simp only [Int.ofNat_eq_natCast]; omega)]; simp only [Int.ofNat_eq_natCast]; omega
      have n0 := mn2 i 0 (Nat.zero_le _)
      cbv
      refine ⟨wi, fi, ⟨⟨0, by decide⟩, ?_⟩, fun j hwf => ?_⟩
      · subst hJ
        cbv
        refine ⟨fun _ _ => rfl, fun _ _ => rfl, fun _ _ => rfl, fun k _ => ?_, ?_, trivial⟩
        · show RF i k = PT i (MN i 0) k
          rw [n0]
          exact b0 i k
        · show 0 = Int.ofNat (MN i 0)
          rw [n0]
          rfl
      · subst hJ
        clear hwf
        obtain ⟨j, hj⟩ := j
        have k1 := mn1 i j
        cbv
        refine ⟨fun h => ?_, fun h => ?_⟩
        · have hl : MN i j < 17 - i := by
            have h' : cm .lss (Int.ofNat (MN i j)) (bi .sub .i64 17 (Int.ofNat i)) = true := h
            rw [s17, hcm] at h'
            have := of_decide_eq_true h'
            simp only [Int.ofNat_eq_natCast] at this
            omega
          have e0 : MN i j = j := k1.2 hl
          have e1 := mn2 i (j + 1) (by omega)
          rw [e0] at hl
          have qj : na (Int.ofNat (MN i j)) = j := by rw [e0, hna]; rfl
          have sj : bi .add .i64 (Int.ofNat i) (Int.ofNat (MN i j)) = Int.ofNat (i + j) := by rw [e0, hbi, add_i64 (by simp only [Int.ofNat_eq_natCast]; omega)]; rfl
          have qs : na (bi .add .i64 (Int.ofNat i) (Int.ofNat (MN i j))) = i + j := by rw [sj, hna]; rfl
          have pl : plN i j = i + j := if_pos (by omega)
          have r1 := pr i j (i + j) hlt (by omega)
          have r2 := pb i j hlt (by omega)
          have v : bi .add .i64 (PT i (MN i j) (na (bi .add .i64 (Int.ofNat i) (Int.ofNat (MN i j))))) (bi .mul .i64 (a (na (Int.ofNat i))) (b (na (Int.ofNat (MN i j))))) = PT i j (i + j) + a i * b j := by rw [qs, qi, qj, e0, hbi, mul_i64 (by omega), add_i64 (by omega)]
          have wj : Within (Int.ofNat (MN i j)) 17 := ⟨by rw [e0]; constructor <;> simp only [Int.ofNat_eq_natCast] <;> omega⟩
          have fj : FitsIn (na (Int.ofNat (MN i j))) 1 17 := ⟨by rw [qj]; omega⟩
          have ws : Within (bi .add .i64 (Int.ofNat i) (Int.ofNat (MN i j))) 17 := ⟨by rw [sj]; constructor <;> simp only [Int.ofNat_eq_natCast] <;> omega⟩
          have fs : FitsIn (na (bi .add .i64 (Int.ofNat i) (Int.ofNat (MN i j)))) 1 17 := ⟨by rw [qs]; omega⟩
          have pj : bi .add .i64 (Int.ofNat (MN i j)) 1 = Int.ofNat (MN i (j + 1)) := by rw [e0, e1, hbi, add_i64 (by simp only [Int.ofNat_eq_natCast]; omega)]; rfl
          cbv
          refine ⟨ws, fs, wj, fj, ws, fs, ⟨j + 1, by omega⟩, ?_, by show 17 - (j + 1) < 17 - j; omega⟩
          cbv
          refine ⟨fun _ _ => rfl, fun _ _ => rfl, fun _ _ => rfl, fun k hk => ?_, pj, trivial⟩
          show (if k = na (bi .add .i64 (Int.ofNat i) (Int.ofNat (MN i j))) then bi .add .i64 (PT i (MN i j) (na (bi .add .i64 (Int.ofNat i) (Int.ofNat (MN i j))))) (bi .mul .i64 (a (na (Int.ofNat i))) (b (na (Int.ofNat (MN i j))))) else PT i (MN i j) k) = PT i (MN i (j + 1)) k
          have hs := st i j k hlt (by omega) hk
          rw [pl, if_pos (by omega : i + j < 17)] at hs
          rw [v, qs, e0, e1]
          exact hs
        · have hl : MN i j = 17 - i := by
            have h' : cm .lss (Int.ofNat (MN i j)) (bi .sub .i64 17 (Int.ofNat i)) = false := h
            rw [s17, hcm] at h'
            have := of_decide_eq_false h'
            simp only [Int.ofNat_eq_natCast] at this
            omega
          have m0 := mx3 i
          cbv
          refine ⟨⟨⟨0, by decide⟩, ?_⟩, fun j2 hwf => ?_⟩
          · subst hK
            cbv
            refine ⟨fun _ _ => rfl, fun _ _ => rfl, fun _ _ => rfl, fun k _ => ?_, ?_, trivial⟩
            · show PT i (MN i j) k = PT i (MX i 0) k
              rw [hl, m0]
            · show bi .sub .i64 17 (Int.ofNat i) = Int.ofNat (MX i 0)
              rw [s17, m0]
          · subst hK
            clear hwf
            obtain ⟨j, hj⟩ := j2
            have k2 := mx1 i j
            have k3 := k2.2.2 hj
            cbv
            refine ⟨fun h => ?_, fun h => ?_⟩
            · have hl2 : MX i j < 17 := by
                have h' : cm .lss (Int.ofNat (MX i j)) 17 = true := h
                rw [hcm] at h'
                have := of_decide_eq_true h'
                simp only [Int.ofNat_eq_natCast] at this
                omega
              have e1 := mx2 i (MX i j + 1) (by omega)
              have qj : na (Int.ofNat (MX i j)) = MX i j := by rw [hna]; rfl
              have sj : bi .sub .i64 (bi .add .i64 (Int.ofNat i) (Int.ofNat (MX i j))) 17 = Int.ofNat (i + MX i j - 17) := by rw [hbi, add_i64 (by simp only [Int.ofNat_eq_natCast]; omega), sub_i64 (by simp only [Int.ofNat_eq_natCast]; omega)]; simp only [Int.ofNat_eq_natCast]; omega
              have qs : na (bi .sub .i64 (bi .add .i64 (Int.ofNat i) (Int.ofNat (MX i j))) 17) = i + MX i j - 17 := by rw [sj, hna]; rfl
              have pl : plN i (MX i j) = i + MX i j - 17 := if_neg (by omega)
              have r1 := pr i (MX i j) (i + MX i j - 17) hlt (by omega)
              have r2 := pb i (MX i j) hlt hl2
              have r3 := da i hlt
              have r4 : 19 * a i * b (MX i j) = 19 * (a i * b (MX i j)) := Int.mul_assoc ..
              have v : bi .add .i64 (PT i (MX i j) (na (bi .sub .i64 (bi .add .i64 (Int.ofNat i) (Int.ofNat (MX i j))) 17))) (bi .mul .i64 (bi .mul .i64 19 (a (na (Int.ofNat i)))) (b (na (Int.ofNat (MX i j))))) = PT i (MX i j) (i + MX i j - 17) + 19 * a i * b (MX i j) := by
                rw [qs, qi, qj, hbi, mul_i64 (a := 19) (by omega), mul_i64 (by rw [r4]; omega), add_i64 (by rw [r4]; omega)]
              have wj : Within (Int.ofNat (MX i j)) 17 := ⟨by constructor <;> simp only [Int.ofNat_eq_natCast] <;> omega⟩
              have fj : FitsIn (na (Int.ofNat (MX i j))) 1 17 := ⟨by rw [qj]; omega⟩
              have ws : Within (bi .sub .i64 (bi .add .i64 (Int.ofNat i) (Int.ofNat (MX i j))) 17) 17 := ⟨by rw [sj]; constructor <;> simp only [Int.ofNat_eq_natCast] <;> omega⟩
              have fs : FitsIn (na (bi .sub .i64 (bi .add .i64 (Int.ofNat i) (Int.ofNat (MX i j))) 17)) 1 17 := ⟨by rw [qs]; omega⟩
              have pj : bi .add .i64 (Int.ofNat (MX i j)) 1 = Int.ofNat (MX i (MX i j + 1)) := by rw [e1, hbi, add_i64 (by simp only [Int.ofNat_eq_natCast]; omega)]; rfl
              cbv
              refine ⟨ws, fs, wj, fj, ws, fs, ⟨MX i j + 1, by omega⟩, ?_, by show 17 - (MX i j + 1) < 17 - j; omega⟩
              cbv
              refine ⟨fun _ _ => rfl, fun _ _ => rfl, fun _ _ => rfl, fun k hk => ?_, pj, trivial⟩
              show (if k = na (bi .sub .i64 (bi .add .i64 (Int.ofNat i) (Int.ofNat (MX i j))) 17) then bi .add .i64 (PT i (MX i j) (na (bi .sub .i64 (bi .add .i64 (Int.ofNat i) (Int.ofNat (MX i j))) 17))) (bi .mul .i64 (bi .mul .i64 19 (a (na (Int.ofNat i)))) (b (na (Int.ofNat (MX i j))))) else PT i (MX i j) k) = PT i (MX i (MX i j + 1)) k
              have hs := st i (MX i j) k hlt hl2 hk
              rw [pl, if_neg (by omega : ¬ i + MX i j < 17)] at hs
              rw [v, qs, e1]
              exact hs
            · have hl2 : MX i j = 17 := by
                have h' : cm .lss (Int.ofNat (MX i j)) 17 = false := h
                rw [hcm] at h'
                have := of_decide_eq_false h'
                simp only [Int.ofNat_eq_natCast] at this
                omega
              cbv
              refine ⟨⟨i + 1, by omega⟩, ?_, by show 17 - (i + 1) < 17 - i; omega⟩
              cbv
              refine ⟨fun _ _ => rfl, fun _ _ => rfl, fun _ _ => rfl, fun k hk => ?_, pi, trivial⟩
              show PT i (MX i j) k = RF (i + 1) k
              rw [hl2]
              exact be i k hlt hk
    · have hN : i = 17 := by
        have h' : cm .lss (Int.ofNat i) 17 = false := h
        rw [hcm] at h'
        have := of_decide_eq_false h'
        simp only [Int.ofNat_eq_natCast] at this
        omega
      subst hN
      cbv
      exact ⟨ml, fun k _ => en k⟩

theorem ok_ntimes : Sound Tryd.prog G4 68 (nBinC (fun a b => setF (rowN a b 17))) := by
  refine sound_each (n := 66) (rs := [.cell 4 77]) (sc := sc_ntimes.1) mixed Tryd.func68 rfl rfl rfl rfl sc_ntimes.2 ?_
  intro vs cs r h
  unfold nBinC at h
  split at h
  · rename_i a b
    cases h
    exact ⟨by simp, fun hcs hwf => ⟨_, envOK tabOK ((.cons (ok_nsettled) .nil)), rfl, walk_ntimes realOps rfl a b ((hcs _ (by simp) : Num17 a)) ((hcs _ (by simp) : Num17 b)) _ rfl _ rfl _ rfl _ rfl _ rfl _ rfl _ rfl _ rfl _ rfl⟩⟩
  · cases h
end Go.Proofs.YtnbjbamoddmbhaaDoor
