/-
  Package field: many inverses by one.
-/
import Derived.Test.YtnfbjfbndnmhmaaDoorZFieldP
import Derived.Test.YtnfbjfbndnmhmaaDoorZNA
namespace Go.Proofs.YtnfbjfbndnmhmaaDoor
open Go Go.Proofs Sx
set_option maxRecDepth 100000
set_option maxHeartbeats 4000000
set_option linter.unusedVariables false
set_option linter.unusedSimpArgs false

def gTwo (e : Nat → Int) : Nat → AV := fun g => if g = 0 then .arr .u8 32 e else .junk
theorem two_sub : Sub (gTwo fun i => v_two.2.2.getD i 0) (lookGL [v_two]) := by
  intro g
  by_cases h : g = 0
  · right
    rw [h]
    rfl
  · left
    exact if_neg h
theorem twoB_two : TwoB fun i => v_two.2.2.getD i 0 := by
  have h : ∀ i, i < 32 → v_two.2.2.getD i 0 = byt 57896044618658097711785492504343953926634992332820282019728792003956564819947 i := by decide +kernel
  exact h
def sc_batch : { c : SC // strip (body Tryd.f34) = c } := ⟨_, by cbv⟩
theorem walk_batch (A : Ops) (hA : A = realOps) (E2 : Nat → Int) (len : Nat) (cap : Nat) (f : Nat → Int) (hf : RowsB f len) (hl : Few len) (L : (Nat → Int) → Nat → Int) (hL : L = loadF) (B : (Nat → Int) → Nat → Int) (hB : B = bytesF) (T : (Nat → Int) → (Nat → Int) → Nat → Int) (hT : T = timesF) (P : (Nat → Int) → (Nat → Int) → Nat → Int) (hP : P = powL) (hE : TwoB E2) (AL : Nat → Nat → Int) (hAL : AL = allL (upd (fun _ => 0) 0 1) f) (HD : Nat → Nat → Int) (hHD : HD = headL (upd (fun _ => 0) 0 1) f) (BK : Nat → Nat → Int) (hBK : BK = fun m => backL (upd (fun _ => 0) 0 1) f E2 len (len - m)) (OU : Nat → Nat → Int) (hOU : OU = outL (upd (fun _ => 0) 0 1) f E2 len) (X : Nat → Int) (hX : X = fun m => Int.ofNat m - 1) (I1 : { i : Nat // i ≤ len } → St) (hI1 : I1 = fun i => slots 78 [(0, .xsl .u8 32 (.sym len) (.sym cap) f), (4, .osl .u64 5 (.sym len) (HD i.1)), (5, .own (.arr .u64 5 (AL i.1))), (21, .int .i64 (.sym (Int.ofNat len))), (22, .int .i64 (.sym (Int.ofNat i.1)))]) (I2 : { i : Nat // i ≤ len } → St) (hI2 : I2 = fun i => slots 78 [(0, .xsl .u8 32 (.sym len) (.sym cap) f), (4, .osl .u64 5 (.sym len) (HD len)), (8, .own (.arr .u64 5 (BK i.1))), (9, .osl .u8 32 (.sym len) (OU i.1)), (10, .int .i64 (.sym (X i.1)))]) :
    Walk (mkEnv A tab.1 (gTwo E2) [(46, loadC L), (48, bytesC B), (52, lim2C T), (47, powC P)] [(7, .inv { i : Nat // i ≤ len } I1 fun i => len - i.1), (17, .inv { i : Nat // i ≤ len } I2 fun i => i.1)]) sc_batch.1 78 [.tmp 2] [.xsl .u8 32 (.sym len) (.sym cap) f] (.osl .u8 32 (.sym len) (invsF f)) := by
  obtain ⟨bi, cm, un, cv, na, eq⟩ := A
  have hbi : bi = realBin := congrArg Ops.bin hA
  have hcm : cm = realCmp := congrArg Ops.cmp hA
  have hna : na = Int.toNat := congrArg Ops.nat hA
  have hcv : cv = fun k n => k.wrap n := congrArg Ops.cnv hA
  have heq : eq = realEqA := congrArg Ops.eqA hA
  clear hA
  have nl : na (Int.ofNat len) = len := by rw [hna]; rfl
  have hgt : cm .gtr (Int.ofNat len) 256 = false := by
    rw [hcm]
    refine decide_eq_false ?_
    have := hl.h
    simp only [Int.ofNat_eq_natCast]
    omega
  have hlen := hl.h
  refine ⟨?_⟩
  cbv
  refine dead1 (fun h => b_ft2 hgt h) (fun _ => ?_)
  cbv
  refine ⟨wN hlen (by decide), uN nl, ⟨nnN _⟩, ⟨by rw [nl]; omega⟩, ⟨by rw [nl]; omega⟩, ⟨⟨0, by omega⟩, ?_⟩, fun i _ => ?_⟩
  · subst hI1
    cbv
    refine ⟨fun _ _ => rfl, ⟨nl, fun i _ => ?_⟩, fun i _ => ?_, rfl, trivial⟩
    · rw [hHD]; exact (head_zero _ _ _).symm
    · rw [hAL]; rfl
  · subst hI1
    cbv
    obtain ⟨i, hi⟩ := i
    refine ⟨fun h => ?_, fun h => ?_⟩
    · cbv
      have hlt : i < len := by
        rw [hcm] at h
        exact Int.ofNat_lt.1 (of_decide_eq_true h)
      have qi : na (Int.ofNat i) = i := by rw [hna]; rfl
      have m5 : (Classical.choice seal_mul).1 (na (Int.ofNat i)) 5 = 5 * i := by rw [choice_mul, qi]; omega
      have m32 : (Classical.choice seal_mul).1 (na (Int.ofNat i)) 32 = 32 * i := by rw [choice_mul, qi]; omega
      have hz : eq 32 (B (L fun j => f ((Classical.choice seal_mul).1 (na (Int.ofNat i)) 32 + j))) (fun _ => 0) = isZ f i := by rw [heq, hB, hL, m32]; rfl
      have w0 : Within (Int.ofNat i) len := ⟨by simp only [Int.ofNat_eq_natCast]; omega⟩
      have e4 : bi .add .i64 (Int.ofNat i) 1 = Int.ofNat (i + 1) := by rw [hbi, add_i64 (by simp only [Int.ofNat_eq_natCast]; omega)]; rfl
      have hh : ∀ j, splice (HD i) ((Classical.choice seal_mul).1 (na (Int.ofNat i)) 5) 5 (AL i) j = HD (i + 1) j := by intro j; rw [m5, hHD, hAL]; exact head_lay _ _ _ _
      have ha1 : isZ f i = true → ∀ j, AL i j = AL (i + 1) j := by intro z j; rw [hAL]; show _ = (if isZ f i = true then _ else _ : Nat → Int) j; rw [if_pos z]
      have ha0 : isZ f i = false → ∀ j, T (AL i) (L fun j => f ((Classical.choice seal_mul).1 (na (Int.ofNat i)) 32 + j)) j = AL (i + 1) j := by intro z j; rw [hT, hL, m32, hAL]; show _ = (if isZ f i = true then _ else _ : Nat → Int) j; rw [if_neg (by rw [z]; decide)]; rfl
      have g5 : FitsMul ((Classical.choice seal_mul).1 (na (Int.ofNat i)) 5) 5 len 5 := ⟨by rw [m5]; omega⟩
      have g32 : FitsMul ((Classical.choice seal_mul).1 (na (Int.ofNat i)) 32) 32 len 32 := ⟨by rw [m32]; omega⟩
      refine ⟨w0, g5, w0, g32, fun h2 => ?_, fun h2 => ?_⟩
      · have z : isZ f i = false := by rw [← hz]; exact mnB_yes (a := eq 32 _ _) h2
        cbv
        refine ⟨⟨i + 1, by omega⟩, ?_, by show len - (i + 1) < len - i; omega⟩
        cbv
        exact ⟨fun _ _ => rfl, fun j _ => hh j, fun j _ => ha0 z j, e4, trivial⟩
      · have z : isZ f i = true := by rw [← hz]; exact mnB_no (a := eq 32 _ _) h2
        cbv
        refine ⟨⟨i + 1, by omega⟩, ?_, by show len - (i + 1) < len - i; omega⟩
        cbv
        exact ⟨fun _ _ => rfl, fun j _ => hh j, fun j _ => ha1 z j, e4, trivial⟩
    · cbv
      have hN : i = len := by
        rw [hcm] at h
        have h2 := of_decide_eq_false h
        simp only [Int.ofNat_eq_natCast] at h2
        omega
      subst hN
      refine ⟨wN hlen (by decide), uN nl, ⟨nnN _⟩, ⟨by rw [nl]; omega⟩, ⟨by rw [nl]; omega⟩, ⟨⟨i, Nat.le_refl _⟩, ?_⟩, fun m _ => ?_⟩
      · subst hI2
        cbv
        refine ⟨fun _ _ => rfl, fun _ _ => rfl, fun j _ => ?_, ⟨nl, fun j _ => ?_⟩, ?_, trivial⟩
        · rw [hBK, hP, hAL]; show _ = backL _ f E2 i (i - i) j; rw [Nat.sub_self]; rfl
        · rw [hOU]; exact (out_start _ _ _ _ _).symm
        · rw [hX, hbi, sub_i64 (by simp only [Int.ofNat_eq_natCast]; omega)]
      · subst hI2
        cbv
        obtain ⟨m, hm⟩ := m
        refine ⟨fun h => ?_, fun h => ?_⟩
        · cbv
          have hm1 : 0 ≤ X m := by rw [hcm] at h; exact of_decide_eq_true h
          have hmp : 0 < m := by rw [hX] at hm1; simp only [Int.ofNat_eq_natCast] at hm1; omega
          obtain ⟨k, rfl⟩ : ∃ k, m = k + 1 := ⟨m - 1, by omega⟩
          have x1 : X (k + 1) = Int.ofNat k := by rw [hX]; simp only [Int.ofNat_eq_natCast]; omega
          have qi : na (X (k + 1)) = k := by rw [hna, x1]; rfl
          have m5 : (Classical.choice seal_mul).1 (na (X (k + 1))) 5 = 5 * k := by rw [choice_mul, qi]; omega
          have m32 : (Classical.choice seal_mul).1 (na (X (k + 1))) 32 = 32 * k := by rw [choice_mul, qi]; omega
          have hz : eq 32 (B (L fun j => f ((Classical.choice seal_mul).1 (na (X (k + 1))) 32 + j))) (fun _ => 0) = isZ f k := by rw [heq, hB, hL, m32]; rfl
          have w0 : Within (X (k + 1)) i := ⟨by rw [x1]; simp only [Int.ofNat_eq_natCast]; omega⟩
          have e4 : bi .sub .i64 (X (k + 1)) 1 = X k := by rw [x1, hX, hbi, sub_i64 (by simp only [Int.ofNat_eq_natCast]; omega)]
          have g5 : FitsMul ((Classical.choice seal_mul).1 (na (X (k + 1))) 5) 5 i 5 := ⟨by rw [m5]; omega⟩
          have g32 : FitsMul ((Classical.choice seal_mul).1 (na (X (k + 1))) 32) 32 i 32 := ⟨by rw [m32]; omega⟩
          refine ⟨w0, g32, fun h2 => ?_, fun h2 => ?_⟩
          · have z : isZ f k = true := by rw [← hz]; exact h2
            cbv
            refine ⟨⟨k, by omega⟩, ?_, Nat.lt_succ_self k⟩
            cbv
            refine ⟨fun _ _ => rfl, fun _ _ => rfl, fun j _ => ?_, fun j _ => ?_, e4, trivial⟩
            · rw [hBK]; exact congrFun (back_z (by omega) z) j
            · rw [hOU]; exact (out_skip z j).symm
          · have z : isZ f k = false := by rw [← hz]; exact h2
            have ho : ∀ j, splice (OU (k + 1)) ((Classical.choice seal_mul).1 (na (X (k + 1))) 32) 32 (B (T (BK (k + 1)) fun j => HD i ((Classical.choice seal_mul).1 (na (X (k + 1))) 5 + j))) j = OU k j := by
              intro j
              have e5 : i - (k + 1) = i - 1 - k := by omega
              rw [m5, m32, hOU, hB, hT, hBK, hHD]
              show splice _ _ _ (bytesF (timesF (backL _ f E2 i (i - (k + 1))) (rowH _ f i k))) j = _
              rw [e5]
              exact out_lay (by omega) z j
            have hb : ∀ j, T (BK (k + 1)) (L fun j => f ((Classical.choice seal_mul).1 (na (X (k + 1))) 32 + j)) j = BK k j := by
              intro j
              rw [m32, hT, hL, hBK]
              exact congrFun (back_nz (by omega) z) j
            cbv
            refine ⟨w0, g5, w0, g32, ⟨k, by omega⟩, ?_, Nat.lt_succ_self k⟩
            cbv
            exact ⟨fun _ _ => rfl, fun _ _ => rfl, fun j _ => hb j, fun j _ => ho j, e4, trivial⟩
        · cbv
          have hm0 : m = 0 := by
            rw [hcm] at h
            have h2 := of_decide_eq_false h
            rw [hX] at h2
            simp only [Int.ofNat_eq_natCast] at h2
            omega
          subst hm0
          intro j hj
          rw [hOU]
          exact out_end hf one_ok hE hj

theorem ok_batch : Sound Tryd.prog (gTwo fun i => v_two.2.2.getD i 0) 34 (batchC invsF) := by
  refine sound_each (n := 78) (rs := [.tmp 2]) (sc := sc_batch.1) mixed Tryd.func34 rfl rfl rfl rfl sc_batch.2 ?_
  intro vs cs r h
  unfold batchC at h
  split at h
  · rename_i len cap f
    cases h
    exact ⟨by simp, fun hcs hwf => ⟨_, envOK tabOK ((.cons (ok_load _) (.cons (ok_bytes _) (.cons (ok_times _) (.cons (ok_power _) .nil))))), rfl, walk_batch realOps rfl _ len cap f ((show RowsB f len from hwf (.xsl .u8 32 (.sym len) (.sym cap) f) (by simp))) (hcs _ (by simp)) _ rfl _ rfl _ rfl _ rfl twoB_two _ rfl _ rfl _ rfl _ rfl _ rfl _ rfl _ rfl⟩⟩
  · cases h
theorem walk_batchx (A : Ops) (hA : A = realOps) (len : Nat) (cap : Nat) (f : Nat → Int) (hl : Many len)   :
    Walk (mkEnv A tab.1 G0 [] []) sc_batch.1 78 [.tmp 2] [.xsl .u8 32 (.sym len) (.sym cap) f] (.osl .u8 32 (.lit 0) (fun _ => 0)) := by
  obtain ⟨bi, cm, un, cv, na, eq⟩ := A
  have hbi : bi = realBin := congrArg Ops.bin hA
  have hcm : cm = realCmp := congrArg Ops.cmp hA
  have hna : na = Int.toNat := congrArg Ops.nat hA
  have hcv : cv = fun k n => k.wrap n := congrArg Ops.cnv hA
  have heq : eq = realEqA := congrArg Ops.eqA hA
  clear hA
  have hgt : cm .gtr (Int.ofNat len) 256 = true := by
    rw [hcm]
    refine decide_eq_true ?_
    have := hl.h
    simp only [Int.ofNat_eq_natCast]
    omega
  refine ⟨?_⟩
  cbv
  refine dead2 (fun h => b_tf2 hgt h) (fun _ => ?_)
  cbv
  try exact ⟨rfl, rfl⟩

theorem ok_batchx : Sound Tryd.prog G0 34 (batchX) := by
  refine sound_each (n := 78) (rs := [.tmp 2]) (sc := sc_batch.1) mixed Tryd.func34 rfl rfl rfl rfl sc_batch.2 ?_
  intro vs cs r h
  unfold batchX at h
  split at h
  · rename_i len cap f
    cases h
    exact ⟨by simp, fun hcs hwf => ⟨_, envOK tabOK ( .nil), rfl, walk_batchx realOps rfl len cap f (hcs _ (by simp))  ⟩⟩
  · cases h
end Go.Proofs.YtnfbjfbndnmhmaaDoor
