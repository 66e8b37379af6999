/-
  The digits of a number in the non-adjacent form, as the document finds them.
-/
import Derived.Test.YtbiialpakchjgaaDoorZBase
import Derived.Test.YtbiialpakchjgaaDoorZMA
namespace Go.Proofs.YtbiialpakchjgaaDoor
open Go Go.Proofs Sx
set_option maxRecDepth 100000
set_option maxHeartbeats 4000000
set_option linter.unusedVariables false
set_option linter.unusedSimpArgs false

def sc_rdigits : { c : SC // strip (body Tryd.f36) = c } := ⟨_, by cbv⟩
theorem walk_rdigits (A : Ops) (hA : A = realOps) (G : Nat → AV) (a : Nat → Int) (w : Int) (ha : IsBytes 32 a) (D : (Nat → Int) → Int → Nat → Int) (hD : D = digF) (L : Int → Nat) (hL : L = digL) (F : Int → Int) (hF : F = digE) (RN : Nat → Nat → Int) (hRN : RN = nafB w.toNat (num 32 a)) (SA : Nat → Nat → Nat → Int) (hSA : SA = sgA w.toNat (num 32 a)) (SC : Nat → Nat → Int) (hSC : SC = sgC w.toNat (num 32 a)) (HV : (Nat → Int) → Nat → Nat → Int) (hHV : HV = halvF 256) (SPN : Nat → Int) (hSPN : SPN = fun i => 2 ^ i)
    (I1 : { i : Nat // i ≤ w.toNat } → St) (hI1 : I1 = fun i => slots 111 [(1, .int .i64 (.sym w)), (2, .own (.arr .u8 32 a)), (6, .int .i64 (.sym (SPN i.1))), (7, .int .i64 (.sym (i.1 : Int)))])
    (I2 : { i : Nat // i ≤ 32 } → St) (hI2 : I2 = fun i => slots 111 [(2, .own (.arr .u8 32 a)), (6, .int .i64 (.sym (SPN w.toNat))), (8, .own (.arr .i64 34 (fun k => if k < i.1 then a k else 0))), (9, .int .i64 (.sym (i.1 : Int)))])
    (I : { i : Nat // i ≤ 257 } → St) (hI : I = fun i => slots 111 [(6, .int .i64 (.sym (SPN w.toNat))), (8, .own (.arr .i64 34 (RN i.1))), (10, .osl .i8 1 (.sym i.1) (D a w)), (11, .int .i64 (.sym (i.1 : Int)))])
    (J1 : St → { j : Nat // j ≤ 34 } → St) (hJ1 : J1 = fun s j => slots 111 ([(10, .osl .i8 1 (.sym (natIn s 11 + 1)) (D a w))] ++ keepS s [6, 11] ++ [(8, .own (.arr .i64 34 (SA (natIn s 11) j.1))), (13, .int .i64 (.sym (SC (natIn s 11) j.1))), (14, .int .i64 (.sym (j.1 : Int)))]))
    (J2 : St → { j : Nat // j ≤ 33 } → St) (hJ2 : J2 = fun s j => slots 111 (keepS s [6, 10, 11] ++ [(8, .own (.arr .i64 34 (HV (arrIn s 8) j.1))), (16, .int .i64 (.sym (j.1 : Int)))])) :
    Walk (mkEnv A tab.1 G [] [(5, .inv { i : Nat // i ≤ w.toNat } I1 fun i => w.toNat - i.1), (10, .inv { i : Nat // i ≤ 32 } I2 fun i => 32 - i.1), (15, .inv { i : Nat // i ≤ 257 } I fun i => 257 - i.1), (25, .invd { j : Nat // j ≤ 34 } J1 fun j => 34 - j.1), (35, .invd { j : Nat // j ≤ 33 } J2 fun j => 33 - j.1)]) sc_rdigits.1 111 [.tmp 4, .tmp 5] [.arr .u8 32 a, .int .i64 (.sym w)] (.otup .i8 1 (.sym (L w)) (D a w) [.int .i64 (.sym (F w))]) := by
  obtain ⟨bi, cm, un, cv, na, eq⟩ := A
  have hbi : bi = realBin := congrArg Ops.bin hA
  have hcm : cm = realCmp := congrArg Ops.cmp hA
  have hna : na = Int.toNat := congrArg Ops.nat hA
  have hcv : cv = fun k n => k.wrap n := congrArg Ops.cnv hA
  have heq : eq = realEqA := congrArg Ops.eqA hA
  have hun : un = realUn := congrArg Ops.un hA
  clear hA
  have hN := num_q256 ha
  refine ⟨?_⟩
  cbv
  refine ⟨fun h => ?_, fun h => ?_⟩
  · cbv
    have hd : digW w = false := by
      rw [hcm] at h
      have h2 := (digW_look w).symm.trans h
      simpa using h2
    refine ⟨?_, ?_, trivial⟩
    · show L w = 0
      rw [hL, digL, hd]; rfl
    · show 1 = F w
      rw [hF, digE, hd]; rfl
  · have hd : digW w = true := by
      rw [hcm] at h
      have h2 := (digW_look w).symm.trans h
      simpa using h2
    obtain ⟨hW, hw⟩ := digW_wid hd
    have hw' : w = Int.ofNat w.toNat := hw
    have hw8 : 2 ≤ w ∧ w ≤ 8 := by have := hW.h; omega
    have hw9 : w.toNat ≤ 8 := hW.h.2
    have tp := two_pows hW
    clear h hw
    cbv
    refine ⟨⟨⟨0, Nat.zero_le _⟩, ?_⟩, fun i _ => ?_⟩
    · subst hI1
      cbv
      refine ⟨fun _ _ => rfl, ?_, rfl, trivial⟩
      show 1 = SPN 0
      rw [hSPN]; rfl
    · subst hI1
      obtain ⟨i, hi⟩ := i
      cbv
      refine ⟨fun h => ?_, fun h => ?_⟩
      · cbv
        have hlti : i < w.toNat := by rw [hcm] at h; have hh := lssT h; simp only [Int.ofNat_eq_natCast] at hh; omega
        have q4 : bi .add .i64 (Int.ofNat i) 1 = Int.ofNat (i + 1) := by rw [hbi, add_i64 (by simp only [Int.ofNat_eq_natCast]; omega)]; rfl
        have hp : 0 < (2 : Int) ^ i ∧ (2 : Int) ^ i ≤ 128 := two_low (by omega)
        refine ⟨⟨i + 1, by omega⟩, ?_, by show w.toNat - (i + 1) < w.toNat - i; omega⟩
        cbv
        refine ⟨fun _ _ => rfl, ?_, q4, trivial⟩
        show bi .mul .i64 2 (SPN i) = SPN (i + 1)
        rw [hSPN, hbi]
        show realBin .mul .i64 2 (2 ^ i) = 2 ^ (i + 1)
        rw [mul_i64 (by omega), Int.pow_succ]
        omega
      · cbv
        have heqi : i = w.toNat := by rw [hcm] at h; have hh := lssF h; simp only [Int.ofNat_eq_natCast] at hh; omega
        subst heqi
        refine ⟨⟨⟨0, by decide⟩, ?_⟩, fun i _ => ?_⟩
        · subst hI2
          cbv
          exact ⟨fun _ _ => rfl, rfl, fun k _ => (if_neg (Nat.not_lt_zero k)).symm, rfl, trivial⟩
        · subst hI2
          obtain ⟨i, hi⟩ := i
          cbv
          refine ⟨fun h => ?_, fun h => ?_⟩
          · cbv
            have hlti : i < 32 := by rw [hcm] at h; have hh := lssT h; simp only [Int.ofNat_eq_natCast] at hh; omega
            have qi : na (Int.ofNat i) = i := by rw [hna]; rfl
            have q4 : bi .add .i64 (Int.ofNat i) 1 = Int.ofNat (i + 1) := by rw [hbi, add_i64 (by simp only [Int.ofNat_eq_natCast]; omega)]; rfl
            have hai := ha i hlti
            have e1 : cv .i64 (a (na (Int.ofNat i))) = a i := by rw [qi, hcv]; exact wrap_i64 (by omega)
            refine ⟨(by constructor; (try dsimp only [SI.val, SO.val]); (try simp (disch := omega) only [hbi, hna, hcv, Int.ofNat_eq_natCast, add_i64, sub_i64, mul_i64, quo_i64, rem_i64, wrap_i64, wrap_u8, Int.toNat_natCast]); omega), ⟨by rw [qi]; omega⟩, (by constructor; (try dsimp only [SI.val, SO.val]); (try simp (disch := omega) only [hbi, hna, hcv, Int.ofNat_eq_natCast, add_i64, sub_i64, mul_i64, quo_i64, rem_i64, wrap_i64, wrap_u8, Int.toNat_natCast]); omega), ⟨by rw [qi]; omega⟩, ⟨i + 1, by omega⟩, ?_, by show 32 - (i + 1) < 32 - i; omega⟩
            cbv
            refine ⟨fun _ _ => rfl, fun k hk => ?_, q4, trivial⟩
            show (if k = na (Int.ofNat i) then cv .i64 (a (na (Int.ofNat i))) else if k < i then a k else 0) = if k < i + 1 then a k else 0
            rw [e1, qi]
            by_cases h1 : k = i
            · subst h1; rw [if_pos rfl, if_pos (by omega)]
            · rw [if_neg h1]
              by_cases h2 : k < i
              · rw [if_pos h2, if_pos (by omega)]
              · rw [if_neg h2, if_neg (by omega)]
          · cbv
            have heqi : i = 32 := by rw [hcm] at h; have hh := lssF h; simp only [Int.ofNat_eq_natCast] at hh; omega
            subst heqi
            refine ⟨⟨⟨0, by decide⟩, ?_⟩, fun i _ => ?_⟩
            · subst hI
              cbv
              refine ⟨fun k hk => ?_, rfl, trivial⟩
              rw [hRN]
              exact nafB_zero a w.toNat (ha := ha) k hk
            · subst hI
              obtain ⟨i, hi⟩ := i
              cbv
              refine ⟨fun h => ?_, fun h => ?_⟩
              · cbv
                have hlti : i < 257 := by rw [hcm] at h; have hh := lssT h; simp only [Int.ofNat_eq_natCast] at hh; omega
                have qi : na (Int.ofNat i) = i := by rw [hna]; rfl
                have q4 : bi .add .i64 (Int.ofNat i) 1 = Int.ofNat (i + 1) := by rw [hbi, add_i64 (by simp only [Int.ofNat_eq_natCast]; omega)]; rfl
                have hb0 := dig_range (nafN w.toNat (num 32 a) i) 0
                have hm2 : bi .rem .i64 (RN i 0) 2 = nafN w.toNat (num 32 a) i % 2 := by rw [hbi, hRN]; show realBin .rem .i64 (dgt 256 _ 0) 2 = _; rw [rem_i64 hb0.1, byteB_bit]
                have hsp : SPN w.toNat = 2 ^ w.toNat := by rw [hSPN]
                have hd0 : bi .rem .i64 (RN i 0) (SPN w.toNat) = nafN w.toNat (num 32 a) i % 2 ^ w.toNat := by
                  rw [hsp, hbi, hRN]
                  show realBin .rem .i64 (dgt 256 _ 0) (2 ^ w.toNat) = _
                  rw [rem_i64 hb0.1, byteB_low hW]
                have hq2 : bi .quo .i64 (SPN w.toNat) 2 = 2 ^ (w.toNat - 1) := by rw [hsp, hbi, quo_i64 (by omega) (by omega)]; omega
                have hr1 := Int.emod_lt_of_pos (nafN w.toNat (num 32 a) i) (show (0 : Int) < 2 ^ w.toNat by omega)
                have hr0 := Int.emod_nonneg (nafN w.toNat (num 32 a) i) (show (2 : Int) ^ w.toNat ≠ 0 by omega)
                have hrd := nafD_range hW (nafN w.toNat (num 32 a) i)
                refine ⟨fun g1 => ?_, fun g1 => ?_⟩
                · cbv
                  have hodd : nafN w.toNat (num 32 a) i % 2 = 1 := by rw [hcm] at g1; exact hm2.symm.trans (eqlT g1)
                  have hoh := odd_half hW hodd
                  refine ⟨⟨by rw [hsp]; omega⟩, fun g2 => ?_, fun g2 => ?_⟩
                  · cbv
                    have hge : 2 ^ (w.toNat - 1) ≤ nafN w.toNat (num 32 a) i % 2 ^ w.toNat := by
                      rw [hcm] at g2
                      have := gtrT g2
                      rw [hq2] at this
                      exact hoh.1 (Int.lt_of_lt_of_le this (Int.le_of_eq hd0))
                    have hz := naf_high hodd hge
                    have hdx : bi .sub .i64 (bi .rem .i64 (RN i 0) (SPN w.toNat)) (SPN w.toNat) = nafD w.toNat (nafN w.toNat (num 32 a) i) := by
                      rw [hd0, hsp, hbi, sub_i64 (by omega), hz]
                    have dig8 : cv .i8 (bi .sub .i64 (bi .rem .i64 (RN i 0) (SPN w.toNat)) (SPN w.toNat)) = nafD w.toNat (nafN w.toNat (num 32 a) i) := by
                      rw [hdx, hcv]
                      exact wrap_i8 (by omega)
                    refine ⟨room_one (by omega), ⟨⟨0, by decide⟩, ?_⟩, fun j _ => ?_⟩
                    · subst hJ1
                      cbv
                      refine ⟨fun k hk => ?_, ⟨choice_add i 1, fun k hk => ?_⟩, ?_, rfl, trivial⟩
                      · show RN i k = SA i 0 k
                        rw [hRN, hSA, sgA_zero]
                      · refine join_one rfl (fun _ _ => rfl) ?_ (len_one i) k hk
                        show cv .i8 (bi .sub .i64 (bi .rem .i64 (RN i 0) (SPN w.toNat)) (SPN w.toNat)) = D a w i
                        rw [dig8, hD]
                        rfl
                      · show un .neg .i64 (bi .sub .i64 (bi .rem .i64 (RN i 0) (SPN w.toNat)) (SPN w.toNat)) = SC i 0
                        rw [hSC, sgC_zero]
                        rw [hdx, hun]
                        show IntKind.wrap .i64 (0 - nafD w.toNat (nafN w.toNat (num 32 a) i)) = _
                        rw [wrap_i64 (by omega)]
                        omega
                    · subst hJ1
                      obtain ⟨j, hj⟩ := j
                      cbv
                      have qj : na (Int.ofNat j) = j := by rw [hna]; rfl
                      have q5 : bi .add .i64 (Int.ofNat j) 1 = Int.ofNat (j + 1) := by rw [hbi, add_i64 (by simp only [Int.ofNat_eq_natCast]; omega)]; rfl
                      refine ⟨fun g => ?_, fun g => ?_⟩
                      · cbv
                        have hltj : j < 34 := by rw [hcm] at g; have hh := lssT g; simp only [Int.ofNat_eq_natCast] at hh; omega
                        have hr1 := dig_range (nafN w.toNat (num 32 a) i) j
                        have hr2 := sgC_range (N := num 32 a) (i := i) hW j
                        have hv : bi .add .i64 (SA i j (na (Int.ofNat j))) (SC i j) = dgt 256 (nafN w.toNat (num 32 a) i) j + sgC w.toNat (num 32 a) i j := by
                          rw [qj, hSA, hSC, hbi, sgA_at, add_i64 (by omega)]
                        have key : ∃ V : Int, bi .add .i64 (SA i j (na (Int.ofNat j))) (SC i j) = V ∧ (V % 256 = dgt 256 (nafN w.toNat (num 32 a) i - nafD w.toNat (nafN w.toNat (num 32 a) i)) j ∧ V / 256 = sgC w.toNat (num 32 a) i (j + 1)) ∧ (-128 ≤ V ∧ V ≤ 383) :=
                          ⟨_, hv, sg_step (i := i) hW hN.1 hN.2 hltj rfl, by omega⟩
                        clear hv
                        obtain ⟨V, hV, st, hvr⟩ := key
                        refine ⟨(by constructor; (try dsimp only [SI.val, SO.val]); (try simp (disch := omega) only [hbi, hna, hcv, Int.ofNat_eq_natCast, add_i64, sub_i64, mul_i64, quo_i64, rem_i64, wrap_i64, wrap_u8, Int.toNat_natCast]); omega), ⟨by rw [qj]; omega⟩, fun g2 => ?_, fun g2 => ?_⟩
                        · cbv
                          have h7 : V < 0 := by rw [hcm] at g2; have hh := lssT g2; rw [← hV]; exact hh
                          refine ⟨fun g3 => ?_, fun g3 => ?_⟩
                          · cbv
                            exfalso
                            rw [hcm] at g3
                            have hh : bi .add .i64 (bi .add .i64 (SA i j (na (Int.ofNat j))) (SC i j)) 256 < 0 := lssT g3
                            rw [hV, hbi, add_i64 (by omega)] at hh
                            omega
                          · cbv
                            refine ⟨(by constructor; (try dsimp only [SI.val, SO.val]); (try simp (disch := omega) only [hbi, hna, hcv, Int.ofNat_eq_natCast, add_i64, sub_i64, mul_i64, quo_i64, rem_i64, wrap_i64, wrap_u8, Int.toNat_natCast]); omega), ⟨by rw [qj]; omega⟩, ⟨j + 1, by omega⟩, ?_, by show 34 - (j + 1) < 34 - j; omega⟩
                            cbv
                            refine ⟨fun k hk => ?_, (by first | exact fun _ _ => rfl | exact ⟨rfl, fun _ _ => rfl⟩), ?_, q5, trivial⟩
                            · show (if k = na (Int.ofNat j) then bi .rem .i64 (bi .add .i64 (bi .add .i64 (SA i j (na (Int.ofNat j))) (SC i j)) 256) 256 else SA i j k) = SA i (j + 1) k
                              rw [hV, qj, hbi, add_i64 (by omega), rem_i64 (by omega), (by omega : (V + 256) % 256 = V % 256), st.1, hSA]
                              exact sgA_upd k
                            · show bi .add .i64 (-1) (bi .quo .i64 (bi .add .i64 (bi .add .i64 (SA i j (na (Int.ofNat j))) (SC i j)) 256) 256) = SC i (j + 1)
                              rw [hV, hbi, add_i64 (a := V) (by omega), quo_i64 (by omega) (by omega), add_i64 (by omega), hSC, ← st.2]
                              omega
                        · cbv
                          have h7 : 0 ≤ V := by rw [hcm] at g2; have hh := lssF g2; rw [← hV]; exact hh
                          refine ⟨(by constructor; (try dsimp only [SI.val, SO.val]); (try simp (disch := omega) only [hbi, hna, hcv, Int.ofNat_eq_natCast, add_i64, sub_i64, mul_i64, quo_i64, rem_i64, wrap_i64, wrap_u8, Int.toNat_natCast]); omega), ⟨by rw [qj]; omega⟩, ⟨j + 1, by omega⟩, ?_, by show 34 - (j + 1) < 34 - j; omega⟩
                          cbv
                          refine ⟨fun k hk => ?_, (by first | exact fun _ _ => rfl | exact ⟨rfl, fun _ _ => rfl⟩), ?_, q5, trivial⟩
                          · show (if k = na (Int.ofNat j) then bi .rem .i64 (bi .add .i64 (SA i j (na (Int.ofNat j))) (SC i j)) 256 else SA i j k) = SA i (j + 1) k
                            rw [hV, qj, hbi, rem_i64 (by omega), st.1, hSA]
                            exact sgA_upd k
                          · show bi .add .i64 0 (bi .quo .i64 (bi .add .i64 (SA i j (na (Int.ofNat j))) (SC i j)) 256) = SC i (j + 1)
                            rw [hV, hbi, quo_i64 (by omega) (by omega), add_i64 (by omega), hSC, ← st.2]
                            omega
                      · cbv
                        have heqj : j = 34 := by rw [hcm] at g; have hh := lssF g; simp only [Int.ofNat_eq_natCast] at hh; omega
                        subst heqj
                        have hfa : ∀ k, k < 34 → SA i 34 k = dgt 256 (nafN w.toNat (num 32 a) i - nafD w.toNat (nafN w.toNat (num 32 a) i)) k := by
                          intro k hk
                          rw [hSA]
                          exact sgA_end hk
                        have hf5 : IsDig 256 34 (SA i 34) := fun k hk => by rw [hfa k hk]; exact dig_range _ k
                        refine ⟨⟨⟨0, by decide⟩, ?_⟩, fun j _ => ?_⟩
                        · subst hJ2
                          cbv
                          refine ⟨fun k _ => ?_, (by first | exact fun _ _ => rfl | exact ⟨rfl, fun _ _ => rfl⟩), rfl, trivial⟩
                          show SA i 34 k = HV (SA i 34) 0 k
                          rw [hHV, halv_zero]
                        · subst hJ2
                          obtain ⟨j, hj⟩ := j
                          cbv
                          have qj : na (Int.ofNat j) = j := by rw [hna]; rfl
                          have q5 : bi .add .i64 (Int.ofNat j) 1 = Int.ofNat (j + 1) := by rw [hbi, add_i64 (by simp only [Int.ofNat_eq_natCast]; omega)]; rfl
                          refine ⟨fun g => ?_, fun g => ?_⟩
                          · cbv
                            have hltj : j < 33 := by rw [hcm] at g; have hh := lssT g; simp only [Int.ofNat_eq_natCast] at hh; omega
                            have e1 : bi .add .i64 (Int.ofNat j) 1 = Int.ofNat (j + 1) := q5
                            have e2 : na (bi .add .i64 (Int.ofNat j) 1) = j + 1 := by rw [e1, hna]; rfl
                            refine ⟨(by constructor; (try dsimp only [SI.val, SO.val]); (try simp (disch := omega) only [hbi, hna, hcv, Int.ofNat_eq_natCast, add_i64, sub_i64, mul_i64, quo_i64, rem_i64, wrap_i64, wrap_u8, Int.toNat_natCast]); omega), ⟨by rw [qj]; omega⟩, ⟨by rw [e1]; simp only [Int.ofNat_eq_natCast]; omega⟩, ⟨by rw [e2]; omega⟩, (by constructor; (try dsimp only [SI.val, SO.val]); (try simp (disch := omega) only [hbi, hna, hcv, Int.ofNat_eq_natCast, add_i64, sub_i64, mul_i64, quo_i64, rem_i64, wrap_i64, wrap_u8, Int.toNat_natCast]); omega), ⟨by rw [qj]; omega⟩, ⟨j + 1, by omega⟩, ?_, by show 33 - (j + 1) < 33 - j; omega⟩
                            cbv
                            refine ⟨fun k _ => ?_, (by first | exact fun _ _ => rfl | exact ⟨rfl, fun _ _ => rfl⟩), q5, trivial⟩
                            show (if k = na (Int.ofNat j) then bi .add .i64 (bi .quo .i64 (HV (SA i 34) j (na (Int.ofNat j))) 2) (bi .mul .i64 (bi .rem .i64 (HV (SA i 34) j (na (bi .add .i64 (Int.ofNat j) 1))) 2) 128) else HV (SA i 34) j k) = HV (SA i 34) (j + 1) k
                            rw [qj, e2]
                            exact halv_stepB hbi hHV hf5 hltj k
                          · cbv
                            have heqj : j = 33 := by rw [hcm] at g; have hh := lssF g; simp only [Int.ofNat_eq_natCast] at hh; omega
                            subst heqj
                            refine ⟨⟨i + 1, by omega⟩, ?_, by show 257 - (i + 1) < 257 - i; omega⟩
                            cbv
                            refine ⟨fun k hk => ?_, (by first | exact fun _ _ => rfl | exact ⟨rfl, fun _ _ => rfl⟩), q4, trivial⟩
                            show (if k = 33 then bi .quo .i64 (HV (SA i 34) 33 33) 2 else HV (SA i 34) 33 k) = RN (i + 1) k
                            exact nafB_next' hbi hHV hRN hW hN.1 hN.2 i hfa k hk
                  · cbv
                    have hlt : nafN w.toNat (num 32 a) i % 2 ^ w.toNat < 2 ^ (w.toNat - 1) := by
                      rw [hcm] at g2
                      have h8 := gtrF g2
                      rw [hq2] at h8
                      have h9 : ¬ 2 ^ (w.toNat - 1) ≤ nafN w.toNat (num 32 a) i % 2 ^ w.toNat := fun e => absurd (hoh.2 e) (Int.not_lt.2 (Int.le_trans (Int.le_of_eq hd0.symm) h8))
                      omega
                    have hz := naf_low hodd hlt
                    have hdx : bi .rem .i64 (RN i 0) (SPN w.toNat) = nafD w.toNat (nafN w.toNat (num 32 a) i) := by rw [hd0, hz]
                    have dig8 : cv .i8 (bi .rem .i64 (RN i 0) (SPN w.toNat)) = nafD w.toNat (nafN w.toNat (num 32 a) i) := by
                      rw [hdx, hcv]
                      exact wrap_i8 (by omega)
                    refine ⟨room_one (by omega), ⟨⟨0, by decide⟩, ?_⟩, fun j _ => ?_⟩
                    · subst hJ1
                      cbv
                      refine ⟨fun k hk => ?_, ⟨choice_add i 1, fun k hk => ?_⟩, ?_, rfl, trivial⟩
                      · show RN i k = SA i 0 k
                        rw [hRN, hSA, sgA_zero]
                      · refine join_one rfl (fun _ _ => rfl) ?_ (len_one i) k hk
                        show cv .i8 (bi .rem .i64 (RN i 0) (SPN w.toNat)) = D a w i
                        rw [dig8, hD]
                        rfl
                      · show un .neg .i64 (bi .rem .i64 (RN i 0) (SPN w.toNat)) = SC i 0
                        rw [hSC, sgC_zero]
                        rw [hdx, hun]
                        show IntKind.wrap .i64 (0 - nafD w.toNat (nafN w.toNat (num 32 a) i)) = _
                        rw [wrap_i64 (by omega)]
                        omega
                    · subst hJ1
                      obtain ⟨j, hj⟩ := j
                      cbv
                      have qj : na (Int.ofNat j) = j := by rw [hna]; rfl
                      have q5 : bi .add .i64 (Int.ofNat j) 1 = Int.ofNat (j + 1) := by rw [hbi, add_i64 (by simp only [Int.ofNat_eq_natCast]; omega)]; rfl
                      refine ⟨fun g => ?_, fun g => ?_⟩
                      · cbv
                        have hltj : j < 34 := by rw [hcm] at g; have hh := lssT g; simp only [Int.ofNat_eq_natCast] at hh; omega
                        have hr1 := dig_range (nafN w.toNat (num 32 a) i) j
                        have hr2 := sgC_range (N := num 32 a) (i := i) hW j
                        have hv : bi .add .i64 (SA i j (na (Int.ofNat j))) (SC i j) = dgt 256 (nafN w.toNat (num 32 a) i) j + sgC w.toNat (num 32 a) i j := by
                          rw [qj, hSA, hSC, hbi, sgA_at, add_i64 (by omega)]
                        have key : ∃ V : Int, bi .add .i64 (SA i j (na (Int.ofNat j))) (SC i j) = V ∧ (V % 256 = dgt 256 (nafN w.toNat (num 32 a) i - nafD w.toNat (nafN w.toNat (num 32 a) i)) j ∧ V / 256 = sgC w.toNat (num 32 a) i (j + 1)) ∧ (-128 ≤ V ∧ V ≤ 383) :=
                          ⟨_, hv, sg_step (i := i) hW hN.1 hN.2 hltj rfl, by omega⟩
                        clear hv
                        obtain ⟨V, hV, st, hvr⟩ := key
                        refine ⟨(by constructor; (try dsimp only [SI.val, SO.val]); (try simp (disch := omega) only [hbi, hna, hcv, Int.ofNat_eq_natCast, add_i64, sub_i64, mul_i64, quo_i64, rem_i64, wrap_i64, wrap_u8, Int.toNat_natCast]); omega), ⟨by rw [qj]; omega⟩, fun g2 => ?_, fun g2 => ?_⟩
                        · cbv
                          have h7 : V < 0 := by rw [hcm] at g2; have hh := lssT g2; rw [← hV]; exact hh
                          refine ⟨fun g3 => ?_, fun g3 => ?_⟩
                          · cbv
                            exfalso
                            rw [hcm] at g3
                            have hh : bi .add .i64 (bi .add .i64 (SA i j (na (Int.ofNat j))) (SC i j)) 256 < 0 := lssT g3
                            rw [hV, hbi, add_i64 (by omega)] at hh
                            omega
                          · cbv
                            refine ⟨(by constructor; (try dsimp only [SI.val, SO.val]); (try simp (disch := omega) only [hbi, hna, hcv, Int.ofNat_eq_natCast, add_i64, sub_i64, mul_i64, quo_i64, rem_i64, wrap_i64, wrap_u8, Int.toNat_natCast]); omega), ⟨by rw [qj]; omega⟩, ⟨j + 1, by omega⟩, ?_, by show 34 - (j + 1) < 34 - j; omega⟩
                            cbv
                            refine ⟨fun k hk => ?_, (by first | exact fun _ _ => rfl | exact ⟨rfl, fun _ _ => rfl⟩), ?_, q5, trivial⟩
                            · show (if k = na (Int.ofNat j) then bi .rem .i64 (bi .add .i64 (bi .add .i64 (SA i j (na (Int.ofNat j))) (SC i j)) 256) 256 else SA i j k) = SA i (j + 1) k
                              rw [hV, qj, hbi, add_i64 (by omega), rem_i64 (by omega), (by omega : (V + 256) % 256 = V % 256), st.1, hSA]
                              exact sgA_upd k
                            · show bi .add .i64 (-1) (bi .quo .i64 (bi .add .i64 (bi .add .i64 (SA i j (na (Int.ofNat j))) (SC i j)) 256) 256) = SC i (j + 1)
                              rw [hV, hbi, add_i64 (a := V) (by omega), quo_i64 (by omega) (by omega), add_i64 (by omega), hSC, ← st.2]
                              omega
                        · cbv
                          have h7 : 0 ≤ V := by rw [hcm] at g2; have hh := lssF g2; rw [← hV]; exact hh
                          refine ⟨(by constructor; (try dsimp only [SI.val, SO.val]); (try simp (disch := omega) only [hbi, hna, hcv, Int.ofNat_eq_natCast, add_i64, sub_i64, mul_i64, quo_i64, rem_i64, wrap_i64, wrap_u8, Int.toNat_natCast]); omega), ⟨by rw [qj]; omega⟩, ⟨j + 1, by omega⟩, ?_, by show 34 - (j + 1) < 34 - j; omega⟩
                          cbv
                          refine ⟨fun k hk => ?_, (by first | exact fun _ _ => rfl | exact ⟨rfl, fun _ _ => rfl⟩), ?_, q5, trivial⟩
                          · show (if k = na (Int.ofNat j) then bi .rem .i64 (bi .add .i64 (SA i j (na (Int.ofNat j))) (SC i j)) 256 else SA i j k) = SA i (j + 1) k
                            rw [hV, qj, hbi, rem_i64 (by omega), st.1, hSA]
                            exact sgA_upd k
                          · show bi .add .i64 0 (bi .quo .i64 (bi .add .i64 (SA i j (na (Int.ofNat j))) (SC i j)) 256) = SC i (j + 1)
                            rw [hV, hbi, quo_i64 (by omega) (by omega), add_i64 (by omega), hSC, ← st.2]
                            omega
                      · cbv
                        have heqj : j = 34 := by rw [hcm] at g; have hh := lssF g; simp only [Int.ofNat_eq_natCast] at hh; omega
                        subst heqj
                        have hfa : ∀ k, k < 34 → SA i 34 k = dgt 256 (nafN w.toNat (num 32 a) i - nafD w.toNat (nafN w.toNat (num 32 a) i)) k := by
                          intro k hk
                          rw [hSA]
                          exact sgA_end hk
                        have hf5 : IsDig 256 34 (SA i 34) := fun k hk => by rw [hfa k hk]; exact dig_range _ k
                        refine ⟨⟨⟨0, by decide⟩, ?_⟩, fun j _ => ?_⟩
                        · subst hJ2
                          cbv
                          refine ⟨fun k _ => ?_, (by first | exact fun _ _ => rfl | exact ⟨rfl, fun _ _ => rfl⟩), rfl, trivial⟩
                          show SA i 34 k = HV (SA i 34) 0 k
                          rw [hHV, halv_zero]
                        · subst hJ2
                          obtain ⟨j, hj⟩ := j
                          cbv
                          have qj : na (Int.ofNat j) = j := by rw [hna]; rfl
                          have q5 : bi .add .i64 (Int.ofNat j) 1 = Int.ofNat (j + 1) := by rw [hbi, add_i64 (by simp only [Int.ofNat_eq_natCast]; omega)]; rfl
                          refine ⟨fun g => ?_, fun g => ?_⟩
                          · cbv
                            have hltj : j < 33 := by rw [hcm] at g; have hh := lssT g; simp only [Int.ofNat_eq_natCast] at hh; omega
                            have e1 : bi .add .i64 (Int.ofNat j) 1 = Int.ofNat (j + 1) := q5
                            have e2 : na (bi .add .i64 (Int.ofNat j) 1) = j + 1 := by rw [e1, hna]; rfl
                            refine ⟨(by constructor; (try dsimp only [SI.val, SO.val]); (try simp (disch := omega) only [hbi, hna, hcv, Int.ofNat_eq_natCast, add_i64, sub_i64, mul_i64, quo_i64, rem_i64, wrap_i64, wrap_u8, Int.toNat_natCast]); omega), ⟨by rw [qj]; omega⟩, ⟨by rw [e1]; simp only [Int.ofNat_eq_natCast]; omega⟩, ⟨by rw [e2]; omega⟩, (by constructor; (try dsimp only [SI.val, SO.val]); (try simp (disch := omega) only [hbi, hna, hcv, Int.ofNat_eq_natCast, add_i64, sub_i64, mul_i64, quo_i64, rem_i64, wrap_i64, wrap_u8, Int.toNat_natCast]); omega), ⟨by rw [qj]; omega⟩, ⟨j + 1, by omega⟩, ?_, by show 33 - (j + 1) < 33 - j; omega⟩
                            cbv
                            refine ⟨fun k _ => ?_, (by first | exact fun _ _ => rfl | exact ⟨rfl, fun _ _ => rfl⟩), q5, trivial⟩
                            show (if k = na (Int.ofNat j) then bi .add .i64 (bi .quo .i64 (HV (SA i 34) j (na (Int.ofNat j))) 2) (bi .mul .i64 (bi .rem .i64 (HV (SA i 34) j (na (bi .add .i64 (Int.ofNat j) 1))) 2) 128) else HV (SA i 34) j k) = HV (SA i 34) (j + 1) k
                            rw [qj, e2]
                            exact halv_stepB hbi hHV hf5 hltj k
                          · cbv
                            have heqj : j = 33 := by rw [hcm] at g; have hh := lssF g; simp only [Int.ofNat_eq_natCast] at hh; omega
                            subst heqj
                            refine ⟨⟨i + 1, by omega⟩, ?_, by show 257 - (i + 1) < 257 - i; omega⟩
                            cbv
                            refine ⟨fun k hk => ?_, (by first | exact fun _ _ => rfl | exact ⟨rfl, fun _ _ => rfl⟩), q4, trivial⟩
                            show (if k = 33 then bi .quo .i64 (HV (SA i 34) 33 33) 2 else HV (SA i 34) 33 k) = RN (i + 1) k
                            exact nafB_next' hbi hHV hRN hW hN.1 hN.2 i hfa k hk
                · cbv
                  have heven : nafN w.toNat (num 32 a) i % 2 ≠ 1 := by rw [hcm] at g1; exact fun e => eqlF g1 (hm2.trans e)
                  have hz := naf_even' (w := w.toNat) heven
                  have dig8 : (0 : Int) = nafD w.toNat (nafN w.toNat (num 32 a) i) := by
                    rw [hz]
                  refine ⟨room_one (by omega), ⟨⟨0, by decide⟩, ?_⟩, fun j _ => ?_⟩
                  · subst hJ1
                    cbv
                    refine ⟨fun k hk => ?_, ⟨choice_add i 1, fun k hk => ?_⟩, ?_, rfl, trivial⟩
                    · show RN i k = SA i 0 k
                      rw [hRN, hSA, sgA_zero]
                    · refine join_one rfl (fun _ _ => rfl) ?_ (len_one i) k hk
                      show (0 : Int) = D a w i
                      rw [dig8, hD]
                      rfl
                    · show 0 = SC i 0
                      rw [hSC, sgC_zero]
                      rw [hz]
                      rfl
                  · subst hJ1
                    obtain ⟨j, hj⟩ := j
                    cbv
                    have qj : na (Int.ofNat j) = j := by rw [hna]; rfl
                    have q5 : bi .add .i64 (Int.ofNat j) 1 = Int.ofNat (j + 1) := by rw [hbi, add_i64 (by simp only [Int.ofNat_eq_natCast]; omega)]; rfl
                    refine ⟨fun g => ?_, fun g => ?_⟩
                    · cbv
                      have hltj : j < 34 := by rw [hcm] at g; have hh := lssT g; simp only [Int.ofNat_eq_natCast] at hh; omega
                      have hr1 := dig_range (nafN w.toNat (num 32 a) i) j
                      have hr2 := sgC_range (N := num 32 a) (i := i) hW j
                      have hv : bi .add .i64 (SA i j (na (Int.ofNat j))) (SC i j) = dgt 256 (nafN w.toNat (num 32 a) i) j + sgC w.toNat (num 32 a) i j := by
                        rw [qj, hSA, hSC, hbi, sgA_at, add_i64 (by omega)]
                      have key : ∃ V : Int, bi .add .i64 (SA i j (na (Int.ofNat j))) (SC i j) = V ∧ (V % 256 = dgt 256 (nafN w.toNat (num 32 a) i - nafD w.toNat (nafN w.toNat (num 32 a) i)) j ∧ V / 256 = sgC w.toNat (num 32 a) i (j + 1)) ∧ (-128 ≤ V ∧ V ≤ 383) :=
                        ⟨_, hv, sg_step (i := i) hW hN.1 hN.2 hltj rfl, by omega⟩
                      clear hv
                      obtain ⟨V, hV, st, hvr⟩ := key
                      refine ⟨(by constructor; (try dsimp only [SI.val, SO.val]); (try simp (disch := omega) only [hbi, hna, hcv, Int.ofNat_eq_natCast, add_i64, sub_i64, mul_i64, quo_i64, rem_i64, wrap_i64, wrap_u8, Int.toNat_natCast]); omega), ⟨by rw [qj]; omega⟩, fun g2 => ?_, fun g2 => ?_⟩
                      · cbv
                        have h7 : V < 0 := by rw [hcm] at g2; have hh := lssT g2; rw [← hV]; exact hh
                        refine ⟨fun g3 => ?_, fun g3 => ?_⟩
                        · cbv
                          exfalso
                          rw [hcm] at g3
                          have hh : bi .add .i64 (bi .add .i64 (SA i j (na (Int.ofNat j))) (SC i j)) 256 < 0 := lssT g3
                          rw [hV, hbi, add_i64 (by omega)] at hh
                          omega
                        · cbv
                          refine ⟨(by constructor; (try dsimp only [SI.val, SO.val]); (try simp (disch := omega) only [hbi, hna, hcv, Int.ofNat_eq_natCast, add_i64, sub_i64, mul_i64, quo_i64, rem_i64, wrap_i64, wrap_u8, Int.toNat_natCast]); omega), ⟨by rw [qj]; omega⟩, ⟨j + 1, by omega⟩, ?_, by show 34 - (j + 1) < 34 - j; omega⟩
                          cbv
                          refine ⟨fun k hk => ?_, (by first | exact fun _ _ => rfl | exact ⟨rfl, fun _ _ => rfl⟩), ?_, q5, trivial⟩
                          · show (if k = na (Int.ofNat j) then bi .rem .i64 (bi .add .i64 (bi .add .i64 (SA i j (na (Int.ofNat j))) (SC i j)) 256) 256 else SA i j k) = SA i (j + 1) k
                            rw [hV, qj, hbi, add_i64 (by omega), rem_i64 (by omega), (by omega : (V + 256) % 256 = V % 256), st.1, hSA]
                            exact sgA_upd k
                          · show bi .add .i64 (-1) (bi .quo .i64 (bi .add .i64 (bi .add .i64 (SA i j (na (Int.ofNat j))) (SC i j)) 256) 256) = SC i (j + 1)
                            rw [hV, hbi, add_i64 (a := V) (by omega), quo_i64 (by omega) (by omega), add_i64 (by omega), hSC, ← st.2]
                            omega
                      · cbv
                        have h7 : 0 ≤ V := by rw [hcm] at g2; have hh := lssF g2; rw [← hV]; exact hh
                        refine ⟨(by constructor; (try dsimp only [SI.val, SO.val]); (try simp (disch := omega) only [hbi, hna, hcv, Int.ofNat_eq_natCast, add_i64, sub_i64, mul_i64, quo_i64, rem_i64, wrap_i64, wrap_u8, Int.toNat_natCast]); omega), ⟨by rw [qj]; omega⟩, ⟨j + 1, by omega⟩, ?_, by show 34 - (j + 1) < 34 - j; omega⟩
                        cbv
                        refine ⟨fun k hk => ?_, (by first | exact fun _ _ => rfl | exact ⟨rfl, fun _ _ => rfl⟩), ?_, q5, trivial⟩
                        · show (if k = na (Int.ofNat j) then bi .rem .i64 (bi .add .i64 (SA i j (na (Int.ofNat j))) (SC i j)) 256 else SA i j k) = SA i (j + 1) k
                          rw [hV, qj, hbi, rem_i64 (by omega), st.1, hSA]
                          exact sgA_upd k
                        · show bi .add .i64 0 (bi .quo .i64 (bi .add .i64 (SA i j (na (Int.ofNat j))) (SC i j)) 256) = SC i (j + 1)
                          rw [hV, hbi, quo_i64 (by omega) (by omega), add_i64 (by omega), hSC, ← st.2]
                          omega
                    · cbv
                      have heqj : j = 34 := by rw [hcm] at g; have hh := lssF g; simp only [Int.ofNat_eq_natCast] at hh; omega
                      subst heqj
                      have hfa : ∀ k, k < 34 → SA i 34 k = dgt 256 (nafN w.toNat (num 32 a) i - nafD w.toNat (nafN w.toNat (num 32 a) i)) k := by
                        intro k hk
                        rw [hSA]
                        exact sgA_end hk
                      have hf5 : IsDig 256 34 (SA i 34) := fun k hk => by rw [hfa k hk]; exact dig_range _ k
                      refine ⟨⟨⟨0, by decide⟩, ?_⟩, fun j _ => ?_⟩
                      · subst hJ2
                        cbv
                        refine ⟨fun k _ => ?_, (by first | exact fun _ _ => rfl | exact ⟨rfl, fun _ _ => rfl⟩), rfl, trivial⟩
                        show SA i 34 k = HV (SA i 34) 0 k
                        rw [hHV, halv_zero]
                      · subst hJ2
                        obtain ⟨j, hj⟩ := j
                        cbv
                        have qj : na (Int.ofNat j) = j := by rw [hna]; rfl
                        have q5 : bi .add .i64 (Int.ofNat j) 1 = Int.ofNat (j + 1) := by rw [hbi, add_i64 (by simp only [Int.ofNat_eq_natCast]; omega)]; rfl
                        refine ⟨fun g => ?_, fun g => ?_⟩
                        · cbv
                          have hltj : j < 33 := by rw [hcm] at g; have hh := lssT g; simp only [Int.ofNat_eq_natCast] at hh; omega
                          have e1 : bi .add .i64 (Int.ofNat j) 1 = Int.ofNat (j + 1) := q5
                          have e2 : na (bi .add .i64 (Int.ofNat j) 1) = j + 1 := by rw [e1, hna]; rfl
                          refine ⟨(by constructor; (try dsimp only [SI.val, SO.val]); (try simp (disch := omega) only [hbi, hna, hcv, Int.ofNat_eq_natCast, add_i64, sub_i64, mul_i64, quo_i64, rem_i64, wrap_i64, wrap_u8, Int.toNat_natCast]); omega), ⟨by rw [qj]; omega⟩, ⟨by rw [e1]; simp only [Int.ofNat_eq_natCast]; omega⟩, ⟨by rw [e2]; omega⟩, (by constructor; (try dsimp only [SI.val, SO.val]); (try simp (disch := omega) only [hbi, hna, hcv, Int.ofNat_eq_natCast, add_i64, sub_i64, mul_i64, quo_i64, rem_i64, wrap_i64, wrap_u8, Int.toNat_natCast]); omega), ⟨by rw [qj]; omega⟩, ⟨j + 1, by omega⟩, ?_, by show 33 - (j + 1) < 33 - j; omega⟩
                          cbv
                          refine ⟨fun k _ => ?_, (by first | exact fun _ _ => rfl | exact ⟨rfl, fun _ _ => rfl⟩), q5, trivial⟩
                          show (if k = na (Int.ofNat j) then bi .add .i64 (bi .quo .i64 (HV (SA i 34) j (na (Int.ofNat j))) 2) (bi .mul .i64 (bi .rem .i64 (HV (SA i 34) j (na (bi .add .i64 (Int.ofNat j) 1))) 2) 128) else HV (SA i 34) j k) = HV (SA i 34) (j + 1) k
                          rw [qj, e2]
                          exact halv_stepB hbi hHV hf5 hltj k
                        · cbv
                          have heqj : j = 33 := by rw [hcm] at g; have hh := lssF g; simp only [Int.ofNat_eq_natCast] at hh; omega
                          subst heqj
                          refine ⟨⟨i + 1, by omega⟩, ?_, by show 257 - (i + 1) < 257 - i; omega⟩
                          cbv
                          refine ⟨fun k hk => ?_, (by first | exact fun _ _ => rfl | exact ⟨rfl, fun _ _ => rfl⟩), q4, trivial⟩
                          show (if k = 33 then bi .quo .i64 (HV (SA i 34) 33 33) 2 else HV (SA i 34) 33 k) = RN (i + 1) k
                          exact nafB_next' hbi hHV hRN hW hN.1 hN.2 i hfa k hk
              · cbv
                have heqi : i = 257 := by rw [hcm] at h; have hh := lssF h; simp only [Int.ofNat_eq_natCast] at hh; omega
                subst heqi
                refine ⟨?_, fun k hk => rfl, ?_, trivial⟩
                · show 257 = L w
                  rw [hL, digL, hd]; rfl
                · show 0 = F w
                  rw [hF, digE, hd]; rfl

theorem ok_rdigits (G : Nat → AV) : Sound Tryd.prog G 36 (digitsC digF digL digE) := by
  refine sound_sym (n := 111) (rs := [.tmp 4, .tmp 5]) (sc := sc_rdigits.1) mixed Tryd.func36 rfl rfl rfl rfl sc_rdigits.2 ?_
  intro vs cs r h
  unfold digitsC at h
  split at h
  · rename_i a w
    cases h
    exact ⟨by simp, fun hcs hwf => ⟨_, envOK tabOK ( .nil), rfl, walk_rdigits realOps rfl G a w.val (isB (hwf _ (by simp))) _ rfl _ rfl _ rfl _ rfl _ rfl _ rfl _ rfl _ rfl _ rfl _ rfl _ rfl _ rfl _ rfl⟩⟩
  · cases h
end Go.Proofs.YtbiialpakchjgaaDoor
