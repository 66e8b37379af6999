/-
  ScalarForm holds for every input: the walk.
-/
import Derived.Test.YtfpeolihnaeolaaDigA
import Derived.Test.YtfpeolihnaeolaaDigT
namespace Go.Proofs.Ytfpeolihnaeolaa
open Go Go.Proofs Sx
set_option maxRecDepth 100000
set_option maxHeartbeats 4000000
set_option linter.unusedVariables false
set_option linter.unusedSimpArgs false

def sc_law_sform : { c : SC // strip (body Try.f5) = c } := ⟨_, by cbv⟩
theorem walk_law_sform (A : Ops) (hA : A = realOps) (a : Nat → Int) (w : Int) (ha : IsBytes 32 a) (DD : (Nat → Int) → Int → Nat → Int) (hDD : DD = digF) (LL : Int → Nat) (hLL : LL = digL) (EE : Int → Int) (hEE : EE = digE) (HF : Nat → Int) (hHF : HF = fun i => 2 ^ (i - 1))
    (I1 : { i : Nat // 1 ≤ i ∧ i ≤ max w.toNat 1 } → St) (hI1 : I1 = fun i => slots 88 [(1, .int .i64 (.sym w)), (5, .sref 12 1 (.lit 0) (.sym (LL w)) (.sym (LL w))), (12, .otup .i8 1 (.sym (LL w)) (DD a w) [.int .i64 (.sym (EE w))]), (7, .int .i64 (.sym (HF i.1))), (8, .int .i64 (.sym (i.1 : Int)))])
    (I : { p : Nat × Int // LastAt w.toNat (num 32 a) p } → St) (hI : I = fun p => slots 88 [(1, .int .i64 (.sym w)), (5, .sref 12 1 (.lit 0) (.sym (LL w)) (.sym (LL w))), (12, .otup .i8 1 (.sym (LL w)) (DD a w) [.int .i64 (.sym (EE w))]), (7, .int .i64 (.sym (HF w.toNat))), (9, .int .i64 (.sym p.1.2)), (10, .int .i64 (.sym (p.1.1 : Int)))]) :
    Walk (mkEnv A tab.1 G0 [(7, digitsC DD LL EE), (10, addsP)] [(8, .inv { i : Nat // 1 ≤ i ∧ i ≤ max w.toNat 1 } I1 fun i => w.toNat - i.1), (13, .inv { p : Nat × Int // LastAt w.toNat (num 32 a) p } I fun p => 257 - p.1.1)]) sc_law_sform.1 88 [.tmp 4] [.arr .u8 32 a, .int .i64 (.sym w)] (.bool (.sym true)) := by
  obtain ⟨bi, cm, un, cv, na, eq⟩ := A
  have hbi : bi = realBin := congrArg Ops.bin hA
  have hcm : cm = realCmp := congrArg Ops.cmp hA
  have hna : na = Int.toNat := congrArg Ops.nat hA
  have hcv : cv = fun k n => k.wrap n := congrArg Ops.cnv hA
  have heq : eq = realEqA := congrArg Ops.eqA hA
  have hun : un = realUn := congrArg Ops.un hA
  clear hA
  have hN := num_q256 ha
  have hfin : digW w = true → Adds (LL w) (DD a w) a := by
    intro hd
    obtain ⟨hW, hw⟩ := digW_wid hd
    rw [hLL, hDD, (digE_nil hd).2]
    exact ⟨naf_total hW hN.1 hN.2, by decide, by decide⟩
  refine ⟨?_⟩
  cbv
  refine ⟨fun h => ?_, fun h => ?_⟩
  · cbv
    have hd : digW w = false := by
      rw [hcm] at h
      have h2 := (digW_look w).symm.trans h
      simpa using h2
    have g1 : cm .eql (EE w) 1 = true := by rw [hcm, hEE, (digE_one hd).1]; rfl
    have g2 : cm .eql (Int.ofNat (LL w)) 0 = true := by rw [hcm, hLL, (digE_one hd).2]; rfl
    show (match cm .eql (EE w) 1 with | true => cm .eql (Int.ofNat (LL w)) 0 | false => false) = true
    rw [g1]
    exact g2
  · have hd : digW w = true := by
      rw [hcm] at h
      have h2 := (digW_look w).symm.trans h
      simpa using h2
    have g1 : cm .neq (EE w) 0 = false := by rw [hcm, hEE, (digE_nil hd).1]; rfl
    have g2 : cm .neq (Int.ofNat (LL w)) 257 = false := by rw [hcm, hLL, (digE_nil hd).2]; rfl
    have hl := (digE_nil hd).2
    rw [← hLL] at hl
    have hadd := hfin hd
    have hadd2 : Adds (LL w) (fun j => DD a w (0 + j)) a := by rw [zero_off]; exact hadd
    obtain ⟨hW, hw⟩ := digW_wid hd
    have hw' : w = Int.ofNat w.toNat := hw
    have hw8 : 2 ≤ w ∧ w ≤ 8 := by have := hW.h; omega
    have hwn := hW.h
    have tp := two_pows hW
    have hDn : ∀ i, DD a w i = nafF w.toNat (num 32 a) i := by intro i; rw [hDD]; rfl
    clear h hw hfin
    cbv
    refine ⟨fun _ => ⟨Nat.le_refl _⟩, fun _ => hadd2, fun h2 => ?_, fun _ => ?_⟩
    · exfalso
      revert h2
      show (match (match cm .neq (EE w) 0 with | true => true | false => cm .neq (Int.ofNat (LL w)) 257) with | true => true | false => false) = true → False
      rw [g1, g2]
      intro e
      cases e
    · cbv
      refine ⟨⟨⟨1, by omega⟩, ?_⟩, fun i _ => ?_⟩
      · subst hI1
        cbv
        exact ⟨rfl, by show 1 = HF 1; rw [hHF]; rfl, rfl, ⟨rfl, fun _ _ => rfl, rfl⟩, trivial⟩
      · subst hI1
        obtain ⟨i, hi1, hi2⟩ := i
        cbv
        refine ⟨fun h => ?_, fun h => ?_⟩
        · cbv
          have hlti : i < w.toNat := by rw [hcm] at h; have hh := lssT h; simp only [Int.ofNat_eq_natCast] at hh; omega
          have q4 : bi .add .i64 (Int.ofNat i) 1 = Int.ofNat (i + 1) := by rw [hbi, add_i64 (by simp only [Int.ofNat_eq_natCast]; omega)]; rfl
          have hp : 0 < (2 : Int) ^ (i - 1) ∧ (2 : Int) ^ (i - 1) ≤ 128 := two_low (by omega)
          refine ⟨⟨i + 1, by omega, by omega⟩, ?_, by show w.toNat - (i + 1) < w.toNat - i; omega⟩
          cbv
          refine ⟨?_, q4, ⟨fun _ _ => rfl, trivial⟩, trivial⟩
          show bi .mul .i64 2 (HF i) = HF (i + 1)
          rw [hHF, hbi]
          show realBin .mul .i64 2 (2 ^ (i - 1)) = 2 ^ (i + 1 - 1)
          rw [mul_i64 (by omega), (by omega : i + 1 - 1 = (i - 1) + 1), Int.pow_succ]
          omega
        · cbv
          have heqi : i = w.toNat := by rw [hcm] at h; have hh := lssF h; simp only [Int.ofNat_eq_natCast] at hh; omega
          subst heqi
          have hneg : un .neg .i64 w = -w := by
            rw [hun]
            show IntKind.wrap .i64 (0 - w) = -w
            rw [wrap_i64 (by omega)]
            omega
          refine ⟨⟨⟨(0, -w), by refine ⟨Nat.zero_le _, .inl ?_⟩; omega⟩, ?_⟩, fun p _ => ?_⟩
          · subst hI
            cbv
            exact ⟨rfl, hneg, rfl, ⟨fun _ _ => rfl, trivial⟩, trivial⟩
          · subst hI
            obtain ⟨⟨i, x⟩, hp⟩ := p
            have hi := hp.1
            have hxr := last_range hW hp
            replace hxr : -8 ≤ x ∧ x ≤ 257 := hxr
            cbv
            refine ⟨fun h => ?_, fun h => ?_⟩
            · cbv
              have hlti : i < 257 := by
                rw [hcm] at h
                have hh := lssT h
                have hh2 : (Int.ofNat i) < (Int.ofNat (LL w)) := hh
                rw [hl] at hh2
                simp only [Int.ofNat_eq_natCast] at hh2
                omega
              have qi : na (Int.ofNat i) = i := by rw [hna]; rfl
              have q4 : bi .add .i64 (Int.ofNat i) 1 = Int.ofNat (i + 1) := by rw [hbi, add_i64 (by simp only [Int.ofNat_eq_natCast]; omega)]; rfl
              have hdr := nafD_range hW (nafN w.toNat (num 32 a) i)
              replace hdr : -128 < nafF w.toNat (num 32 a) i ∧ nafF w.toNat (num 32 a) i < 128 := ⟨hdr.1, hdr.2.1⟩
              have e0 : cv .i64 (DD a w (na (Int.ofNat i))) = nafF w.toNat (num 32 a) i := by rw [qi, hDn, hcv]; exact wrap_i64 (by omega)
              refine ⟨⟨by rw [hl]; simp only [Int.ofNat_eq_natCast]; omega⟩, ⟨by rw [qi, hl]; omega⟩, fun g3 => ?_, fun g3 => ?_⟩
              · cbv
                have hz : nafF w.toNat (num 32 a) i = 0 := by
                  rw [hcm] at g3
                  have hh : cv .i64 (DD a w (na (Int.ofNat i))) = 0 := eqlT g3
                  rw [e0] at hh
                  exact hh
                refine ⟨⟨(i + 1, x), ?_⟩, ?_, by show 257 - (i + 1) < 257 - i; omega⟩
                · refine ⟨by show i + 1 ≤ 257; omega, ?_⟩
                  rcases hp.2 with h1 | ⟨y, h1, h2, h3⟩
                  · exact .inl h1
                  · exact .inr ⟨y, h1, by have : y < i := h2; show y < i + 1; omega, h3⟩
                · cbv
                  exact ⟨q4, ⟨fun _ _ => rfl, trivial⟩, trivial⟩
              · cbv
                have hz : nafF w.toNat (num 32 a) i ≠ 0 := by
                  rw [hcm] at g3
                  have hh : cv .i64 (DD a w (na (Int.ofNat i))) ≠ 0 := eqlF g3
                  rw [e0] at hh
                  exact hh
                have hgap := last_gap hW hp hz
                replace hgap : (w.toNat : Int) ≤ (i : Int) - x := hgap
                have hform : nafF w.toNat (num 32 a) i % 2 = 1 ∧ nafF w.toNat (num 32 a) i < 2 ^ (w.toNat - 1) ∧ -2 ^ (w.toNat - 1) < nafF w.toNat (num 32 a) i := (naf_form hW (nafN w.toNat (num 32 a) i)).resolve_left hz
                have hhf : HF w.toNat = 2 ^ (w.toNat - 1) := by rw [hHF]
                have b1 : cm .eql (bi .rem .i64 (cv .i64 (DD a w (na (Int.ofNat i)))) 2) 0 = false := by
                  rw [e0, hcm, hbi]
                  have := rem_odd hform.1
                  simpa [realCmp] using this
                have b2 : cm .geq (cv .i64 (DD a w (na (Int.ofNat i)))) (HF w.toNat) = false := by rw [e0, hhf, hcm]; exact decide_eq_false (by omega)
                have b3 : cm .leq (cv .i64 (DD a w (na (Int.ofNat i)))) (un .neg .i64 (HF w.toNat)) = false := by
                  rw [e0, hhf, hun, hcm]
                  refine decide_eq_false ?_
                  show ¬ _ ≤ IntKind.wrap .i64 (0 - 2 ^ (w.toNat - 1))
                  rw [wrap_i64 (by omega)]
                  omega
                have b4 : cm .lss (bi .sub .i64 (Int.ofNat i) x) w = false := by
                  rw [hcm, hbi, sub_i64 (by simp only [Int.ofNat_eq_natCast]; omega)]
                  exact decide_eq_false (by simp only [Int.ofNat_eq_natCast]; omega)
                refine ⟨fun h2 => ?_, fun _ => ?_⟩
                · exfalso
                  revert h2
                  show (match (match (match cm .eql (bi .rem .i64 (cv .i64 (DD a w (na (Int.ofNat i)))) 2) 0 with | true => true | false => cm .geq (cv .i64 (DD a w (na (Int.ofNat i)))) (HF w.toNat)) with | true => true | false => cm .leq (cv .i64 (DD a w (na (Int.ofNat i)))) (un .neg .i64 (HF w.toNat))) with | true => true | false => cm .lss (bi .sub .i64 (Int.ofNat i) x) w) = true → False
                  rw [b1, b2, b3, b4]
                  intro e
                  cases e
                · cbv
                  refine ⟨⟨(i + 1, (i : Int)), ?_⟩, ?_, by show 257 - (i + 1) < 257 - i; omega⟩
                  · exact ⟨by show i + 1 ≤ 257; omega, .inr ⟨i, rfl, by show i < i + 1; omega, hz⟩⟩
                  · cbv
                    exact ⟨q4, ⟨fun _ _ => rfl, trivial⟩, trivial⟩
            · cbv

theorem ok_law_sform : Sound Try.prog G0 5 (boolAIC fun _ _ => true) := by
  refine sound_sym (n := 88) (rs := [.tmp 4]) (sc := sc_law_sform.1) mixed Try.func5 rfl rfl rfl rfl sc_law_sform.2 ?_
  intro vs cs r h
  unfold boolAIC at h
  split at h
  · rename_i a w
    cases h
    exact ⟨by simp, fun hcs hwf => ⟨_, envOK tabOK ((.cons (ok_sdigits G0) (.cons (ok_adds G0) .nil))), rfl, walk_law_sform realOps rfl a w.val (isB (hwf _ (by simp))) _ rfl _ rfl _ rfl _ rfl _ rfl _ rfl⟩⟩
  · cases h
end Go.Proofs.Ytfpeolihnaeolaa
