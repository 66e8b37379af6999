/-
  Digits that add up to a number.
-/
import Derived.Test.YtfpeolihnaeolaaBase
import Derived.Test.YtfpeolihnaeolaaScN
import Derived.Test.YtfpeolihnaeolaaSxR
import Derived.Test.YtfpeolihnaeolaaScS
namespace Go.Proofs.Ytfpeolihnaeolaa
open Go Go.Proofs Sx
set_option maxRecDepth 100000
set_option maxHeartbeats 4000000
set_option linter.unusedVariables false
set_option linter.unusedSimpArgs false

def sc_adds : { c : SC // strip (body Try.f10) = c } := ⟨_, by cbv⟩
theorem walk_adds (A : Ops) (hA : A = realOps) (G : Nat → AV) (n : Nat) (ca : SO) (f : Nat → Int) (a : Nat → Int) (hf : IsDigs n f) (ha : IsBytes 32 a) (hS : Adds n f a)  (SC : Nat → Int) (hSC : SC = adC n f (num 32 a)) (I : { i : Nat // i ≤ n } → St) (hI : I = fun i => slots 50 [(0, .xsl .i8 1 (.sym n) ca f), (3, .own (.arr .u8 32 a)), (5, .int .i64 (.sym (SC i.1))), (6, .int .i64 (.sym (i.1 : Int)))]) :
    Walk (mkEnv A tab.1 G [] [(3, .inv { i : Nat // i ≤ n } I fun i => n - i.1)]) sc_adds.1 50 [.tmp 4] [.xsl .i8 1 (.sym n) ca f, .arr .u8 32 a] (.bool (.sym true)) := by
  obtain ⟨bi, cm, un, cv, na, eq⟩ := A
  have hbi : bi = realBin := congrArg Ops.bin hA
  have hcm : cm = realCmp := congrArg Ops.cmp hA
  have hna : na = Int.toNat := congrArg Ops.nat hA
  have hcv : cv = fun k n => k.wrap n := congrArg Ops.cnv hA
  have heq : eq = realEqA := congrArg Ops.eqA hA
  clear hA
  have hn4 := hS.h.2.2
  have hn6 := hS.h.2.1
  refine ⟨?_⟩
  cbv
  refine ⟨⟨⟨0, Nat.zero_le _⟩, ?_⟩, fun i _ => ?_⟩
  · subst hI
    cbv
    refine ⟨fun _ _ => rfl, fun _ _ => rfl, ?_, rfl, trivial⟩
    show 0 = SC 0
    rw [hSC, adC_zero hS]
  · subst hI
    obtain ⟨i, hi⟩ := i
    cbv
    refine ⟨fun h => ?_, fun h => ?_⟩
    · cbv
      have hlti : i < n := by rw [hcm] at h; have hh := lssT h; simp only [Int.ofNat_eq_natCast] at hh; omega
      have qi : na (Int.ofNat i) = i := by rw [hna]; rfl
      have q4 : bi .add .i64 (Int.ofNat i) 1 = Int.ofNat (i + 1) := by rw [hbi, add_i64 (by simp only [Int.ofNat_eq_natCast]; omega)]; rfl
      have hfi := hf i hlti
      have hc := adC_range hS hf i hi
      have hst := adC_step (f := f) (N := num 32 a) hlti
      have e0 : cv .i64 (f (na (Int.ofNat i))) = f i := by rw [qi, hcv]; exact wrap_i64 (by omega)
      have hv : bi .add .i64 (SC i) (cv .i64 (f (na (Int.ofNat i)))) = adC n f (num 32 a) i + f i := by rw [e0, hSC, hbi, add_i64 (by omega)]
      refine ⟨(by constructor; (try dsimp only [SI.val, SO.val]); (try simp (disch := omega) only [hbi, hna, hcv, Int.ofNat_eq_natCast, add_i64, sub_i64, mul_i64, quo_i64, rem_i64, wrap_i64, wrap_u8, Int.toNat_natCast]); omega), ⟨by rw [qi]; omega⟩, fun g1 => ?_, fun g1 => ?_⟩
      · cbv
        have h256 : i < 256 := by rw [hcm] at g1; have hh := lssT g1; simp only [Int.ofNat_eq_natCast] at hh; omega
        have e1 : bi .quo .i64 (Int.ofNat i) 8 = ((i / 8 : Nat) : Int) := by rw [hbi]; exact quo_i64 ⟨by simp only [Int.ofNat_eq_natCast]; omega, by simp only [Int.ofNat_eq_natCast]; omega⟩ (by decide)
        have e2 : bi .rem .i64 (Int.ofNat i) 8 = ((i % 8 : Nat) : Int) := by rw [hbi]; exact rem_i64 (by simp only [Int.ofNat_eq_natCast]; omega)
        have e3 : na (bi .quo .i64 (Int.ofNat i) 8) = i / 8 := by rw [e1, hna]; exact Int.toNat_natCast _
        have e4 : cv .u64 (bi .rem .i64 (Int.ofNat i) 8) = ((i % 8 : Nat) : Int) := by rw [e2, hcv]; show IntKind.wrap .u64 _ = _; rw [wrap_u64]; omega
        refine ⟨⟨by rw [e1]; omega⟩, ⟨by rw [e3]; omega⟩, ⟨by rw [e4]; omega⟩, ?_⟩
        have hbit : bi .rem .i64 (cv .i64 (bi .shr .u8 (a (na (bi .quo .i64 (Int.ofNat i) 8))) (cv .u64 (bi .rem .i64 (Int.ofNat i) 8)))) 2 = num 32 a / 2 ^ i % 2 := by
          rw [e3, e2, hbi, hcv]
          exact bit_look (n := 32) ha h256
        have hx : bi .sub .i64 (bi .add .i64 (SC i) (cv .i64 (f (na (Int.ofNat i))))) (bi .rem .i64 (cv .i64 (bi .shr .u8 (a (na (bi .quo .i64 (Int.ofNat i) 8))) (cv .u64 (bi .rem .i64 (Int.ofNat i) 8)))) 2) = 2 * adC n f (num 32 a) (i + 1) := by
          rw [hv, hbit, hbi, sub_i64 (by omega)]
          exact hst
        have hc2 := adC_range hS hf (i + 1) (by omega)
        refine ⟨fun g2 => ?_, fun g2 => ?_⟩
        · cbv
          exfalso
          rw [hcm] at g2
          have hh : bi .rem .i64 (bi .sub .i64 (bi .add .i64 (SC i) (cv .i64 (f (na (Int.ofNat i))))) (bi .rem .i64 (cv .i64 (bi .shr .u8 (a (na (bi .quo .i64 (Int.ofNat i) 8))) (cv .u64 (bi .rem .i64 (Int.ofNat i) 8)))) 2)) 2 ≠ 0 := neqT g2
          rw [hx, hbi] at hh
          exact hh (rem_two _)
        · cbv
          refine ⟨⟨i + 1, by omega⟩, ?_, by show n - (i + 1) < n - i; omega⟩
          cbv
          refine ⟨fun _ _ => rfl, fun _ _ => rfl, ?_, q4, trivial⟩
          show bi .quo .i64 (bi .sub .i64 (bi .add .i64 (SC i) (cv .i64 (f (na (Int.ofNat i))))) (bi .rem .i64 (cv .i64 (bi .shr .u8 (a (na (bi .quo .i64 (Int.ofNat i) 8))) (cv .u64 (bi .rem .i64 (Int.ofNat i) 8)))) 2)) 2 = SC (i + 1)
          rw [hx, hbi, quo_two (by omega), hSC]
      · cbv
        have h256 : 256 ≤ i := by rw [hcm] at g1; have hh := lssF g1; simp only [Int.ofNat_eq_natCast] at hh; omega
        have hbit : 0 = num 32 a / 2 ^ i % 2 := (bit_past ha h256).symm
        have hx : bi .sub .i64 (bi .add .i64 (SC i) (cv .i64 (f (na (Int.ofNat i))))) (0) = 2 * adC n f (num 32 a) (i + 1) := by
          rw [hv, hbit, hbi, sub_i64 (by omega)]
          exact hst
        have hc2 := adC_range hS hf (i + 1) (by omega)
        refine ⟨fun g2 => ?_, fun g2 => ?_⟩
        · cbv
          exfalso
          rw [hcm] at g2
          have hh : bi .rem .i64 (bi .sub .i64 (bi .add .i64 (SC i) (cv .i64 (f (na (Int.ofNat i))))) (0)) 2 ≠ 0 := neqT g2
          rw [hx, hbi] at hh
          exact hh (rem_two _)
        · cbv
          refine ⟨⟨i + 1, by omega⟩, ?_, by show n - (i + 1) < n - i; omega⟩
          cbv
          refine ⟨fun _ _ => rfl, fun _ _ => rfl, ?_, q4, trivial⟩
          show bi .quo .i64 (bi .sub .i64 (bi .add .i64 (SC i) (cv .i64 (f (na (Int.ofNat i))))) (0)) 2 = SC (i + 1)
          rw [hx, hbi, quo_two (by omega), hSC]
    · cbv
      have heqi : i = n := by rw [hcm] at h; have hh := lssF h; simp only [Int.ofNat_eq_natCast] at hh; omega
      subst heqi
      have hend : SC i = 0 := by rw [hSC]; exact adC_end hS ha
      have g1 : cm .eql (SC i) 0 = true := by rw [hend, hcm]; rfl
      have g2 : cm .geq (Int.ofNat i) 256 = true := by rw [hcm]; exact decide_eq_true (by simp only [Int.ofNat_eq_natCast]; omega)
      show (match cm .eql (SC i) 0 with | true => cm .geq (Int.ofNat i) 256 | false => false) = true
      rw [g1]
      exact g2

theorem ok_adds (G : Nat → AV) : Sound Try.prog G 10 (addsP) := by
  refine sound_symx (n := 50) (rs := [.tmp 4]) (sc := sc_adds.1) mixed Try.func10 rfl rfl rfl rfl sc_adds.2 ?_
  intro vs cs r h
  unfold addsP at h
  split at h
  · rename_i n ca f a
    cases h
    exact ⟨by simp, fun hcs hwf => ⟨_, envOK tabOK ( .nil), rfl, walk_adds realOps rfl G n.val ca f a (isX8 (hwf _ (List.mem_cons_self ..))) (isB (hwf _ (by simp))) (hcs _ (by simp))  _ rfl _ rfl⟩⟩
  · cases h
end Go.Proofs.Ytfpeolihnaeolaa
