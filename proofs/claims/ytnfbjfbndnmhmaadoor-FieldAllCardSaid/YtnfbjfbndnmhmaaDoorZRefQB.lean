/-
  The document's numbers modulo p: the same, zero, taking away.
-/
import Derived.Test.YtnfbjfbndnmhmaaDoorZRefQA
namespace Go.Proofs.YtnfbjfbndnmhmaaDoor
open Go Go.Proofs Sx
set_option maxRecDepth 100000
set_option maxHeartbeats 4000000
set_option linter.unusedVariables false
set_option linter.unusedSimpArgs false

def sc_qsame : { c : SC // strip (body Tryd.f68) = c } := ⟨_, by cbv⟩
theorem walk_qsame (A : Ops) (hA : A = realOps) (G : Nat → AV) (a : Nat → Int) (b : Nat → Int)  (R : (Nat → Int) → (Nat → Int) → Bool) (hR : R = realEqA 16) (I : UpTo a b → St) (hI : I = fun i => slots 17 [(2, .own (.arr .i64 16 a)), (3, .own (.arr .i64 16 b)), (5, .int .i64 (.sym (i.1 : Int)))]) :
    Walk (mkEnv A tab.1 G [] [(2, .inv (UpTo a b) I fun i => 16 - i.1)]) sc_qsame.1 17 [.tmp 4] [.arr .i64 16 a, .arr .i64 16 b] (.bool (.sym (R a b))) := by
  obtain ⟨bi, cm, un, cv, na, eq⟩ := A
  have hbi : bi = realBin := congrArg Ops.bin hA
  have hcm : cm = realCmp := congrArg Ops.cmp hA
  have hna : na = Int.toNat := congrArg Ops.nat hA
  have hcv : cv = fun k n => k.wrap n := congrArg Ops.cnv hA
  have heq : eq = realEqA := congrArg Ops.eqA hA
  clear hA
  refine ⟨?_⟩
  cbv
  refine ⟨⟨⟨0, by decide, fun j h1 => absurd h1 (Nat.not_lt_zero j)⟩, ?_⟩, fun i _ => ?_⟩
  · subst hI
    cbv
    exact ⟨fun _ _ => rfl, fun _ _ => rfl, rfl, trivial⟩
  · subst hI
    cbv
    obtain ⟨i, hi, h3⟩ := i
    refine ⟨fun h => ?_, fun h => ?_⟩
    · cbv
      rw [hcm] at h
      have hlt := ltT h
      simp only [Int.ofNat_eq_natCast] at hlt
      have hlt2 : i < 16 := by omega
      have qi : na (Int.ofNat i) = i := by rw [hna]; rfl
      have qc : na (i : Int) = i := qi
      have q4 : bi .add .i64 (Int.ofNat i) 1 = Int.ofNat (i + 1) := by rw [hbi, add_i64 (by simp only [Int.ofNat_eq_natCast]; omega)]; rfl
      refine ⟨(by constructor; (try dsimp only [SI.val, SO.val]); (try simp (disch := omega) only [hbi, hna, hcv, Int.ofNat_eq_natCast, add_i64, sub_i64, mul_i64, quo_i64, rem_i64, wrap_i64, wrap_u8, Int.toNat_natCast]); omega), (by constructor; (try dsimp only [SI.val, SO.val]); (try simp (disch := omega) only [hbi, hna, hcv, Int.ofNat_eq_natCast, add_i64, sub_i64, mul_i64, quo_i64, rem_i64, wrap_i64, wrap_u8, Int.toNat_natCast]); omega), (by constructor; (try dsimp only [SI.val, SO.val]); (try simp (disch := omega) only [hbi, hna, hcv, Int.ofNat_eq_natCast, add_i64, sub_i64, mul_i64, quo_i64, rem_i64, wrap_i64, wrap_u8, Int.toNat_natCast]); omega), (by constructor; (try dsimp only [SI.val, SO.val]); (try simp (disch := omega) only [hbi, hna, hcv, Int.ofNat_eq_natCast, add_i64, sub_i64, mul_i64, quo_i64, rem_i64, wrap_i64, wrap_u8, Int.toNat_natCast]); omega), fun hn => ?_, fun he => ?_⟩
      · cbv
        have hne : a i ≠ b i := by rw [hcm] at hn; have := neT hn; dsimp only [SI.val, SO.val] at this; (first | rw [qc] at this | rw [qi] at this); exact this
        rw [hR]
        exact (same_no hlt2 hne).symm
      · cbv
        have hq : a i = b i := by rw [hcm] at he; have := neF he; dsimp only [SI.val, SO.val] at this; (first | rw [qc] at this | rw [qi] at this); exact this
        refine ⟨⟨i + 1, by omega, fun j hj => ?_⟩, ?_, by show 16 - (i + 1) < 16 - i; omega⟩
        · by_cases hji : j = i
          · subst hji; exact hq
          · exact h3 j (by omega)
        · cbv
          exact ⟨fun _ _ => rfl, fun _ _ => rfl, q4, trivial⟩
    · cbv
      have hN : i = 16 := by
        rw [hcm] at h
        have := ltF h
        simp only [Int.ofNat_eq_natCast] at this
        omega
      subst hN
      rw [hR]
      exact (same_yes h3).symm

theorem ok_qsame (G : Nat → AV) : Sound Tryd.prog G 68 (qsameC (realEqA 16)) := by
  refine sound_each (n := 17) (rs := [.tmp 4]) (sc := sc_qsame.1) mixed Tryd.func68 rfl rfl rfl rfl sc_qsame.2 ?_
  intro vs cs r h
  unfold qsameC at h
  split at h
  · rename_i a b
    cases h
    exact ⟨by simp, fun hcs hwf => ⟨_, envOK tabOK ( .nil), rfl, walk_qsame realOps rfl G a b  _ rfl _ rfl⟩⟩
  · cases h
def sc_qzero : { c : SC // strip (body Tryd.f58) = c } := ⟨_, by cbv⟩
theorem walk_qzero (A : Ops) (hA : A = realOps) (G : Nat → AV) (a : Nat → Int) (ha : Num16 a) (R : (Nat → Int) → Bool) (hR : R = zero16) (I : UpTo a (fun _ => 0) → St) (hI : I = fun i => slots 12 [(1, .own (.arr .i64 16 a)), (3, .int .i64 (.sym (i.1 : Int)))]) :
    Walk (mkEnv A tab.1 G [] [(2, .inv (UpTo a (fun _ => 0)) I fun i => 16 - i.1)]) sc_qzero.1 12 [.tmp 2] [.arr .i64 16 a] (.bool (.sym (R a))) := by
  obtain ⟨bi, cm, un, cv, na, eq⟩ := A
  have hbi : bi = realBin := congrArg Ops.bin hA
  have hcm : cm = realCmp := congrArg Ops.cmp hA
  have hna : na = Int.toNat := congrArg Ops.nat hA
  have hcv : cv = fun k n => k.wrap n := congrArg Ops.cnv hA
  have heq : eq = realEqA := congrArg Ops.eqA hA
  clear hA
  refine ⟨?_⟩
  cbv
  refine ⟨⟨⟨0, by decide, fun j h1 => absurd h1 (Nat.not_lt_zero j)⟩, ?_⟩, fun i _ => ?_⟩
  · subst hI
    cbv
    exact ⟨fun _ _ => rfl, rfl, trivial⟩
  · subst hI
    cbv
    obtain ⟨i, hi, h3⟩ := i
    refine ⟨fun h => ?_, fun h => ?_⟩
    · cbv
      rw [hcm] at h
      have hlt := ltT h
      simp only [Int.ofNat_eq_natCast] at hlt
      have hlt2 : i < 16 := by omega
      have qi : na (Int.ofNat i) = i := by rw [hna]; rfl
      have qc : na (i : Int) = i := qi
      have q4 : bi .add .i64 (Int.ofNat i) 1 = Int.ofNat (i + 1) := by rw [hbi, add_i64 (by simp only [Int.ofNat_eq_natCast]; omega)]; rfl
      refine ⟨(by constructor; (try dsimp only [SI.val, SO.val]); (try simp (disch := omega) only [hbi, hna, hcv, Int.ofNat_eq_natCast, add_i64, sub_i64, mul_i64, quo_i64, rem_i64, wrap_i64, wrap_u8, Int.toNat_natCast]); omega), (by constructor; (try dsimp only [SI.val, SO.val]); (try simp (disch := omega) only [hbi, hna, hcv, Int.ofNat_eq_natCast, add_i64, sub_i64, mul_i64, quo_i64, rem_i64, wrap_i64, wrap_u8, Int.toNat_natCast]); omega), fun hn => ?_, fun he => ?_⟩
      · cbv
        have hne : a i ≠ 0 := by rw [hcm] at hn; have := neT hn; dsimp only [SI.val, SO.val] at this; (first | rw [qc] at this | rw [qi] at this); exact this
        rw [hR]
        exact (zero_no ha hlt2 hne).symm
      · cbv
        have hq : a i = 0 := by rw [hcm] at he; have := neF he; dsimp only [SI.val, SO.val] at this; (first | rw [qc] at this | rw [qi] at this); exact this
        refine ⟨⟨i + 1, by omega, fun j hj => ?_⟩, ?_, by show 16 - (i + 1) < 16 - i; omega⟩
        · by_cases hji : j = i
          · subst hji; exact hq
          · exact h3 j (by omega)
        · cbv
          exact ⟨fun _ _ => rfl, q4, trivial⟩
    · cbv
      have hN : i = 16 := by
        rw [hcm] at h
        have := ltF h
        simp only [Int.ofNat_eq_natCast] at this
        omega
      subst hN
      rw [hR]
      exact (zero_yes h3).symm

theorem ok_qzero (G : Nat → AV) : Sound Tryd.prog G 58 (qzeroC zero16) := by
  refine sound_each (n := 12) (rs := [.tmp 2]) (sc := sc_qzero.1) mixed Tryd.func58 rfl rfl rfl rfl sc_qzero.2 ?_
  intro vs cs r h
  unfold qzeroC at h
  split at h
  · rename_i a
    cases h
    exact ⟨by simp, fun hcs hwf => ⟨_, envOK tabOK ( .nil), rfl, walk_qzero realOps rfl G a ((hcs _ (by simp) : Num16 a)) _ rfl _ rfl⟩⟩
  · cases h
def sc_qless : { c : SC // strip (body Tryd.f72) = c } := ⟨_, by cbv⟩
theorem walk_qless (A : Ops) (hA : A = realOps) (G : Nat → AV) (a : Nat → Int) (b : Nat → Int) (ha : Num16 a) (hb : Num16 b) (R : (Nat → Int) → (Nat → Int) → Nat → Int) (hR : R = fun a b => D16 (V16 a - V16 b)) (CA : Nat → Int) (hCA : CA = borB b16 a b) (FA : Nat → Nat → Int) (hFA : FA = fun i j => if j < i then D16 (V16 a - V16 b) j else 0) (I : { i : Nat // i ≤ 16 } → St) (hI : I = fun i => slots 30 [(2, .own (.arr .i64 16 a)), (3, .own (.arr .i64 16 b)), (4, .own (.arr .i64 16 fun _ => 0)), (5, .own (.arr .i64 16 (FA i.1))), (6, .int .i64 (.sym (CA i.1))), (7, .int .i64 (.sym (i.1 : Int)))]) :
    Walk (mkEnv A tab.1 G [] [(4, .inv { i : Nat // i ≤ 16 } I fun i => 16 - i.1)]) sc_qless.1 30 [.cell 4 46] [.arr .i64 16 a, .arr .i64 16 b] (.arr .i64 16 (R a b)) := by
  obtain ⟨bi, cm, un, cv, na, eq⟩ := A
  have hbi : bi = realBin := congrArg Ops.bin hA
  have hcm : cm = realCmp := congrArg Ops.cmp hA
  have hna : na = Int.toNat := congrArg Ops.nat hA
  have hcv : cv = fun k n => k.wrap n := congrArg Ops.cnv hA
  have heq : eq = realEqA := congrArg Ops.eqA hA
  clear hA
  have st : ∀ i, i < 16 → (a i - b i - CA i < 0 → a i - b i - CA i + 65536 = D16 (V16 a - V16 b) i ∧ 1 = CA (i + 1)) ∧ (0 ≤ a i - b i - CA i → a i - b i - CA i = D16 (V16 a - V16 b) i ∧ 0 = CA (i + 1)) := by
    intro i hi
    rw [hCA]
    exact bor_step b16_pos ha.h hb.h hi rfl
  have cr : ∀ i, i ≤ 16 → 0 ≤ CA i ∧ CA i ≤ 1 := by
    intro i hi
    rw [hCA]
    exact borB_range b16_pos ha.h hb.h hi
  have c0 : 0 = CA 0 := by rw [hCA]; exact (borB_zero ..).symm
  clear hCA
  refine ⟨?_⟩
  cbv
  refine ⟨⟨⟨0, by decide⟩, ?_⟩, fun i _ => ?_⟩
  · subst hI
    cbv
    exact ⟨fun _ _ => rfl, fun _ _ => rfl, fun _ _ => rfl, (fun k _ => by rw [hFA]; exact (if_neg (Nat.not_lt_zero k)).symm), c0, rfl, trivial⟩
  · subst hI
    cbv
    obtain ⟨i, hi⟩ := i
    refine ⟨fun h => ?_, fun h => ?_⟩
    · cbv
      rw [hcm] at h
      have hlt := ltT h
      simp only [Int.ofNat_eq_natCast] at hlt
      have hlt2 : i < 16 := by omega
      have qi : na (Int.ofNat i) = i := by rw [hna]; rfl
      have q4 : bi .add .i64 (Int.ofNat i) 1 = Int.ofNat (i + 1) := by rw [hbi, add_i64 (by simp only [Int.ofNat_eq_natCast]; omega)]; rfl
      have r1 := ha.h i hlt2
      have r2 := hb.h i hlt2
      simp only [b16] at r1 r2
      have r3 := cr i (by omega)
      have s := st i hlt2
      have w : bi .sub .i64 (a i) (b i) = a i - b i := by rw [hbi]; exact sub_i64 (by omega)
      have vx : bi .sub .i64 (bi .sub .i64 (a (na (Int.ofNat i))) (b (na (Int.ofNat i)))) (CA i) = a i - b i - CA i := by rw [qi, w, hbi, sub_i64 (by omega)]
      refine ⟨(by constructor; (try dsimp only [SI.val, SO.val]); (try simp (disch := omega) only [hbi, hna, hcv, Int.ofNat_eq_natCast, add_i64, sub_i64, mul_i64, quo_i64, rem_i64, wrap_i64, wrap_u8, Int.toNat_natCast]); omega), (by constructor; (try dsimp only [SI.val, SO.val]); (try simp (disch := omega) only [hbi, hna, hcv, Int.ofNat_eq_natCast, add_i64, sub_i64, mul_i64, quo_i64, rem_i64, wrap_i64, wrap_u8, Int.toNat_natCast]); omega), (by constructor; (try dsimp only [SI.val, SO.val]); (try simp (disch := omega) only [hbi, hna, hcv, Int.ofNat_eq_natCast, add_i64, sub_i64, mul_i64, quo_i64, rem_i64, wrap_i64, wrap_u8, Int.toNat_natCast]); omega), (by constructor; (try dsimp only [SI.val, SO.val]); (try simp (disch := omega) only [hbi, hna, hcv, Int.ofNat_eq_natCast, add_i64, sub_i64, mul_i64, quo_i64, rem_i64, wrap_i64, wrap_u8, Int.toNat_natCast]); omega), fun h2 => ?_, fun h2 => ?_⟩
      · have hx : a i - b i - CA i < 0 := by rw [hcm] at h2; have := ltT h2; dsimp only [SI.val, SO.val] at this; rw [← vx]; exact this
        have s1 := s.1 hx
        have v : bi .add .i64 (bi .sub .i64 (bi .sub .i64 (a (na (Int.ofNat i))) (b (na (Int.ofNat i)))) (CA i)) 65536 = D16 (V16 a - V16 b) i := by rw [vx, hbi, add_i64 (by omega)]; exact s1.1
        cbv
        refine ⟨(by constructor; (try dsimp only [SI.val, SO.val]); (try simp (disch := omega) only [hbi, hna, hcv, Int.ofNat_eq_natCast, add_i64, sub_i64, mul_i64, quo_i64, rem_i64, wrap_i64, wrap_u8, Int.toNat_natCast]); omega), (by constructor; (try dsimp only [SI.val, SO.val]); (try simp (disch := omega) only [hbi, hna, hcv, Int.ofNat_eq_natCast, add_i64, sub_i64, mul_i64, quo_i64, rem_i64, wrap_i64, wrap_u8, Int.toNat_natCast]); omega), ⟨i + 1, by omega⟩, ?_, by show 16 - (i + 1) < 16 - i; omega⟩
        cbv
        refine ⟨fun _ _ => rfl, fun _ _ => rfl, fun _ _ => rfl, fun k _ => ?_, s1.2, q4, trivial⟩
        show (if k = na (Int.ofNat i) then bi .add .i64 (bi .sub .i64 (bi .sub .i64 (a (na (Int.ofNat i))) (b (na (Int.ofNat i)))) (CA i)) 65536 else FA i k) = FA (i + 1) k
        rw [show bi .add .i64 (bi .sub .i64 (bi .sub .i64 (a (na (Int.ofNat i))) (b (na (Int.ofNat i)))) (CA i)) 65536 = D16 (V16 a - V16 b) i from v, qi, hFA]
        exact fill_one (D16 (V16 a - V16 b)) (fun _ => 0) i k
      · have hx : 0 ≤ a i - b i - CA i := by rw [hcm] at h2; have := ltF h2; dsimp only [SI.val, SO.val] at this; rw [← vx]; exact this
        have s2 := s.2 hx
        cbv
        refine ⟨(by constructor; (try dsimp only [SI.val, SO.val]); (try simp (disch := omega) only [hbi, hna, hcv, Int.ofNat_eq_natCast, add_i64, sub_i64, mul_i64, quo_i64, rem_i64, wrap_i64, wrap_u8, Int.toNat_natCast]); omega), (by constructor; (try dsimp only [SI.val, SO.val]); (try simp (disch := omega) only [hbi, hna, hcv, Int.ofNat_eq_natCast, add_i64, sub_i64, mul_i64, quo_i64, rem_i64, wrap_i64, wrap_u8, Int.toNat_natCast]); omega), ⟨i + 1, by omega⟩, ?_, by show 16 - (i + 1) < 16 - i; omega⟩
        cbv
        refine ⟨fun _ _ => rfl, fun _ _ => rfl, fun _ _ => rfl, fun k _ => ?_, s2.2, q4, trivial⟩
        show (if k = na (Int.ofNat i) then bi .sub .i64 (bi .sub .i64 (a (na (Int.ofNat i))) (b (na (Int.ofNat i)))) (CA i) else FA i k) = FA (i + 1) k
        rw [show bi .sub .i64 (bi .sub .i64 (a (na (Int.ofNat i))) (b (na (Int.ofNat i)))) (CA i) = D16 (V16 a - V16 b) i from vx.trans s2.1, qi, hFA]
        exact fill_one (D16 (V16 a - V16 b)) (fun _ => 0) i k

    · cbv
      have hN : i = 16 := by
        rw [hcm] at h
        have := ltF h
        simp only [Int.ofNat_eq_natCast] at this
        omega
      subst hN
      intro k hk
      rw [hR, hFA]
      exact if_pos hk

theorem ok_qless (G : Nat → AV) : Sound Tryd.prog G 72 (qlessC (fun a b => D16 (V16 a - V16 b))) := by
  refine sound_each (n := 30) (rs := [.cell 4 46]) (sc := sc_qless.1) mixed Tryd.func72 rfl rfl rfl rfl sc_qless.2 ?_
  intro vs cs r h
  unfold qlessC at h
  split at h
  · rename_i a b
    cases h
    exact ⟨by simp, fun hcs hwf => ⟨_, envOK tabOK ( .nil), rfl, walk_qless realOps rfl G a b ((hcs _ (by simp) : Num16 a)) ((hcs _ (by simp) : Num16 b)) _ rfl _ rfl _ rfl _ rfl⟩⟩
  · cases h
end Go.Proofs.YtnfbjfbndnmhmaaDoor
