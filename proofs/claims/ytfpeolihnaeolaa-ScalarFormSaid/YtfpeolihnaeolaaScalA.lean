/-
  Package scalar: words, sums, differences.
-/
import Derived.Test.YtfpeolihnaeolaaBase
import Derived.Test.YtfpeolihnaeolaaScC
import Derived.Test.YtfpeolihnaeolaaScS
import Derived.Test.YtfpeolihnaeolaaSpB
namespace Go.Proofs.Ytfpeolihnaeolaa
open Go Go.Proofs Sx
set_option maxRecDepth 100000
set_option maxHeartbeats 4000000
set_option linter.unusedVariables false
set_option linter.unusedSimpArgs false

theorem ok_addS (G : Nat → AV) : Sound Try.prog G 14 (addC Bit01 adcS adcC) := ok_add64 Try.func14 rfl rfl rfl rfl G
theorem ok_subS (G : Nat → AV) : Sound Try.prog G 15 (addC Bit01 sbbS sbbC) := ok_sub64 Try.func15 rfl rfl rfl rfl G

def sc_wplus : { c : SC // strip (body Try.f12) = c } := ⟨_, by cbv⟩
theorem walk_wplus (A : Ops) (hA : A = realOps) (G : Nat → AV) (a : Nat → Int) (b : Nat → Int) (ha : Is5 a) (hb : Is5 b) (S : Int → Int → Int → Int) (hS : S = adcS) (C : Int → Int → Int → Int) (hC : C = adcC) (K : Int → Prop) (hK : K = Bit01) (P : (Nat → Int) → (Nat → Int) → Nat → Int) (hP : P = plusW)  :
    Walk (mkEnv A tab.1 G [(14, addC K S C)] []) sc_wplus.1 25 [.cell 4 37] [.arr .u64 5 a, .arr .u64 5 b] (.arr .u64 5 (P a b)) := by
  refine ⟨?_⟩
  cbv
  subst hA hK hS hC hP
  obtain ⟨p0, p1, p2, p3, p4⟩ := plus_each ha hb
  exact ⟨bit01_0, bit01_adc _ _ _, bit01_adc _ _ _, bit01_adc _ _ _, bit01_adc _ _ _, each5 p0 p1 p2 p3 p4⟩

theorem ok_wplus (G : Nat → AV) : Sound Try.prog G 12 (lim2C plusW) := by
  refine sound_each (n := 25) (rs := [.cell 4 37]) (sc := sc_wplus.1) mixed Try.func12 rfl rfl rfl rfl sc_wplus.2 ?_
  intro vs cs r h
  unfold lim2C at h
  split at h
  · rename_i a b
    cases h
    exact ⟨by simp, fun hcs hwf => ⟨_, envOK tabOK ((.cons (ok_addS G) .nil)), rfl, walk_wplus realOps rfl G a b (is5 (hwf _ (by simp))) (is5 (hwf _ (by simp))) _ rfl _ rfl _ rfl _ rfl ⟩⟩
  · cases h
def sc_wminus : { c : SC // strip (body Try.f13) = c } := ⟨_, by cbv⟩
theorem walk_wminus (A : Ops) (hA : A = realOps) (G : Nat → AV) (a : Nat → Int) (b : Nat → Int) (ha : Is5 a) (hb : Is5 b) (S : Int → Int → Int → Int) (hS : S = sbbS) (C : Int → Int → Int → Int) (hC : C = sbbC) (K : Int → Prop) (hK : K = Bit01) (M : (Nat → Int) → (Nat → Int) → Nat → Int) (hM : M = minusW) (B : (Nat → Int) → (Nat → Int) → Bool) (hB : B = ltW)  :
    Walk (mkEnv A tab.1 G [(15, addC K S C)] []) sc_wminus.1 28 [.cell 4 37, .tmp 5] [.arr .u64 5 a, .arr .u64 5 b] (.tup [.arr .u64 5 (M a b), .bool (.sym (B a b))]) := by
  refine ⟨?_⟩
  cbv
  subst hA hK hS hC hM hB
  obtain ⟨⟨p0, p1, p2, p3, p4⟩, pl⟩ := minus_each ha hb
  exact ⟨bit01_0, bit01_sbb _ _ _, bit01_sbb _ _ _, bit01_sbb _ _ _, bit01_sbb _ _ _, each5 p0 p1 p2 p3 p4, pl, trivial⟩

theorem ok_wminus (G : Nat → AV) : Sound Try.prog G 13 (lMinusC minusW ltW) := by
  refine sound_each (n := 28) (rs := [.cell 4 37, .tmp 5]) (sc := sc_wminus.1) mixed Try.func13 rfl rfl rfl rfl sc_wminus.2 ?_
  intro vs cs r h
  unfold lMinusC at h
  split at h
  · rename_i a b
    cases h
    exact ⟨by simp, fun hcs hwf => ⟨_, envOK tabOK ((.cons (ok_subS G) .nil)), rfl, walk_wminus realOps rfl G a b (is5 (hwf _ (by simp))) (is5 (hwf _ (by simp))) _ rfl _ rfl _ rfl _ rfl _ rfl ⟩⟩
  · cases h
def sc_wnumber : { c : SC // strip (body Try.f11) = c } := ⟨_, by cbv⟩
theorem walk_wnumber (A : Ops) (hA : A = realOps) (G : Nat → AV) (b : Nat → Int) (hb : IsBytes 32 b) (R : (Nat → Int) → Nat → Int) (hR : R = fun b => numW b 32) (Y) (hY : Y = numW b) (I : { i : Nat // i ≤ 32 } → St) (hI : I = fun i => slots 24 [(1, .own (.arr .u8 32 b)), (2, .own (.arr .u64 5 fun _ => 0)), (3, .own (.arr .u64 5 (Y i.1))), (5, .int .i64 (.sym (i.1 : Int)))]) :
    Walk (mkEnv A tab.1 G [] [(3, .inv { i : Nat // i ≤ 32 } I fun i => 32 - i.1)]) sc_wnumber.1 24 [.cell 2 37] [.arr .u8 32 b] (.arr .u64 5 (R b)) := by
  obtain ⟨bi, cm, un, cv, na, eq⟩ := A
  have hbi : bi = realBin := congrArg Ops.bin hA
  have hcm : cm = realCmp := congrArg Ops.cmp hA
  have hna : na = Int.toNat := congrArg Ops.nat hA
  have hcv : cv = fun k n => k.wrap n := congrArg Ops.cnv hA
  have heq : eq = realEqA := congrArg Ops.eqA hA
  clear hA
  refine ⟨?_⟩
  cbv
  refine ⟨⟨⟨0, by decide⟩, ?_⟩, fun i _ => ?_⟩
  · subst hI
    cbv
    refine ⟨fun _ _ => rfl, fun _ _ => rfl, fun j hj => ?_, rfl, trivial⟩
    rw [hY]
    exact (numW_zero b j).symm
  · subst hI
    cbv
    refine ⟨fun h => ?_, fun h => ?_⟩
    · cbv
      obtain ⟨i, hi⟩ := i
      have hlt : i < 32 := by
        rw [hcm] at h
        exact Int.ofNat_lt.1 (of_decide_eq_true h)
      have q1 : bi .quo .i64 (Int.ofNat i) 8 = ((i / 8 : Nat) : Int) := by rw [hbi]; exact quo_i64 ⟨by simp only [Int.ofNat_eq_natCast]; omega, by simp only [Int.ofNat_eq_natCast]; omega⟩ (by decide)
      have q2 : bi .mul .i64 (bi .rem .i64 (Int.ofNat i) 8) 8 = ((i % 8 * 8 : Nat) : Int) := by
        rw [hbi, rem_i64 (by simp only [Int.ofNat_eq_natCast]; omega), mul_i64 (by simp only [Int.ofNat_eq_natCast]; omega)]
        rfl
      have q3 : na (bi .quo .i64 (Int.ofNat i) 8) = i / 8 := by rw [q1, hna]; exact Int.toNat_natCast _
      have q4 : bi .add .i64 (Int.ofNat i) 1 = Int.ofNat (i + 1) := by rw [hbi, add_i64 (by simp only [Int.ofNat_eq_natCast]; omega)]; rfl
      have q5 : na (Int.ofNat i) = i := by rw [hna]; rfl
      have hbi' := hb i hlt
      refine ⟨⟨by show 0 ≤ bi .quo .i64 (Int.ofNat i) 8 ∧ bi .quo .i64 (Int.ofNat i) 8 < 5; rw [q1]; omega⟩, ⟨by show na (bi .quo .i64 (Int.ofNat i) 8) + 1 ≤ 5; rw [q3]; omega⟩, ⟨by simp only [Int.ofNat_eq_natCast]; omega⟩, ⟨by show na (Int.ofNat i) + 1 ≤ 32; rw [q5]; omega⟩, ⟨by show 0 ≤ bi .mul .i64 (bi .rem .i64 (Int.ofNat i) 8) 8; rw [q2]; omega⟩, ⟨by show 0 ≤ bi .quo .i64 (Int.ofNat i) 8 ∧ bi .quo .i64 (Int.ofNat i) 8 < 5; rw [q1]; omega⟩, ⟨by show na (bi .quo .i64 (Int.ofNat i) 8) + 1 ≤ 5; rw [q3]; omega⟩, ⟨i + 1, by omega⟩, ?_, ?_⟩
      · cbv
        refine ⟨fun _ _ => rfl, fun _ _ => rfl, fun j hj => ?_, q4, trivial⟩
        show (if j = na (bi .quo .i64 (Int.ofNat i) 8) then bi .or .u64 (Y i (na (bi .quo .i64 (Int.ofNat i) 8))) (bi .shl .u64 (cv .u64 (b (na (Int.ofNat i)))) (bi .mul .i64 (bi .rem .i64 (Int.ofNat i) 8) 8)) else Y i j) = Y (i + 1) j
        rw [q5, q3, q2, hcv, hbi, hY]
        have e : IntKind.wrap .u64 (b i) = b i := by rw [wrap_u64]; omega
        have h1 := numW_step hb hlt j hj
        dsimp only
        rw [e]
        exact h1
      · show 32 - (i + 1) < 32 - i
        omega

    · cbv
      obtain ⟨i, hi⟩ := i
      have hlt : i = 32 := by
        rw [hcm] at h
        have h3 : ¬ (i < 32) := fun hh => of_decide_eq_false h (Int.ofNat_lt.2 hh)
        omega
      subst hlt
      rw [hR, hY]
      exact fun _ _ => rfl


theorem ok_wnumber (G : Nat → AV) : Sound Try.prog G 11 (loadC (fun b => numW b 32)) := by
  refine sound_each (n := 24) (rs := [.cell 2 37]) (sc := sc_wnumber.1) mixed Try.func11 rfl rfl rfl rfl sc_wnumber.2 ?_
  intro vs cs r h
  unfold loadC at h
  split at h
  · rename_i b
    cases h
    exact ⟨by simp, fun hcs hwf => ⟨_, envOK tabOK ( .nil), rfl, walk_wnumber realOps rfl G b (isB (hwf _ (by simp))) _ rfl _ rfl _ rfl⟩⟩
  · cases h
end Go.Proofs.Ytfpeolihnaeolaa
