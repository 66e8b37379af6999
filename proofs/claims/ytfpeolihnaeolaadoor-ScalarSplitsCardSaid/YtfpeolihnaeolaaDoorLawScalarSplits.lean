/-
  ScalarSplits holds for every input: the walk.
-/
import Derived.Test.YtfpeolihnaeolaaDoorScalL
import Derived.Test.YtfpeolihnaeolaaDoorScG
import Derived.Test.YtfpeolihnaeolaaDoorSxR
namespace Go.Proofs.YtfpeolihnaeolaaDoor
open Go Go.Proofs Sx
set_option maxRecDepth 100000
set_option maxHeartbeats 4000000
set_option linter.unusedVariables false
set_option linter.unusedSimpArgs false

def gl_ssplits : GL := [v_mult]
abbrev G_ssplits : Nat → AV := lookGL gl_ssplits
def sc_law_ssplits : { c : SC // strip (body Tryd.f7) = c } := ⟨_, by cbv⟩
theorem walk_law_ssplits (A : Ops) (hA : A = realOps) (a : Nat → Int)  (AD : (Nat → Int) → (Nat → Int) → Nat → Int) (hAD : AD = fun f g => sb (se f + se g)) (MA : (Nat → Int) → (Nat → Int) → (Nat → Int) → Nat → Int) (hMA : MA = fun a b c => sb (se a * se b + se c)) (NU : Int → Nat → Int) (hNU : NU = fun x => sb (zi lN x)) (RD : (Nat → Int) → Nat → Int) (hRD : RD = fun f => sb (sn 64 f)) (DB : Nat → Nat → Int) (hDB : DB = dblS) (I : { i : Nat // i ≤ 32 } → St) (hI : I = fun i => slots 41 [(1, .own (.arr .u8 64 a)), (3, .own (.arr .u8 32 fun k => if k < i.1 then a k else 0)), (4, .own (.arr .u8 32 fun k => if k < i.1 then a (32 + k) else 0)), (5, .int .i64 (.sym (i.1 : Int)))]) (I2 : { i : Nat // i ≤ 256 } → St) (hI2 : I2 = fun i => slots 41 [(1, .own (.arr .u8 64 a)), (3, .own (.arr .u8 32 fun k => if k < 32 then a k else 0)), (4, .own (.arr .u8 32 fun k => if k < 32 then a (32 + k) else 0)), (6, .own (.arr .u8 32 (DB i.1))), (7, .int .i64 (.sym (i.1 : Int)))]) :
    Walk (mkEnv A tab.1 G_ssplits [(28, bin32C AD), (26, tri32C MA), (24, numberC NU), (16, un64C RD)] [(4, .inv { i : Nat // i ≤ 32 } I fun i => 32 - i.1), (10, .inv { i : Nat // i ≤ 256 } I2 fun i => 256 - i.1)]) sc_law_ssplits.1 41 [.tmp 2] [.arr .u8 64 a] (.bool (.sym true)) := by
  obtain ⟨bi, cm, un, cv, na, eq⟩ := A
  have hbi : bi = realBin := congrArg Ops.bin hA
  have hcm : cm = realCmp := congrArg Ops.cmp hA
  have hna : na = Int.toNat := congrArg Ops.nat hA
  have hcv : cv = fun k n => k.wrap n := congrArg Ops.cnv hA
  have heq : eq = realEqA := congrArg Ops.eqA hA
  clear hA
  have w4 : ∀ k, k < 32 → NU 1 k = DB 0 k := by
    intro k hk
    rw [hNU, hDB]
    rfl
  have w5 : eq 32 (DB 256) (NU 0) = false := by rw [heq, hDB, hNU]; show realEqA 32 _ (sb (zi lN 0)) = _; rw [zi_zero]; exact dblS_last
  have w6 : eq 32 (RD a) (MA (fun k => if k < 32 then a (32 + k) else 0) (DB 256) (fun k => if k < 32 then a k else 0)) = true := by
    rw [heq, hRD, hMA, hDB]
    refine sb_same ?_
    rw [split_64]
    unfold se
    rw [num_congr 32 (f := fun k => if k < 32 then a (32 + k) else 0) (g := fun k => a (32 + k)) (fun k hk => if_pos hk), num_congr 32 (f := fun k => if k < 32 then a k else 0) (g := a) (fun k hk => if_pos hk)]
  refine ⟨?_⟩
  cbv
  refine ⟨⟨⟨0, by decide⟩, ?_⟩, fun i _ => ?_⟩
  · subst hI
    cbv
    exact ⟨fun _ _ => rfl, fun k _ => (if_neg (Nat.not_lt_zero k)).symm, fun k _ => (if_neg (Nat.not_lt_zero k)).symm, rfl, trivial⟩
  · subst hI
    obtain ⟨i, hi⟩ := i
    cbv
    refine ⟨fun h => ?_, fun h => ?_⟩
    · cbv
      have hlti : i < 32 := by rw [hcm] at h; have hh := lssT h; simp only [Int.ofNat_eq_natCast] at hh; omega
      have qi : na (Int.ofNat i) = i := by rw [hna]; rfl
      have q4 : bi .add .i64 (Int.ofNat i) 1 = Int.ofNat (i + 1) := by rw [hbi, add_i64 (by simp only [Int.ofNat_eq_natCast]; omega)]; rfl
      have e0 : bi .add .i64 32 (Int.ofNat i) = Int.ofNat (32 + i) := by rw [hbi, add_i64 (by simp only [Int.ofNat_eq_natCast]; omega)]; rfl
      have e3 : na (bi .add .i64 32 (Int.ofNat i)) = 32 + i := by rw [e0, hna]; rfl
      have hup : ∀ (f : Nat → Int) (k : Nat), (if k = na (Int.ofNat i) then f i else if k < i then f k else 0) = if k < i + 1 then f k else 0 := by
        intro f k
        rw [qi]
        by_cases h1 : k = i
        · subst h1; rw [if_pos rfl, if_pos (by omega)]
        · rw [if_neg h1]
          by_cases h2 : k < i
          · rw [if_pos h2, if_pos (by omega)]
          · rw [if_neg h2, if_neg (by omega)]
      refine ⟨(by constructor; (try dsimp only [SI.val, SO.val]); (try simp (disch := omega) only [hbi, hna, hcv, Int.ofNat_eq_natCast, add_i64, sub_i64, mul_i64, quo_i64, rem_i64, wrap_i64, wrap_u8, Int.toNat_natCast]); omega), ⟨by rw [qi]; omega⟩, (by constructor; (try dsimp only [SI.val, SO.val]); (try simp (disch := omega) only [hbi, hna, hcv, Int.ofNat_eq_natCast, add_i64, sub_i64, mul_i64, quo_i64, rem_i64, wrap_i64, wrap_u8, Int.toNat_natCast]); omega), ⟨by rw [qi]; omega⟩, ⟨by rw [e0]; simp only [Int.ofNat_eq_natCast]; omega⟩, ⟨by rw [e3]; omega⟩, (by constructor; (try dsimp only [SI.val, SO.val]); (try simp (disch := omega) only [hbi, hna, hcv, Int.ofNat_eq_natCast, add_i64, sub_i64, mul_i64, quo_i64, rem_i64, wrap_i64, wrap_u8, Int.toNat_natCast]); omega), ⟨by rw [qi]; omega⟩, ⟨i + 1, by omega⟩, ?_, by show 32 - (i + 1) < 32 - i; omega⟩
      cbv
      refine ⟨fun _ _ => rfl, fun k _ => ?_, fun k _ => ?_, q4, trivial⟩
      · show (if k = na (Int.ofNat i) then a (na (Int.ofNat i)) else if k < i then a k else 0) = if k < i + 1 then a k else 0
        have := hup a k
        rw [qi] at this ⊢
        exact this
      · show (if k = na (Int.ofNat i) then a (na (bi .add .i64 32 (Int.ofNat i))) else if k < i then a (32 + k) else 0) = if k < i + 1 then a (32 + k) else 0
        have := hup (fun k => a (32 + k)) k
        rw [e3]
        exact this
    · cbv
      have heqi : i = 32 := by rw [hcm] at h; have hh := lssF h; simp only [Int.ofNat_eq_natCast] at hh; omega
      subst heqi
      refine ⟨⟨⟨0, by decide⟩, ?_⟩, fun i _ => ?_⟩
      · subst hI2
        cbv
        exact ⟨fun _ _ => rfl, fun _ _ => rfl, fun _ _ => rfl, w4, rfl, trivial⟩
      · subst hI2
        obtain ⟨i, hi⟩ := i
        cbv
        refine ⟨fun h => ?_, fun h => ?_⟩
        · cbv
          have hlti : i < 256 := by rw [hcm] at h; have hh := lssT h; simp only [Int.ofNat_eq_natCast] at hh; omega
          have q4 : bi .add .i64 (Int.ofNat i) 1 = Int.ofNat (i + 1) := by rw [hbi, add_i64 (by simp only [Int.ofNat_eq_natCast]; omega)]; rfl
          refine ⟨⟨i + 1, by omega⟩, ?_, by show 256 - (i + 1) < 256 - i; omega⟩
          cbv
          refine ⟨fun _ _ => rfl, fun _ _ => rfl, fun _ _ => rfl, fun k _ => ?_, q4, trivial⟩
          show AD (DB i) (DB i) k = DB (i + 1) k
          rw [hAD, hDB]
          exact congrFun (dblS_step i) k
        · cbv
          have heqi : i = 256 := by rw [hcm] at h; have hh := lssF h; simp only [Int.ofNat_eq_natCast] at hh; omega
          subst heqi
          refine ⟨fun h2 => ?_, fun _ => ?_⟩
          · exfalso
            have h3 : eq 32 (DB 256) (NU 0) = true := h2
            rw [w5] at h3
            cases h3
          · cbv
            exact w6

theorem ok_law_ssplits : Sound Tryd.prog G_ssplits 7 (bool64C fun _ => true) := by
  refine sound_each (n := 41) (rs := [.tmp 2]) (sc := sc_law_ssplits.1) mixed Tryd.func7 rfl rfl rfl rfl sc_law_ssplits.2 ?_
  intro vs cs r h
  unfold bool64C at h
  split at h
  · rename_i a
    cases h
    exact ⟨by simp, fun hcs hwf => ⟨_, envOK tabOK ((.cons (ok_addS32.sub (sub_of (by decide))) (.cons (ok_muladd.sub (sub_of (by decide))) (.cons (ok_numberS G_ssplits) (.cons (ok_reduceS.sub (sub_of (by decide))) .nil))))), rfl, walk_law_ssplits realOps rfl a  _ rfl _ rfl _ rfl _ rfl _ rfl _ rfl _ rfl⟩⟩
  · cases h
end Go.Proofs.YtfpeolihnaeolaaDoor
