/-
  ScalarLinear holds for lists of a mild length: the walk.
-/
import Derived.Test.YtfpeolihnaeolaaDoorZValA
import Derived.Test.YtfpeolihnaeolaaDoorZScalL
import Derived.Test.YtfpeolihnaeolaaDoorZMA
namespace Go.Proofs.YtfpeolihnaeolaaDoor
open Go Go.Proofs Sx
set_option maxRecDepth 100000
set_option maxHeartbeats 4000000
set_option linter.unusedVariables false
set_option linter.unusedSimpArgs false

def gl_slinear : GL := [v_mult]
abbrev G_slinear : Nat → AV := lookGL gl_slinear
def sc_law_slinear : { c : SC // strip (body Tryd.f12) = c } := ⟨_, by cbv⟩
theorem walk_law_slinear (A : Ops) (hA : A = realOps) (la : Nat) (ca : SO) (f : Nat → Int) (lb : Nat) (cb : SO) (g : Nat → Int) (hsa : Mild la) (hsb : Mild lb) (VA : Nat → (Nat → Int) → Nat → Int) (hVA : VA = valA) (NU : Int → Nat → Int) (hNUx : NU = fun x => sb (zi lN x)) (AD : (Nat → Int) → (Nat → Int) → Nat → Int) (hAD : AD = fun f g => sb (se f + se g)) (MA : (Nat → Int) → (Nat → Int) → (Nat → Int) → Nat → Int) (hMA : MA = fun a b c => sb (se a * se b + se c)) (VE : Nat → Int) (hVE : VE = valErr 2) (DB : Nat → Nat → Int) (hDB : DB = dblS) (I : { i : Nat // i ≤ la } → St) (hI : I = fun i => slots 78 [(0, .xsl .i8 1 (.sym la) ca f), (6, .own (.arr .u8 32 (VA ((Classical.choice seal_add).1 la lb) (fun j => joinF la (fun j => f (0 + j)) (fun j => g (0 + j)) (0 + j))))), (7, .int .i64 (.sym (VE ((Classical.choice seal_add).1 la lb)))), (8, .own (.arr .u8 32 (VA la fun j => f (0 + j)))), (9, .int .i64 (.sym (VE la))), (10, .own (.arr .u8 32 (VA lb fun j => g (0 + j)))), (11, .int .i64 (.sym (VE lb))), (12, .own (.arr .u8 32 (DB i.1))), (13, .int .i64 (.sym (i.1 : Int)))]) :
    Walk (mkEnv A tab.1 G_slinear [(15, valueC .i64 VA VE), (24, numberC NU), (28, bin32C AD), (26, tri32C MA)] [(11, .inv { i : Nat // i ≤ la } I fun i => la - i.1)]) sc_law_slinear.1 78 [.tmp 4] [.xsl .i8 1 (.sym la) ca f, .xsl .i8 1 (.sym lb) cb g] (.bool (.sym true)) := by
  obtain ⟨bi, cm, un, cv, na, eq⟩ := A
  have hbi : bi = realBin := congrArg Ops.bin hA
  have hcm : cm = realCmp := congrArg Ops.cmp hA
  have hna : na = Int.toNat := congrArg Ops.nat hA
  have hcv : cv = fun k n => k.wrap n := congrArg Ops.cnv hA
  have heq : eq = realEqA := congrArg Ops.eqA hA
  clear hA
  have hma := hsa.h
  have hmb := hsb.h
  obtain ⟨N, hN⟩ : ∃ N, N = ((Classical.choice seal_add).1 la lb) := ⟨_, rfl⟩
  have hN2 : N = la + lb := hN.trans (choice_add la lb)
  have hNU : NU 0 = fun _ => 0 := by rw [hNUx]; exact sb_zero_fn
  have big : ¬ N ≤ 300 → cm .eql (VE N) 2 = true ∧ eq 32 (VA N (fun j => joinF la (fun j => f (0 + j)) (fun j => g (0 + j)) (0 + j))) (NU 0) = true := by
    intro h
    rw [hVE, hVA, hcm, heq, valErr_no h, valA_no h, hNU]
    exact ⟨rfl, eqA_self _ _⟩
  have small : N ≤ 300 → cm .eql (VE N) 0 = true ∧ cm .eql (VE la) 0 = true ∧ cm .eql (VE lb) 0 = true ∧ eq 32 (DB la) (NU 0) = false ∧ eq 32 (VA N (fun j => joinF la (fun j => f (0 + j)) (fun j => g (0 + j)) (0 + j))) (MA (DB la) (VA lb fun j => g (0 + j)) (VA la fun j => f (0 + j))) = true := by
    intro h
    rw [hN2] at h
    have e0 : sb (zi lN 0) = sb (0 : Zl) := by rw [zi_zero]
    rw [hVE, hVA, hcm, heq, hNUx, hDB, hMA, hN2, valErr_ok h, valErr_ok (by omega : la ≤ 300), valErr_ok (by omega : lb ≤ 300), zero_off, zero_off, zero_off, linear_of h]
    refine ⟨rfl, rfl, rfl, ?_, eqA_self _ _⟩
    show realEqA 32 (dblS la) (sb (zi lN 0)) = false
    rw [e0]
    exact dblS_ne la
  have hd0 : ∀ k, k < 32 → NU 1 k = DB 0 k := by
    intro k hk
    rw [hNUx, hDB]
    rfl
  have hdn : ∀ i, AD (DB i) (DB i) = DB (i + 1) := by
    intro i
    rw [hAD, hDB]
    exact dblS_step i
  have r1 : RoomFor la 1 := ⟨by omega⟩
  have r2 : RoomFor ((Classical.choice seal_add).1 la lb) 1 := ⟨by rw [← hN, hN2]; omega⟩
  clear hNU hNUx hVA hVE hDB hAD hMA
  refine ⟨?_⟩
  cbv
  refine ⟨⟨Nat.le_refl _⟩, r1, ⟨Nat.le_refl _⟩, r2, ⟨Nat.le_refl _⟩, fun h => ?_, fun h => ?_⟩
  · cbv
    have hn : ¬ N ≤ 300 := by
      rw [hcm] at h
      have hh := gtrT h
      have hh2 : (300 : Int) < Int.ofNat ((Classical.choice seal_add).1 la lb) := hh
      rw [← hN] at hh2
      simp only [Int.ofNat_eq_natCast] at hh2
      omega
    obtain ⟨b1, b2⟩ := big hn
    rw [hN] at b1 b2
    show (match cm .eql (VE ((Classical.choice seal_add).1 la lb)) 2 with | true => eq 32 (VA ((Classical.choice seal_add).1 la lb) (fun j => joinF la (fun j => f (0 + j)) (fun j => g (0 + j)) (0 + j))) (NU 0) | false => false) = true
    rw [b1]
    exact b2
  · cbv
    have hn : N ≤ 300 := by
      rw [hcm] at h
      have hh := gtrF h
      have hh2 : Int.ofNat ((Classical.choice seal_add).1 la lb) ≤ (300 : Int) := hh
      rw [← hN] at hh2
      simp only [Int.ofNat_eq_natCast] at hh2
      omega
    obtain ⟨s1, s2, s3, s4, s5⟩ := small hn
    rw [hN] at s1 s5
    refine ⟨⟨Nat.le_refl _⟩, ⟨Nat.le_refl _⟩, ⟨⟨0, Nat.zero_le _⟩, ?_⟩, fun i _ => ?_⟩
    · subst hI
      cbv
      exact ⟨fun _ _ => rfl, fun _ _ => rfl, rfl, fun _ _ => rfl, rfl, fun _ _ => rfl, rfl, hd0, rfl, trivial⟩
    · subst hI
      obtain ⟨i, hi⟩ := i
      cbv
      refine ⟨fun h => ?_, fun h => ?_⟩
      · cbv
        have hlti : i < la := by rw [hcm] at h; have hh := lssT h; simp only [Int.ofNat_eq_natCast] at hh; omega
        have q4 : bi .add .i64 (Int.ofNat i) 1 = Int.ofNat (i + 1) := by rw [hbi, add_i64 (by simp only [Int.ofNat_eq_natCast]; omega)]; rfl
        refine ⟨⟨i + 1, by omega⟩, ?_, by show la - (i + 1) < la - i; omega⟩
        cbv
        refine ⟨fun _ _ => rfl, fun _ _ => rfl, fun _ _ => rfl, fun _ _ => rfl, fun k _ => ?_, q4, trivial⟩
        exact congrFun (hdn i) k
      · cbv
        have heqi : i = la := by rw [hcm] at h; have hh := lssF h; simp only [Int.ofNat_eq_natCast] at hh; omega
        subst heqi
        show (match (match (match (match cm .eql (VE ((Classical.choice seal_add).1 i lb)) 0 with | true => cm .eql (VE i) 0 | false => false) with | true => cm .eql (VE lb) 0 | false => false) with | true => !eq 32 (DB i) (NU 0) | false => false) with | true => eq 32 (VA ((Classical.choice seal_add).1 i lb) (fun j => joinF i (fun j => f (0 + j)) (fun j => g (0 + j)) (0 + j))) (MA (DB i) (VA lb fun j => g (0 + j)) (VA i fun j => f (0 + j))) | false => false) = true
        rw [s1, s2, s3, s4]
        exact s5

theorem ok_law_slinear : Sound Tryd.prog G_slinear 12 (boolLLC fun _ _ _ _ => true) := by
  refine sound_symx (n := 78) (rs := [.tmp 4]) (sc := sc_law_slinear.1) mixed Tryd.func12 rfl rfl rfl rfl sc_law_slinear.2 ?_
  intro vs cs r h
  unfold boolLLC at h
  split at h
  · rename_i la ca f lb cb g
    cases h
    exact ⟨by simp, fun hcs hwf => ⟨_, envOK tabOK ((.cons (ok_svalue.sub (sub_of (by decide))) (.cons (ok_numberS G_slinear) (.cons (ok_addS32.sub (sub_of (by decide))) (.cons (ok_muladd.sub (sub_of (by decide))) .nil))))), rfl, walk_law_slinear realOps rfl la.val ca f lb.val cb g (hcs _ (by simp)) (hcs _ (by simp)) _ rfl _ rfl _ rfl _ rfl _ rfl _ rfl _ rfl⟩⟩
  · cases h
end Go.Proofs.YtfpeolihnaeolaaDoor
