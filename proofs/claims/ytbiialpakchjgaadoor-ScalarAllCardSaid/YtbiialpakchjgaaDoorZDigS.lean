/-
  Two lists of digits: are they alike?
-/
import Derived.Test.YtbiialpakchjgaaDoorZBase
import Derived.Test.YtbiialpakchjgaaDoorZMA
import Derived.Test.YtbiialpakchjgaaDoorZEB
namespace Go.Proofs.YtbiialpakchjgaaDoor
open Go Go.Proofs Sx
set_option maxRecDepth 100000
set_option maxHeartbeats 4000000
set_option linter.unusedVariables false
set_option linter.unusedSimpArgs false

def sc_same : { c : SC // strip (body Tryd.f37) = c } := ⟨_, by cbv⟩
theorem walk_same (A : Ops) (hA : A = realOps) (G : Nat → AV) (la : Nat) (ca : SO) (f : Nat → Int) (lb : Nat) (cb : SO) (g : Nat → Int)  (S : Nat → (Nat → Int) → Nat → (Nat → Int) → Bool) (hS : S = sameB) (I : { i : Nat // i ≤ la ∧ ∀ j, j < i → f j = g j } → St) (hI : I = fun i => slots 26 [(0, .xsl .i8 1 (.sym la) ca f), (1, .xsl .i8 1 (.sym lb) cb g), (5, .int .i64 (.sym (i.1 : Int))), (7, .int .i64 (.sym (la : Int)))]) :
    Walk (mkEnv A tab.1 G [] [(4, .inv { i : Nat // i ≤ la ∧ ∀ j, j < i → f j = g j } I fun i => la - i.1)]) sc_same.1 26 [.tmp 4] [.xsl .i8 1 (.sym la) ca f, .xsl .i8 1 (.sym lb) cb g] (.bool (.sym (S la f lb g))) := by
  obtain ⟨bi, cm, un, cv, na, eq⟩ := A
  have hbi : bi = realBin := congrArg Ops.bin hA
  have hcm : cm = realCmp := congrArg Ops.cmp hA
  have hna : na = Int.toNat := congrArg Ops.nat hA
  have hcv : cv = fun k n => k.wrap n := congrArg Ops.cnv hA
  have heq : eq = realEqA := congrArg Ops.eqA hA
  clear hA
  refine ⟨?_⟩
  cbv
  refine ⟨fun h => ?_, fun h => ?_⟩
  · cbv
    have hne : la ≠ lb := by rw [hcm] at h; have hh := neqT h; intro e; exact hh (by rw [e])
    rw [hS, sameB_len hne]
  · cbv
    have heq2 : la = lb := by rw [hcm] at h; exact Int.ofNat.inj (neqF h)
    subst heq2
    clear h
    refine ⟨⟨⟨0, Nat.zero_le _, fun j hj => by omega⟩, ?_⟩, fun x hwf => ?_⟩
    · subst hI
      cbv
      exact ⟨fun _ _ => rfl, fun _ _ => rfl, rfl, trivial⟩
    · subst hI
      obtain ⟨i, hi, hs⟩ := x
      have hw := wfSt_get hwf 7
      have hi64 : inR .i64 (la : Int) := hw
      have hi63 := n_lt hi64
      clear hwf hw hi64
      cbv
      refine ⟨fun h => ?_, fun h => ?_⟩
      · cbv
        have hlti : i < la := by rw [hcm] at h; have hh := lssT h; simp only [Int.ofNat_eq_natCast] at hh; omega
        have qi : na (Int.ofNat i) = i := by rw [hna]; rfl
        refine ⟨⟨by simp only [Int.ofNat_eq_natCast]; omega⟩, ⟨by rw [qi]; omega⟩, ⟨by simp only [Int.ofNat_eq_natCast]; omega⟩, ⟨by rw [qi]; omega⟩, fun g1 => ?_, fun g1 => ?_⟩
        · cbv
          have hne : f i ≠ g i := by
            rw [hcm] at g1
            have hh := neqT g1
            intro e
            apply hh
            show f (na (Int.ofNat i)) = g (na (Int.ofNat i))
            rw [qi, e]
          rw [hS, sameB_at hlti hne]
        · cbv
          have heq3 : f i = g i := by
            rw [hcm] at g1
            have hh : f (na (Int.ofNat i)) = g (na (Int.ofNat i)) := neqF g1
            rw [qi] at hh
            exact hh
          have hnx : ∀ j, j < i + 1 → f j = g j := by
            intro j hj
            by_cases h1 : j = i
            · subst h1; exact heq3
            · exact hs j (by omega)
          have q4 : bi .add .i64 (Int.ofNat i) 1 = Int.ofNat (i + 1) := by rw [hbi, add_i64 (by simp only [Int.ofNat_eq_natCast]; omega)]; rfl
          refine ⟨⟨i + 1, by omega, hnx⟩, ?_, by show la - (i + 1) < la - i; omega⟩
          cbv
          exact ⟨fun _ _ => rfl, fun _ _ => rfl, q4, trivial⟩
      · cbv
        have hge : la ≤ i := by rw [hcm] at h; have hh := lssF h; simp only [Int.ofNat_eq_natCast] at hh; omega
        rw [hS, sameB_all (fun j hj => hs j (by omega))]

theorem ok_same (G : Nat → AV) : Sound Tryd.prog G 37 (sameC sameB) := by
  refine sound_symx (n := 26) (rs := [.tmp 4]) (sc := sc_same.1) mixed Tryd.func37 rfl rfl rfl rfl sc_same.2 ?_
  intro vs cs r h
  unfold sameC at h
  split at h
  · rename_i la ca f lb cb g
    cases h
    exact ⟨by simp, fun hcs hwf => ⟨_, envOK tabOK ( .nil), rfl, walk_same realOps rfl G la.val ca f lb.val cb g  _ rfl _ rfl⟩⟩
  · cases h
end Go.Proofs.YtbiialpakchjgaaDoor
