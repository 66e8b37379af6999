/-
  ScalarCanon holds for every input: the walk.
-/
import Derived.Test.YtfpeolihnaeolaaDoorScalL
import Derived.Test.YtfpeolihnaeolaaDoorScalD
import Derived.Test.YtfpeolihnaeolaaDoorScE
import Derived.Test.YtfpeolihnaeolaaDoorSxR
namespace Go.Proofs.YtfpeolihnaeolaaDoor
open Go Go.Proofs Sx
set_option maxRecDepth 100000
set_option maxHeartbeats 4000000
set_option linter.unusedVariables false
set_option linter.unusedSimpArgs false

def gl_scanonl : GL := [v_order, v_mult]
abbrev G_scanonl : Nat → AV := lookGL gl_scanonl
def sc_law_scanonl : { c : SC // strip (body Tryd.f8) = c } := ⟨_, by cbv⟩
theorem walk_law_scanonl (A : Ops) (hA : A = realOps) (a : Nat → Int) (ha : IsBytes 32 a) (AD : (Nat → Int) → (Nat → Int) → Nat → Int) (hAD : AD = fun f g => sb (se f + se g)) (CU : (Nat → Int) → Nat → Int) (hCU : CU = fun f => sb (se f)) (NU : Int → Nat → Int) (hNU : NU = fun x => sb (zi lN x)) (LT : (Nat → Int) → (Nat → Int) → Bool) (hLT : LT = ltB) (CA : (Nat → Int) → Bool) (hCA : CA = canS) (OR : Nat → Int) (hOR : OR = byt lI) (LO : Nat → Int) (hLO : LO = byt lI) (I : { i : Nat // i ≤ 32 } → St) (hI : I = fun i => slots 61 [(1, .own (.arr .u8 32 a)), (3, .own (.arr .u8 32 OR)), (4, .own (.arr .u8 16 LO)), (5, .int .i64 (.sym (i.1 : Int)))]) :
    Walk (mkEnv A tab.1 G_scanonl [(28, bin32C AD), (27, un32C CU), (24, numberC NU), (29, bool232C LT), (18, bool32C CA), (25, primeC OR)] [(4, .inv { i : Nat // i ≤ 32 } I fun i => 32 - i.1)]) sc_law_scanonl.1 61 [.tmp 2] [.arr .u8 32 a] (.bool (.sym true)) := by
  obtain ⟨bi, cm, un, cv, na, eq⟩ := A
  have hbi : bi = realBin := congrArg Ops.bin hA
  have hcm : cm = realCmp := congrArg Ops.cmp hA
  have hna : na = Int.toNat := congrArg Ops.nat hA
  have hcv : cv = fun k n => k.wrap n := congrArg Ops.cnv hA
  have heq : eq = realEqA := congrArg Ops.eqA hA
  clear hA
  refine ⟨?_⟩
  have w1 : ∀ i : Nat, i < 16 → OR i = LO i := by
    try rw [heq]
    subst hAD hCU hNU hLT hCA hOR
    try dsimp only at *
    intro i hi; rw [hLO]
  have w2 : OR 31 = 16 := by
    try rw [heq]
    subst hAD hCU hNU hLT hCA hOR
    try dsimp only at *
    decide +kernel
  have w3 : ∀ i : Nat, 16 ≤ i → i < 32 → i ≠ 31 → OR i = 0 := by
    try rw [heq]
    subst hAD hCU hNU hLT hCA hOR
    try dsimp only at *
    exact order_mid
  have k1 : CA a = LT a OR := by
    try rw [heq]
    subst hAD hCU hNU hLT hCA hOR
    try dsimp only at *
    exact canon_s1 a
  have k2 : LT (CU a) OR = true := by
    try rw [heq]
    subst hAD hCU hNU hLT hCA hOR
    try dsimp only at *
    exact canon_s2 _
  have k3 : eq 32 (CU a) a = LT a OR := by
    try rw [heq]
    subst hAD hCU hNU hLT hCA hOR
    try dsimp only at *
    exact canon_s3 ha
  have k4 : eq 32 (AD a (NU 0)) (CU a) = true := by
    try rw [heq]
    subst hAD hCU hNU hLT hCA hOR
    try dsimp only at *
    try simp only [se_sb, zi_zero, zi_one]
    exact sb_same (by grind)
  have k5 : eq 32 (AD a OR) (CU a) = true := by
    try rw [heq]
    subst hAD hCU hNU hLT hCA hOR
    try dsimp only at *
    rw [se_order]
    exact sb_same (by grind)
  clear hAD hCU hNU hLT hCA hOR
  cbv
  refine ⟨⟨⟨0, by decide⟩, ?_⟩, fun i _ => ?_⟩
  · subst hI
    cbv
    refine ⟨fun _ _ => rfl, fun _ _ => rfl, ?_, rfl, trivial⟩
    rw [hLO]
    decide +kernel
  · subst hI
    cbv
    obtain ⟨i, hi⟩ := i
    have qi : na (Int.ofNat i) = i := by rw [hna]; rfl
    have q4 : bi .add .i64 (Int.ofNat i) 1 = Int.ofNat (i + 1) := by rw [hbi, add_i64 (by simp only [Int.ofNat_eq_natCast]; omega)]; rfl
    have w32 : 0 ≤ Int.ofNat i ∧ Int.ofNat i < 32 → Within (Int.ofNat i) 32 := fun h => ⟨h⟩
    have dead : ∀ v, OR i = v → cm .neq (OR (na (Int.ofNat i))) v = true → False := by
      intro v hv hn
      rw [qi, hv, hcm] at hn
      simp [realCmp] at hn
    refine ⟨fun h => ?_, fun h => ?_⟩
    · cbv
      have hlt : i < 32 := by
        rw [hcm] at h
        exact Int.ofNat_lt.1 (of_decide_eq_true h)
      have b0 : 0 ≤ Int.ofNat i ∧ Int.ofNat i < 32 := by simp only [Int.ofNat_eq_natCast]; omega
      have b1 : na (Int.ofNat i) + 1 ≤ 32 := by rw [qi]; omega
      refine ⟨fun g1 => ?_, fun g1 => ?_⟩
      · have h16 : i < 16 := by
          rw [hcm] at g1
          exact Int.ofNat_lt.1 (of_decide_eq_true g1)
        cbv
        have b2 : 0 ≤ Int.ofNat i ∧ Int.ofNat i < 16 := by simp only [Int.ofNat_eq_natCast]; omega
        have b3 : na (Int.ofNat i) + 1 ≤ 16 := by rw [qi]; omega
        refine ⟨⟨b2⟩, ⟨b3⟩, fun g2 => ?_, fun g2 => ?_⟩
        · exfalso
          rw [hcm] at g2
          have g3 : (Int.ofNat i == 31) = true := g2
          have g4 : Int.ofNat i = 31 := by simpa using g3
          simp only [Int.ofNat_eq_natCast] at g4
          omega
        · cbv
          refine ⟨⟨b0⟩, ⟨b1⟩, fun g3 => (dead (LO (na (Int.ofNat i))) (by rw [qi]; exact w1 i h16) g3).elim, fun _ => ?_⟩
          cbv
          refine ⟨⟨i + 1, by omega⟩, ?_, by show 32 - (i + 1) < 32 - i; omega⟩
          cbv
          exact ⟨fun _ _ => rfl, fun _ _ => rfl, fun _ _ => rfl, q4, trivial⟩
      · have h16 : 16 ≤ i := by
          rw [hcm] at g1
          have g2 : ¬ (i < 16) := fun hh => of_decide_eq_false g1 (Int.ofNat_lt.2 hh)
          omega
        cbv
        refine ⟨fun g2 => ?_, fun g2 => ?_⟩
        · have g5 : i = 31 := by
            rw [hcm] at g2
            have g3 : (Int.ofNat i == 31) = true := g2
            have g4 : Int.ofNat i = 31 := by simpa using g3
            simp only [Int.ofNat_eq_natCast] at g4
            omega
          cbv
          refine ⟨⟨b0⟩, ⟨b1⟩, fun g3 => (dead 16 (by rw [g5]; exact w2) g3).elim, fun _ => ?_⟩
          cbv
          refine ⟨⟨i + 1, by omega⟩, ?_, by show 32 - (i + 1) < 32 - i; omega⟩
          cbv
          exact ⟨fun _ _ => rfl, fun _ _ => rfl, fun _ _ => rfl, q4, trivial⟩
        · have g5 : i ≠ 31 := by
            intro e
            rw [hcm] at g2
            have g3 : (Int.ofNat i == 31) = false := g2
            rw [e] at g3
            exact absurd g3 (by decide)
          cbv
          refine ⟨⟨b0⟩, ⟨b1⟩, fun g3 => (dead 0 (w3 i h16 hlt g5) g3).elim, fun _ => ?_⟩
          cbv
          refine ⟨⟨i + 1, by omega⟩, ?_, by show 32 - (i + 1) < 32 - i; omega⟩
          cbv
          exact ⟨fun _ _ => rfl, fun _ _ => rfl, fun _ _ => rfl, q4, trivial⟩
    · cbv
      refine ⟨fun hd => ?_, fun _ => ?_⟩
      · exfalso
        revert hd
        try dsimp only [SI.val, SO.val]
        cases hb : LT a OR <;> simp [k1, k2, k3, hb]
      cbv
      try dsimp only [SI.val, SO.val]
      simp [k4, k5]

theorem ok_law_scanonl : Sound Tryd.prog G_scanonl 8 (bool32C fun _ => true) := by
  refine sound_each (n := 61) (rs := [.tmp 2]) (sc := sc_law_scanonl.1) mixed Tryd.func8 rfl rfl rfl rfl sc_law_scanonl.2 ?_
  intro vs cs r h
  unfold bool32C at h
  split at h
  · rename_i a
    cases h
    exact ⟨by simp, fun hcs hwf => ⟨_, envOK tabOK ((.cons (ok_addS32.sub (sub_of (by decide))) (.cons (ok_cut.sub (sub_of (by decide))) (.cons (ok_numberS G_scanonl) (.cons (ok_llessS G_scanonl) (.cons (ok_canonS.sub (sub_of (by decide))) (.cons (ok_orderS.sub (sub_of (by decide))) .nil))))))), rfl, walk_law_scanonl realOps rfl a (isB (hwf _ (by simp))) _ rfl _ rfl _ rfl _ rfl _ rfl _ rfl _ rfl _ rfl⟩⟩
  · cases h
end Go.Proofs.YtfpeolihnaeolaaDoor
