/-
  FieldPowers holds for every input: the walk.
-/
import Derived.Test.YtnfbjfbndnmhmaaFieldK
import Derived.Test.YtnfbjfbndnmhmaaSpG
namespace Go.Proofs.Ytnfbjfbndnmhmaa
open Go Go.Proofs Sx
set_option maxRecDepth 100000
set_option maxHeartbeats 4000000
set_option linter.unusedVariables false
set_option linter.unusedSimpArgs false

def gl_powers : GL := []
abbrev G_powers : Nat → AV := lookGL gl_powers
def sc_law_powers : { c : SC // strip (body Try.f5) = c } := ⟨_, by cbv⟩
theorem walk_law_powers (A : Ops) (hA : A = realOps) (a : Nat → Int) (e : Nat → Int) (ha : IsBytes 32 a) (he : IsBytes 32 e) (MU : (Nat → Int) → (Nat → Int) → Nat → Int) (hMU : MU = fun f g => fb (fe f * fe g)) (SQ : (Nat → Int) → Nat → Int) (hSQ : SQ = fun f => fb (fe f * fe f)) (PW : (Nat → Int) → (Nat → Int) → Nat → Int) (hPW : PW = fun f e => fb (zp (fe f) (num 32 e).toNat)) (RD : (Nat → Int) → Nat → Int) (hRD : RD = fun f => fb (fe f)) (NU : Int → Nat → Int) (hNU : NU = fun x => fb (zi pN x)) (XA : Nat → Nat → Int) (hXA : XA = fun i => fb (lowP (fe a) e i)) (SA : Nat → Nat → Int) (hSA : SA = fun i => fb (sqrP (fe a) i))
    (I : { i : Nat // i ≤ 256 } → St) (hI : I = fun i => slots 49 [(2, .own (.arr .u8 32 a)), (3, .own (.arr .u8 32 e)), (5, .own (.arr .u8 32 (XA i.1))), (6, .own (.arr .u8 32 (SA i.1))), (7, .int .i64 (.sym (i.1 : Int)))]) :
    Walk (mkEnv A tab.1 G_powers [(15, bin32C MU), (16, un32C SQ), (17, bin32C PW), (7, un32C RD), (12, numberC NU)] [(4, .inv { i : Nat // i ≤ 256 } I fun i => 256 - i.1)]) sc_law_powers.1 49 [.tmp 4] [.arr .u8 32 a, .arr .u8 32 e] (.bool (.sym true)) := by
  obtain ⟨bi, cm, un, cv, na, eq⟩ := A
  have hbi : bi = realBin := congrArg Ops.bin hA
  have hcm : cm = realCmp := congrArg Ops.cmp hA
  have hna : na = Int.toNat := congrArg Ops.nat hA
  have hcv : cv = fun k n => k.wrap n := congrArg Ops.cnv hA
  have heq : eq = realEqA := congrArg Ops.eqA hA
  clear hA
  have k1 : eq 32 (PW a (NU 0)) (NU 1) = true := by
    try rw [heq]
    subst hMU hSQ hPW hRD hNU hXA hSA
    try dsimp only at *
    simp only [zi_zero, zi_one, num_fb_zero]
    exact fb_same (zp_zero _)
  have k2 : eq 32 (PW a (NU 1)) (RD a) = true := by
    try rw [heq]
    subst hMU hSQ hPW hRD hNU hXA hSA
    try dsimp only at *
    simp only [zi_one, num_fb_one]
    exact fb_same (zp_one _)
  have k3 : eq 32 (PW a e) (XA 256) = true := by
    try rw [heq]
    subst hMU hSQ hPW hRD hNU hXA hSA
    try dsimp only at *
    exact fb_same (lowP_all _ he).symm
  have j0 : ∀ k, k < 32 → NU 1 k = XA 0 k := by
    try rw [heq]
    subst hMU hSQ hPW hRD hNU hXA hSA
    try dsimp only at *
    intro k _
    rw [lowP_zero, zi_one]
  have j1 : ∀ k, k < 32 → RD a k = SA 0 k := by
    try rw [heq]
    subst hMU hSQ hPW hRD hNU hXA hSA
    try dsimp only at *
    intro k _
    rw [sqrP_zero]
  have jx : ∀ i, i < 256 → bitB e i = true → ∀ k, k < 32 → MU (XA i) (SA i) k = XA (i + 1) k := by
    try rw [heq]
    subst hMU hSQ hPW hRD hNU hXA hSA
    try dsimp only at *
    intro i hi hb k _
    rw [fe_fb, fe_fb, lowP_step _ he hi, if_pos hb]
  have jn : ∀ i, i < 256 → bitB e i = false → ∀ k, k < 32 → XA i k = XA (i + 1) k := by
    try rw [heq]
    subst hMU hSQ hPW hRD hNU hXA hSA
    try dsimp only at *
    intro i hi hb k _
    rw [lowP_step _ he hi, if_neg (by rw [hb]; decide)]
  have js : ∀ i, ∀ k, k < 32 → SQ (SA i) k = SA (i + 1) k := by
    try rw [heq]
    subst hMU hSQ hPW hRD hNU hXA hSA
    try dsimp only at *
    intro i k _
    rw [fe_fb, sqrP_step]
  clear hMU hSQ hPW hRD hNU hXA hSA
  refine ⟨?_⟩
  cbv
  refine ⟨⟨⟨0, by decide⟩, ?_⟩, fun i _ => ?_⟩
  · subst hI
    cbv
    exact ⟨fun _ _ => rfl, fun _ _ => rfl, j0, j1, rfl, trivial⟩
  · subst hI
    cbv
    obtain ⟨i, hi⟩ := i
    refine ⟨fun h => ?_, fun h => ?_⟩
    · cbv
      rw [hcm] at h
      have hlt := ltT h
      simp only [Int.ofNat_eq_natCast] at hlt
      have hi2 : i < 256 := by omega
      have e1 : bi .quo .i64 (Int.ofNat i) 8 = ((i / 8 : Nat) : Int) := by rw [hbi]; exact quo_i64 ⟨by simp only [Int.ofNat_eq_natCast]; omega, by simp only [Int.ofNat_eq_natCast]; omega⟩ (by decide)
      have e2 : bi .rem .i64 (Int.ofNat i) 8 = ((i % 8 : Nat) : Int) := by rw [hbi]; exact rem_i64 (by simp only [Int.ofNat_eq_natCast]; omega)
      have e3 : na (bi .quo .i64 (Int.ofNat i) 8) = i / 8 := by rw [e1, hna]; exact Int.toNat_natCast _
      have e4 : cv .u64 (bi .rem .i64 (Int.ofNat i) 8) = ((i % 8 : Nat) : Int) := by rw [e2, hcv]; show IntKind.wrap .u64 _ = _; rw [wrap_u64]; omega
      have q4 : bi .add .i64 (Int.ofNat i) 1 = Int.ofNat (i + 1) := by rw [hbi, add_i64 (by simp only [Int.ofNat_eq_natCast]; omega)]; rfl
      have hb : cm .eql (bi .rem .i64 (cv .i64 (bi .shr .u8 (e (na (bi .quo .i64 (Int.ofNat i) 8))) (cv .u64 (bi .rem .i64 (Int.ofNat i) 8)))) 2) 1 = bitB e i := by
        rw [e3, e2, hcm, hbi, hcv]
        exact bit_two he hi2
      refine ⟨⟨by rw [e1]; omega⟩, ⟨by rw [e3]; omega⟩, ⟨by rw [e4]; omega⟩, fun h2 => ?_, fun h2 => ?_⟩
      · cbv
        refine ⟨⟨i + 1, by omega⟩, ?_, by show 256 - (i + 1) < 256 - i; omega⟩
        cbv
        exact ⟨fun _ _ => rfl, fun _ _ => rfl, jx i hi2 (hb.symm.trans h2), js i, q4, trivial⟩
      · cbv
        refine ⟨⟨i + 1, by omega⟩, ?_, by show 256 - (i + 1) < 256 - i; omega⟩
        cbv
        exact ⟨fun _ _ => rfl, fun _ _ => rfl, jn i hi2 (hb.symm.trans h2), js i, q4, trivial⟩
    · cbv
      have hi256 : i = 256 := by
        rw [hcm] at h
        have := ltF h
        simp only [Int.ofNat_eq_natCast] at this
        omega
      subst hi256
      refine ⟨fun h2 => ?_, fun _ => ?_⟩
      · exfalso
        revert h2
        try dsimp only [SI.val, SO.val]
        simp [k1, k2]
      cbv
      exact k3

theorem ok_law_powers : Sound Try.prog G_powers 5 (bool232C fun _ _ => true) := by
  refine sound_each (n := 49) (rs := [.tmp 4]) (sc := sc_law_powers.1) mixed Try.func5 rfl rfl rfl rfl sc_law_powers.2 ?_
  intro vs cs r h
  unfold bool232C at h
  split at h
  · rename_i a e
    cases h
    exact ⟨by simp, fun hcs hwf => ⟨_, envOK tabOK ((.cons (ok_mulZ G_powers) (.cons (ok_squareZ G_powers) (.cons (ok_powF G_powers) (.cons (ok_reduceZ G_powers) (.cons (ok_numberZ G_powers) .nil)))))), rfl, walk_law_powers realOps rfl a e (isB (hwf _ (by simp))) (isB (hwf _ (by simp))) _ rfl _ rfl _ rfl _ rfl _ rfl _ rfl _ rfl _ rfl⟩⟩
  · cases h
end Go.Proofs.Ytnfbjfbndnmhmaa
