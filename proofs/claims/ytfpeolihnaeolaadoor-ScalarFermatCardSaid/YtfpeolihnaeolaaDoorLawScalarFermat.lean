/-
  ScalarFermat holds for every input: the walk.
-/
import Derived.Test.YtfpeolihnaeolaaDoorScalL
import Derived.Test.YtfpeolihnaeolaaDoorScalD
import Derived.Test.YtfpeolihnaeolaaDoorScM
import Derived.Test.YtfpeolihnaeolaaDoorSxR
namespace Go.Proofs.YtfpeolihnaeolaaDoor
open Go Go.Proofs Sx
set_option maxRecDepth 100000
set_option maxHeartbeats 4000000
set_option linter.unusedVariables false
set_option linter.unusedSimpArgs false

def gl_sfermat : GL := [v_order, v_mult]
abbrev G_sfermat : Nat → AV := lookGL gl_sfermat
def sc_law_sfermat : { c : SC // strip (body Tryd.f6) = c } := ⟨_, by cbv⟩
theorem walk_law_sfermat (A : Ops) (hA : A = realOps) (a : Nat → Int) (ha : IsBytes 32 a) (MA : (Nat → Int) → (Nat → Int) → (Nat → Int) → Nat → Int) (hMA : MA = fun a b c => sb (se a * se b + se c)) (CU : (Nat → Int) → Nat → Int) (hCU : CU = fun f => sb (se f)) (NU : Int → Nat → Int) (hNU : NU = fun x => sb (zi lN x)) (OR : Nat → Int) (hOR : OR = byt lI) (EB : Nat → Int) (hEB : EB = byt (lI - 1)) (PW : Int → Nat → Int) (hPW : PW = fun x => sb (pwZ (se a) (byt (lI - 1)) (x + 1).toNat)) (I : { x : Int // -1 ≤ x ∧ x ≤ 255 } → St) (hI : I = fun x => slots 53 [(1, .own (.arr .u8 32 a)), (3, .own (.arr .u8 32 EB)), (4, .own (.arr .u8 32 (PW x.1))), (5, .int .i64 (.sym x.1))]) :
    Walk (mkEnv A tab.1 G_sfermat [(26, tri32C MA), (27, un32C CU), (24, numberC NU), (25, primeC OR)] [(7, .inv { x : Int // -1 ≤ x ∧ x ≤ 255 } I fun x => (x.1 + 1).toNat)]) sc_law_sfermat.1 53 [.tmp 2] [.arr .u8 32 a] (.bool (.sym true)) := by
  obtain ⟨bi, cm, un, cv, na, eq⟩ := A
  have hbi : bi = realBin := congrArg Ops.bin hA
  have hcm : cm = realCmp := congrArg Ops.cmp hA
  have hna : na = Int.toNat := congrArg Ops.nat hA
  have hcv : cv = fun k n => k.wrap n := congrArg Ops.cnv hA
  have heq : eq = realEqA := congrArg Ops.eqA hA
  clear hA
  have hE : IsBytes 32 (byt (lI - 1)) := byt_isBytes _ _
  have w1 : cm .neq (OR 0) 237 = false := by rw [hcm, hOR]; decide +kernel
  have w2 : cm .neq (OR 31) 16 = false := by rw [hcm, hOR]; decide +kernel
  have w3 : ∀ k, k < 32 → upd OR 0 (bi .sub .u8 (OR 0) 1) k = EB k := by rw [hbi, hOR, hEB]; decide +kernel
  have w4 : ∀ k, k < 32 → NU 1 k = PW 255 k := by
    intro k hk
    rw [hNU, hPW]
    show sb (zi lN 1) k = sb (pwZ (se a) (byt (lI - 1)) 256) k
    rw [pwZ_top _ (num_top hE), zi_one]
  have w5 : ∀ _ : Unit, se (NU 0) = 0 := by intro _; rw [hNU]; show se (sb (zi lN 0)) = 0; rw [se_sb, zi_zero]
  have w6 : ∀ _ : Unit, eq 32 (CU a) (NU 0) = decide (se a = 0) := by intro _; rw [heq, hCU, hNU]; show realEqA 32 (sb (se a)) (sb (zi lN 0)) = _; rw [sb_inj, zi_zero]
  have w7 : ∀ _ : Unit, se a = 0 → eq 32 (PW (-1)) (NU 0) = true := by
    intro _ h
    rw [heq, hPW, hNU]
    show realEqA 32 (sb (pwZ (se a) (byt (lI - 1)) 0)) (sb (zi lN 0)) = true
    rw [sb_inj, zi_zero, h, pwZ_nil]
    rfl
  have w8 : ∀ _ : Unit, se a ≠ 0 → eq 32 (PW (-1)) (NU 1) = true := by
    intro _ h
    rw [heq, hPW, hNU]
    show realEqA 32 (sb (pwZ (se a) (byt (lI - 1)) 0)) (sb (zi lN 1)) = true
    rw [sb_inj, zi_one, pwZ_fermat h]
    rfl
  refine ⟨?_⟩
  cbv
  refine ⟨fun h => ?_, fun _ => ?_⟩
  · exfalso
    revert h
    try dsimp only [SI.val, SO.val]
    simp [w1, w2]
  cbv
  refine ⟨⟨⟨255, by omega⟩, ?_⟩, fun x _ => ?_⟩
  · subst hI
    cbv
    exact ⟨fun _ _ => rfl, w3, w4, trivial⟩
  · subst hI
    obtain ⟨x, hx1, hx2⟩ := x
    cbv
    rcases Int.lt_or_le x 0 with hx | hx
    · refine ⟨fun h => ?_, fun h => ?_⟩
      · cbv
        exfalso
        rw [hcm] at h
        have := geqT h
        try dsimp only at this
        omega
      · have hx3 : x = -1 := by omega
        subst hx3
        cbv
        refine ⟨fun h2 => ?_, fun h2 => ?_⟩
        · cbv
          exact w7 () (by rw [← decide_eq_true_iff (p := se a = 0), ← w6 ()]; exact h2)
        · cbv
          exact w8 () (by intro e; have h3 : eq 32 (CU a) (NU 0) = false := h2; rw [w6 (), e] at h3; exact absurd h3 (by decide))
    · obtain ⟨i, rfl⟩ := Int.eq_ofNat_of_zero_le hx
      have hi8 : i < 256 := by omega
      obtain ⟨y, hy⟩ : ∃ y : Int, y = (i : Int) - 1 := ⟨_, rfl⟩
      have hy1 : (y + 1).toNat = i := by omega
      have hy2 : ((i : Int) + 1).toNat = i + 1 := by omega
      have hy3 : -1 ≤ y ∧ y ≤ 255 := by omega
      have P1 : PW (Int.ofNat i) = sb (pwZ (se a) (byt (lI - 1)) (i + 1)) := by rw [hPW]; exact congrArg (fun m => sb (pwZ (se a) (byt (lI - 1)) m)) (show (Int.ofNat i + 1).toNat = i + 1 by simp only [Int.ofNat_eq_natCast]; omega)
      have P2 : PW y = sb (pwZ (se a) (byt (lI - 1)) i) := by rw [hPW]; show sb (pwZ _ _ (y + 1).toNat) = _; rw [hy1]
      have st := pwZ_step (se a) hE hi8
      have hsq : MA (PW (Int.ofNat i)) (PW (Int.ofNat i)) (NU 0) = sb (pwZ (se a) (byt (lI - 1)) (i + 1) * pwZ (se a) (byt (lI - 1)) (i + 1)) := by
        rw [hMA]
        show sb (se (PW _) * se (PW _) + se (NU 0)) = _
        rw [P1, se_sb, w5 ()]
        congr 1
        grind
      have qy : bi .sub .i64 (Int.ofNat i) 1 = y := by rw [hbi, hy]; exact sub_i64 (by simp only [Int.ofNat_eq_natCast]; omega)
      refine ⟨fun h => ?_, fun h => ?_⟩
      · cbv
        have e1 : bi .quo .i64 (Int.ofNat i) 8 = ((i / 8 : Nat) : Int) := by rw [hbi]; exact quo_i64 ⟨by simp only [Int.ofNat_eq_natCast]; omega, by simp only [Int.ofNat_eq_natCast]; omega⟩ (by decide)
        have e2 : bi .rem .i64 (Int.ofNat i) 8 = ((i % 8 : Nat) : Int) := by rw [hbi]; exact rem_i64 (by simp only [Int.ofNat_eq_natCast]; omega)
        have e3 : na (bi .quo .i64 (Int.ofNat i) 8) = i / 8 := by rw [e1, hna]; exact Int.toNat_natCast _
        have e4 : cv .u64 (bi .rem .i64 (Int.ofNat i) 8) = ((i % 8 : Nat) : Int) := by rw [e2, hcv]; show IntKind.wrap .u64 _ = _; rw [wrap_u64]; omega
        have hbit : cm .eql (bi .rem .i64 (cv .i64 (bi .shr .u8 (EB (na (bi .quo .i64 (Int.ofNat i) 8))) (cv .u64 (bi .rem .i64 (Int.ofNat i) 8)))) 2) 1 = bitB (byt (lI - 1)) i := by
          rw [e3, e2, hcm, hEB, hbi, hcv]
          exact bit_eq hE hi8 (bit_look (n := 32) hE hi8)
        refine ⟨⟨by rw [e1]; omega⟩, ⟨by rw [e3]; omega⟩, ⟨by rw [e4]; omega⟩, fun hb => ?_, fun hb => ?_⟩
        · cbv
          have hb' : bitB (byt (lI - 1)) i = true := hbit.symm.trans hb
          rw [if_pos hb'] at st
          refine ⟨⟨y, hy3.1, hy3.2⟩, ?_, ?_⟩
          · cbv
            refine ⟨fun _ _ => rfl, fun _ _ => rfl, fun k _ => ?_, qy, trivial⟩
            show MA (MA (PW (Int.ofNat i)) (PW (Int.ofNat i)) (NU 0)) a (NU 0) k = PW y k
            rw [hsq, P2, hMA]
            show sb (se (sb _) * se a + se (NU 0)) k = _
            rw [w5 (), st, se_sb]
            exact congrFun (congrArg sb (by grind)) k
          · show (y + 1).toNat < (Int.ofNat i + 1).toNat
            rw [hy1]
            simp only [Int.ofNat_eq_natCast]
            omega
        · cbv
          have hb' : ¬ bitB (byt (lI - 1)) i = true := by rw [← hbit]; exact Bool.eq_false_iff.1 hb
          rw [if_neg hb'] at st
          refine ⟨⟨y, hy3.1, hy3.2⟩, ?_, ?_⟩
          · cbv
            refine ⟨fun _ _ => rfl, fun _ _ => rfl, fun k _ => ?_, qy, trivial⟩
            show MA (PW (Int.ofNat i)) (PW (Int.ofNat i)) (NU 0) k = PW y k
            rw [hsq, P2, st]
          · show (y + 1).toNat < (Int.ofNat i + 1).toNat
            rw [hy1]
            simp only [Int.ofNat_eq_natCast]
            omega
      · cbv
        exfalso
        rw [hcm] at h
        have := geqF h
        try dsimp only at this
        omega

theorem ok_law_sfermat : Sound Tryd.prog G_sfermat 6 (bool32C fun _ => true) := by
  refine sound_each (n := 53) (rs := [.tmp 2]) (sc := sc_law_sfermat.1) mixed Tryd.func6 rfl rfl rfl rfl sc_law_sfermat.2 ?_
  intro vs cs r h
  unfold bool32C at h
  split at h
  · rename_i a
    cases h
    exact ⟨by simp, fun hcs hwf => ⟨_, envOK tabOK ((.cons (ok_muladd.sub (sub_of (by decide))) (.cons (ok_cut.sub (sub_of (by decide))) (.cons (ok_numberS G_sfermat) (.cons (ok_orderS.sub (sub_of (by decide))) .nil))))), rfl, walk_law_sfermat realOps rfl a (isB (hwf _ (by simp))) _ rfl _ rfl _ rfl _ rfl _ rfl _ rfl _ rfl⟩⟩
  · cases h
end Go.Proofs.YtfpeolihnaeolaaDoor
