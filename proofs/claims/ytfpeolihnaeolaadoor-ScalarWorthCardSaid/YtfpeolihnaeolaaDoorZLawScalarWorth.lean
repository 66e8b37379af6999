/-
  ScalarWorth holds for every input: the walk.
-/
import Derived.Test.YtfpeolihnaeolaaDoorZDigA
import Derived.Test.YtfpeolihnaeolaaDoorZValA
import Derived.Test.YtfpeolihnaeolaaDoorZScalL
import Derived.Test.YtfpeolihnaeolaaDoorZMA
namespace Go.Proofs.YtfpeolihnaeolaaDoor
open Go Go.Proofs Sx
set_option maxRecDepth 100000
set_option maxHeartbeats 4000000
set_option linter.unusedVariables false
set_option linter.unusedSimpArgs false

def gl_sworth : GL := [v_mult]
abbrev G_sworth : Nat → AV := lookGL gl_sworth
def sc_law_sworth : { c : SC // strip (body Tryd.f13) = c } := ⟨_, by cbv⟩
theorem walk_law_sworth (A : Ops) (hA : A = realOps) (a : Nat → Int) (w : Int) (ha : IsBytes 32 a) (DD : (Nat → Int) → Int → Nat → Int) (hDD : DD = digF) (VA : Nat → (Nat → Int) → Nat → Int) (hVA : VA = valA) (CU : (Nat → Int) → Nat → Int) (hCU : CU = fun f => sb (se f)) (LL : Int → Nat) (hLL : LL = digL) (EE : Int → Int) (hEE : EE = digE) (VE : Nat → Int) (hVE : VE = valErr 2)  :
    Walk (mkEnv A tab.1 G_sworth [(20, digitsC DD LL EE), (15, valueC .i64 VA VE), (27, un32C CU)] []) sc_law_sworth.1 41 [.tmp 4] [.arr .u8 32 a, .int .i64 (.sym w)] (.bool (.sym true)) := by
  obtain ⟨bi, cm, un, cv, na, eq⟩ := A
  have hbi : bi = realBin := congrArg Ops.bin hA
  have hcm : cm = realCmp := congrArg Ops.cmp hA
  have hna : na = Int.toNat := congrArg Ops.nat hA
  have hcv : cv = fun k n => k.wrap n := congrArg Ops.cnv hA
  have heq : eq = realEqA := congrArg Ops.eqA hA
  clear hA
  obtain ⟨W, hW⟩ : ∃ W, W = bi .add .i64 2 (bi .rem .i64 (bi .add .i64 (bi .rem .i64 w 7) 7) 7) := ⟨_, rfl⟩
  have hd : digW W = true := by rw [hW, hbi]; exact width_of w
  have hl : LL W = 257 := by rw [hLL]; exact (digE_nil hd).2
  have k1 : cm .eql (EE W) 0 = true := by rw [hcm, hEE, (digE_nil hd).1]; rfl
  have k2 : cm .eql (VE 257) 0 = true := by rw [hcm, hVE, val_257]; rfl
  have k3 : cm .eql (Int.ofNat (LL W)) 257 = true := by rw [hcm, hl]; rfl
  have k4 : eq 32 (VA 257 (DD a W)) (CU a) = true := by rw [heq, hVA, hDD, hCU, worth_of ha hd]; exact eqA_self _ _
  clear hVA hVE hDD hCU hEE hLL
  refine ⟨?_⟩
  cbv
  refine ⟨⟨Nat.le_refl _⟩, ?_⟩
  show (match (match (match cm .eql (EE (bi .add .i64 2 (bi .rem .i64 (bi .add .i64 (bi .rem .i64 w 7) 7) 7))) 0 with | true => cm .eql (VE (LL (bi .add .i64 2 (bi .rem .i64 (bi .add .i64 (bi .rem .i64 w 7) 7) 7)))) 0 | false => false) with | true => cm .eql (Int.ofNat (LL (bi .add .i64 2 (bi .rem .i64 (bi .add .i64 (bi .rem .i64 w 7) 7) 7)))) 257 | false => false) with | true => eq 32 (VA (LL (bi .add .i64 2 (bi .rem .i64 (bi .add .i64 (bi .rem .i64 w 7) 7) 7))) (fun j => DD a (bi .add .i64 2 (bi .rem .i64 (bi .add .i64 (bi .rem .i64 w 7) 7) 7)) (0 + j))) (CU a) | false => false) = true
  rw [zero_off, ← hW, k1, k3, hl, k2, k4]

theorem ok_law_sworth : Sound Tryd.prog G_sworth 13 (boolAIC fun _ _ => true) := by
  refine sound_sym (n := 41) (rs := [.tmp 4]) (sc := sc_law_sworth.1) mixed Tryd.func13 rfl rfl rfl rfl sc_law_sworth.2 ?_
  intro vs cs r h
  unfold boolAIC at h
  split at h
  · rename_i a w
    cases h
    exact ⟨by simp, fun hcs hwf => ⟨_, envOK tabOK ((.cons (ok_sdigits G_sworth) (.cons (ok_svalue.sub (sub_of (by decide))) (.cons (ok_cut.sub (sub_of (by decide))) .nil)))), rfl, walk_law_sworth realOps rfl a w.val (isB (hwf _ (by simp))) _ rfl _ rfl _ rfl _ rfl _ rfl _ rfl ⟩⟩
  · cases h
end Go.Proofs.YtfpeolihnaeolaaDoor
