/-
  ScalarValues holds for every input: the walk.
-/
import Derived.Test.YtfpeolihnaeolaaDoorZValA
import Derived.Test.YtfpeolihnaeolaaDoorZValB
namespace Go.Proofs.YtfpeolihnaeolaaDoor
open Go Go.Proofs Sx
set_option maxRecDepth 100000
set_option maxHeartbeats 4000000
set_option linter.unusedVariables false
set_option linter.unusedSimpArgs false

def gl_svalues : GL := [v_rorder, v_mult]
abbrev G_svalues : Nat → AV := lookGL gl_svalues
def sc_law_svalues : { c : SC // strip (body Tryd.f3) = c } := ⟨_, by cbv⟩
theorem walk_law_svalues (A : Ops) (hA : A = realOps) (n : Nat) (ca : SO) (d : Nat → Int) (hd : IsDigs n d) (VA : Nat → (Nat → Int) → Nat → Int) (hVA : VA = valA) (VR : Nat → (Nat → Int) → Nat → Int) (hVR : VR = valA) (VE : Nat → Int) (hVE : VE = valErr 2)  :
    Walk (mkEnv A tab.1 G_svalues [(15, valueC .i64 VA VE), (14, valueC .i64 VR VE)] []) sc_law_svalues.1 41 [.tmp 2] [.xsl .i8 1 (.sym n) ca d] (.bool (.sym true)) := by
  obtain ⟨bi, cm, un, cv, na, eq⟩ := A
  have hbi : bi = realBin := congrArg Ops.bin hA
  have hcm : cm = realCmp := congrArg Ops.cmp hA
  have hna : na = Int.toNat := congrArg Ops.nat hA
  have hcv : cv = fun k n => k.wrap n := congrArg Ops.cnv hA
  have heq : eq = realEqA := congrArg Ops.eqA hA
  clear hA
  have k1 : eq 32 (VA n d) (VR n d) = true := by rw [heq, hVA, hVR]; exact eqA_self _ _
  have k2 : cm .eql (VE n) (VE n) = true := by rw [hcm]; show (VE n == VE n) = true; simp
  have k3 : cm .eql (VE 1) 0 = true := by rw [hcm, hVE, val_one.1]; rfl
  have k4 : cm .eql (VA 1 (upd (fun _ => 0) 0 1) 0) 1 = true := by rw [hcm, hVA, val_one.2]; rfl
  clear hVA hVR hVE
  refine ⟨?_⟩
  cbv
  refine ⟨⟨Nat.le_refl _⟩, ⟨Nat.le_refl _⟩, ?_⟩
  show (match (match (match eq 32 (VA n (fun j => d (0 + j))) (VR n (fun j => d (0 + j))) with | true => cm .eql (VE n) (VE n) | false => false) with | true => cm .eql (VE 1) 0 | false => false) with | true => cm .eql (VA 1 (upd (fun _ => 0) 0 1) 0) 1 | false => false) = true
  rw [zero_off, k1, k2, k3, k4]

theorem ok_law_svalues : Sound Tryd.prog G_svalues 3 (boolLC fun _ _ => true) := by
  refine sound_symx (n := 41) (rs := [.tmp 2]) (sc := sc_law_svalues.1) mixed Tryd.func3 rfl rfl rfl rfl sc_law_svalues.2 ?_
  intro vs cs r h
  unfold boolLC at h
  split at h
  · rename_i len ca d
    cases h
    exact ⟨by simp, fun hcs hwf => ⟨_, envOK tabOK ((.cons (ok_svalue.sub (sub_of (by decide))) (.cons (ok_rvalue.sub (sub_of (by decide))) .nil))), rfl, walk_law_svalues realOps rfl len.val ca d (isX8 (hwf _ (List.mem_cons_self ..))) _ rfl _ rfl _ rfl ⟩⟩
  · cases h
end Go.Proofs.YtfpeolihnaeolaaDoor
