/-
  The field laws' small numbers.
-/
import Derived.Test.YtnfbjfbndnmhmaaDoorZLawF
import Derived.Test.YtnfbjfbndnmhmaaDoorZFieldP
import Derived.Test.YtnfbjfbndnmhmaaDoorZNA
namespace Go.Proofs.YtnfbjfbndnmhmaaDoor
open Go Go.Proofs Sx
set_option maxRecDepth 100000
set_option maxHeartbeats 4000000
set_option linter.unusedVariables false
set_option linter.unusedSimpArgs false

def sc_numberz : { c : SC // strip (body Tryd.f26) = c } := ⟨_, by cbv⟩
theorem walk_numberz (A : Ops) (hA : A = realOps) (G : Nat → AV) (x : Int) (hx : 0 ≤ x ∧ x < 256) (N : Int → Nat → Int) (hN : N = fun x => fb (zi pN x))  :
    Walk (mkEnv A tab.1 G [] []) sc_numberz.1 5 [.cell 2 22] [.int .u8 (.sym x)] (.arr .u8 32 (N x)) := by
  refine ⟨?_⟩
  cbv
  subst hN
  intro i hi
  show upd (fun _ => 0) 0 x i = fb (zi pN x) i
  rw [number_bytes hx i hi, byt_small hx.1 (by have := hx.2; simp only [p25]; omega)]

theorem ok_numberZ (G : Nat → AV) : Sound Tryd.prog G 26 (numberC (fun x => fb (zi pN x))) := by
  refine sound_sym (n := 5) (rs := [.cell 2 22]) (sc := sc_numberz.1) mixed Tryd.func26 rfl rfl rfl rfl sc_numberz.2 ?_
  intro vs cs r h
  unfold numberC at h
  split at h
  · rename_i x
    cases h
    exact ⟨by simp, fun hcs hwf => ⟨_, envOK tabOK ( .nil), rfl, walk_numberz realOps rfl G x.val (inR_u8.1 (hwf (.int .u8 x) (by simp))) _ rfl ⟩⟩
  · cases h
end Go.Proofs.YtnfbjfbndnmhmaaDoor
