/-
  The point laws' kit: the document's side.
-/
import Derived.Test.YtnbjbamoddmbhaaDoorZRefNH
import Derived.Test.YtnbjbamoddmbhaaDoorZPA
namespace Go.Proofs.YtnbjbamoddmbhaaDoor
open Go Go.Proofs Sx
set_option maxRecDepth 100000
set_option maxHeartbeats 4000000
set_option linter.unusedVariables false
set_option linter.unusedSimpArgs false

def sc_rnum : { c : SC // strip (body Tryd.f24) = c } := ⟨_, by cbv⟩
theorem walk_rnum (A : Ops) (hA : A = realOps) (x : Int)    :
    Walk (mkEnv A tab.1 G0 [] []) sc_rnum.1 4 [.tmp 2] [.int .i64 (.sym x)] (.int .i64 (.sym x)) := by
  refine ⟨?_⟩
  cbv
  try rfl
theorem ok_rnum : Sound Tryd.prog G0 24 (numI0) := by
  refine sound_sym (n := 4) (rs := [.tmp 2]) (sc := sc_rnum.1) mixed Tryd.func24 rfl rfl rfl rfl sc_rnum.2 ?_
  intro vs cs r h
  unfold numI0 at h
  split at h
  · rename_i x
    cases h
    exact ⟨by simp, fun hcs hwf => ⟨_, envOK tabOK ( .nil), rfl, walk_rnum realOps rfl x.val   ⟩⟩
  · cases h
def sc_ralike : { c : SC // strip (body Tryd.f16) = c } := ⟨_, by cbv⟩
theorem walk_ralike (A : Ops) (hA : A = realOps) (f : Nat → Int) (g : Nat → Int)  (R : (Nat → Int) → (Nat → Int) → Bool) (hR : R = alB)  :
    Walk (mkEnv A tab.1 G0 [] []) sc_ralike.1 17 [.tmp 4] [.arr .u8 64 f, .arr .u8 64 g] (.bool (.sym (R f g))) := by
  obtain ⟨bi, cm, un, cv, na, eq⟩ := A
  have hbi : bi = realBin := congrArg Ops.bin hA
  have hcm : cm = realCmp := congrArg Ops.cmp hA
  have hna : na = Int.toNat := congrArg Ops.nat hA
  have hcv : cv = fun k n => k.wrap n := congrArg Ops.cnv hA
  have heq : eq = realEqA := congrArg Ops.eqA hA
  clear hA
  have e : (match eq 32 f g with | true => eq 32 (fun j => f (32 + j)) (fun j => g (32 + j)) | false => false) = R f g := by rw [heq, hR]; exact alB_is f g
  clear hR
  refine ⟨?_⟩
  cbv
  exact e

theorem ok_ralike : Sound Tryd.prog G0 16 (alikeC alB) := by
  refine sound_each (n := 17) (rs := [.tmp 4]) (sc := sc_ralike.1) mixed Tryd.func16 rfl rfl rfl rfl sc_ralike.2 ?_
  intro vs cs r h
  unfold alikeC at h
  split at h
  · rename_i f g
    cases h
    exact ⟨by simp, fun hcs hwf => ⟨_, envOK tabOK ( .nil), rfl, walk_ralike realOps rfl f g  _ rfl ⟩⟩
  · cases h
def sc_rmine : { c : SC // strip (body Tryd.f25) = c } := ⟨_, by cbv⟩
theorem walk_rmine (A : Ops) (hA : A = realOps) (f : Nat → Int)    :
    Walk (mkEnv A tab.1 G0 [] []) sc_rmine.1 8 [.cell 2 25] [.arr .u8 64 f] (.arr .u8 64 f) := by
  refine ⟨?_⟩
  cbv
  exact mine_is

theorem ok_rmine : Sound Tryd.prog G0 25 (mineC) := by
  refine sound_each (n := 8) (rs := [.cell 2 25]) (sc := sc_rmine.1) mixed Tryd.func25 rfl rfl rfl rfl sc_rmine.2 ?_
  intro vs cs r h
  unfold mineC at h
  split at h
  · rename_i f
    cases h
    exact ⟨by simp, fun hcs hwf => ⟨_, envOK tabOK ( .nil), rfl, walk_rmine realOps rfl f   ⟩⟩
  · cases h
end Go.Proofs.YtnbjbamoddmbhaaDoor
