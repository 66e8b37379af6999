/-
  Package scalar's calls.
-/
import Derived.Test.YtnbjbamoddmbhaaDoorZScalA
import Derived.Test.YtnbjbamoddmbhaaDoorZMA
namespace Go.Proofs.YtnbjbamoddmbhaaDoor
open Go Go.Proofs Sx
set_option maxRecDepth 100000
set_option maxHeartbeats 4000000
set_option linter.unusedVariables false
set_option linter.unusedSimpArgs false

abbrev Gord : Nat → AV := lookGL [v_order]
def sc_order : { c : SC // strip (body Tryd.f57) = c } := ⟨_, by cbv⟩
theorem walk_order (A : Ops) (hA : A = realOps)   (N : Nat → Int) (hN : N = byt lI)  :
    Walk (mkEnv A tab.1 Gord [] []) sc_order.1 2 [.cell 0 23] [] (.arr .u8 32 N) := by
  refine ⟨?_⟩
  cbv
  subst hN
  exact order_bytes

theorem ok_orderS : Sound Tryd.prog Gord 57 (primeC (byt lI)) := by
  refine sound_each (n := 2) (rs := [.cell 0 23]) (sc := sc_order.1) mixed Tryd.func57 rfl rfl rfl rfl sc_order.2 ?_
  intro vs cs r h
  unfold primeC at h
  split at h
  · cases h
    exact ⟨by simp, fun hcs hwf => ⟨_, envOK tabOK ( .nil), rfl, walk_order realOps rfl   _ rfl ⟩⟩
  · cases h
def sc_sreduce : { c : SC // strip (body Tryd.f58) = c } := ⟨_, by cbv⟩
theorem walk_sreduce (A : Ops) (hA : A = realOps) (f : Nat → Int)  (RE : Nat → (Nat → Int) → Nat → Int) (hRE : RE = redW) (BY : (Nat → Int) → Nat → Int) (hBY : BY = bytesW) (R : (Nat → Int) → Nat → Int) (hR : R = fun f => sb (sn 64 f))  :
    Walk (mkEnv A tab.1 Gmul [(91, redC RE), (92, bytesC BY)] []) sc_sreduce.1 6 [.cell 2 23] [.arr .u8 64 f] (.arr .u8 32 (R f)) := by
  refine ⟨?_⟩
  cbv
  subst hA hRE hBY hR
  exact fun i _ => (congrArg (fun x => bytesW (redW 64 x) i) (zero_off f)).trans (congrFun (bytes_red 64 f) i)

theorem ok_reduceS : Sound Tryd.prog Gmul 58 (un64C (fun f => sb (sn 64 f))) := by
  refine sound_each (n := 6) (rs := [.cell 2 23]) (sc := sc_sreduce.1) mixed Tryd.func58 rfl rfl rfl rfl sc_sreduce.2 ?_
  intro vs cs r h
  unfold un64C at h
  split at h
  · rename_i f
    cases h
    exact ⟨by simp, fun hcs hwf => ⟨_, envOK tabOK ((.cons (ok_wreduced) (.cons (ok_wbytes Gmul) .nil))), rfl, walk_sreduce realOps rfl f  _ rfl _ rfl _ rfl ⟩⟩
  · cases h
end Go.Proofs.YtnbjbamoddmbhaaDoor
