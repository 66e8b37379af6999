/-
  Package scalar's calls.
-/
import Derived.Test.YtbiialpakchjgaaDoorZScalA
import Derived.Test.YtbiialpakchjgaaDoorZMA
namespace Go.Proofs.YtbiialpakchjgaaDoor
open Go Go.Proofs Sx
set_option maxRecDepth 100000
set_option maxHeartbeats 4000000
set_option linter.unusedVariables false
set_option linter.unusedSimpArgs false

abbrev Gord : Nat → AV := lookGL [v_order]
def sc_order : { c : SC // strip (body Tryd.f5) = c } := ⟨_, by cbv⟩
theorem walk_order (A : Ops) (hA : A = realOps)   (N : Nat → Int) (hN : N = byt lI)  :
    Walk (mkEnv A tab.1 Gord [] []) sc_order.1 2 [.cell 0 24] [] (.arr .u8 32 N) := by
  refine ⟨?_⟩
  cbv
  subst hN
  exact order_bytes

theorem ok_orderS : Sound Tryd.prog Gord 5 (primeC (byt lI)) := by
  refine sound_each (n := 2) (rs := [.cell 0 24]) (sc := sc_order.1) mixed Tryd.func5 rfl rfl rfl rfl sc_order.2 ?_
  intro vs cs r h
  unfold primeC at h
  split at h
  · cases h
    exact ⟨by simp, fun hcs hwf => ⟨_, envOK tabOK ( .nil), rfl, walk_order realOps rfl   _ rfl ⟩⟩
  · cases h
def sc_scanon : { c : SC // strip (body Tryd.f8) = c } := ⟨_, by cbv⟩
theorem walk_scanon (A : Ops) (hA : A = realOps) (f : Nat → Int) (hf : IsBytes 32 f) (RE : Nat → (Nat → Int) → Nat → Int) (hRE : RE = redW) (BY : (Nat → Int) → Nat → Int) (hBY : BY = bytesW) (R : (Nat → Int) → Bool) (hR : R = canS)  :
    Walk (mkEnv A tab.1 Gmul [(23, redC RE), (24, bytesC BY)] []) sc_scanon.1 8 [.tmp 2] [.arr .u8 32 f] (.bool (.sym (R f))) := by
  refine ⟨?_⟩
  cbv
  subst hA hRE hBY hR
  exact (congrArg (fun x => realEqA 32 (bytesW (redW 32 x)) f) (zero_off f)).trans (can_eqS hf)

theorem ok_canonS : Sound Tryd.prog Gmul 8 (bool32C canS) := by
  refine sound_each (n := 8) (rs := [.tmp 2]) (sc := sc_scanon.1) mixed Tryd.func8 rfl rfl rfl rfl sc_scanon.2 ?_
  intro vs cs r h
  unfold bool32C at h
  split at h
  · rename_i f
    cases h
    exact ⟨by simp, fun hcs hwf => ⟨_, envOK tabOK ((.cons (ok_wreduced) (.cons (ok_wbytes Gmul) .nil))), rfl, walk_scanon realOps rfl f (isB (hwf _ (by simp))) _ rfl _ rfl _ rfl ⟩⟩
  · cases h
def sc_sreduce : { c : SC // strip (body Tryd.f10) = c } := ⟨_, by cbv⟩
theorem walk_sreduce (A : Ops) (hA : A = realOps) (f : Nat → Int)  (RE : Nat → (Nat → Int) → Nat → Int) (hRE : RE = redW) (BY : (Nat → Int) → Nat → Int) (hBY : BY = bytesW) (R : (Nat → Int) → Nat → Int) (hR : R = fun f => sb (sn 64 f))  :
    Walk (mkEnv A tab.1 Gmul [(23, redC RE), (24, bytesC BY)] []) sc_sreduce.1 6 [.cell 2 24] [.arr .u8 64 f] (.arr .u8 32 (R f)) := by
  refine ⟨?_⟩
  cbv
  subst hA hRE hBY hR
  exact fun i _ => (congrArg (fun x => bytesW (redW 64 x) i) (zero_off f)).trans (congrFun (bytes_red 64 f) i)

theorem ok_reduceS : Sound Tryd.prog Gmul 10 (un64C (fun f => sb (sn 64 f))) := by
  refine sound_each (n := 6) (rs := [.cell 2 24]) (sc := sc_sreduce.1) mixed Tryd.func10 rfl rfl rfl rfl sc_sreduce.2 ?_
  intro vs cs r h
  unfold un64C at h
  split at h
  · rename_i f
    cases h
    exact ⟨by simp, fun hcs hwf => ⟨_, envOK tabOK ((.cons (ok_wreduced) (.cons (ok_wbytes Gmul) .nil))), rfl, walk_sreduce realOps rfl f  _ rfl _ rfl _ rfl ⟩⟩
  · cases h
def sc_sadd : { c : SC // strip (body Tryd.f12) = c } := ⟨_, by cbv⟩
theorem walk_sadd (A : Ops) (hA : A = realOps) (f : Nat → Int) (g : Nat → Int)  (RE : Nat → (Nat → Int) → Nat → Int) (hRE : RE = redW) (PL : (Nat → Int) → (Nat → Int) → Nat → Int) (hPL : PL = plusW) (FO : (Nat → Int) → Nat → Int) (hFO : FO = foldW) (BY : (Nat → Int) → Nat → Int) (hBY : BY = bytesW) (R : (Nat → Int) → (Nat → Int) → Nat → Int) (hR : R = fun f g => sb (se f + se g))  :
    Walk (mkEnv A tab.1 Gmul [(23, redC RE), (27, lim2C PL), (28, foldC FO), (24, bytesC BY)] []) sc_sadd.1 12 [.cell 4 24] [.arr .u8 32 f, .arr .u8 32 g] (.arr .u8 32 (R f g)) := by
  refine ⟨?_⟩
  cbv
  subst hA hRE hPL hFO hBY hR
  exact ⟨sum_top _ _, fun i _ => congrFun (add_bytes_of (zero_off f) (zero_off g)) i⟩

theorem ok_addS32 : Sound Tryd.prog Gmul 12 (bin32C (fun f g => sb (se f + se g))) := by
  refine sound_each (n := 12) (rs := [.cell 4 24]) (sc := sc_sadd.1) mixed Tryd.func12 rfl rfl rfl rfl sc_sadd.2 ?_
  intro vs cs r h
  unfold bin32C at h
  split at h
  · rename_i f g
    cases h
    exact ⟨by simp, fun hcs hwf => ⟨_, envOK tabOK ((.cons (ok_wreduced) (.cons (ok_wplus Gmul) (.cons (ok_wfold) (.cons (ok_wbytes Gmul) .nil))))), rfl, walk_sadd realOps rfl f g  _ rfl _ rfl _ rfl _ rfl _ rfl ⟩⟩
  · cases h
def sc_sneg : { c : SC // strip (body Tryd.f14) = c } := ⟨_, by cbv⟩
theorem walk_sneg (A : Ops) (hA : A = realOps) (f : Nat → Int)  (RE : Nat → (Nat → Int) → Nat → Int) (hRE : RE = redW) (MI : (Nat → Int) → (Nat → Int) → Nat → Int) (hMI : MI = minusW) (BY : (Nat → Int) → Nat → Int) (hBY : BY = bytesW) (LT : (Nat → Int) → (Nat → Int) → Bool) (hLT : LT = ltW) (R : (Nat → Int) → Nat → Int) (hR : R = fun f => sb (- se f))  :
    Walk (mkEnv A tab.1 Gmul [(23, redC RE), (30, lMinusC MI LT), (24, bytesC BY)] []) sc_sneg.1 19 [.cell 2 24] [.arr .u8 32 f] (.arr .u8 32 (R f)) := by
  obtain ⟨bi, cm, un, cv, na, eq⟩ := A
  have hbi : bi = realBin := congrArg Ops.bin hA
  have hcm : cm = realCmp := congrArg Ops.cmp hA
  have hna : na = Int.toNat := congrArg Ops.nat hA
  have hcv : cv = fun k n => k.wrap n := congrArg Ops.cnv hA
  have heq : eq = realEqA := congrArg Ops.eqA hA
  clear hA
  refine ⟨?_⟩
  cbv
  refine ⟨fun h => ?_, fun h => ?_⟩
  · cbv
    have z := zero_off f
    rw [heq, hRE] at h
    replace h : realEqA 5 (redW 32 fun j => f (0 + j)) (fun _ => 0) = _ := h
    rw [z] at h
    rw [hR]
    exact neg_nil h
  · cbv
    have z := zero_off f
    rw [heq, hRE] at h
    replace h : realEqA 5 (redW 32 fun j => f (0 + j)) (fun _ => 0) = _ := h
    rw [z] at h
    rw [hR, hBY, hMI, hRE]
    exact fun i _ => (congrArg (fun x => bytesW (minusW (fun j => v_mult.2.2.getD (5 + j) 0) (redW 32 x)) i) z).trans (congrFun (neg_more mult_one h) i)

theorem ok_negS : Sound Tryd.prog Gmul 14 (un32C (fun f => sb (- se f))) := by
  refine sound_each (n := 19) (rs := [.cell 2 24]) (sc := sc_sneg.1) mixed Tryd.func14 rfl rfl rfl rfl sc_sneg.2 ?_
  intro vs cs r h
  unfold un32C at h
  split at h
  · rename_i f
    cases h
    exact ⟨by simp, fun hcs hwf => ⟨_, envOK tabOK ((.cons (ok_wreduced) (.cons (ok_wminus Gmul) (.cons (ok_wbytes Gmul) .nil)))), rfl, walk_sneg realOps rfl f  _ rfl _ rfl _ rfl _ rfl _ rfl ⟩⟩
  · cases h
end Go.Proofs.YtbiialpakchjgaaDoor
