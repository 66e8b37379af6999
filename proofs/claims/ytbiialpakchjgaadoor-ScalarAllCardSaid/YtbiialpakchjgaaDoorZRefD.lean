/-
  The document's order, its canonical numbers, its test of inverses, its clamping.
-/
import Derived.Test.YtbiialpakchjgaaDoorZRefC
import Derived.Test.YtbiialpakchjgaaDoorZScalK
import Derived.Test.YtbiialpakchjgaaDoorZMA
namespace Go.Proofs.YtbiialpakchjgaaDoor
open Go Go.Proofs Sx
set_option maxRecDepth 100000
set_option maxHeartbeats 4000000
set_option linter.unusedVariables false
set_option linter.unusedSimpArgs false

def sc_rorder : { c : SC // strip (body Tryd.f6) = c } := ⟨_, by cbv⟩
theorem walk_rorder (A : Ops) (hA : A = realOps)   (N : Nat → Int) (hN : N = byt lI)  :
    Walk (mkEnv A tab.1 Grord [] []) sc_rorder.1 2 [.cell 0 24] [] (.arr .u8 32 N) := by
  refine ⟨?_⟩
  cbv
  subst hN
  exact order_bytes

theorem ok_rorder : Sound Tryd.prog Grord 6 (primeC (byt lI)) := by
  refine sound_each (n := 2) (rs := [.cell 0 24]) (sc := sc_rorder.1) mixed Tryd.func6 rfl rfl rfl rfl sc_rorder.2 ?_
  intro vs cs r h
  unfold primeC at h
  split at h
  · cases h
    exact ⟨by simp, fun hcs hwf => ⟨_, envOK tabOK ( .nil), rfl, walk_rorder realOps rfl   _ rfl ⟩⟩
  · cases h
def sc_rcanon : { c : SC // strip (body Tryd.f9) = c } := ⟨_, by cbv⟩
theorem walk_rcanon (A : Ops) (hA : A = realOps) (a : Nat → Int) (ha : IsBytes 32 a) (LI : (Nat → Int) → Nat → Int) (hLI : LI = fun a => a) (RS : Nat → (Nat → Int) → Nat → Int) (hRS : RS = fun n b => sb (sn n b)) (R : (Nat → Int) → Bool) (hR : R = canS)  :
    Walk (mkEnv A tab.1 Grord [(26, listC LI), (25, restC RS)] []) sc_rcanon.1 10 [.tmp 2] [.arr .u8 32 a] (.bool (.sym (R a))) := by
  obtain ⟨bi, cm, un, cv, na, eq⟩ := A
  have hbi : bi = realBin := congrArg Ops.bin hA
  have hcm : cm = realCmp := congrArg Ops.cmp hA
  have hna : na = Int.toNat := congrArg Ops.nat hA
  have hcv : cv = fun k n => k.wrap n := congrArg Ops.cnv hA
  have heq : eq = realEqA := congrArg Ops.eqA hA
  clear hA
  have en : eq 32 (RS 32 (LI a)) a = R a := by rw [heq, hRS, hLI, hR]; exact can_r ha
  clear hRS hLI hR
  refine ⟨?_⟩
  cbv
  exact ⟨⟨by decide⟩, en⟩

theorem ok_rcanon : Sound Tryd.prog Grord 9 (bool32C canS) := by
  refine sound_each (n := 10) (rs := [.tmp 2]) (sc := sc_rcanon.1) mixed Tryd.func9 rfl rfl rfl rfl sc_rcanon.2 ?_
  intro vs cs r h
  unfold bool32C at h
  split at h
  · rename_i a
    cases h
    exact ⟨by simp, fun hcs hwf => ⟨_, envOK tabOK ((.cons (ok_list Grord) (.cons (ok_rest) .nil))), rfl, walk_rcanon realOps rfl a (isB (hwf _ (by simp))) _ rfl _ rfl _ rfl ⟩⟩
  · cases h
def sc_risinv : { c : SC // strip (body Tryd.f19) = c } := ⟨_, by cbv⟩
theorem walk_risinv (A : Ops) (hA : A = realOps) (a : Nat → Int) (x : Nat → Int)  (LI : (Nat → Int) → Nat → Int) (hLI : LI = fun a => a) (RS : Nat → (Nat → Int) → Nat → Int) (hRS : RS = fun n b => sb (sn n b)) (CN : (Nat → Int) → Bool) (hCN : CN = canS) (MA : (Nat → Int) → (Nat → Int) → (Nat → Int) → Nat → Int) (hMA : MA = fun a b c => sb (se a * se b + se c)) (R : (Nat → Int) → (Nat → Int) → Bool) (hR : R = isInvF)  :
    Walk (mkEnv A tab.1 Grord [(26, listC LI), (25, restC RS), (9, bool32C CN), (17, tri32C MA)] []) sc_risinv.1 27 [.tmp 4] [.arr .u8 32 a, .arr .u8 32 x] (.bool (.sym (R a x))) := by
  obtain ⟨bi, cm, un, cv, na, eq⟩ := A
  have hbi : bi = realBin := congrArg Ops.bin hA
  have hcm : cm = realCmp := congrArg Ops.cmp hA
  have hna : na = Int.toNat := congrArg Ops.nat hA
  have hcv : cv = fun k n => k.wrap n := congrArg Ops.cnv hA
  have heq : eq = realEqA := congrArg Ops.eqA hA
  clear hA
  have en : R a x = match eq 32 (RS 32 (LI a)) (fun _ => 0) with | true => eq 32 x (fun _ => 0) | false => match CN x with | true => eq 32 (MA a x (fun _ => 0)) (upd (fun _ => 0) 0 1) | false => false := by rw [heq, hRS, hLI, hCN, hMA, hR]; rfl
  clear hRS hLI hCN hMA hR
  refine ⟨?_⟩
  cbv
  refine ⟨⟨by decide⟩, fun h => ?_, fun h => ?_⟩
  · have h2 : eq 32 (RS 32 (LI a)) (fun _ => 0) = true := h
    rw [h2] at en
    cbv
    exact en.symm
  · have h2 : eq 32 (RS 32 (LI a)) (fun _ => 0) = false := h
    rw [h2] at en
    cbv
    exact en.symm

theorem ok_risinv : Sound Tryd.prog Grord 19 (bool232C isInvF) := by
  refine sound_each (n := 27) (rs := [.tmp 4]) (sc := sc_risinv.1) mixed Tryd.func19 rfl rfl rfl rfl sc_risinv.2 ?_
  intro vs cs r h
  unfold bool232C at h
  split at h
  · rename_i a x
    cases h
    exact ⟨by simp, fun hcs hwf => ⟨_, envOK tabOK ((.cons (ok_list Grord) (.cons (ok_rest) (.cons (ok_rcanon) (.cons (ok_refmuladd) .nil))))), rfl, walk_risinv realOps rfl a x  _ rfl _ rfl _ rfl _ rfl _ rfl ⟩⟩
  · cases h
def sc_rclamp : { c : SC // strip (body Tryd.f21) = c } := ⟨_, by cbv⟩
theorem walk_rclamp (A : Ops) (hA : A = realOps) (h : Nat → Int) (hh : IsBytes 32 h) (C : (Nat → Int) → Nat → Int) (hC : C = clampF)  :
    Walk (mkEnv A tab.1 Grord [] []) sc_rclamp.1 16 [.cell 2 24] [.arr .u8 32 h] (.arr .u8 32 (C h)) := by
  obtain ⟨bi, cm, un, cv, na, eq⟩ := A
  have hbi : bi = realBin := congrArg Ops.bin hA
  have hcm : cm = realCmp := congrArg Ops.cmp hA
  have hna : na = Int.toNat := congrArg Ops.nat hA
  have hcv : cv = fun k n => k.wrap n := congrArg Ops.cnv hA
  have heq : eq = realEqA := congrArg Ops.eqA hA
  clear hA
  have e1 : bi .mul .u8 (bi .quo .u8 (h 0) 8) 8 = h 0 / 8 * 8 := by rw [hbi]; exact clamp_q (hh 0 (by decide))
  have e2 : bi .add .u8 (bi .rem .u8 (h 31) 64) 64 = h 31 % 64 + 64 := by rw [hbi]; exact clamp_r (hh 31 (by decide))
  refine ⟨?_⟩
  cbv
  intro i hi
  show upd (upd h 0 (bi .mul .u8 (bi .quo .u8 (h 0) 8) 8)) 31 (bi .add .u8 (bi .rem .u8 (h 31) 64) 64) i = C h i
  rw [e1, e2, hC]
  exact clamp_upd h i

theorem ok_rclamp : Sound Tryd.prog Grord 21 (un32C clampF) := by
  refine sound_each (n := 16) (rs := [.cell 2 24]) (sc := sc_rclamp.1) mixed Tryd.func21 rfl rfl rfl rfl sc_rclamp.2 ?_
  intro vs cs r h
  unfold un32C at h
  split at h
  · rename_i h
    cases h
    exact ⟨by simp, fun hcs hwf => ⟨_, envOK tabOK ( .nil), rfl, walk_rclamp realOps rfl h (isB (hwf _ (by simp))) _ rfl ⟩⟩
  · cases h
end Go.Proofs.YtbiialpakchjgaaDoor
