/-
  The document's sums, opposites, products of numbers modulo L.
-/
import Derived.Test.YtbiialpakchjgaaDoorZRefB
import Derived.Test.YtbiialpakchjgaaDoorZMA
namespace Go.Proofs.YtbiialpakchjgaaDoor
open Go Go.Proofs Sx
set_option maxRecDepth 100000
set_option maxHeartbeats 4000000
set_option linter.unusedVariables false
set_option linter.unusedSimpArgs false

def sc_refadd : { c : SC // strip (body Tryd.f13) = c } := ⟨_, by cbv⟩
theorem walk_refadd (A : Ops) (hA : A = realOps) (a : Nat → Int) (b : Nat → Int) (ha : IsBytes 32 a) (hb : IsBytes 32 b) (LI : (Nat → Int) → Nat → Int) (hLI : LI = fun a => a) (AF : Nat → (Nat → Int) → Nat → (Nat → Int) → Nat → Int) (hAF : AF = addedF) (RS : Nat → (Nat → Int) → Nat → Int) (hRS : RS = fun n b => sb (sn n b)) (R : (Nat → Int) → (Nat → Int) → Nat → Int) (hR : R = fun f g => sb (se f + se g))  :
    Walk (mkEnv A tab.1 Grord [(26, listC LI), (29, addedC AF), (25, restC RS)] []) sc_refadd.1 11 [.cell 4 24] [.arr .u8 32 a, .arr .u8 32 b] (.arr .u8 32 (R a b)) := by
  refine ⟨?_⟩
  cbv
  refine ⟨⟨by decide⟩, ⟨by decide⟩, ⟨by decide⟩, fun k _ => ?_⟩
  show RS 33 (AF 32 (LI a) 32 (LI b)) k = R a b k
  rw [hRS, hAF, hLI, hR]
  exact congrFun (ref_add ha hb) k

theorem ok_refadd : Sound Tryd.prog Grord 13 (bin32C (fun f g => sb (se f + se g))) := by
  refine sound_each (n := 11) (rs := [.cell 4 24]) (sc := sc_refadd.1) mixed Tryd.func13 rfl rfl rfl rfl sc_refadd.2 ?_
  intro vs cs r h
  unfold bin32C at h
  split at h
  · rename_i a b
    cases h
    exact ⟨by simp, fun hcs hwf => ⟨_, envOK tabOK ((.cons (ok_list Grord) (.cons (ok_added Grord) (.cons (ok_rest) .nil)))), rfl, walk_refadd realOps rfl a b (isB (hwf _ (by simp))) (isB (hwf _ (by simp))) _ rfl _ rfl _ rfl _ rfl ⟩⟩
  · cases h
theorem neg_e : ∀ i, i < 32 → upd (fun i => v_rorder.2.2.getD i 0) 0 (realBin .sub .u8 (v_rorder.2.2.getD 0 0) 1) i = byt (lI - 1) i := by decide +kernel
def sc_refneg : { c : SC // strip (body Tryd.f15) = c } := ⟨_, by cbv⟩
theorem walk_refneg (A : Ops) (hA : A = realOps) (a : Nat → Int) (ha : IsBytes 32 a) (LI : (Nat → Int) → Nat → Int) (hLI : LI = fun a => a) (PF : Nat → (Nat → Int) → Nat → (Nat → Int) → Nat → Int) (hPF : PF = productF) (RS : Nat → (Nat → Int) → Nat → Int) (hRS : RS = fun n b => sb (sn n b)) (R : (Nat → Int) → Nat → Int) (hR : R = fun f => sb (- se f))  :
    Walk (mkEnv A tab.1 Grord [(26, listC LI), (31, productC PF), (25, restC RS)] []) sc_refneg.1 15 [.cell 2 24] [.arr .u8 32 a] (.arr .u8 32 (R a)) := by
  refine ⟨?_⟩
  cbv
  refine ⟨⟨by decide⟩, ⟨by decide⟩, ⟨by decide⟩, fun k _ => ?_⟩
  show RS 64 (PF 32 (LI a) 32 (LI (upd (fun i => v_rorder.2.2.getD i 0) 0 (A.bin .sub .u8 (v_rorder.2.2.getD 0 0) 1)))) k = R a k
  rw [hRS, hPF, hLI, hR, hA]
  show sb (sn 64 (productF 32 a 32 (upd (fun i => v_rorder.2.2.getD i 0) 0 (realBin .sub .u8 (v_rorder.2.2.getD 0 0) 1)))) k = sb (- se a) k
  rw [← ref_neg ha]
  unfold productF
  rw [num_congr 32 neg_e]

theorem ok_refneg : Sound Tryd.prog Grord 15 (un32C (fun f => sb (- se f))) := by
  refine sound_each (n := 15) (rs := [.cell 2 24]) (sc := sc_refneg.1) mixed Tryd.func15 rfl rfl rfl rfl sc_refneg.2 ?_
  intro vs cs r h
  unfold un32C at h
  split at h
  · rename_i a
    cases h
    exact ⟨by simp, fun hcs hwf => ⟨_, envOK tabOK ((.cons (ok_list Grord) (.cons (ok_product Grord) (.cons (ok_rest) .nil)))), rfl, walk_refneg realOps rfl a (isB (hwf _ (by simp))) _ rfl _ rfl _ rfl _ rfl ⟩⟩
  · cases h
def sc_refmuladd : { c : SC // strip (body Tryd.f17) = c } := ⟨_, by cbv⟩
theorem walk_refmuladd (A : Ops) (hA : A = realOps) (a : Nat → Int) (b : Nat → Int) (c : Nat → Int) (ha : IsBytes 32 a) (hb : IsBytes 32 b) (hc : IsBytes 32 c) (LI : (Nat → Int) → Nat → Int) (hLI : LI = fun a => a) (PF : Nat → (Nat → Int) → Nat → (Nat → Int) → Nat → Int) (hPF : PF = productF) (AF : Nat → (Nat → Int) → Nat → (Nat → Int) → Nat → Int) (hAF : AF = addedF) (RS : Nat → (Nat → Int) → Nat → Int) (hRS : RS = fun n b => sb (sn n b)) (R : (Nat → Int) → (Nat → Int) → (Nat → Int) → Nat → Int) (hR : R = fun a b c => sb (se a * se b + se c))  :
    Walk (mkEnv A tab.1 Grord [(26, listC LI), (31, productC PF), (29, addedC AF), (25, restC RS)] []) sc_refmuladd.1 18 [.cell 6 24] [.arr .u8 32 a, .arr .u8 32 b, .arr .u8 32 c] (.arr .u8 32 (R a b c)) := by
  refine ⟨?_⟩
  cbv
  refine ⟨⟨by decide⟩, ⟨by decide⟩, ⟨by decide⟩, ⟨by decide⟩, ⟨by decide⟩, fun k _ => ?_⟩
  show RS 65 (AF 64 (fun j => PF 32 (LI a) 32 (LI b) (0 + j)) 32 (LI c)) k = R a b c k
  rw [zero_off, hRS, hAF, hPF, hLI, hR]
  exact congrFun (ref_muladd ha hb hc) k

theorem ok_refmuladd : Sound Tryd.prog Grord 17 (tri32C (fun a b c => sb (se a * se b + se c))) := by
  refine sound_each (n := 18) (rs := [.cell 6 24]) (sc := sc_refmuladd.1) mixed Tryd.func17 rfl rfl rfl rfl sc_refmuladd.2 ?_
  intro vs cs r h
  unfold tri32C at h
  split at h
  · rename_i a b c
    cases h
    exact ⟨by simp, fun hcs hwf => ⟨_, envOK tabOK ((.cons (ok_list Grord) (.cons (ok_product Grord) (.cons (ok_added Grord) (.cons (ok_rest) .nil))))), rfl, walk_refmuladd realOps rfl a b c (isB (hwf _ (by simp))) (isB (hwf _ (by simp))) (isB (hwf _ (by simp))) _ rfl _ rfl _ rfl _ rfl _ rfl ⟩⟩
  · cases h
end Go.Proofs.YtbiialpakchjgaaDoor
