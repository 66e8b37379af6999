/-
  SignNobody holds for every input: the walk.
-/
import Derived.Test.YtncmblldbnlbmaaDoorZSgVV
import Derived.Test.YtncmblldbnlbmaaDoorZNA
namespace Go.Proofs.YtncmblldbnlbmaaDoor
open Go Go.Proofs Sx
set_option maxRecDepth 100000
set_option maxHeartbeats 8000000
theorem sub_g0 : Sub G0 Gsg := fun g => .inl rfl
def sc_nobody : { c : SC // strip (body Tryd.f3) = c } := ⟨_, by cbv⟩
theorem walk_nobody (A : Ops) (hA : A = realOps) (n f : Nat → Int) (m : Nat) (cap : SO) (hn : IsBytes 32 n) (BM : (Nat → Int) → Nat → Int) (hBM : BM = bmulF) (EF : (Nat → Int) → Nat → Int) (hEF : EF = encF) (EX : (Nat → Int) → Int) (hEX : EX = offE) (AD : (Nat → Int) → (Nat → Int) → Nat → Int) (hAD : AD = fun f g => sb (se f + se g)) (ONE : Nat → Int) (hONE : ONE = oneB) (HA : (Nat → Int) → (Nat → Int) → Nat → Int) (hHA : HA = joinF 32) (VF : (Nat → Int) → Nat → (Nat → Int) → (Nat → Int) → Int) (hVF : VF = verF kR) :
    Walk (mkEnv A tab.1 Gsg [(6, ptBC BM), (5, encC EF EX), (7, bin32C AD), (9, sm0C ONE), (10, halC HA), (8, verC VF)] []) sc_nobody.1 44 [.tmp 4] [.arr .u8 32 n, .xsl .u8 1 (.sym m) cap f] (.bool (.sym true)) := by
  obtain ⟨bi, cm, un, cv, na, eq⟩ := A
  have hcm : cm = realCmp := congrArg Ops.cmp hA
  have e1 : cm .eql (EX (BM n)) 0 = true := by rw [hcm, hEX, hBM, off_bmul]; rfl
  have e2 : cm .eql (VF ONE m (fun j => f ((SO.lit 0).val + j)) (HA (EF (BM n)) (AD n fun _ => 0))) 0 = true := by
    rw [hcm, hVF, hONE, hHA, hEF, hBM, hAD]
    show realCmp .eql (verF kR oneB m (fun j => f ((SO.lit 0).val + j)) (joinF 32 (encF (bmulF n)) (sb (se n + se fun _ => 0)))) 0 = true
    rw [nob_00 kR m _ hn]
    rfl
  have e3 : cm .eql (VF ONE m (fun j => f ((SO.lit 0).val + j)) (HA (EF (BM n)) (AD n (upd (fun _ => 0) 0 1)))) 53 = true := by
    rw [hcm, hVF, hONE, hHA, hEF, hBM, hAD]
    show realCmp .eql (verF kR oneB m (fun j => f ((SO.lit 0).val + j)) (joinF 32 (encF (bmulF n)) (sb (se n + se (upd (fun _ => 0) 0 1))))) 53 = true
    rw [nob_53 kR m _ hn]
    rfl
  refine ⟨?_⟩
  cbv
  refine ⟨⟨Nat.le_refl _⟩, ⟨Nat.le_refl _⟩, ?_⟩
  rw [e1, e2, e3]
theorem ok_law_nobody : Sound Tryd.prog Gsg 3 nobC := by
  refine sound_each (n := 44) (rs := [.tmp 4]) (sc := sc_nobody.1) mixed Tryd.func3 rfl rfl rfl rfl sc_nobody.2 ?_
  intro vs cs r h
  unfold nobC at h
  split at h
  · rename_i n m cap f
    cases h
    exact ⟨by simp, fun hcs hwf => ⟨_, envOK tabOK (.cons (ok_ptbmul.sub sub_pt) (.cons (ok_ptenc.sub sub_pt) (.cons (ok_addS32.sub sub_ml) (.cons (ok_sm0.sub sub_g0) (.cons (ok_hal.sub sub_g0) (.cons ok_ver .nil)))))), rfl, walk_nobody realOps rfl n f m cap (isB (hwf _ (by simp))) _ rfl _ rfl _ rfl _ rfl _ rfl _ rfl _ rfl⟩⟩
  · cases h
end Go.Proofs.YtncmblldbnlbmaaDoor
