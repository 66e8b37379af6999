/-
  The document's powers and inverses of 32 bytes.
-/
import Derived.Test.YtnfbjfbndnmhmaaDoorZRefQI
import Derived.Test.YtnfbjfbndnmhmaaDoorZRefQV
import Derived.Test.YtnfbjfbndnmhmaaDoorZMA
namespace Go.Proofs.YtnfbjfbndnmhmaaDoor
open Go Go.Proofs Sx
set_option maxRecDepth 100000
set_option maxHeartbeats 4000000
set_option linter.unusedVariables false
set_option linter.unusedSimpArgs false

def sc_qpowB : { c : SC // strip (body Tryd.f15) = c } := ⟨_, by cbv⟩
theorem walk_qpowB (A : Ops) (hA : A = realOps) (a : Nat → Int) (e : Nat → Int)  (FR : (Nat → Int) → Nat → Int) (hFR : FR = fun a => nb (fe a)) (PW : (Nat → Int) → (Nat → Int) → Nat → Int) (hPW : PW = fun a e => nb (zp (nv a) (num 32 e).toNat)) (BY : (Nat → Int) → Nat → Int) (hBY : BY = fun n => byt (V16 n)) (R : (Nat → Int) → (Nat → Int) → Nat → Int) (hR : R = fun a e => fb (zp (fe a) (num 32 e).toNat))  :
    Walk (mkEnv A tab.1 Gqprime [(49, qrawC FR), (50, qpowC PW), (42, qbytesC BY)] []) sc_qpowB.1 14 [.cell 4 22] [.arr .u8 32 a, .arr .u8 32 e] (.arr .u8 32 (R a e)) := by
  obtain ⟨bi, cm, un, cv, na, eq⟩ := A
  have hbi : bi = realBin := congrArg Ops.bin hA
  have hcm : cm = realCmp := congrArg Ops.cmp hA
  have hna : na = Int.toNat := congrArg Ops.nat hA
  have hcv : cv = fun k n => k.wrap n := congrArg Ops.cnv hA
  have heq : eq = realEqA := congrArg Ops.eqA hA
  clear hA
  have n1 : ∀ a, Num16 (FR a) := by intro a; rw [hFR]; exact num16_nb _
  have n2 : Num16 (PW (FR a) e) := by rw [hPW]; exact num16_nb _
  have en : ∀ i, BY (PW (FR a) e) i = R a e i := by
    intro i
    rw [hBY, hPW, hFR, hR]
    dsimp only
    rw [V16_nb, nv_nb]
    rfl
  refine ⟨?_⟩
  cbv
  exact ⟨n1 a, n2, fun i _ => en i⟩

theorem ok_qpowB : Sound Tryd.prog Gqprime 15 (bin32C (fun a e => fb (zp (fe a) (num 32 e).toNat))) := by
  refine sound_each (n := 14) (rs := [.cell 4 22]) (sc := sc_qpowB.1) mixed Tryd.func15 rfl rfl rfl rfl sc_qpowB.2 ?_
  intro vs cs r h
  unfold bin32C at h
  split at h
  · rename_i a e
    cases h
    exact ⟨by simp, fun hcs hwf => ⟨_, envOK tabOK ((.cons (ok_qfrom) (.cons (ok_qpower) (.cons (ok_qbytes Gqprime) .nil)))), rfl, walk_qpowB realOps rfl a e  _ rfl _ rfl _ rfl _ rfl ⟩⟩
  · cases h
def sc_qinvB : { c : SC // strip (body Tryd.f17) = c } := ⟨_, by cbv⟩
theorem walk_qinvB (A : Ops) (hA : A = realOps) (a : Nat → Int)  (FR : (Nat → Int) → Nat → Int) (hFR : FR = fun a => nb (fe a)) (IV : (Nat → Int) → Nat → Int) (hIV : IV = fun a => nb (zinv (nv a))) (BY : (Nat → Int) → Nat → Int) (hBY : BY = fun n => byt (V16 n)) (R : (Nat → Int) → Nat → Int) (hR : R = fun a => fb (zinv (fe a)))  :
    Walk (mkEnv A tab.1 Gqprime [(49, qrawC FR), (51, qunC IV), (42, qbytesC BY)] []) sc_qinvB.1 11 [.cell 2 22] [.arr .u8 32 a] (.arr .u8 32 (R a)) := by
  obtain ⟨bi, cm, un, cv, na, eq⟩ := A
  have hbi : bi = realBin := congrArg Ops.bin hA
  have hcm : cm = realCmp := congrArg Ops.cmp hA
  have hna : na = Int.toNat := congrArg Ops.nat hA
  have hcv : cv = fun k n => k.wrap n := congrArg Ops.cnv hA
  have heq : eq = realEqA := congrArg Ops.eqA hA
  clear hA
  have n1 : ∀ a, Num16 (FR a) := by intro a; rw [hFR]; exact num16_nb _
  have n2 : Num16 (IV (FR a)) := by rw [hIV]; exact num16_nb _
  have en : ∀ i, BY (IV (FR a)) i = R a i := by
    intro i
    rw [hBY, hIV, hFR, hR]
    dsimp only
    rw [V16_nb, nv_nb]
    rfl
  refine ⟨?_⟩
  cbv
  exact ⟨n1 a, n2, fun i _ => en i⟩

theorem ok_qinvB : Sound Tryd.prog Gqprime 17 (un32C (fun a => fb (zinv (fe a)))) := by
  refine sound_each (n := 11) (rs := [.cell 2 22]) (sc := sc_qinvB.1) mixed Tryd.func17 rfl rfl rfl rfl sc_qinvB.2 ?_
  intro vs cs r h
  unfold un32C at h
  split at h
  · rename_i a
    cases h
    exact ⟨by simp, fun hcs hwf => ⟨_, envOK tabOK ((.cons (ok_qfrom) (.cons (ok_qinverse) (.cons (ok_qbytes Gqprime) .nil)))), rfl, walk_qinvB realOps rfl a  _ rfl _ rfl _ rfl _ rfl ⟩⟩
  · cases h
end Go.Proofs.YtnfbjfbndnmhmaaDoor
