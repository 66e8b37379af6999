/-
  The document's products, sums and differences of 32 bytes.
-/
import Derived.Test.YtnfbjfbndnmhmaaDoorZRefQT
import Derived.Test.YtnfbjfbndnmhmaaDoorZRefQD
import Derived.Test.YtnfbjfbndnmhmaaDoorZMA
namespace Go.Proofs.YtnfbjfbndnmhmaaDoor
open Go Go.Proofs Sx
set_option maxRecDepth 100000
set_option maxHeartbeats 4000000
set_option linter.unusedVariables false
set_option linter.unusedSimpArgs false

def sc_qmulB : { c : SC // strip (body Tryd.f19) = c } := ⟨_, by cbv⟩
theorem walk_qmulB (A : Ops) (hA : A = realOps) (a : Nat → Int) (b : Nat → Int)  (FR : (Nat → Int) → Nat → Int) (hFR : FR = fun a => nb (fe a)) (OP : (Nat → Int) → (Nat → Int) → Nat → Int) (hOP : OP = fun a b => nb (nv a * nv b)) (BY : (Nat → Int) → Nat → Int) (hBY : BY = fun n => byt (V16 n)) (R : (Nat → Int) → (Nat → Int) → Nat → Int) (hR : R = fun a b => fb (fe a * fe b))  :
    Walk (mkEnv A tab.1 Gqprime [(49, qrawC FR), (53, qbinC OP), (42, qbytesC BY)] []) sc_qmulB.1 17 [.cell 4 22] [.arr .u8 32 a, .arr .u8 32 b] (.arr .u8 32 (R a b)) := by
  obtain ⟨bi, cm, un, cv, na, eq⟩ := A
  have hbi : bi = realBin := congrArg Ops.bin hA
  have hcm : cm = realCmp := congrArg Ops.cmp hA
  have hna : na = Int.toNat := congrArg Ops.nat hA
  have hcv : cv = fun k n => k.wrap n := congrArg Ops.cnv hA
  have heq : eq = realEqA := congrArg Ops.eqA hA
  clear hA
  have n1 : ∀ a, Num16 (FR a) := by intro a; rw [hFR]; exact num16_nb _
  have n2 : ∀ a b, Num16 (OP a b) := by intro a b; rw [hOP]; exact num16_nb _
  have en : ∀ i, BY (OP (FR a) (FR b)) i = R a b i := by
    intro i
    rw [hBY, hOP, hFR, hR]
    dsimp only
    rw [V16_nb, nv_nb, nv_nb]
    rfl
  refine ⟨?_⟩
  cbv
  exact ⟨n1 a, n1 b, n2 _ _, fun i _ => en i⟩

theorem ok_qmulB : Sound Tryd.prog Gqprime 19 (bin32C (fun a b => fb (fe a * fe b))) := by
  refine sound_each (n := 17) (rs := [.cell 4 22]) (sc := sc_qmulB.1) mixed Tryd.func19 rfl rfl rfl rfl sc_qmulB.2 ?_
  intro vs cs r h
  unfold bin32C at h
  split at h
  · rename_i a b
    cases h
    exact ⟨by simp, fun hcs hwf => ⟨_, envOK tabOK ((.cons (ok_qfrom) (.cons (ok_qtimes) (.cons (ok_qbytes Gqprime) .nil)))), rfl, walk_qmulB realOps rfl a b  _ rfl _ rfl _ rfl _ rfl ⟩⟩
  · cases h
def sc_qaddB : { c : SC // strip (body Tryd.f23) = c } := ⟨_, by cbv⟩
theorem walk_qaddB (A : Ops) (hA : A = realOps) (a : Nat → Int) (b : Nat → Int)  (FR : (Nat → Int) → Nat → Int) (hFR : FR = fun a => nb (fe a)) (OP : (Nat → Int) → (Nat → Int) → Nat → Int) (hOP : OP = fun a b => nb (nv a + nv b)) (BY : (Nat → Int) → Nat → Int) (hBY : BY = fun n => byt (V16 n)) (R : (Nat → Int) → (Nat → Int) → Nat → Int) (hR : R = fun a b => fb (fe a + fe b))  :
    Walk (mkEnv A tab.1 Gqprime [(49, qrawC FR), (55, qbinC OP), (42, qbytesC BY)] []) sc_qaddB.1 17 [.cell 4 22] [.arr .u8 32 a, .arr .u8 32 b] (.arr .u8 32 (R a b)) := by
  obtain ⟨bi, cm, un, cv, na, eq⟩ := A
  have hbi : bi = realBin := congrArg Ops.bin hA
  have hcm : cm = realCmp := congrArg Ops.cmp hA
  have hna : na = Int.toNat := congrArg Ops.nat hA
  have hcv : cv = fun k n => k.wrap n := congrArg Ops.cnv hA
  have heq : eq = realEqA := congrArg Ops.eqA hA
  clear hA
  have n1 : ∀ a, Num16 (FR a) := by intro a; rw [hFR]; exact num16_nb _
  have n2 : ∀ a b, Num16 (OP a b) := by intro a b; rw [hOP]; exact num16_nb _
  have en : ∀ i, BY (OP (FR a) (FR b)) i = R a b i := by
    intro i
    rw [hBY, hOP, hFR, hR]
    dsimp only
    rw [V16_nb, nv_nb, nv_nb]
    rfl
  refine ⟨?_⟩
  cbv
  exact ⟨n1 a, n1 b, n2 _ _, fun i _ => en i⟩

theorem ok_qaddB : Sound Tryd.prog Gqprime 23 (bin32C (fun a b => fb (fe a + fe b))) := by
  refine sound_each (n := 17) (rs := [.cell 4 22]) (sc := sc_qaddB.1) mixed Tryd.func23 rfl rfl rfl rfl sc_qaddB.2 ?_
  intro vs cs r h
  unfold bin32C at h
  split at h
  · rename_i a b
    cases h
    exact ⟨by simp, fun hcs hwf => ⟨_, envOK tabOK ((.cons (ok_qfrom) (.cons (ok_qplus) (.cons (ok_qbytes Gqprime) .nil)))), rfl, walk_qaddB realOps rfl a b  _ rfl _ rfl _ rfl _ rfl ⟩⟩
  · cases h
def sc_qsubB : { c : SC // strip (body Tryd.f25) = c } := ⟨_, by cbv⟩
theorem walk_qsubB (A : Ops) (hA : A = realOps) (a : Nat → Int) (b : Nat → Int)  (FR : (Nat → Int) → Nat → Int) (hFR : FR = fun a => nb (fe a)) (OP : (Nat → Int) → (Nat → Int) → Nat → Int) (hOP : OP = fun a b => nb (nv a - nv b)) (BY : (Nat → Int) → Nat → Int) (hBY : BY = fun n => byt (V16 n)) (R : (Nat → Int) → (Nat → Int) → Nat → Int) (hR : R = fun a b => fb (fe a - fe b))  :
    Walk (mkEnv A tab.1 Gqprime [(49, qrawC FR), (57, qbinC OP), (42, qbytesC BY)] []) sc_qsubB.1 17 [.cell 4 22] [.arr .u8 32 a, .arr .u8 32 b] (.arr .u8 32 (R a b)) := by
  obtain ⟨bi, cm, un, cv, na, eq⟩ := A
  have hbi : bi = realBin := congrArg Ops.bin hA
  have hcm : cm = realCmp := congrArg Ops.cmp hA
  have hna : na = Int.toNat := congrArg Ops.nat hA
  have hcv : cv = fun k n => k.wrap n := congrArg Ops.cnv hA
  have heq : eq = realEqA := congrArg Ops.eqA hA
  clear hA
  have n1 : ∀ a, Num16 (FR a) := by intro a; rw [hFR]; exact num16_nb _
  have n2 : ∀ a b, Num16 (OP a b) := by intro a b; rw [hOP]; exact num16_nb _
  have en : ∀ i, BY (OP (FR a) (FR b)) i = R a b i := by
    intro i
    rw [hBY, hOP, hFR, hR]
    dsimp only
    rw [V16_nb, nv_nb, nv_nb]
    rfl
  refine ⟨?_⟩
  cbv
  exact ⟨n1 a, n1 b, n2 _ _, fun i _ => en i⟩

theorem ok_qsubB : Sound Tryd.prog Gqprime 25 (bin32C (fun a b => fb (fe a - fe b))) := by
  refine sound_each (n := 17) (rs := [.cell 4 22]) (sc := sc_qsubB.1) mixed Tryd.func25 rfl rfl rfl rfl sc_qsubB.2 ?_
  intro vs cs r h
  unfold bin32C at h
  split at h
  · rename_i a b
    cases h
    exact ⟨by simp, fun hcs hwf => ⟨_, envOK tabOK ((.cons (ok_qfrom) (.cons (ok_qminus) (.cons (ok_qbytes Gqprime) .nil)))), rfl, walk_qsubB realOps rfl a b  _ rfl _ rfl _ rfl _ rfl ⟩⟩
  · cases h
def sc_qsquareB : { c : SC // strip (body Tryd.f21) = c } := ⟨_, by cbv⟩
theorem walk_qsquareB (A : Ops) (hA : A = realOps) (a : Nat → Int)  (QM : (Nat → Int) → (Nat → Int) → Nat → Int) (hQM : QM = fun a b => fb (fe a * fe b)) (R : (Nat → Int) → Nat → Int) (hR : R = fun a => fb (fe a * fe a))  :
    Walk (mkEnv A tab.1 Gqprime [(19, bin32C QM)] []) sc_qsquareB.1 6 [.cell 2 22] [.arr .u8 32 a] (.arr .u8 32 (R a)) := by
  refine ⟨?_⟩
  cbv
  subst hQM hR
  exact fun _ _ => rfl
theorem ok_qsquareB : Sound Tryd.prog Gqprime 21 (un32C (fun a => fb (fe a * fe a))) := by
  refine sound_each (n := 6) (rs := [.cell 2 22]) (sc := sc_qsquareB.1) mixed Tryd.func21 rfl rfl rfl rfl sc_qsquareB.2 ?_
  intro vs cs r h
  unfold un32C at h
  split at h
  · rename_i a
    cases h
    exact ⟨by simp, fun hcs hwf => ⟨_, envOK tabOK ((.cons (ok_qmulB) .nil)), rfl, walk_qsquareB realOps rfl a  _ rfl _ rfl ⟩⟩
  · cases h
end Go.Proofs.YtnfbjfbndnmhmaaDoor
