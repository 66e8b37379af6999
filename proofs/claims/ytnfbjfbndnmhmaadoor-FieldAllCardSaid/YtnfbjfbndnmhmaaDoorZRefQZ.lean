/-
  The document's small questions about 32 bytes, and its batch.
-/
import Derived.Test.YtnfbjfbndnmhmaaDoorZRefQW
import Derived.Test.YtnfbjfbndnmhmaaDoorZNA
namespace Go.Proofs.YtnfbjfbndnmhmaaDoor
open Go Go.Proofs Sx
set_option maxRecDepth 100000
set_option maxHeartbeats 4000000
set_option linter.unusedVariables false
set_option linter.unusedSimpArgs false

def sc_qcanB : { c : SC // strip (body Tryd.f77) = c } := ⟨_, by cbv⟩
theorem walk_qcanB (A : Ops) (hA : A = realOps) (a : Nat → Int) (ha : IsBytes 32 a) (RW : (Nat → Int) → Nat → Int) (hRW : RW = fun a => D16 (num 32 a)) (QP : Nat → Int) (hQP : QP = D16 p25) (BL : (Nat → Int) → (Nat → Int) → Bool) (hBL : BL = below16) (R : (Nat → Int) → Bool) (hR : R = canB)  :
    Walk (mkEnv A tab.1 Gqprime [(65, qrawC RW), (44, qprimeC QP), (71, qbelowC BL)] []) sc_qcanB.1 11 [.tmp 2] [.arr .u8 32 a] (.bool (.sym (R a))) := by
  obtain ⟨bi, cm, un, cv, na, eq⟩ := A
  have hbi : bi = realBin := congrArg Ops.bin hA
  have hcm : cm = realCmp := congrArg Ops.cmp hA
  have hna : na = Int.toNat := congrArg Ops.nat hA
  have hcv : cv = fun k n => k.wrap n := congrArg Ops.cnv hA
  have heq : eq = realEqA := congrArg Ops.eqA hA
  clear hA
  have n1 : Num16 (RW a) := by rw [hRW]; exact num16_D16 _
  have n2 : Num16 QP := by rw [hQP]; exact num16_D16 _
  have en : BL (RW a) QP = R a := by rw [hBL, hRW, hQP, hR]; exact can_q ha
  clear hRW hQP hBL hR
  refine ⟨?_⟩
  cbv
  exact ⟨n1, n2, en⟩

theorem ok_qcanB : Sound Tryd.prog Gqprime 77 (bool32C canB) := by
  refine sound_each (n := 11) (rs := [.tmp 2]) (sc := sc_qcanB.1) mixed Tryd.func77 rfl rfl rfl rfl sc_qcanB.2 ?_
  intro vs cs r h
  unfold bool32C at h
  split at h
  · rename_i a
    cases h
    exact ⟨by simp, fun hcs hwf => ⟨_, envOK tabOK ((.cons (ok_qraw Gqprime) (.cons (ok_qprime) (.cons (ok_qbelow Gqprime) .nil)))), rfl, walk_qcanB realOps rfl a (isB (hwf _ (by simp))) _ rfl _ rfl _ rfl _ rfl ⟩⟩
  · cases h
def sc_qredB : { c : SC // strip (body Tryd.f78) = c } := ⟨_, by cbv⟩
theorem walk_qredB (A : Ops) (hA : A = realOps) (a : Nat → Int)  (FR : (Nat → Int) → Nat → Int) (hFR : FR = fun a => nb (fe a)) (BY : (Nat → Int) → Nat → Int) (hBY : BY = fun n => byt (V16 n)) (R : (Nat → Int) → Nat → Int) (hR : R = fun a => fb (fe a))  :
    Walk (mkEnv A tab.1 Gqprime [(49, qrawC FR), (42, qbytesC BY)] []) sc_qredB.1 8 [.cell 2 22] [.arr .u8 32 a] (.arr .u8 32 (R a)) := by
  obtain ⟨bi, cm, un, cv, na, eq⟩ := A
  have hbi : bi = realBin := congrArg Ops.bin hA
  have hcm : cm = realCmp := congrArg Ops.cmp hA
  have hna : na = Int.toNat := congrArg Ops.nat hA
  have hcv : cv = fun k n => k.wrap n := congrArg Ops.cnv hA
  have heq : eq = realEqA := congrArg Ops.eqA hA
  clear hA
  have n1 : ∀ a, Num16 (FR a) := by intro a; rw [hFR]; exact num16_nb _
  have en : ∀ i, BY (FR a) i = R a i := by intro i; rw [hBY, hFR, hR]; dsimp only; rw [V16_nb]; rfl
  refine ⟨?_⟩
  cbv
  exact ⟨n1 a, fun i _ => en i⟩

theorem ok_qredB : Sound Tryd.prog Gqprime 78 (un32C (fun a => fb (fe a))) := by
  refine sound_each (n := 8) (rs := [.cell 2 22]) (sc := sc_qredB.1) mixed Tryd.func78 rfl rfl rfl rfl sc_qredB.2 ?_
  intro vs cs r h
  unfold un32C at h
  split at h
  · rename_i a
    cases h
    exact ⟨by simp, fun hcs hwf => ⟨_, envOK tabOK ((.cons (ok_qfrom) (.cons (ok_qbytes Gqprime) .nil))), rfl, walk_qredB realOps rfl a  _ rfl _ rfl _ rfl ⟩⟩
  · cases h
def sc_qeqB : { c : SC // strip (body Tryd.f80) = c } := ⟨_, by cbv⟩
theorem walk_qeqB (A : Ops) (hA : A = realOps) (a : Nat → Int) (b : Nat → Int)  (FR : (Nat → Int) → Nat → Int) (hFR : FR = fun a => nb (fe a)) (SM : (Nat → Int) → (Nat → Int) → Bool) (hSM : SM = realEqA 16) (R : (Nat → Int) → (Nat → Int) → Bool) (hR : R = eqB)  :
    Walk (mkEnv A tab.1 Gqprime [(49, qrawC FR), (68, qsameC SM)] []) sc_qeqB.1 14 [.tmp 4] [.arr .u8 32 a, .arr .u8 32 b] (.bool (.sym (R a b))) := by
  obtain ⟨bi, cm, un, cv, na, eq⟩ := A
  have hbi : bi = realBin := congrArg Ops.bin hA
  have hcm : cm = realCmp := congrArg Ops.cmp hA
  have hna : na = Int.toNat := congrArg Ops.nat hA
  have hcv : cv = fun k n => k.wrap n := congrArg Ops.cnv hA
  have heq : eq = realEqA := congrArg Ops.eqA hA
  clear hA
  have n1 : ∀ a, Num16 (FR a) := by intro a; rw [hFR]; exact num16_nb _
  have en : SM (FR a) (FR b) = R a b := by rw [hSM, hFR, hR]; exact eq_q a b
  clear hFR hSM hR
  refine ⟨?_⟩
  cbv
  exact en

theorem ok_qeqB : Sound Tryd.prog Gqprime 80 (bool232C eqB) := by
  refine sound_each (n := 14) (rs := [.tmp 4]) (sc := sc_qeqB.1) mixed Tryd.func80 rfl rfl rfl rfl sc_qeqB.2 ?_
  intro vs cs r h
  unfold bool232C at h
  split at h
  · rename_i a b
    cases h
    exact ⟨by simp, fun hcs hwf => ⟨_, envOK tabOK ((.cons (ok_qfrom) (.cons (ok_qsame Gqprime) .nil))), rfl, walk_qeqB realOps rfl a b  _ rfl _ rfl _ rfl ⟩⟩
  · cases h
def sc_qoddB : { c : SC // strip (body Tryd.f82) = c } := ⟨_, by cbv⟩
theorem walk_qoddB (A : Ops) (hA : A = realOps) (a : Nat → Int)  (FR : (Nat → Int) → Nat → Int) (hFR : FR = fun a => nb (fe a)) (R : (Nat → Int) → Bool) (hR : R = oddB)  :
    Walk (mkEnv A tab.1 Gqprime [(49, qrawC FR)] []) sc_qoddB.1 10 [.tmp 2] [.arr .u8 32 a] (.bool (.sym (R a))) := by
  obtain ⟨bi, cm, un, cv, na, eq⟩ := A
  have hbi : bi = realBin := congrArg Ops.bin hA
  have hcm : cm = realCmp := congrArg Ops.cmp hA
  have hna : na = Int.toNat := congrArg Ops.nat hA
  have hcv : cv = fun k n => k.wrap n := congrArg Ops.cnv hA
  have heq : eq = realEqA := congrArg Ops.eqA hA
  clear hA
  have en : cm .eql (bi .rem .i64 (FR a 0) 2) 1 = R a := by rw [hcm, hbi, hFR, hR]; exact odd_q a
  clear hFR hR
  refine ⟨?_⟩
  cbv
  exact en

theorem ok_qoddB : Sound Tryd.prog Gqprime 82 (bool32C oddB) := by
  refine sound_each (n := 10) (rs := [.tmp 2]) (sc := sc_qoddB.1) mixed Tryd.func82 rfl rfl rfl rfl sc_qoddB.2 ?_
  intro vs cs r h
  unfold bool32C at h
  split at h
  · rename_i a
    cases h
    exact ⟨by simp, fun hcs hwf => ⟨_, envOK tabOK ((.cons (ok_qfrom) .nil)), rfl, walk_qoddB realOps rfl a  _ rfl _ rfl ⟩⟩
  · cases h
def sc_qnegB : { c : SC // strip (body Tryd.f62) = c } := ⟨_, by cbv⟩
theorem walk_qnegB (A : Ops) (hA : A = realOps) (a : Nat → Int)  (SL : Int → Nat → Int) (hSL : SL = D16) (FR : (Nat → Int) → Nat → Int) (hFR : FR = fun a => nb (fe a)) (OP : (Nat → Int) → (Nat → Int) → Nat → Int) (hOP : OP = fun a b => nb (nv a - nv b)) (BY : (Nat → Int) → Nat → Int) (hBY : BY = fun n => byt (V16 n)) (R : (Nat → Int) → Nat → Int) (hR : R = fun a => fb (- fe a))  :
    Walk (mkEnv A tab.1 Gqprime [(43, qsmallC SL), (49, qrawC FR), (57, qbinC OP), (42, qbytesC BY)] []) sc_qnegB.1 14 [.cell 2 22] [.arr .u8 32 a] (.arr .u8 32 (R a)) := by
  obtain ⟨bi, cm, un, cv, na, eq⟩ := A
  have hbi : bi = realBin := congrArg Ops.bin hA
  have hcm : cm = realCmp := congrArg Ops.cmp hA
  have hna : na = Int.toNat := congrArg Ops.nat hA
  have hcv : cv = fun k n => k.wrap n := congrArg Ops.cnv hA
  have heq : eq = realEqA := congrArg Ops.eqA hA
  clear hA
  have n0 : Num16 (SL 0) := by rw [hSL]; exact num16_D16 _
  have n1 : ∀ a, Num16 (FR a) := by intro a; rw [hFR]; exact num16_nb _
  have n2 : ∀ a b, Num16 (OP a b) := by intro a b; rw [hOP]; exact num16_nb _
  have en : ∀ i, BY (OP (SL 0) (FR a)) i = R a i := by
    intro i
    rw [hBY, hOP, hFR, hSL, hR]
    dsimp only
    rw [V16_nb, nv_nb, nv_D0]
    show fb (0 - fe a) i = fb (-fe a) i
    congr 2
  have o0 : OneDig 0 := ⟨by decide⟩
  clear hSL hFR hOP hBY hR
  refine ⟨?_⟩
  cbv
  exact ⟨o0, n0, n1 a, n2 _ _, fun i _ => en i⟩

theorem ok_qnegB : Sound Tryd.prog Gqprime 62 (un32C (fun a => fb (- fe a))) := by
  refine sound_each (n := 14) (rs := [.cell 2 22]) (sc := sc_qnegB.1) mixed Tryd.func62 rfl rfl rfl rfl sc_qnegB.2 ?_
  intro vs cs r h
  unfold un32C at h
  split at h
  · rename_i a
    cases h
    exact ⟨by simp, fun hcs hwf => ⟨_, envOK tabOK ((.cons (ok_qsmall Gqprime) (.cons (ok_qfrom) (.cons (ok_qminus) (.cons (ok_qbytes Gqprime) .nil))))), rfl, walk_qnegB realOps rfl a  _ rfl _ rfl _ rfl _ rfl _ rfl ⟩⟩
  · cases h
def sc_qbatch : { c : SC // strip (body Tryd.f32) = c } := ⟨_, by cbv⟩
theorem walk_qbatch (A : Ops) (hA : A = realOps) (len : Nat) (cap : Nat) (f : Nat → Int) (hl : Few len) (IV : (Nat → Int) → Nat → Int) (hIV : IV = fun a => fb (zinv (fe a))) (V : (Nat → Int) → Nat → Int) (hV : V = invsF) (I : { i : Nat // i ≤ len } → St) (hI : I = fun i => slots 26 [(0, .xsl .u8 32 (.sym len) (.sym cap) f), (3, .osl .u8 32 (.sym i.1) (V f)), (4, .int .i64 (.sym (Int.ofNat i.1)))]) :
    Walk (mkEnv A tab.1 Gqprime [(17, un32C IV)] [(5, .inv { i : Nat // i ≤ len } I fun i => len - i.1)]) sc_qbatch.1 26 [.tmp 2] [.xsl .u8 32 (.sym len) (.sym cap) f] (.osl .u8 32 (.sym len) (V f)) := by
  obtain ⟨bi, cm, un, cv, na, eq⟩ := A
  have hbi : bi = realBin := congrArg Ops.bin hA
  have hcm : cm = realCmp := congrArg Ops.cmp hA
  have hna : na = Int.toNat := congrArg Ops.nat hA
  have hcv : cv = fun k n => k.wrap n := congrArg Ops.cnv hA
  have heq : eq = realEqA := congrArg Ops.eqA hA
  clear hA
  have hgt : cm .gtr (Int.ofNat len) 256 = false := by
    rw [hcm]
    refine decide_eq_false ?_
    have := hl.h
    simp only [Int.ofNat_eq_natCast]
    omega
  have hlen := hl.h
  have hv : ∀ i j, j < 32 → IV (fun j => f (32 * i + j)) j = V f (32 * i + j) := by
    intro i j hj
    rw [hIV, hV]
    exact (invs_row f i j hj).symm
  clear hIV hV
  refine ⟨?_⟩
  cbv
  refine dead1 (fun h => b_ft2 hgt h) (fun _ => ?_)
  cbv
  refine ⟨⟨⟨0, by omega⟩, ?_⟩, fun i _ => ?_⟩
  · subst hI
    cbv
    exact ⟨fun _ _ => rfl, rfl, trivial⟩
  · subst hI
    cbv
    obtain ⟨i, hi⟩ := i
    refine ⟨fun h => ?_, fun h => ?_⟩
    · cbv
      have hlt : i < len := by
        rw [hcm] at h
        exact Int.ofNat_lt.1 (of_decide_eq_true h)
      have qi : na (Int.ofNat i) = i := by rw [hna]; rfl
      have m32 : (Classical.choice seal_mul).1 (na (Int.ofNat i)) 32 = 32 * i := by rw [choice_mul, qi]; omega
      have m33 : (Classical.choice seal_mul).1 i 32 = i * 32 := choice_mul i 32
      have a1 : (Classical.choice seal_add).1 i 1 = i + 1 := choice_add i 1
      have w0 : Within (Int.ofNat i) len := ⟨by simp only [Int.ofNat_eq_natCast]; omega⟩
      have g32 : FitsMul ((Classical.choice seal_mul).1 (na (Int.ofNat i)) 32) 32 len 32 := ⟨by rw [m32]; omega⟩
      have r0 : RoomFor ((Classical.choice seal_add).1 i 1) 32 := ⟨by rw [a1]; omega⟩
      have e4 : bi .add .i64 (Int.ofNat i) 1 = Int.ofNat (i + 1) := by rw [hbi, add_i64 (by simp only [Int.ofNat_eq_natCast]; omega)]; rfl
      have jn : ∀ j, j < ((Classical.choice seal_add).1 i 1) * 32 → joinF ((Classical.choice seal_mul).1 i 32) (V f) (IV fun j => f ((Classical.choice seal_mul).1 (na (Int.ofNat i)) 32 + j)) j = V f j := by
        intro j hj
        rw [a1] at hj
        rw [m32, m33]
        unfold joinF
        by_cases h2 : j < i * 32
        · rw [if_pos h2]
        · rw [if_neg h2, hv i (j - i * 32) (by omega)]
          congr 1
          omega
      refine ⟨w0, g32, r0, ⟨i + 1, by omega⟩, ?_, by show len - (i + 1) < len - i; omega⟩
      cbv
      exact ⟨fun _ _ => rfl, ⟨a1, jn⟩, e4, trivial⟩
    · cbv
      have hN : i = len := by
        rw [hcm] at h
        have h2 := of_decide_eq_false h
        simp only [Int.ofNat_eq_natCast] at h2
        omega
      exact ⟨hN, fun _ _ => rfl⟩

theorem ok_qbatch : Sound Tryd.prog Gqprime 32 (batchC invsF) := by
  refine sound_each (n := 26) (rs := [.tmp 2]) (sc := sc_qbatch.1) mixed Tryd.func32 rfl rfl rfl rfl sc_qbatch.2 ?_
  intro vs cs r h
  unfold batchC at h
  split at h
  · rename_i len cap f
    cases h
    exact ⟨by simp, fun hcs hwf => ⟨_, envOK tabOK ((.cons (ok_qinvB) .nil)), rfl, walk_qbatch realOps rfl len cap f (hcs _ (by simp)) _ rfl _ rfl _ rfl⟩⟩
  · cases h
theorem walk_qbatchx (A : Ops) (hA : A = realOps) (len : Nat) (cap : Nat) (f : Nat → Int) (hl : Many len)   :
    Walk (mkEnv A tab.1 Gqprime [] []) sc_qbatch.1 26 [.tmp 2] [.xsl .u8 32 (.sym len) (.sym cap) f] (.osl .u8 32 (.sym 0) (fun _ => 0)) := by
  obtain ⟨bi, cm, un, cv, na, eq⟩ := A
  have hbi : bi = realBin := congrArg Ops.bin hA
  have hcm : cm = realCmp := congrArg Ops.cmp hA
  have hna : na = Int.toNat := congrArg Ops.nat hA
  have hcv : cv = fun k n => k.wrap n := congrArg Ops.cnv hA
  have heq : eq = realEqA := congrArg Ops.eqA hA
  clear hA
  have hgt : cm .gtr (Int.ofNat len) 256 = true := by
    rw [hcm]
    refine decide_eq_true ?_
    have := hl.h
    simp only [Int.ofNat_eq_natCast]
    omega
  refine ⟨?_⟩
  cbv
  refine dead2 (fun h => b_tf2 hgt h) (fun _ => ?_)
  cbv
  try exact ⟨rfl, rfl⟩

theorem ok_qbatchx : Sound Tryd.prog Gqprime 32 (batchS) := by
  refine sound_each (n := 26) (rs := [.tmp 2]) (sc := sc_qbatch.1) mixed Tryd.func32 rfl rfl rfl rfl sc_qbatch.2 ?_
  intro vs cs r h
  unfold batchS at h
  split at h
  · rename_i len cap f
    cases h
    exact ⟨by simp, fun hcs hwf => ⟨_, envOK tabOK ( .nil), rfl, walk_qbatchx realOps rfl len cap f (hcs _ (by simp))  ⟩⟩
  · cases h
end Go.Proofs.YtnfbjfbndnmhmaaDoor
