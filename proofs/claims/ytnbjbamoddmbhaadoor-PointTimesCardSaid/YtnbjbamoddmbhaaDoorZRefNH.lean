/-
  The document's calls of layer 4: Decode, the base point.
-/
import Derived.Test.YtnbjbamoddmbhaaDoorZRefNG
namespace Go.Proofs.YtnbjbamoddmbhaaDoor
open Go Go.Proofs Sx
set_option maxRecDepth 100000
set_option maxHeartbeats 4000000
set_option linter.unusedVariables false
set_option linter.unusedSimpArgs false

def sc_nDecode : { c : SC // strip (body Tryd.f23) = c } := ⟨_, by cbv⟩
theorem walk_nDecode (A : Ops) (hA : A = realOps) (f : Nat → Int) (hf : IsBytes 32 f) (BT : (Nat → Int) → Int → Int) (hBT : BT = fun b i => bitN (num 32 b) i.toNat) (CA : (Nat → Int) → Bool) (hCA : CA = canB) (RD : (Nat → Int) → Nat → Int) (hRD : RD = rdF) (TM : (Nat → Int) → (Nat → Int) → Nat → Int) (hTM : TM = tmF) (SM : Int → Nat → Int) (hSM : SM = D17) (PL : (Nat → Int) → (Nat → Int) → Nat → Int) (hPL : PL = plF) (MI : (Nat → Int) → (Nat → Int) → Nat → Int) (hMI : MI = mnF) (IV : (Nat → Int) → Nat → Int) (hIV : IV = invQ) (RT : (Nat → Int) → Nat → Int) (hRT : RT = rtQ) (LE : (Nat → Int) → Nat → Int) (hLE : LE = fun a => rb (rz a)) (WR : (Nat → Int) → Nat → Int) (hWR : WR = wrF) (RB : (Nat → Int) → Bool) (hRB : RB = rtB) (R : (Nat → Int) → Nat → Int) (hR : R = decF) (E : (Nat → Int) → Int) (hE : E = decE)  :
    Walk (mkEnv A tab.1 G4d [(66, nBitC BT), (67, n32BC CA), (63, nReadC RD), (68, nBinC TM), (60, nSmallC SM), (69, nBinC PL), (71, nBinC MI), (72, nUnC IV), (70, nRootC RT RB), (73, nUnC LE), (74, nWriteC WR)] []) sc_nDecode.1 66 [.cell 2 27, .tmp 3] [.arr .u8 32 f] (.tup [.arr .u8 64 (R f), .int .i64 (.sym (E f))]) := by
  obtain ⟨bi, cm, un, cv, na, eq⟩ := A
  have hbi : bi = realBin := congrArg Ops.bin hA
  have hcm : cm = realCmp := congrArg Ops.cmp hA
  have hna : na = Int.toNat := congrArg Ops.nat hA
  have hcv : cv = fun k n => k.wrap n := congrArg Ops.cnv hA
  have heq : eq = realEqA := congrArg Ops.eqA hA
  clear hA
  have ed : RD (fun i => v_dbytes.2.2.getD i 0) = dQ := by rw [hRD]; exact rdF_congr d_bytes
  have hy : upd f 31 (bi .and .u8 (f 31) 127) = dcY f := by rw [hbi]; exact dcY_is hf
  have eA : TM (MI (TM (RD (upd f 31 (bi .and .u8 (f 31) 127))) (RD (upd f 31 (bi .and .u8 (f 31) 127)))) (SM 1)) (IV (PL (TM (RD (fun i => v_dbytes.2.2.getD i 0)) (TM (RD (upd f 31 (bi .and .u8 (f 31) 127))) (RD (upd f 31 (bi .and .u8 (f 31) 127))))) (SM 1))) = dcA f := by rw [ed, hTM, hMI, hRD, hSM, hIV, hPL, hy]; rfl
  have eB : BT f 255 = bitN (num 32 f) 255 := by rw [hBT]; rfl
  have eS : SM 0 = D17 0 := by rw [hSM]
  have eR : RB (dcA f) = rtB (dcA f) := by rw [hRB]
  have eL : LE (RT (dcA f)) = rb (rz (rtQ (dcA f))) := by rw [hLE, hRT]
  have n1 : ∀ b, Num17 (RD b) := by intro b; rw [hRD]; exact rdF_num _
  have n2 : ∀ f g, Num17 (TM f g) := by intro f g; rw [hTM]; exact tmF_num _ _
  have n3 : ∀ f g, Num17 (PL f g) := by intro f g; rw [hPL]; exact plF_num _ _
  have n4 : ∀ f g, Num17 (MI f g) := by intro f g; rw [hMI]; exact mnF_num _ _
  have n5 : ∀ x, Num17 (SM x) := by intro x; rw [hSM]; exact num17_D17 _
  have n6 : ∀ f, Num17 (IV f) := by intro f; rw [hIV]; exact invQ_num _
  have n7 : ∀ f, Num17 (RT f) := by intro f; rw [hRT]; exact rtQ_num _
  have n8 : ∀ f, Num17 (LE f) := by intro f; rw [hLE]; exact num17_rb _
  have L := dec_ref hf
  have c40 : CA (upd f 31 (bi .and .u8 (f 31) 127)) = false → (∀ i, i < 64 → 0 = R f i) ∧ 40 = E f ∧ True := by rw [hCA, hR, hE, hy]; exact L.e40
  have c41 : CA (upd f 31 (bi .and .u8 (f 31) 127)) = true → RB (TM (MI (TM (RD (upd f 31 (bi .and .u8 (f 31) 127))) (RD (upd f 31 (bi .and .u8 (f 31) 127)))) (SM 1)) (IV (PL (TM (RD (fun i => v_dbytes.2.2.getD i 0)) (TM (RD (upd f 31 (bi .and .u8 (f 31) 127))) (RD (upd f 31 (bi .and .u8 (f 31) 127))))) (SM 1)))) = false → (∀ i, i < 64 → 0 = R f i) ∧ 41 = E f ∧ True := by rw [eA, hCA, hR, hE, hy, eR]; exact L.e41
  have c42 : CA (upd f 31 (bi .and .u8 (f 31) 127)) = true → RB (TM (MI (TM (RD (upd f 31 (bi .and .u8 (f 31) 127))) (RD (upd f 31 (bi .and .u8 (f 31) 127)))) (SM 1)) (IV (PL (TM (RD (fun i => v_dbytes.2.2.getD i 0)) (TM (RD (upd f 31 (bi .and .u8 (f 31) 127))) (RD (upd f 31 (bi .and .u8 (f 31) 127))))) (SM 1)))) = true → (match eq 17 (LE (RT (TM (MI (TM (RD (upd f 31 (bi .and .u8 (f 31) 127))) (RD (upd f 31 (bi .and .u8 (f 31) 127)))) (SM 1)) (IV (PL (TM (RD (fun i => v_dbytes.2.2.getD i 0)) (TM (RD (upd f 31 (bi .and .u8 (f 31) 127))) (RD (upd f 31 (bi .and .u8 (f 31) 127))))) (SM 1)))))) (SM 0) with | true => cm .eql (BT f 255) 1 | false => false) = true → (∀ i, i < 64 → 0 = R f i) ∧ 42 = E f ∧ True := by
    rw [eA, hCA, hR, hE, hy, eR, eL, eS, eB, heq, hcm]
    intro h h1 h2
    exact L.e42 h h1 (mand_yes h2)
  have cfl : CA (upd f 31 (bi .and .u8 (f 31) 127)) = true → RB (TM (MI (TM (RD (upd f 31 (bi .and .u8 (f 31) 127))) (RD (upd f 31 (bi .and .u8 (f 31) 127)))) (SM 1)) (IV (PL (TM (RD (fun i => v_dbytes.2.2.getD i 0)) (TM (RD (upd f 31 (bi .and .u8 (f 31) 127))) (RD (upd f 31 (bi .and .u8 (f 31) 127))))) (SM 1)))) = true → (match eq 17 (LE (RT (TM (MI (TM (RD (upd f 31 (bi .and .u8 (f 31) 127))) (RD (upd f 31 (bi .and .u8 (f 31) 127)))) (SM 1)) (IV (PL (TM (RD (fun i => v_dbytes.2.2.getD i 0)) (TM (RD (upd f 31 (bi .and .u8 (f 31) 127))) (RD (upd f 31 (bi .and .u8 (f 31) 127))))) (SM 1)))))) (SM 0) with | true => cm .eql (BT f 255) 1 | false => false) = false → cm .neq (bi .rem .i64 (LE (RT (TM (MI (TM (RD (upd f 31 (bi .and .u8 (f 31) 127))) (RD (upd f 31 (bi .and .u8 (f 31) 127)))) (SM 1)) (IV (PL (TM (RD (fun i => v_dbytes.2.2.getD i 0)) (TM (RD (upd f 31 (bi .and .u8 (f 31) 127))) (RD (upd f 31 (bi .and .u8 (f 31) 127))))) (SM 1))))) 0) 2) (BT f 255) = true → (∀ i, i < 64 → splice (splice (fun _ => 0) 0 32 (WR (MI (SM 0) (LE (RT (TM (MI (TM (RD (upd f 31 (bi .and .u8 (f 31) 127))) (RD (upd f 31 (bi .and .u8 (f 31) 127)))) (SM 1)) (IV (PL (TM (RD (fun i => v_dbytes.2.2.getD i 0)) (TM (RD (upd f 31 (bi .and .u8 (f 31) 127))) (RD (upd f 31 (bi .and .u8 (f 31) 127))))) (SM 1))))))))) 32 32 (upd f 31 (bi .and .u8 (f 31) 127)) i = R f i) ∧ 0 = E f ∧ True := by
    rw [eA, hCA, hR, hE, hy, eR, eL, eS, eB, heq, hcm, hbi, hWR, hMI]
    intro h h1 h2 h3
    exact L.flip h h1 (mand_no h2) (neq_yes h3)
  have ckp : CA (upd f 31 (bi .and .u8 (f 31) 127)) = true → RB (TM (MI (TM (RD (upd f 31 (bi .and .u8 (f 31) 127))) (RD (upd f 31 (bi .and .u8 (f 31) 127)))) (SM 1)) (IV (PL (TM (RD (fun i => v_dbytes.2.2.getD i 0)) (TM (RD (upd f 31 (bi .and .u8 (f 31) 127))) (RD (upd f 31 (bi .and .u8 (f 31) 127))))) (SM 1)))) = true → (match eq 17 (LE (RT (TM (MI (TM (RD (upd f 31 (bi .and .u8 (f 31) 127))) (RD (upd f 31 (bi .and .u8 (f 31) 127)))) (SM 1)) (IV (PL (TM (RD (fun i => v_dbytes.2.2.getD i 0)) (TM (RD (upd f 31 (bi .and .u8 (f 31) 127))) (RD (upd f 31 (bi .and .u8 (f 31) 127))))) (SM 1)))))) (SM 0) with | true => cm .eql (BT f 255) 1 | false => false) = false → cm .neq (bi .rem .i64 (LE (RT (TM (MI (TM (RD (upd f 31 (bi .and .u8 (f 31) 127))) (RD (upd f 31 (bi .and .u8 (f 31) 127)))) (SM 1)) (IV (PL (TM (RD (fun i => v_dbytes.2.2.getD i 0)) (TM (RD (upd f 31 (bi .and .u8 (f 31) 127))) (RD (upd f 31 (bi .and .u8 (f 31) 127))))) (SM 1))))) 0) 2) (BT f 255) = false → (∀ i, i < 64 → splice (splice (fun _ => 0) 0 32 (WR (LE (RT (TM (MI (TM (RD (upd f 31 (bi .and .u8 (f 31) 127))) (RD (upd f 31 (bi .and .u8 (f 31) 127)))) (SM 1)) (IV (PL (TM (RD (fun i => v_dbytes.2.2.getD i 0)) (TM (RD (upd f 31 (bi .and .u8 (f 31) 127))) (RD (upd f 31 (bi .and .u8 (f 31) 127))))) (SM 1)))))))) 32 32 (upd f 31 (bi .and .u8 (f 31) 127)) i = R f i) ∧ 0 = E f ∧ True := by
    rw [eA, hCA, hR, hE, hy, eR, eL, eS, eB, heq, hcm, hbi, hWR]
    intro h h1 h2 h3
    exact L.keep h h1 (mand_no h2) (neq_no h3)
  clear L eA eB eS eR eL ed hy hBT hCA hRD hTM hSM hPL hMI hIV hRT hRB hLE hWR hR hE
  refine ⟨?_⟩
  cbv
  refine ⟨⟨by decide, by decide⟩, fun h0 => ?_, fun h0 => ?_⟩
  · cbv
    exact c40 (mnot_yes h0)
  · have h0 := mnot_no h0
    cbv
    repeat (first | refine ⟨n1 _, ?_⟩ | refine ⟨n2 _ _, ?_⟩ | refine ⟨n3 _ _, ?_⟩ | refine ⟨n4 _ _, ?_⟩ | refine ⟨n5 _, ?_⟩ | refine ⟨n6 _, ?_⟩ | refine ⟨⟨by decide, by decide⟩, ?_⟩)
    refine ⟨fun h1 => ?_, fun h1 => ?_⟩
    · have h1 := mnot_yes h1
      cbv
      exact c41 h0 h1
    · have h1 := mnot_no h1
      cbv
      refine ⟨n7 _, ⟨by decide, by decide⟩, fun h2 => ?_, fun h2 => ?_⟩
      · cbv
        exact c42 h0 h1 h2
      · cbv
        refine ⟨fun h3 => ?_, fun h3 => ?_⟩
        · cbv
          refine ⟨⟨by decide, by decide⟩, n5 _, n8 _, n4 _ _, ?_⟩
          exact cfl h0 h1 h2 h3
        · cbv
          refine ⟨n8 _, ?_⟩
          exact ckp h0 h1 h2 h3

theorem ok_nDecode : Sound Tryd.prog G4d 23 (decC decF decE) := by
  refine sound_each (n := 66) (rs := [.cell 2 27, .tmp 3]) (sc := sc_nDecode.1) mixed Tryd.func23 rfl rfl rfl rfl sc_nDecode.2 ?_
  intro vs cs r h
  unfold decC at h
  split at h
  · rename_i f
    cases h
    exact ⟨by simp, fun hcs hwf => ⟨_, envOK tabOK ((.cons ((ok_nbit).sub (sub_of (by decide))) (.cons ((ok_ncanonical).sub (sub_of (by decide))) (.cons ((ok_nread).sub (sub_of (by decide))) (.cons ((ok_ntimes).sub (sub_of (by decide))) (.cons ((ok_nsmall).sub (sub_of (by decide))) (.cons ((ok_nplus).sub (sub_of (by decide))) (.cons ((ok_nminus).sub (sub_of (by decide))) (.cons ((ok_ninverse).sub (sub_of (by decide))) (.cons ((ok_nroot).sub (sub_of (by decide))) (.cons ((ok_nleast).sub (sub_of (by decide))) (.cons ((ok_nwritten).sub (sub_of (by decide))) .nil)))))))))))), rfl, walk_nDecode realOps rfl f (isB (hwf _ (by simp))) _ rfl _ rfl _ rfl _ rfl _ rfl _ rfl _ rfl _ rfl _ rfl _ rfl _ rfl _ rfl _ rfl _ rfl ⟩⟩
  · cases h
def sc_nbase : { c : SC // strip (body Tryd.f61) = c } := ⟨_, by cbv⟩
theorem walk_nbase (A : Ops) (hA : A = realOps)   (SM : Int → Nat → Int) (hSM : SM = D17) (IV : (Nat → Int) → Nat → Int) (hIV : IV = invQ) (TM : (Nat → Int) → (Nat → Int) → Nat → Int) (hTM : TM = tmF) (WR : (Nat → Int) → Nat → Int) (hWR : WR = wrF) (DC : (Nat → Int) → Nat → Int) (hDC : DC = decF) (TA : (Nat → Int) → Nat → Int) (hTA : TA = takQ) (DE : (Nat → Int) → Int) (hDE : DE = decE) (R : Nat → Int) (hR : R = basQ)  :
    Walk (mkEnv A tab.1 G4d [(60, nSmallC SM), (72, nUnC IV), (68, nBinC TM), (74, nWriteC WR), (23, decC DC DE), (80, takC TA)] []) sc_nbase.1 16 [.cell 0 80] [] (.arr .i64 51 R) := by
  obtain ⟨bi, cm, un, cv, na, eq⟩ := A
  have hbi : bi = realBin := congrArg Ops.bin hA
  have hcm : cm = realCmp := congrArg Ops.cmp hA
  have hna : na = Int.toNat := congrArg Ops.nat hA
  have hcv : cv = fun k n => k.wrap n := congrArg Ops.cnv hA
  have heq : eq = realEqA := congrArg Ops.eqA hA
  clear hA
  have n5 : ∀ x, Num17 (SM x) := by intro x; rw [hSM]; exact num17_D17 _
  have n6 : ∀ f, Num17 (IV f) := by intro f; rw [hIV]; exact invQ_num _
  have n2 : ∀ f g, Num17 (TM f g) := by intro f g; rw [hTM]; exact tmF_num _ _
  have en : TA (DC (WR (TM (SM 4) (IV (SM 5))))) = R := by rw [hTA, hDC, hWR, hTM, hSM, hIV, base_dec, hR]; rfl
  clear hTA hDC hWR hTM hSM hIV hR
  refine ⟨?_⟩
  cbv
  refine ⟨⟨by decide, by decide⟩, ⟨by decide, by decide⟩, n5 _, n5 _, n6 _, n2 _ _, fun i _ => congrFun en i⟩

theorem ok_nbase : Sound Tryd.prog G4d 61 (plNC basQ) := by
  refine sound_each (n := 16) (rs := [.cell 0 80]) (sc := sc_nbase.1) mixed Tryd.func61 rfl rfl rfl rfl sc_nbase.2 ?_
  intro vs cs r h
  unfold plNC at h
  split at h
  · cases h
    exact ⟨by simp, fun hcs hwf => ⟨_, envOK tabOK ((.cons ((ok_nsmall).sub (sub_of (by decide))) (.cons ((ok_ninverse).sub (sub_of (by decide))) (.cons ((ok_ntimes).sub (sub_of (by decide))) (.cons ((ok_nwritten).sub (sub_of (by decide))) (.cons (ok_nDecode) (.cons ((ok_ntaken).sub (sub_of (by decide))) .nil))))))), rfl, walk_nbase realOps rfl   _ rfl _ rfl _ rfl _ rfl _ rfl _ rfl _ rfl _ rfl ⟩⟩
  · cases h
def sc_nBase : { c : SC // strip (body Tryd.f20) = c } := ⟨_, by cbv⟩
theorem walk_nBase (A : Ops) (hA : A = realOps)   (BS : Nat → Int) (hBS : BS = basQ) (TO : (Nat → Int) → Nat → Int) (hTO : TO = tolQ) (R : Nat → Int) (hR : R = pb basePt)  :
    Walk (mkEnv A tab.1 G4d [(61, plNC BS), (59, tolC TO)] []) sc_nBase.1 3 [.cell 0 27] [] (.arr .u8 64 R) := by
  obtain ⟨bi, cm, un, cv, na, eq⟩ := A
  have hbi : bi = realBin := congrArg Ops.bin hA
  have hcm : cm = realCmp := congrArg Ops.cmp hA
  have hna : na = Int.toNat := congrArg Ops.nat hA
  have hcv : cv = fun k n => k.wrap n := congrArg Ops.cnv hA
  have heq : eq = realEqA := congrArg Ops.eqA hA
  clear hA
  have n1 : IsPl BS := by rw [hBS]; exact basQ_pl
  refine ⟨?_⟩
  cbv
  refine ⟨n1, fun i _ => ?_⟩
  subst hBS hTO hR
  exact congrFun base_ref i

theorem ok_nBase : Sound Tryd.prog G4d 20 (ptKC (pb basePt)) := by
  refine sound_each (n := 3) (rs := [.cell 0 27]) (sc := sc_nBase.1) mixed Tryd.func20 rfl rfl rfl rfl sc_nBase.2 ?_
  intro vs cs r h
  unfold ptKC at h
  split at h
  · cases h
    exact ⟨by simp, fun hcs hwf => ⟨_, envOK tabOK ((.cons (ok_nbase) (.cons ((ok_ntold).sub (sub_of (by decide))) .nil))), rfl, walk_nBase realOps rfl   _ rfl _ rfl _ rfl ⟩⟩
  · cases h
def sc_nBaseMult : { c : SC // strip (body Tryd.f53) = c } := ⟨_, by cbv⟩
theorem walk_nBaseMult (A : Ops) (hA : A = realOps) (n : Nat → Int) (hn : IsBytes 32 n) (BS : Nat → Int) (hBS : BS = basQ) (MQ : (Nat → Int) → (Nat → Int) → Nat → Int) (hMQ : MQ = mulQ) (TO : (Nat → Int) → Nat → Int) (hTO : TO = tolQ) (R : (Nat → Int) → Nat → Int) (hR : R = bmulF)  :
    Walk (mkEnv A tab.1 G4d [(61, plNC BS), (89, plMC MQ), (59, tolC TO)] []) sc_nBaseMult.1 7 [.cell 2 27] [.arr .u8 32 n] (.arr .u8 64 (R n)) := by
  obtain ⟨bi, cm, un, cv, na, eq⟩ := A
  have hbi : bi = realBin := congrArg Ops.bin hA
  have hcm : cm = realCmp := congrArg Ops.cmp hA
  have hna : na = Int.toNat := congrArg Ops.nat hA
  have hcv : cv = fun k n => k.wrap n := congrArg Ops.cnv hA
  have heq : eq = realEqA := congrArg Ops.eqA hA
  clear hA
  have n1 : IsPl BS := by rw [hBS]; exact basQ_pl
  have n4 : ∀ n f, IsPl (MQ n f) := by intro n f; rw [hMQ]; exact mulQ_pl _ _
  refine ⟨?_⟩
  cbv
  refine ⟨n1, n4 _ _, fun i _ => ?_⟩
  subst hBS hTO hMQ hR
  exact congrFun (bmul_ref hn) i

theorem ok_nBaseMult : Sound Tryd.prog G4d 53 (ptBC bmulF) := by
  refine sound_each (n := 7) (rs := [.cell 2 27]) (sc := sc_nBaseMult.1) mixed Tryd.func53 rfl rfl rfl rfl sc_nBaseMult.2 ?_
  intro vs cs r h
  unfold ptBC at h
  split at h
  · rename_i n
    cases h
    exact ⟨by simp, fun hcs hwf => ⟨_, envOK tabOK ((.cons (ok_nbase) (.cons (ok_nmultiple) (.cons ((ok_ntold).sub (sub_of (by decide))) .nil)))), rfl, walk_nBaseMult realOps rfl n (isB (hwf _ (by simp))) _ rfl _ rfl _ rfl _ rfl ⟩⟩
  · cases h
def sc_nCombine : { c : SC // strip (body Tryd.f55) = c } := ⟨_, by cbv⟩
theorem walk_nCombine (A : Ops) (hA : A = realOps) (n : Nat → Int) (f : Nat → Int) (m : Nat → Int) (hn : IsBytes 32 n) (hf : IsBytes 64 f) (hm : IsBytes 32 m) (ON : (Nat → Int) → Bool) (hON : ON = onB) (TA : (Nat → Int) → Nat → Int) (hTA : TA = takQ) (MQ : (Nat → Int) → (Nat → Int) → Nat → Int) (hMQ : MQ = mulQ) (BS : Nat → Int) (hBS : BS = basQ) (RD : (Nat → Int) → Nat → Int) (hRD : RD = rdF) (SU : (Nat → Int) → (Nat → Int) → (Nat → Int) → Nat → Int) (hSU : SU = sumQ) (TO : (Nat → Int) → Nat → Int) (hTO : TO = tolQ) (R : (Nat → Int) → (Nat → Int) → (Nat → Int) → Nat → Int) (hR : R = combF) (E : (Nat → Int) → Int) (hE : E = offE)  :
    Walk (mkEnv A tab.1 G4d [(27, onPC ON), (80, takC TA), (89, plMC MQ), (61, plNC BS), (63, nReadC RD), (79, sumC3 SU), (59, tolC TO)] []) sc_nCombine.1 27 [.cell 6 27, .tmp 7] [.arr .u8 32 n, .arr .u8 64 f, .arr .u8 32 m] (.tup [.arr .u8 64 (R n f m), .int .i64 (.sym (E f))]) := by
  obtain ⟨bi, cm, un, cv, na, eq⟩ := A
  have hbi : bi = realBin := congrArg Ops.bin hA
  have hcm : cm = realCmp := congrArg Ops.cmp hA
  have hna : na = Int.toNat := congrArg Ops.nat hA
  have hcv : cv = fun k n => k.wrap n := congrArg Ops.cnv hA
  have heq : eq = realEqA := congrArg Ops.eqA hA
  clear hA
  have ed : RD (fun i => v_dbytes.2.2.getD i 0) = dQ := by rw [hRD]; exact rdF_congr d_bytes
  have n1 : ∀ f, IsPl (TA f) := by intro f; rw [hTA]; exact takQ_pl _
  have n3 : Num17 (RD (fun i => v_dbytes.2.2.getD i 0)) := by rw [hRD]; exact rdF_num _
  have n2 : ∀ f g d, IsPl (SU f g d) := by intro f g d; rw [hSU]; exact sumQ_pl _ _ _
  have n4 : ∀ n f, IsPl (MQ n f) := by intro n f; rw [hMQ]; exact mulQ_pl _ _
  have n5 : IsPl BS := by rw [hBS]; exact basQ_pl
  refine ⟨?_⟩
  cbv
  refine ⟨fun h => ?_, fun h => ?_⟩
  · have hh := mnot_yes (a := ON f) h
    rw [hON] at hh
    cbv
    subst hR hE
    exact off_comb hh
  · have hh := mnot_no (a := ON f) h
    rw [hON] at hh
    cbv
    refine ⟨n1 f, n5, n4 _ _, n4 _ _, n3, n2 _ _ _, ?_⟩
    show (∀ i, i < 64 → TO (SU (MQ n (TA f)) (MQ m BS) (RD (fun i => v_dbytes.2.2.getD i 0))) i = R n f m i) ∧ 0 = E f ∧ True
    rw [ed]
    subst hTA hSU hTO hMQ hBS hR hE
    exact ⟨fun i _ => congrFun (comb_ref hn hm hf hh) i, off_on hh, trivial⟩

theorem ok_nCombine : Sound Tryd.prog G4d 55 (ptCC combF offE) := by
  refine sound_each (n := 27) (rs := [.cell 6 27, .tmp 7]) (sc := sc_nCombine.1) mixed Tryd.func55 rfl rfl rfl rfl sc_nCombine.2 ?_
  intro vs cs r h
  unfold ptCC at h
  split at h
  · rename_i n f m
    cases h
    exact ⟨by simp, fun hcs hwf => ⟨_, envOK tabOK ((.cons (ok_nOn) (.cons ((ok_ntaken).sub (sub_of (by decide))) (.cons (ok_nmultiple) (.cons (ok_nbase) (.cons ((ok_nread).sub (sub_of (by decide))) (.cons ((ok_nsum).sub (sub_of (by decide))) (.cons ((ok_ntold).sub (sub_of (by decide))) .nil)))))))), rfl, walk_nCombine realOps rfl n f m (isB (hwf _ (by simp))) (isB64 (hwf _ (by simp))) (isB (hwf _ (by simp))) _ rfl _ rfl _ rfl _ rfl _ rfl _ rfl _ rfl _ rfl _ rfl ⟩⟩
  · cases h
end Go.Proofs.YtnbjbamoddmbhaaDoor
