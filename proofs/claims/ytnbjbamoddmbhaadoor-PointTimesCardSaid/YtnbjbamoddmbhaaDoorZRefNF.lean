/-
  The document's places of layer 4.
-/
import Derived.Test.YtnbjbamoddmbhaaDoorZRefNE
import Derived.Test.YtnbjbamoddmbhaaDoorZPA
namespace Go.Proofs.YtnbjbamoddmbhaaDoor
open Go Go.Proofs Sx
set_option maxRecDepth 100000
set_option maxHeartbeats 4000000
set_option linter.unusedVariables false
set_option linter.unusedSimpArgs false

abbrev G4d : Nat → AV := lookGL [v_dbytes]
theorem d_bytes : ∀ i, i < 32 → (fun i => v_dbytes.2.2.getD i 0) i = fb dZ i := by decide +kernel
def sc_nroot : { c : SC // strip (body Tryd.f70) = c } := ⟨_, by cbv⟩
theorem walk_nroot (A : Ops) (hA : A = realOps) (a : Nat → Int) (ha : Num17 a) (PW : (Nat → Int) → Int → Int → Nat → Int) (hPW : PW = powF) (TM : (Nat → Int) → (Nat → Int) → Nat → Int) (hTM : TM = tmF) (EQ : (Nat → Int) → (Nat → Int) → Bool) (hEQ : EQ = fun a b => decide (rz a = rz b)) (RM : Nat → Int) (hRM : RM = powF (D17 2) 253 4) (R : (Nat → Int) → Nat → Int) (hR : R = rtQ) (E : (Nat → Int) → Bool) (hE : E = rtB)  :
    Walk (mkEnv A tab.1 G4 [(95, nPowC PW), (68, nBinC TM), (62, nEqC EQ), (96, nNilC RM)] []) sc_nroot.1 22 [.cell 2 77, .tmp 3] [.arr .i64 17 a] (.tup [.arr .i64 17 (R a), .bool (.sym (E a))]) := by
  obtain ⟨bi, cm, un, cv, na, eq⟩ := A
  have hbi : bi = realBin := congrArg Ops.bin hA
  have hcm : cm = realCmp := congrArg Ops.cmp hA
  have hna : na = Int.toNat := congrArg Ops.nat hA
  have hcv : cv = fun k n => k.wrap n := congrArg Ops.cnv hA
  have heq : eq = realEqA := congrArg Ops.eqA hA
  clear hA
  have n1 : Num17 (PW a 252 1) := by rw [hPW]; exact powF_num _ _ _
  have n2 : ∀ f g, Num17 (TM f g) := by intro f g; rw [hTM]; exact tmF_num _ _
  have n3 : Num17 RM := by rw [hRM]; exact powF_num _ _ _
  have k1 : EQ (TM (PW a 252 1) (PW a 252 1)) a = true → (∀ i, PW a 252 1 i = R a i) ∧ true = E a := by
    intro h
    rw [hEQ, hTM, hPW] at h
    have h1 := of_decide_eq_true h
    rw [hPW, hR, hE]
    unfold rtB rtQ
    rw [if_pos h1, if_pos h1]
    exact ⟨fun _ => rfl, rfl⟩
  have k2 : EQ (TM (PW a 252 1) (PW a 252 1)) a = false → (∀ i, TM (PW a 252 1) RM i = R a i) ∧ EQ (TM (TM (PW a 252 1) RM) (TM (PW a 252 1) RM)) a = E a := by
    intro h
    rw [hEQ, hTM, hPW] at h
    have h1 := of_decide_eq_false h
    rw [hPW, hR, hE, hTM, hRM, hEQ]
    unfold rtB rtQ
    rw [if_neg h1, if_neg h1]
    exact ⟨fun _ => rfl, rfl⟩
  clear hPW hTM hEQ hRM hR hE
  refine ⟨?_⟩
  cbv
  refine ⟨ha, ⟨by decide, by decide⟩, n1, n1, n2 _ _, ha, fun h => ?_, fun h => ?_⟩
  · have hl := k1 h
    cbv
    exact ⟨fun i _ => hl.1 i, hl.2, trivial⟩
  · have hl := k2 h
    cbv
    exact ⟨n1, n3, n2 _ _, n2 _ _, n2 _ _, ha, fun i _ => hl.1 i, hl.2, trivial⟩

theorem ok_nroot : Sound Tryd.prog G4 70 (nRootC rtQ rtB) := by
  refine sound_each (n := 22) (rs := [.cell 2 77, .tmp 3]) (sc := sc_nroot.1) mixed Tryd.func70 rfl rfl rfl rfl sc_nroot.2 ?_
  intro vs cs r h
  unfold nRootC at h
  split at h
  · rename_i a
    cases h
    exact ⟨by simp, fun hcs hwf => ⟨_, envOK tabOK ((.cons (ok_npower) (.cons (ok_ntimes) (.cons (ok_nequal) (.cons (ok_nrootm) .nil))))), rfl, walk_nroot realOps rfl a ((hcs _ (by simp) : Num17 a)) _ rfl _ rfl _ rfl _ rfl _ rfl _ rfl ⟩⟩
  · cases h
def sc_ncurve : { c : SC // strip (body Tryd.f64) = c } := ⟨_, by cbv⟩
theorem walk_ncurve (A : Ops) (hA : A = realOps)   (SM : Int → Nat → Int) (hSM : SM = D17) (BG : Int → Nat → Int) (hBG : BG = D17) (MI : (Nat → Int) → (Nat → Int) → Nat → Int) (hMI : MI = mnF) (IV : (Nat → Int) → Nat → Int) (hIV : IV = invQ) (TM : (Nat → Int) → (Nat → Int) → Nat → Int) (hTM : TM = tmF) (R : Nat → Int) (hR : R = curQ)  :
    Walk (mkEnv A tab.1 G4 [(60, nSmallC SM), (93, nBigC BG), (71, nBinC MI), (72, nUnC IV), (68, nBinC TM)] []) sc_ncurve.1 9 [.cell 0 77] [] (.arr .i64 17 R) := by
  obtain ⟨bi, cm, un, cv, na, eq⟩ := A
  have hbi : bi = realBin := congrArg Ops.bin hA
  have hcm : cm = realCmp := congrArg Ops.cmp hA
  have hna : na = Int.toNat := congrArg Ops.nat hA
  have hcv : cv = fun k n => k.wrap n := congrArg Ops.cnv hA
  have heq : eq = realEqA := congrArg Ops.eqA hA
  clear hA
  have n1 : ∀ x, Num17 (SM x) := by intro x; rw [hSM]; exact num17_D17 _
  have n2 : ∀ x, Num17 (BG x) := by intro x; rw [hBG]; exact num17_D17 _
  have n3 : ∀ f g, Num17 (MI f g) := by intro f g; rw [hMI]; exact mnF_num _ _
  have n4 : ∀ f, Num17 (IV f) := by intro f; rw [hIV]; exact invQ_num _
  have en : ∀ i, TM (MI (SM 0) (BG 121665)) (IV (BG 121666)) i = R i := by intro i; rw [hTM, hMI, hSM, hBG, hIV, hR]; rfl
  clear hTM hMI hSM hBG hIV hR
  refine ⟨?_⟩
  cbv
  exact ⟨⟨by decide⟩, ⟨by decide⟩, n1 _, n2 _, ⟨by decide⟩, n2 _, n3 _ _, n4 _, fun i _ => en i⟩

theorem ok_ncurve : Sound Tryd.prog G4 64 (nNilC curQ) := by
  refine sound_each (n := 9) (rs := [.cell 0 77]) (sc := sc_ncurve.1) mixed Tryd.func64 rfl rfl rfl rfl sc_ncurve.2 ?_
  intro vs cs r h
  unfold nNilC at h
  split at h
  · cases h
    exact ⟨by simp, fun hcs hwf => ⟨_, envOK tabOK ((.cons (ok_nsmall) (.cons (ok_nbig) (.cons (ok_nminus) (.cons (ok_ninverse) (.cons (ok_ntimes) .nil)))))), rfl, walk_ncurve realOps rfl   _ rfl _ rfl _ rfl _ rfl _ rfl _ rfl ⟩⟩
  · cases h
def sc_ntaken : { c : SC // strip (body Tryd.f80) = c } := ⟨_, by cbv⟩
theorem walk_ntaken (A : Ops) (hA : A = realOps) (p : Nat → Int)  (RD : (Nat → Int) → Nat → Int) (hRD : RD = rdF) (SM : Int → Nat → Int) (hSM : SM = D17) (R : (Nat → Int) → Nat → Int) (hR : R = takQ)  :
    Walk (mkEnv A tab.1 G4 [(63, nReadC RD), (60, nSmallC SM)] []) sc_ntaken.1 11 [.cell 2 80] [.arr .u8 64 p] (.arr .i64 51 (R p)) := by
  refine ⟨?_⟩
  cbv
  subst hRD hSM hR
  exact ⟨⟨by decide⟩, spl3⟩
theorem ok_ntaken : Sound Tryd.prog G4 80 (takC takQ) := by
  refine sound_each (n := 11) (rs := [.cell 2 80]) (sc := sc_ntaken.1) mixed Tryd.func80 rfl rfl rfl rfl sc_ntaken.2 ?_
  intro vs cs r h
  unfold takC at h
  split at h
  · rename_i p
    cases h
    exact ⟨by simp, fun hcs hwf => ⟨_, envOK tabOK ((.cons (ok_nread) (.cons (ok_nsmall) .nil))), rfl, walk_ntaken realOps rfl p  _ rfl _ rfl _ rfl ⟩⟩
  · cases h
def sc_ntold : { c : SC // strip (body Tryd.f59) = c } := ⟨_, by cbv⟩
theorem walk_ntold (A : Ops) (hA : A = realOps) (f : Nat → Int) (hf : IsPl f) (IV : (Nat → Int) → Nat → Int) (hIV : IV = invQ) (TM : (Nat → Int) → (Nat → Int) → Nat → Int) (hTM : TM = tmF) (WR : (Nat → Int) → Nat → Int) (hWR : WR = wrF) (R : (Nat → Int) → Nat → Int) (hR : R = tolQ)  :
    Walk (mkEnv A tab.1 G4 [(72, nUnC IV), (68, nBinC TM), (74, nWriteC WR)] []) sc_ntold.1 18 [.cell 2 27] [.arr .i64 51 f] (.arr .u8 64 (R f)) := by
  obtain ⟨bi, cm, un, cv, na, eq⟩ := A
  have hbi : bi = realBin := congrArg Ops.bin hA
  have hcm : cm = realCmp := congrArg Ops.cmp hA
  have hna : na = Int.toNat := congrArg Ops.nat hA
  have hcv : cv = fun k n => k.wrap n := congrArg Ops.cnv hA
  have heq : eq = realEqA := congrArg Ops.eqA hA
  clear hA
  have h1 := hf.x
  have h2 : Num17 (fun j => f (17 + j)) := hf.y
  have h3 : Num17 (fun j => f (34 + j)) := hf.z
  have n1 : Num17 (IV (fun j => f (34 + j))) := by rw [hIV]; exact invQ_num _
  have n2 : ∀ f g, Num17 (TM f g) := by intro f g; rw [hTM]; exact tmF_num _ _
  have en : ∀ i, i < 64 → splice (splice (fun _ => 0) 0 32 (WR (TM f (IV (fun j => f (34 + j)))))) 32 32 (WR (TM (fun j => f (17 + j)) (IV (fun j => f (34 + j))))) i = R f i := by
    rw [hWR, hTM, hIV, hR]
    have e1 : rz (tmF f (invQ (fun j => f (34 + j)))) = rz f * zinv (rz (nx 34 f)) := by rw [tmF_rz h1 (invQ_num _), invQ_rz h3]; rfl
    have e2 : rz (tmF (fun j => f (17 + j)) (invQ (fun j => f (34 + j)))) = rz (nx 17 f) * zinv (rz (nx 34 f)) := by rw [tmF_rz h2 (invQ_num _), invQ_rz h3]; rfl
    unfold wrF tolQ
    rw [e1, e2]
    exact ptl_is (fun _ _ => rfl) (fun _ _ => rfl)
  clear hWR hTM hIV hR
  refine ⟨?_⟩
  cbv
  exact ⟨h3, h1, n1, n2 _ _, h2, n1, n2 _ _, en⟩

theorem ok_ntold : Sound Tryd.prog G4 59 (tolC tolQ) := by
  refine sound_each (n := 18) (rs := [.cell 2 27]) (sc := sc_ntold.1) mixed Tryd.func59 rfl rfl rfl rfl sc_ntold.2 ?_
  intro vs cs r h
  unfold tolC at h
  split at h
  · rename_i f
    cases h
    exact ⟨by simp, fun hcs hwf => ⟨_, envOK tabOK ((.cons (ok_ninverse) (.cons (ok_ntimes) (.cons (ok_nwritten) .nil)))), rfl, walk_ntold realOps rfl f ((hcs _ (by simp) : IsPl f)) _ rfl _ rfl _ rfl _ rfl ⟩⟩
  · cases h
def sc_nsum : { c : SC // strip (body Tryd.f79) = c } := ⟨_, by cbv⟩
theorem walk_nsum (A : Ops) (hA : A = realOps) (f : Nat → Int) (g : Nat → Int) (d : Nat → Int) (hf : IsPl f) (hg : IsPl g) (hd : Num17 d) (TM : (Nat → Int) → (Nat → Int) → Nat → Int) (hTM : TM = tmF) (PL : (Nat → Int) → (Nat → Int) → Nat → Int) (hPL : PL = plF) (MI : (Nat → Int) → (Nat → Int) → Nat → Int) (hMI : MI = mnF) (R : (Nat → Int) → (Nat → Int) → (Nat → Int) → Nat → Int) (hR : R = sumQ)  :
    Walk (mkEnv A tab.1 G4 [(68, nBinC TM), (69, nBinC PL), (71, nBinC MI)] []) sc_nsum.1 73 [.cell 6 80] [.arr .i64 51 f, .arr .i64 51 g, .arr .i64 17 d] (.arr .i64 51 (R f g d)) := by
  obtain ⟨bi, cm, un, cv, na, eq⟩ := A
  have hbi : bi = realBin := congrArg Ops.bin hA
  have hcm : cm = realCmp := congrArg Ops.cmp hA
  have hna : na = Int.toNat := congrArg Ops.nat hA
  have hcv : cv = fun k n => k.wrap n := congrArg Ops.cnv hA
  have heq : eq = realEqA := congrArg Ops.eqA hA
  clear hA
  have a1 := hf.x
  have a2 : Num17 (fun j => f (17 + j)) := hf.y
  have a3 : Num17 (fun j => f (34 + j)) := hf.z
  have b1 := hg.x
  have b2 : Num17 (fun j => g (17 + j)) := hg.y
  have b3 : Num17 (fun j => g (34 + j)) := hg.z
  have n1 : ∀ f g, Num17 (TM f g) := by intro f g; rw [hTM]; exact tmF_num _ _
  have n2 : ∀ f g, Num17 (PL f g) := by intro f g; rw [hPL]; exact plF_num _ _
  have n3 : ∀ f g, Num17 (MI f g) := by intro f g; rw [hMI]; exact mnF_num _ _
  refine ⟨?_⟩
  cbv
  repeat (first | refine ⟨a1, ?_⟩ | refine ⟨a2, ?_⟩ | refine ⟨a3, ?_⟩ | refine ⟨b1, ?_⟩ | refine ⟨b2, ?_⟩ | refine ⟨b3, ?_⟩ | refine ⟨hd, ?_⟩ | refine ⟨n1 _ _, ?_⟩ | refine ⟨n2 _ _, ?_⟩ | refine ⟨n3 _ _, ?_⟩)
  subst hTM hPL hMI hR
  exact spl3

theorem ok_nsum : Sound Tryd.prog G4 79 (sumC3 sumQ) := by
  refine sound_each (n := 73) (rs := [.cell 6 80]) (sc := sc_nsum.1) mixed Tryd.func79 rfl rfl rfl rfl sc_nsum.2 ?_
  intro vs cs r h
  unfold sumC3 at h
  split at h
  · rename_i f g d
    cases h
    exact ⟨by simp, fun hcs hwf => ⟨_, envOK tabOK ((.cons (ok_ntimes) (.cons (ok_nplus) (.cons (ok_nminus) .nil)))), rfl, walk_nsum realOps rfl f g d ((hcs _ (by simp) : IsPl f)) ((hcs _ (by simp) : IsPl g)) ((hcs _ (by simp) : Num17 d)) _ rfl _ rfl _ rfl _ rfl ⟩⟩
  · cases h
def sc_non : { c : SC // strip (body Tryd.f75) = c } := ⟨_, by cbv⟩
theorem walk_non (A : Ops) (hA : A = realOps) (a : Nat → Int) (b : Nat → Int) (ha : Num17 a) (hb : Num17 b) (TM : (Nat → Int) → (Nat → Int) → Nat → Int) (hTM : TM = tmF) (SM : Int → Nat → Int) (hSM : SM = D17) (RD : (Nat → Int) → Nat → Int) (hRD : RD = rdF) (PL : (Nat → Int) → (Nat → Int) → Nat → Int) (hPL : PL = plF) (MI : (Nat → Int) → (Nat → Int) → Nat → Int) (hMI : MI = mnF) (EQ : (Nat → Int) → (Nat → Int) → Bool) (hEQ : EQ = fun a b => decide (rz a = rz b)) (R : (Nat → Int) → (Nat → Int) → Bool) (hR : R = onQ)  :
    Walk (mkEnv A tab.1 G4d [(68, nBinC TM), (60, nSmallC SM), (63, nReadC RD), (69, nBinC PL), (71, nBinC MI), (62, nEqC EQ)] []) sc_non.1 27 [.tmp 4] [.arr .i64 17 a, .arr .i64 17 b] (.bool (.sym (R a b))) := by
  obtain ⟨bi, cm, un, cv, na, eq⟩ := A
  have hbi : bi = realBin := congrArg Ops.bin hA
  have hcm : cm = realCmp := congrArg Ops.cmp hA
  have hna : na = Int.toNat := congrArg Ops.nat hA
  have hcv : cv = fun k n => k.wrap n := congrArg Ops.cnv hA
  have heq : eq = realEqA := congrArg Ops.eqA hA
  clear hA
  have n1 : ∀ f g, Num17 (TM f g) := by intro f g; rw [hTM]; exact tmF_num _ _
  have n2 : ∀ f g, Num17 (PL f g) := by intro f g; rw [hPL]; exact plF_num _ _
  have n3 : ∀ f g, Num17 (MI f g) := by intro f g; rw [hMI]; exact mnF_num _ _
  have n4 : ∀ x, Num17 (SM x) := by intro x; rw [hSM]; exact num17_D17 _
  have n5 : ∀ b, Num17 (RD b) := by intro b; rw [hRD]; exact rdF_num _
  have en : EQ (MI (TM b b) (TM a a)) (PL (SM 1) (TM (RD (fun i => v_dbytes.2.2.getD i 0)) (TM (TM a a) (TM b b)))) = R a b := by
    have ed : rz (rdF (fun i => v_dbytes.2.2.getD i 0)) = dZ := rd_fb d_bytes
    rw [hEQ, hMI, hTM, hPL, hSM, hRD, hR]
    exact on_ref ha hb ed
  clear hTM hPL hMI hSM hRD hEQ hR
  refine ⟨?_⟩
  cbv
  repeat (first | refine ⟨ha, ?_⟩ | refine ⟨hb, ?_⟩ | refine ⟨n1 _ _, ?_⟩ | refine ⟨n2 _ _, ?_⟩ | refine ⟨n3 _ _, ?_⟩ | refine ⟨n4 _, ?_⟩ | refine ⟨n5 _, ?_⟩ | refine ⟨⟨by decide⟩, ?_⟩)
  exact en

theorem ok_non : Sound Tryd.prog G4d 75 (nEqC onQ) := by
  refine sound_each (n := 27) (rs := [.tmp 4]) (sc := sc_non.1) mixed Tryd.func75 rfl rfl rfl rfl sc_non.2 ?_
  intro vs cs r h
  unfold nEqC at h
  split at h
  · rename_i a b
    cases h
    exact ⟨by simp, fun hcs hwf => ⟨_, envOK tabOK ((.cons ((ok_ntimes).sub (sub_of (by decide))) (.cons ((ok_nsmall).sub (sub_of (by decide))) (.cons ((ok_nread).sub (sub_of (by decide))) (.cons ((ok_nplus).sub (sub_of (by decide))) (.cons ((ok_nminus).sub (sub_of (by decide))) (.cons ((ok_nequal).sub (sub_of (by decide))) .nil))))))), rfl, walk_non realOps rfl a b ((hcs _ (by simp) : Num17 a)) ((hcs _ (by simp) : Num17 b)) _ rfl _ rfl _ rfl _ rfl _ rfl _ rfl _ rfl ⟩⟩
  · cases h
end Go.Proofs.YtnbjbamoddmbhaaDoor
