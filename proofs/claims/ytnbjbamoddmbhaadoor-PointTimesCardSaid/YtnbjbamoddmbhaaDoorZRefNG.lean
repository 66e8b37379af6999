/-
  The document's calls of layer 4.
-/
import Derived.Test.YtnbjbamoddmbhaaDoorZRefNF
import Derived.Test.YtnbjbamoddmbhaaDoorZPA
namespace Go.Proofs.YtnbjbamoddmbhaaDoor
open Go Go.Proofs Sx
set_option maxRecDepth 100000
set_option maxHeartbeats 4000000
set_option linter.unusedVariables false
set_option linter.unusedSimpArgs false

def sc_nmultiple : { c : SC // strip (body Tryd.f89) = c } := ⟨_, by cbv⟩
theorem walk_nmultiple (A : Ops) (hA : A = realOps) (n : Nat → Int) (a : Nat → Int) (hn : IsBytes 32 n) (ha : IsPl a) (SM : Int → Nat → Int) (hSM : SM = D17) (RD : (Nat → Int) → Nat → Int) (hRD : RD = rdF) (SU : (Nat → Int) → (Nat → Int) → (Nat → Int) → Nat → Int) (hSU : SU = sumQ) (BT : (Nat → Int) → Int → Int) (hBT : BT = fun b i => bitN (num 32 b) i.toNat) (R : (Nat → Int) → (Nat → Int) → Nat → Int) (hR : R = mulQ) (XP : Nat → Nat → Int) (hXP : XP = mlQ n a) (IX : Nat → Int) (hIX : IX = fun (k : Nat) => 255 - (k : Int)) (I : { k : Nat // k ≤ 256 } → St) (hI : I = fun k => slots 31 [(2, .own (.arr .u8 32 n)), (3, .own (.arr .i64 51 a)), (4, .own (.arr .i64 51 fun _ => 0)), (5, .own (.arr .i64 17 (RD (fun i => v_dbytes.2.2.getD i 0)))), (6, .own (.arr .i64 51 (XP k.1))), (7, .int .i64 (.sym (IX k.1)))]) :
    Walk (mkEnv A tab.1 G4d [(60, nSmallC SM), (63, nReadC RD), (79, sumC3 SU), (66, nBitC BT)] [(4, .inv { k : Nat // k ≤ 256 } I fun k => 256 - k.1)]) sc_nmultiple.1 31 [.cell 4 80] [.arr .u8 32 n, .arr .i64 51 a] (.arr .i64 51 (R n a)) := by
  obtain ⟨bi, cm, un, cv, na, eq⟩ := A
  have hbi : bi = realBin := congrArg Ops.bin hA
  have hcm : cm = realCmp := congrArg Ops.cmp hA
  have hna : na = Int.toNat := congrArg Ops.nat hA
  have hcv : cv = fun k n => k.wrap n := congrArg Ops.cnv hA
  have heq : eq = realEqA := congrArg Ops.eqA hA
  clear hA
  have ed : RD (fun i => v_dbytes.2.2.getD i 0) = dQ := by rw [hRD]; exact rdF_congr d_bytes
  have n1 : ∀ k, IsPl (XP k) := by intro k; rw [hXP]; exact mlQ_pl _ _ _
  have n2 : ∀ f g d, IsPl (SU f g d) := by intro f g d; rw [hSU]; exact sumQ_pl _ _ _
  have n3 : Num17 (RD (fun i => v_dbytes.2.2.getD i 0)) := by rw [hRD]; exact rdF_num _
  have x0 : ∀ c, pl3 (SM 0) (SM 1) (SM 1) c = XP 0 c := by intro c; rw [hSM, hXP]; rfl
  have ix0 : 255 = IX 0 := by rw [hIX]; rfl
  have ixs : ∀ k, k < 256 → bi .sub .i64 (IX k) 1 = IX (k + 1) := by
    intro k hk
    rw [hIX, hbi, sub_i64 (by dsimp only; omega)]
    dsimp only
    omega
  have ixc : ∀ k, k ≤ 256 → cm .geq (IX k) 0 = decide (k < 256) := by
    intro k hk
    rw [hIX, hcm]
    show decide ((0 : Int) ≤ 255 - (k : Int)) = _
    rw [Bool.eq_iff_iff]
    simp only [decide_eq_true_eq]
    omega
  have ixr : ∀ k, k < 256 → Ix256 (IX k) := by intro k hk; rw [hIX]; exact ⟨by dsimp only; omega⟩
  have bt : ∀ k, k < 256 → cm .eql (BT n (IX k)) 1 = decide (bitN (num 32 n) (255 - k) = 1) := by
    intro k hk
    rw [hBT, hIX, hcm]
    show decide (bitN (num 32 n) (255 - (k : Int)).toNat = 1) = _
    have e : (255 - (k : Int)).toNat = 255 - k := by omega
    rw [e]
  have tT : ∀ k, k < 256 → cm .eql (BT n (IX k)) 1 = true → ∀ c, SU (SU (XP k) (XP k) (RD (fun i => v_dbytes.2.2.getD i 0))) a (RD (fun i => v_dbytes.2.2.getD i 0)) c = XP (k + 1) c := by
    intro k hk h c
    rw [bt k hk] at h
    rw [ed, hSU, hXP]
    simp only [mlQ]
    rw [if_pos (of_decide_eq_true h)]
  have tF : ∀ k, k < 256 → cm .eql (BT n (IX k)) 1 = false → ∀ c, SU (XP k) (XP k) (RD (fun i => v_dbytes.2.2.getD i 0)) c = XP (k + 1) c := by
    intro k hk h c
    rw [bt k hk] at h
    rw [ed, hSU, hXP]
    simp only [mlQ]
    rw [if_neg (of_decide_eq_false h)]
  have te : R n a = XP 256 := by rw [hR, hXP]; rfl
  clear hXP hSU hSM hR hIX hRD hBT bt
  refine ⟨?_⟩
  cbv
  refine ⟨⟨by decide⟩, ⟨by decide⟩, ⟨by decide⟩, ⟨⟨0, Nat.zero_le _⟩, ?_⟩, fun k _ => ?_⟩
  · subst hI
    cbv
    exact ⟨fun _ _ => rfl, fun _ _ => rfl, fun _ _ => rfl, fun _ _ => rfl, fun c hc => (spl3 c hc).trans (x0 c), ix0, trivial⟩
  · subst hI
    obtain ⟨k, hk⟩ := k
    have hc := ixc k hk
    cbv
    refine ⟨fun h => ?_, fun h => ?_⟩
    · have hk2 : k < 256 := by
        have h' : cm .geq (IX k) 0 = true := h
        rw [hc] at h'
        exact of_decide_eq_true h'
      cbv
      refine ⟨n1 k, n1 k, n3, ixr k hk2, fun h2 => ?_, fun h2 => ?_⟩
      · have hl := tT k hk2 h2
        cbv
        refine ⟨n2 _ _ _, ha, n3, ⟨k + 1, by omega⟩, ?_, by show 256 - (k + 1) < 256 - k; omega⟩
        cbv
        exact ⟨fun _ _ => rfl, fun _ _ => rfl, fun _ _ => rfl, fun _ _ => rfl, fun c _ => hl c, ixs k hk2, trivial⟩
      · have hl := tF k hk2 h2
        cbv
        refine ⟨⟨k + 1, by omega⟩, ?_, by show 256 - (k + 1) < 256 - k; omega⟩
        cbv
        exact ⟨fun _ _ => rfl, fun _ _ => rfl, fun _ _ => rfl, fun _ _ => rfl, fun c _ => hl c, ixs k hk2, trivial⟩
    · have hk2 : k = 256 := by
        have h' : cm .geq (IX k) 0 = false := h
        rw [hc] at h'
        have := of_decide_eq_false h'
        omega
      subst hk2
      cbv
      rw [te]
      exact fun _ _ => rfl

theorem ok_nmultiple : Sound Tryd.prog G4d 89 (plMC mulQ) := by
  refine sound_each (n := 31) (rs := [.cell 4 80]) (sc := sc_nmultiple.1) mixed Tryd.func89 rfl rfl rfl rfl sc_nmultiple.2 ?_
  intro vs cs r h
  unfold plMC at h
  split at h
  · rename_i n a
    cases h
    exact ⟨by simp, fun hcs hwf => ⟨_, envOK tabOK ((.cons ((ok_nsmall).sub (sub_of (by decide))) (.cons ((ok_nread).sub (sub_of (by decide))) (.cons ((ok_nsum).sub (sub_of (by decide))) (.cons ((ok_nbit).sub (sub_of (by decide))) .nil))))), rfl, walk_nmultiple realOps rfl n a (isB (hwf _ (by simp))) ((hcs _ (by simp) : IsPl a)) _ rfl _ rfl _ rfl _ rfl _ rfl _ rfl _ rfl _ rfl⟩⟩
  · cases h
def sc_nIdentity : { c : SC // strip (body Tryd.f18) = c } := ⟨_, by cbv⟩
theorem walk_nIdentity (A : Ops) (hA : A = realOps)   (SM : Int → Nat → Int) (hSM : SM = D17) (TO : (Nat → Int) → Nat → Int) (hTO : TO = tolQ) (R : Nat → Int) (hR : R = pb Pt.zero)  :
    Walk (mkEnv A tab.1 G4 [(60, nSmallC SM), (59, tolC TO)] []) sc_nIdentity.1 6 [.cell 0 27] [] (.arr .u8 64 R) := by
  obtain ⟨bi, cm, un, cv, na, eq⟩ := A
  have hbi : bi = realBin := congrArg Ops.bin hA
  have hcm : cm = realCmp := congrArg Ops.cmp hA
  have hna : na = Int.toNat := congrArg Ops.nat hA
  have hcv : cv = fun k n => k.wrap n := congrArg Ops.cnv hA
  have heq : eq = realEqA := congrArg Ops.eqA hA
  clear hA
  have n1 : ∀ x, Num17 (SM x) := by intro x; rw [hSM]; exact num17_D17 _
  refine ⟨?_⟩
  cbv
  refine ⟨⟨by decide⟩, ⟨by decide⟩, ⟨by decide⟩, isPl_spl (n1 _) (n1 _) (n1 _), fun i _ => ?_⟩
  subst hSM hTO hR
  exact congrFun id_ref2 i

theorem ok_nIdentity : Sound Tryd.prog G4 18 (ptKC (pb Pt.zero)) := by
  refine sound_each (n := 6) (rs := [.cell 0 27]) (sc := sc_nIdentity.1) mixed Tryd.func18 rfl rfl rfl rfl sc_nIdentity.2 ?_
  intro vs cs r h
  unfold ptKC at h
  split at h
  · cases h
    exact ⟨by simp, fun hcs hwf => ⟨_, envOK tabOK ((.cons (ok_nsmall) (.cons (ok_ntold) .nil))), rfl, walk_nIdentity realOps rfl   _ rfl _ rfl _ rfl ⟩⟩
  · cases h
def sc_nCurve : { c : SC // strip (body Tryd.f21) = c } := ⟨_, by cbv⟩
theorem walk_nCurve (A : Ops) (hA : A = realOps)   (RD : (Nat → Int) → Nat → Int) (hRD : RD = rdF) (CU : Nat → Int) (hCU : CU = curQ) (EQ : (Nat → Int) → (Nat → Int) → Bool) (hEQ : EQ = fun a b => decide (rz a = rz b))  :
    Walk (mkEnv A tab.1 G4d [(63, nReadC RD), (64, nNilC CU), (62, nEqC EQ)] []) sc_nCurve.1 5 [.tmp 0] [] (.bool (.sym true)) := by
  obtain ⟨bi, cm, un, cv, na, eq⟩ := A
  have hbi : bi = realBin := congrArg Ops.bin hA
  have hcm : cm = realCmp := congrArg Ops.cmp hA
  have hna : na = Int.toNat := congrArg Ops.nat hA
  have hcv : cv = fun k n => k.wrap n := congrArg Ops.cnv hA
  have heq : eq = realEqA := congrArg Ops.eqA hA
  clear hA
  have n1 : Num17 (RD (fun i => v_dbytes.2.2.getD i 0)) := by rw [hRD]; exact rdF_num _
  have n2 : Num17 CU := by rw [hCU]; exact curQ_num
  have en : EQ (RD (fun i => v_dbytes.2.2.getD i 0)) CU = true := by rw [hEQ, hRD, hCU]; exact decide_eq_true ((rd_fb d_bytes).trans curQ_rz.symm)
  clear hRD hCU hEQ
  refine ⟨?_⟩
  cbv
  exact ⟨n1, n2, en⟩

theorem ok_nCurve : Sound Tryd.prog G4d 21 (nTrueC) := by
  refine sound_each (n := 5) (rs := [.tmp 0]) (sc := sc_nCurve.1) mixed Tryd.func21 rfl rfl rfl rfl sc_nCurve.2 ?_
  intro vs cs r h
  unfold nTrueC at h
  split at h
  · cases h
    exact ⟨by simp, fun hcs hwf => ⟨_, envOK tabOK ((.cons ((ok_nread).sub (sub_of (by decide))) (.cons ((ok_ncurve).sub (sub_of (by decide))) (.cons ((ok_nequal).sub (sub_of (by decide))) .nil)))), rfl, walk_nCurve realOps rfl   _ rfl _ rfl _ rfl ⟩⟩
  · cases h
def sc_nOn : { c : SC // strip (body Tryd.f27) = c } := ⟨_, by cbv⟩
theorem walk_nOn (A : Ops) (hA : A = realOps) (f : Nat → Int) (hf : IsBytes 64 f) (CA : (Nat → Int) → Bool) (hCA : CA = canB) (RD : (Nat → Int) → Nat → Int) (hRD : RD = rdF) (OQ : (Nat → Int) → (Nat → Int) → Bool) (hOQ : OQ = onQ) (R : (Nat → Int) → Bool) (hR : R = onB)  :
    Walk (mkEnv A tab.1 G4d [(67, n32BC CA), (63, nReadC RD), (75, nEqC OQ)] []) sc_nOn.1 20 [.tmp 2] [.arr .u8 64 f] (.bool (.sym (R f))) := by
  obtain ⟨bi, cm, un, cv, na, eq⟩ := A
  have hbi : bi = realBin := congrArg Ops.bin hA
  have hcm : cm = realCmp := congrArg Ops.cmp hA
  have hna : na = Int.toNat := congrArg Ops.nat hA
  have hcv : cv = fun k n => k.wrap n := congrArg Ops.cnv hA
  have heq : eq = realEqA := congrArg Ops.eqA hA
  clear hA
  have n1 : ∀ b, Num17 (RD b) := by intro b; rw [hRD]; exact rdF_num _
  refine ⟨?_⟩
  cbv
  refine ⟨fun h => ?_, fun h => ?_⟩
  · cbv
    have hh := mor_yes (a := CA f) (b := CA (nx 32 f)) h
    subst hCA hR
    exact on_ref3 hh
  · cbv
    have hh := mor_no (a := CA f) (b := CA (nx 32 f)) h
    refine ⟨n1 _, n1 _, ?_⟩
    subst hCA hR hRD hOQ
    exact on_ref2 hf hh

theorem ok_nOn : Sound Tryd.prog G4d 27 (onPC onB) := by
  refine sound_each (n := 20) (rs := [.tmp 2]) (sc := sc_nOn.1) mixed Tryd.func27 rfl rfl rfl rfl sc_nOn.2 ?_
  intro vs cs r h
  unfold onPC at h
  split at h
  · rename_i f
    cases h
    exact ⟨by simp, fun hcs hwf => ⟨_, envOK tabOK ((.cons ((ok_ncanonical).sub (sub_of (by decide))) (.cons ((ok_nread).sub (sub_of (by decide))) (.cons (ok_non) .nil)))), rfl, walk_nOn realOps rfl f (isB64 (hwf _ (by simp))) _ rfl _ rfl _ rfl _ rfl ⟩⟩
  · cases h
def sc_nEncode : { c : SC // strip (body Tryd.f29) = c } := ⟨_, by cbv⟩
theorem walk_nEncode (A : Ops) (hA : A = realOps) (f : Nat → Int) (hf : IsBytes 64 f) (ON : (Nat → Int) → Bool) (hON : ON = onB) (BT : (Nat → Int) → Int → Int) (hBT : BT = fun b i => bitN (num 32 b) i.toNat) (R : (Nat → Int) → Nat → Int) (hR : R = encF) (E : (Nat → Int) → Int) (hE : E = offE)  :
    Walk (mkEnv A tab.1 G4d [(27, onPC ON), (66, nBitC BT)] []) sc_nEncode.1 21 [.cell 2 23, .tmp 3] [.arr .u8 64 f] (.tup [.arr .u8 32 (R f), .int .i64 (.sym (E f))]) := by
  obtain ⟨bi, cm, un, cv, na, eq⟩ := A
  have hbi : bi = realBin := congrArg Ops.bin hA
  have hcm : cm = realCmp := congrArg Ops.cmp hA
  have hna : na = Int.toNat := congrArg Ops.nat hA
  have hcv : cv = fun k n => k.wrap n := congrArg Ops.cnv hA
  have heq : eq = realEqA := congrArg Ops.eqA hA
  clear hA
  refine ⟨?_⟩
  cbv
  refine ⟨fun h => ?_, fun h => ?_⟩
  · have hh := mnot_yes (a := ON f) h
    rw [hON] at hh
    cbv
    subst hON hR hE
    exact off_off hh
  · have hh := mnot_no (a := ON f) h
    rw [hON] at hh
    cbv
    subst hON hR hE hBT hbi hcv
    exact ⟨⟨by decide⟩, enc_ref ⟨hh⟩ hf, off_on hh, trivial⟩

theorem ok_nEncode : Sound Tryd.prog G4d 29 (encC encF offE) := by
  refine sound_each (n := 21) (rs := [.cell 2 23, .tmp 3]) (sc := sc_nEncode.1) mixed Tryd.func29 rfl rfl rfl rfl sc_nEncode.2 ?_
  intro vs cs r h
  unfold encC at h
  split at h
  · rename_i f
    cases h
    exact ⟨by simp, fun hcs hwf => ⟨_, envOK tabOK ((.cons (ok_nOn) (.cons ((ok_nbit).sub (sub_of (by decide))) .nil))), rfl, walk_nEncode realOps rfl f (isB64 (hwf _ (by simp))) _ rfl _ rfl _ rfl _ rfl ⟩⟩
  · cases h
def sc_nNeg : { c : SC // strip (body Tryd.f31) = c } := ⟨_, by cbv⟩
theorem walk_nNeg (A : Ops) (hA : A = realOps) (f : Nat → Int) (hf : IsBytes 64 f) (ON : (Nat → Int) → Bool) (hON : ON = onB) (SM : Int → Nat → Int) (hSM : SM = D17) (RD : (Nat → Int) → Nat → Int) (hRD : RD = rdF) (MI : (Nat → Int) → (Nat → Int) → Nat → Int) (hMI : MI = mnF) (WR : (Nat → Int) → Nat → Int) (hWR : WR = wrF) (R : (Nat → Int) → Nat → Int) (hR : R = negF) (E : (Nat → Int) → Int) (hE : E = offE)  :
    Walk (mkEnv A tab.1 G4d [(27, onPC ON), (60, nSmallC SM), (63, nReadC RD), (71, nBinC MI), (74, nWriteC WR)] []) sc_nNeg.1 17 [.cell 2 27, .tmp 3] [.arr .u8 64 f] (.tup [.arr .u8 64 (R f), .int .i64 (.sym (E f))]) := by
  obtain ⟨bi, cm, un, cv, na, eq⟩ := A
  have hbi : bi = realBin := congrArg Ops.bin hA
  have hcm : cm = realCmp := congrArg Ops.cmp hA
  have hna : na = Int.toNat := congrArg Ops.nat hA
  have hcv : cv = fun k n => k.wrap n := congrArg Ops.cnv hA
  have heq : eq = realEqA := congrArg Ops.eqA hA
  clear hA
  have n1 : ∀ x, Num17 (SM x) := by intro x; rw [hSM]; exact num17_D17 _
  have n2 : ∀ b, Num17 (RD b) := by intro b; rw [hRD]; exact rdF_num _
  have n3 : ∀ f g, Num17 (MI f g) := by intro f g; rw [hMI]; exact mnF_num _ _
  refine ⟨?_⟩
  cbv
  refine ⟨fun h => ?_, fun h => ?_⟩
  · have hh := mnot_yes (a := ON f) h
    rw [hON] at hh
    cbv
    subst hR hE
    exact off_neg hh
  · have hh := mnot_no (a := ON f) h
    rw [hON] at hh
    cbv
    refine ⟨⟨by decide⟩, n1 0, n2 f, n3 _ _, ?_⟩
    subst hSM hRD hMI hWR hR hE
    exact ⟨neg_ref hf hh, off_on hh, trivial⟩

theorem ok_nNeg : Sound Tryd.prog G4d 31 (pt1C negF offE) := by
  refine sound_each (n := 17) (rs := [.cell 2 27, .tmp 3]) (sc := sc_nNeg.1) mixed Tryd.func31 rfl rfl rfl rfl sc_nNeg.2 ?_
  intro vs cs r h
  unfold pt1C at h
  split at h
  · rename_i f
    cases h
    exact ⟨by simp, fun hcs hwf => ⟨_, envOK tabOK ((.cons (ok_nOn) (.cons ((ok_nsmall).sub (sub_of (by decide))) (.cons ((ok_nread).sub (sub_of (by decide))) (.cons ((ok_nminus).sub (sub_of (by decide))) (.cons ((ok_nwritten).sub (sub_of (by decide))) .nil)))))), rfl, walk_nNeg realOps rfl f (isB64 (hwf _ (by simp))) _ rfl _ rfl _ rfl _ rfl _ rfl _ rfl _ rfl ⟩⟩
  · cases h
def sc_nAdd : { c : SC // strip (body Tryd.f33) = c } := ⟨_, by cbv⟩
theorem walk_nAdd (A : Ops) (hA : A = realOps) (f : Nat → Int) (g : Nat → Int) (hf : IsBytes 64 f) (hg : IsBytes 64 g) (ON : (Nat → Int) → Bool) (hON : ON = onB) (TA : (Nat → Int) → Nat → Int) (hTA : TA = takQ) (RD : (Nat → Int) → Nat → Int) (hRD : RD = rdF) (SU : (Nat → Int) → (Nat → Int) → (Nat → Int) → Nat → Int) (hSU : SU = sumQ) (TO : (Nat → Int) → Nat → Int) (hTO : TO = tolQ) (R : (Nat → Int) → (Nat → Int) → Nat → Int) (hR : R = ptAddF) (E : (Nat → Int) → (Nat → Int) → Int) (hE : E = ptAddE)  :
    Walk (mkEnv A tab.1 G4d [(27, onPC ON), (80, takC TA), (63, nReadC RD), (79, sumC3 SU), (59, tolC TO)] []) sc_nAdd.1 23 [.cell 4 27, .tmp 5] [.arr .u8 64 f, .arr .u8 64 g] (.tup [.arr .u8 64 (R f g), .int .i64 (.sym (E f g))]) := by
  obtain ⟨bi, cm, un, cv, na, eq⟩ := A
  have hbi : bi = realBin := congrArg Ops.bin hA
  have hcm : cm = realCmp := congrArg Ops.cmp hA
  have hna : na = Int.toNat := congrArg Ops.nat hA
  have hcv : cv = fun k n => k.wrap n := congrArg Ops.cnv hA
  have heq : eq = realEqA := congrArg Ops.eqA hA
  clear hA
  have ed : RD (fun i => v_dbytes.2.2.getD i 0) = dQ := by rw [hRD]; exact rdF_congr d_bytes
  have n1 : ∀ f, IsPl (TA f) := by intro f; rw [hTA]; exact takQ_pl _
  have n3 : Num17 (RD (fun i => v_dbytes.2.2.getD i 0)) := by rw [hRD]; exact rdF_num _
  have n2 : ∀ f g d, IsPl (SU f g d) := by intro f g d; rw [hSU]; exact sumQ_pl _ _ _
  refine ⟨?_⟩
  cbv
  refine ⟨fun h => ?_, fun h => ?_⟩
  · have hh := mor_yes (a := ON f) (b := ON g) h
    rw [hON] at hh
    cbv
    subst hR hE
    exact off_add hh
  · have hh := mor_no (a := ON f) (b := ON g) h
    rw [hON] at hh
    cbv
    refine ⟨n1 f, n1 g, n3, n2 _ _ _, ?_⟩
    show (∀ i, i < 64 → TO (SU (TA f) (TA g) (RD (fun i => v_dbytes.2.2.getD i 0))) i = R f g i) ∧ 0 = E f g ∧ True
    rw [ed]
    subst hTA hSU hTO hR hE
    exact ⟨fun i _ => congrFun (add_ref hf hg hh.1 hh.2) i, by show 0 = ptAddE f g; unfold ptAddE; rw [if_pos hh], trivial⟩

theorem ok_nAdd : Sound Tryd.prog G4d 33 (pt2C ptAddF ptAddE) := by
  refine sound_each (n := 23) (rs := [.cell 4 27, .tmp 5]) (sc := sc_nAdd.1) mixed Tryd.func33 rfl rfl rfl rfl sc_nAdd.2 ?_
  intro vs cs r h
  unfold pt2C at h
  split at h
  · rename_i f g
    cases h
    exact ⟨by simp, fun hcs hwf => ⟨_, envOK tabOK ((.cons (ok_nOn) (.cons ((ok_ntaken).sub (sub_of (by decide))) (.cons ((ok_nread).sub (sub_of (by decide))) (.cons ((ok_nsum).sub (sub_of (by decide))) (.cons ((ok_ntold).sub (sub_of (by decide))) .nil)))))), rfl, walk_nAdd realOps rfl f g (isB64 (hwf _ (by simp))) (isB64 (hwf _ (by simp))) _ rfl _ rfl _ rfl _ rfl _ rfl _ rfl _ rfl ⟩⟩
  · cases h
def sc_nSmall : { c : SC // strip (body Tryd.f35) = c } := ⟨_, by cbv⟩
theorem walk_nSmall (A : Ops) (hA : A = realOps) (f : Nat → Int) (hf : IsBytes 64 f) (ON : (Nat → Int) → Bool) (hON : ON = onB) (TA : (Nat → Int) → Nat → Int) (hTA : TA = takQ) (RD : (Nat → Int) → Nat → Int) (hRD : RD = rdF) (SU : (Nat → Int) → (Nat → Int) → (Nat → Int) → Nat → Int) (hSU : SU = sumQ) (TO : (Nat → Int) → Nat → Int) (hTO : TO = tolQ) (ID : Nat → Int) (hID : ID = pb Pt.zero) (R : (Nat → Int) → Bool) (hR : R = smallF) (E : (Nat → Int) → Int) (hE : E = offE)  :
    Walk (mkEnv A tab.1 G4d [(27, onPC ON), (80, takC TA), (63, nReadC RD), (79, sumC3 SU), (59, tolC TO), (18, ptKC ID)] []) sc_nSmall.1 26 [.tmp 2, .tmp 3] [.arr .u8 64 f] (.tup [.bool (.sym (R f)), .int .i64 (.sym (E f))]) := by
  obtain ⟨bi, cm, un, cv, na, eq⟩ := A
  have hbi : bi = realBin := congrArg Ops.bin hA
  have hcm : cm = realCmp := congrArg Ops.cmp hA
  have hna : na = Int.toNat := congrArg Ops.nat hA
  have hcv : cv = fun k n => k.wrap n := congrArg Ops.cnv hA
  have heq : eq = realEqA := congrArg Ops.eqA hA
  clear hA
  have ed : RD (fun i => v_dbytes.2.2.getD i 0) = dQ := by rw [hRD]; exact rdF_congr d_bytes
  have n1 : ∀ f, IsPl (TA f) := by intro f; rw [hTA]; exact takQ_pl _
  have n3 : Num17 (RD (fun i => v_dbytes.2.2.getD i 0)) := by rw [hRD]; exact rdF_num _
  have n2 : ∀ f g d, IsPl (SU f g d) := by intro f g d; rw [hSU]; exact sumQ_pl _ _ _
  refine ⟨?_⟩
  cbv
  refine ⟨fun h => ?_, fun h => ?_⟩
  · have hh := mnot_yes (a := ON f) h
    rw [hON] at hh
    cbv
    subst hR hE
    exact off_small hh
  · have hh := mnot_no (a := ON f) h
    rw [hON] at hh
    cbv
    refine ⟨n1 f, n1 f, n3, n2 _ _ _, n2 _ _ _, n3, n2 _ _ _, n2 _ _ _, n3, n2 _ _ _, ?_⟩
    have en : ∀ d, d = dQ → eq 64 (TO (SU (SU (SU (TA f) (TA f) d) (SU (TA f) (TA f) d) d) (SU (SU (TA f) (TA f) d) (SU (TA f) (TA f) d) d) d)) ID = R f := by
      intro d hd
      rw [heq, hTO, hSU, hTA, hID, hR, hd]
      exact small_ref hf hh
    rw [hE]
    exact ⟨en _ ed, off_on hh, trivial⟩

theorem ok_nSmall : Sound Tryd.prog G4d 35 (smallC smallF offE) := by
  refine sound_each (n := 26) (rs := [.tmp 2, .tmp 3]) (sc := sc_nSmall.1) mixed Tryd.func35 rfl rfl rfl rfl sc_nSmall.2 ?_
  intro vs cs r h
  unfold smallC at h
  split at h
  · rename_i f
    cases h
    exact ⟨by simp, fun hcs hwf => ⟨_, envOK tabOK ((.cons (ok_nOn) (.cons ((ok_ntaken).sub (sub_of (by decide))) (.cons ((ok_nread).sub (sub_of (by decide))) (.cons ((ok_nsum).sub (sub_of (by decide))) (.cons ((ok_ntold).sub (sub_of (by decide))) (.cons ((ok_nIdentity).sub (sub_of (by decide))) .nil))))))), rfl, walk_nSmall realOps rfl f (isB64 (hwf _ (by simp))) _ rfl _ rfl _ rfl _ rfl _ rfl _ rfl _ rfl _ rfl ⟩⟩
  · cases h
def sc_nMult : { c : SC // strip (body Tryd.f51) = c } := ⟨_, by cbv⟩
theorem walk_nMult (A : Ops) (hA : A = realOps) (n : Nat → Int) (f : Nat → Int) (hn : IsBytes 32 n) (hf : IsBytes 64 f) (ON : (Nat → Int) → Bool) (hON : ON = onB) (TA : (Nat → Int) → Nat → Int) (hTA : TA = takQ) (MQ : (Nat → Int) → (Nat → Int) → Nat → Int) (hMQ : MQ = mulQ) (TO : (Nat → Int) → Nat → Int) (hTO : TO = tolQ) (R : (Nat → Int) → (Nat → Int) → Nat → Int) (hR : R = mulPF) (E : (Nat → Int) → Int) (hE : E = offE)  :
    Walk (mkEnv A tab.1 G4d [(27, onPC ON), (80, takC TA), (89, plMC MQ), (59, tolC TO)] []) sc_nMult.1 15 [.cell 4 27, .tmp 5] [.arr .u8 32 n, .arr .u8 64 f] (.tup [.arr .u8 64 (R n f), .int .i64 (.sym (E f))]) := by
  obtain ⟨bi, cm, un, cv, na, eq⟩ := A
  have hbi : bi = realBin := congrArg Ops.bin hA
  have hcm : cm = realCmp := congrArg Ops.cmp hA
  have hna : na = Int.toNat := congrArg Ops.nat hA
  have hcv : cv = fun k n => k.wrap n := congrArg Ops.cnv hA
  have heq : eq = realEqA := congrArg Ops.eqA hA
  clear hA
  have n1 : ∀ f, IsPl (TA f) := by intro f; rw [hTA]; exact takQ_pl _
  have n4 : ∀ n f, IsPl (MQ n f) := by intro n f; rw [hMQ]; exact mulQ_pl _ _
  refine ⟨?_⟩
  cbv
  refine ⟨fun h => ?_, fun h => ?_⟩
  · have hh := mnot_yes (a := ON f) h
    rw [hON] at hh
    cbv
    subst hR hE
    exact off_mul hh
  · have hh := mnot_no (a := ON f) h
    rw [hON] at hh
    cbv
    refine ⟨n1 f, n4 _ _, ?_⟩
    subst hTA hMQ hTO hR hE
    exact ⟨fun i _ => congrFun (mul_ref hn hf hh) i, off_on hh, trivial⟩

theorem ok_nMult : Sound Tryd.prog G4d 51 (ptMC mulPF offE) := by
  refine sound_each (n := 15) (rs := [.cell 4 27, .tmp 5]) (sc := sc_nMult.1) mixed Tryd.func51 rfl rfl rfl rfl sc_nMult.2 ?_
  intro vs cs r h
  unfold ptMC at h
  split at h
  · rename_i n f
    cases h
    exact ⟨by simp, fun hcs hwf => ⟨_, envOK tabOK ((.cons (ok_nOn) (.cons ((ok_ntaken).sub (sub_of (by decide))) (.cons (ok_nmultiple) (.cons ((ok_ntold).sub (sub_of (by decide))) .nil))))), rfl, walk_nMult realOps rfl n f (isB (hwf _ (by simp))) (isB64 (hwf _ (by simp))) _ rfl _ rfl _ rfl _ rfl _ rfl _ rfl ⟩⟩
  · cases h
end Go.Proofs.YtnbjbamoddmbhaaDoor
