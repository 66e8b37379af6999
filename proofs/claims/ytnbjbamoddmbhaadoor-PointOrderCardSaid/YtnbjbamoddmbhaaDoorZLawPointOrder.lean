/-
  PointOrder holds for every input: the walk.
-/
import Derived.Test.YtnbjbamoddmbhaaDoorZPtK
import Derived.Test.YtnbjbamoddmbhaaDoorZPA
import Derived.Test.YtnbjbamoddmbhaaDoorZEB
import Derived.Test.YtnbjbamoddmbhaaDoorZScalB
namespace Go.Proofs.YtnbjbamoddmbhaaDoor
open Go Go.Proofs Sx
set_option maxRecDepth 100000
set_option maxHeartbeats 4000000
set_option linter.unusedVariables false
set_option linter.unusedSimpArgs false

def gl_lpo : GL := [v_small, v_twice, v_two, v_eighth, v_root, v_ptzero, v_ptone, v_ptcurve, v_ptbase, v_order, v_mult]
abbrev Glpo : Nat → AV := lookGL gl_lpo
theorem sub_lpo : Sub Glp Glpo := by
  intro g
  by_cases h : g = 0
  · right
    rw [h]
    rfl
  · have e : Glp g = Gpt g := if_neg h
    rw [e]
    exact sub_of (by decide) g
def rm_law_porder : { r : RM // aliasOf (body Tryd.f15) = r } := ⟨_, by cbv⟩
def sch0_law_porder : { c : SC // stripR rm_law_porder.1 (headN 12 (body Tryd.f15)) = c } := ⟨_, by cbv⟩
def sct1_law_porder : { c : SC // stripR rm_law_porder.1 (tailN 12 (body Tryd.f15)) = c } := ⟨_, by cbv⟩
def scp0_law_porder : { c : SC // plugN 12 sch0_law_porder.1 sct1_law_porder.1 = c } := ⟨_, by cbv⟩
def sct0_law_porder : { c : SC // stripR rm_law_porder.1 (body Tryd.f15) = c } := ⟨scp0_law_porder.1, (stripR_two rm_law_porder.1 12 (by kernel_rfl) sch0_law_porder.2 sct1_law_porder.2).trans scp0_law_porder.2⟩
def sc_law_porder : { c : SC // strip (body Tryd.f15) = c } := ⟨sct0_law_porder.1, (strip_rm rm_law_porder.2).trans sct0_law_porder.2⟩
theorem walk_law_porder (A : Ops) (hA : A = realOps) (n : Nat → Int) (m : Nat → Int) (t : Int) (hn : IsBytes 32 n) (hm : IsBytes 32 m) (OR : Nat → Int) (hOR : OR = byt lI) (PS : (Nat → Int) → (Nat → Int) → Nat → Int) (hPS : PS = fun f g => byt (sumN f g)) (BM : (Nat → Int) → Nat → Int) (hBM : BM = bmulF) (ID : Nat → Int) (hID : ID = pb Pt.zero) (SE : (Nat → Int) → Int → Nat → Int) (hSE : SE = someG) (ML : (Nat → Int) → (Nat → Int) → Nat → Int) (hML : ML = mulG) (SS : (Nat → Int) → Bool) (hSS : SS = smallG) (RD : (Nat → Int) → Nat → Int) (hRD : RD = fun f => sb (sn 64 f)) (PC : (Nat → Int) → (Nat → Int) → Bool) (hPC : PC = fun f g => decide (sumC f g 32 = 0)) (WD : Nat → Nat → Int) (hWD : WD = fun i j => if j < i then n j else 0) (I : { i : Nat // i ≤ 32 } → St) (hI : I = fun i => slots 152 [(3, .own (.arr .u8 32 n)), (16, .own (.arr .u8 64 (BM m))), (23, .own (.arr .u8 64 (WD i.1))), (24, .int .i64 (.sym (i.1 : Int)))]) :
    Walk (mkEnv A tab.1 Glpo [(37, baseLC), (57, primeC OR), (56, plusLC PS PC), (52, ptBC BM), (17, ptKC ID), (48, someLC SE), (50, ptMPP ML), (34, smallPP SS), (24, numI), (58, un64C RD)] [(18, .inv { i : Nat // i ≤ 32 } I fun i => 32 - i.1)]) sc_law_porder.1 152 [.tmp 6] [.arr .u8 32 n, .arr .u8 32 m, .int .i64 (.sym t)] (.bool (.sym true)) := by
  obtain ⟨bi, cm, un, cv, na, eq⟩ := A
  have hbi : bi = realBin := congrArg Ops.bin hA
  have hcm : cm = realCmp := congrArg Ops.cmp hA
  have hna : na = Int.toNat := congrArg Ops.nat hA
  have hcv : cv = fun k n => k.wrap n := congrArg Ops.cnv hA
  have heq : eq = realEqA := congrArg Ops.eqA hA
  clear hA
  have hB : ∀ n, IsPt (BM n) := by
    intro n
    rw [hBM]
    exact isPt_bmul n
  have hid : IsPt ID := by
    rw [hID]
    exact isPt_zero
  have hp : ∀ n t, IsPt (SE n t) := by
    intro n t
    rw [hSE]
    exact isPt_some n t
  have hM : ∀ n f, IsPt (ML n f) := by
    intro n f
    rw [hML]
    exact isPt_mul n f
  have hA : True := trivial
  have hC : True := trivial
  have hN : True := trivial
  have hD : True := trivial
  have hba : True := trivial
  have k1 : eq 64 (BM OR) ID = true := by
    try rw [heq]
    subst hOR hPS hBM hID hSE hML hSS hRD hPC hWD
    exact pb_same (by rw [nN_lI, base_order])
  have k2 : eq 32 OR (fun _ => 0) = false := by
    try rw [heq]
    subst hOR hPS hBM hID hSE hML hSS hRD hPC hWD
    exact order_ne
  have k3 : eq 64 (ML (PS (PS (PS OR OR) (PS OR OR)) (PS (PS OR OR) (PS OR OR))) (SE n t)) ID = true := by
    try rw [heq]
    subst hOR hPS hBM hID hSE hML hSS hRD hPC hWD
    exact pb_same (by rw [ptO_some]; exact (congrArg (fun k => Pt.mul k (somePt n t)) nN_8L).trans (some_8L n t))
  have k4 : SS (ML OR (SE n t)) = true := by
    try rw [heq]
    subst hOR hPS hBM hID hSE hML hSS hRD hPC hWD
    exact small_iff.2 (by rw [ptO_some, nN_lI]; exact small_L n t)
  have k5 : ∀ W, (∀ j, j < 64 → W j = padW n j) → eq 64 (ML n (BM m)) (ML (RD W) (BM m)) = true := by
    try rw [heq]
    subst hOR hPS hBM hID hSE hML hSS hRD hPC hWD
    intro W hW; exact pb_same (by rw [ptO_bmul]; exact red_mulW hn hW)
  have k6 : ∀ W, (∀ j, j < 64 → W j = padW n j) → eq 64 (BM n) (BM (RD W)) = true := by
    try rw [heq]
    subst hOR hPS hBM hID hSE hML hSS hRD hPC hWD
    intro W hW; exact pb_same (red_baseW hn hW)
  have w0 : ∀ k, k < 64 → 0 = WD 0 k := by
    try rw [heq]
    subst hOR hPS hBM hID hSE hML hSS hRD hPC hWD
    intro k _; rfl
  have ws : ∀ i k, (if k = i then n i else WD i k) = WD (i + 1) k := by
    try rw [heq]
    subst hOR hPS hBM hID hSE hML hSS hRD hPC hWD
    intro i k; show (if k = i then n i else if k < i then n k else 0) = if k < i + 1 then n k else 0; by_cases h : k = i
    · subst h; rw [if_pos rfl, if_pos (by omega)]
    · rw [if_neg h]
      by_cases h2 : k < i
      · rw [if_pos h2, if_pos (by omega)]
      · rw [if_neg h2, if_neg (by omega)]
  have we : ∀ j, j < 64 → WD 32 j = padW n j := by
    try rw [heq]
    subst hOR hPS hBM hID hSE hML hSS hRD hPC hWD
    intro j _; rfl
  clear hOR hPS hBM hID hSE hML hSS hRD hPC
  refine ⟨?_⟩
  cbv
  repeat (first | refine ⟨hf, ?_⟩ | refine ⟨hn, ?_⟩ | refine ⟨nb1, ?_⟩ | refine ⟨nb2, ?_⟩ | refine ⟨hp _ _, ?_⟩ | refine ⟨hA _ _, ?_⟩ | refine ⟨hM _ _, ?_⟩ | refine ⟨hB _, ?_⟩ | refine ⟨hC _ _ _, ?_⟩ | refine ⟨hN _, ?_⟩ | refine ⟨hD _, ?_⟩ | refine ⟨hid, ?_⟩ | refine ⟨hba, ?_⟩ | refine ⟨⟨by decide⟩, ?_⟩)
  refine ⟨fun h => ?_, fun _ => ?_⟩
  · exfalso
    revert h
    try dsimp only [SI.val, SO.val]
    simp [k1, k2]
  cbv
  repeat (first | refine ⟨hf, ?_⟩ | refine ⟨hn, ?_⟩ | refine ⟨nb1, ?_⟩ | refine ⟨nb2, ?_⟩ | refine ⟨hp _ _, ?_⟩ | refine ⟨hA _ _, ?_⟩ | refine ⟨hM _ _, ?_⟩ | refine ⟨hB _, ?_⟩ | refine ⟨hC _ _ _, ?_⟩ | refine ⟨hN _, ?_⟩ | refine ⟨hD _, ?_⟩ | refine ⟨hid, ?_⟩ | refine ⟨hba, ?_⟩ | refine ⟨⟨by decide⟩, ?_⟩)
  refine ⟨fun h => ?_, fun _ => ?_⟩
  · exfalso
    revert h
    try dsimp only [SI.val, SO.val]
    simp [k3, k4]
  cbv
  repeat (first | refine ⟨hf, ?_⟩ | refine ⟨hn, ?_⟩ | refine ⟨nb1, ?_⟩ | refine ⟨nb2, ?_⟩ | refine ⟨hp _ _, ?_⟩ | refine ⟨hA _ _, ?_⟩ | refine ⟨hM _ _, ?_⟩ | refine ⟨hB _, ?_⟩ | refine ⟨hC _ _ _, ?_⟩ | refine ⟨hN _, ?_⟩ | refine ⟨hD _, ?_⟩ | refine ⟨hid, ?_⟩ | refine ⟨hba, ?_⟩ | refine ⟨⟨by decide⟩, ?_⟩)
  refine ⟨⟨⟨0, by decide⟩, ?_⟩, fun i _ => ?_⟩
  · subst hI
    cbv
    exact ⟨fun _ _ => rfl, fun _ _ => rfl, w0, rfl, trivial⟩
  · subst hI
    cbv
    obtain ⟨i, hi⟩ := i
    refine ⟨fun h => ?_, fun h => ?_⟩
    · cbv
      rw [hcm] at h
      have hlt := lss_yes h
      simp only [Int.ofNat_eq_natCast] at hlt
      have qi : na (Int.ofNat i) = i := by rw [hna]; rfl
      have p4 : bi .add .i64 (Int.ofNat i) 1 = Int.ofNat (i + 1) := by rw [hbi, add_i64 (by simp only [Int.ofNat_eq_natCast]; omega)]; rfl
      have w1 : Within (Int.ofNat i) 32 := ⟨by constructor <;> simp only [Int.ofNat_eq_natCast] <;> omega⟩
      have g1 : FitsIn (na (Int.ofNat i)) 1 32 := ⟨by rw [qi]; omega⟩
      have w2 : Within (Int.ofNat i) 64 := ⟨by constructor <;> simp only [Int.ofNat_eq_natCast] <;> omega⟩
      have g2 : FitsIn (na (Int.ofNat i)) 1 64 := ⟨by rw [qi]; omega⟩
      refine ⟨w1, g1, w2, g2, ⟨i + 1, by omega⟩, ?_, by show 32 - (i + 1) < 32 - i; omega⟩
      cbv
      refine ⟨fun _ _ => rfl, fun _ _ => rfl, fun k _ => ?_, p4, trivial⟩
      show (if k = na (Int.ofNat i) then n (na (Int.ofNat i)) else WD i k) = WD (i + 1) k
      rw [qi]
      exact ws i k
    · cbv
      have hN : i = 32 := by
        rw [hcm] at h
        have := lss_no h
        simp only [Int.ofNat_eq_natCast] at this
        omega
      subst hN
      refine ⟨hB _, hB _, ?_⟩
      have e1 := k5 (WD 32) we
      have e2 := k6 (WD 32) we
      show (match eq 64 (ML n (BM m)) (ML (RD (WD 32)) (BM m)) with | true => eq 64 (BM n) (BM (RD (WD 32))) | false => false) = true
      rw [e1]
      exact e2

theorem ok_lawP_porder : Sound Tryd.prog Glpo 15 (lawABt) := by
  refine sound_sym (n := 152) (rs := [.tmp 6]) (sc := sc_law_porder.1) mixed Tryd.func15 rfl rfl rfl rfl sc_law_porder.2 ?_
  intro vs cs r h
  unfold lawABt at h
  split at h
  · rename_i n m t
    cases h
    exact ⟨by simp, fun hcs hwf => ⟨_, envOK tabOK ((.cons ((ok_lbase).sub sub_lpo) (.cons (ok_orderS.sub (sub_of (by decide))) (.cons ((ok_lplusP).sub sub_lpo) (.cons (((ok_ptbmul).sub sub_lp).sub sub_lpo) (.cons (((ok_ptid).sub sub_lp).sub sub_lpo) (.cons ((ok_lsome).sub sub_lpo) (.cons (((weak_mul ok_ptmul).sub sub_lp).sub sub_lpo) (.cons (((weak_small ok_ptsmall).sub sub_lp).sub sub_lpo) (.cons ((ok_lnum).sub sub_lpo) (.cons (ok_reduceS.sub (sub_of (by decide))) .nil))))))))))), rfl, walk_law_porder realOps rfl n m t.val (isB (hwf _ (by simp))) (isB (hwf _ (by simp))) _ rfl _ rfl _ rfl _ rfl _ rfl _ rfl _ rfl _ rfl _ rfl _ rfl _ rfl⟩⟩
  · cases h
theorem ok_law_porder : Sound Tryd.prog (lookGL gl_lpo) 15 lawABt := ok_lawP_porder
end Go.Proofs.YtnbjbamoddmbhaaDoor
