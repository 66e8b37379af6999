/-
  The point laws' kit.
-/
import Derived.Test.YtnbjbamoddmbhaaDoorZPtE
import Derived.Test.YtnbjbamoddmbhaaDoorZNA
import Derived.Test.YtnbjbamoddmbhaaDoorZMA
namespace Go.Proofs.YtnbjbamoddmbhaaDoor
open Go Go.Proofs Sx
set_option maxRecDepth 100000
set_option maxHeartbeats 4000000
set_option linter.unusedVariables false
set_option linter.unusedSimpArgs false

theorem small_forms : ∀ i, i < 8 → ∀ j, j < 32 → v_small.2.2.getD (32 * i + j) 0 = formB (zn (smXY i).1) (zn (smXY i).2) j := by decide +kernel
def gSm (f : Nat → Int) : Nat → AV := fun g => if g = 0 then .arr .u8 256 f else Gpt g
abbrev Glp : Nat → AV := gSm (fun i => v_small.2.2.getD i 0)
theorem sub_lp : Sub Gpt Glp := by
  intro g
  by_cases h : g = 0
  · left
    rw [h]
    rfl
  · right
    exact (if_neg h).symm
def gl_lp : GL := [v_small, v_twice, v_two, v_eighth, v_root, v_ptzero, v_ptone, v_ptcurve, v_ptbase]
theorem lp_sub : Sub Glp (lookGL gl_lp) := by
  intro g
  by_cases h : g = 0
  · right
    rw [h]
    rfl
  · have e : Glp g = Gpt g := if_neg h
    rw [e]
    exact sub_of (by decide) g
def sc_lnum0 : { c : SC // strip (body Tryd.f24) = c } := ⟨_, by cbv⟩
theorem walk_lnum0 (A : Ops) (hA : A = realOps) (x : Int)    :
    Walk (mkEnv A tab.1 Gpt [] []) sc_lnum0.1 4 [.tmp 2] [.int .i64 (.sym x)] (.int .i64 (.sym x)) := by
  refine ⟨?_⟩
  cbv
  try rfl
theorem ok_lnum0 : Sound Tryd.prog Gpt 24 (numI0) := by
  refine sound_sym (n := 4) (rs := [.tmp 2]) (sc := sc_lnum0.1) mixed Tryd.func24 rfl rfl rfl rfl sc_lnum0.2 ?_
  intro vs cs r h
  unfold numI0 at h
  split at h
  · rename_i x
    cases h
    exact ⟨by simp, fun hcs hwf => ⟨_, envOK tabOK ( .nil), rfl, walk_lnum0 realOps rfl x.val   ⟩⟩
  · cases h
theorem ok_lnum : Sound Tryd.prog Gpt 24 numI := weak_num ok_lnum0
def sc_lnumber : { c : SC // strip (body Tryd.f40) = c } := ⟨_, by cbv⟩
theorem walk_lnumber (A : Ops) (hA : A = realOps) (x : Int) (hx : Small48 x) (R : Int → Nat → Int) (hR : R = fun x => byt x)  :
    Walk (mkEnv A tab.1 Gpt [] []) sc_lnumber.1 18 [.cell 2 23] [.int .i64 (.sym x)] (.arr .u8 32 (R x)) := by
  obtain ⟨bi, cm, un, cv, na, eq⟩ := A
  have hbi : bi = realBin := congrArg Ops.bin hA
  have hcm : cm = realCmp := congrArg Ops.cmp hA
  have hna : na = Int.toNat := congrArg Ops.nat hA
  have hcv : cv = fun k n => k.wrap n := congrArg Ops.cnv hA
  have heq : eq = realEqA := congrArg Ops.eqA hA
  clear hA
  refine ⟨?_⟩
  cbv
  rw [hcv, hbi, hR]
  exact number48 hx
theorem ok_lnumber : Sound Tryd.prog Gpt 40 (numbLC (fun x => byt x)) := by
  refine sound_sym (n := 18) (rs := [.cell 2 23]) (sc := sc_lnumber.1) mixed Tryd.func40 rfl rfl rfl rfl sc_lnumber.2 ?_
  intro vs cs r h
  unfold numbLC at h
  split at h
  · rename_i x
    cases h
    exact ⟨by simp, fun hcs hwf => ⟨_, envOK tabOK ( .nil), rfl, walk_lnumber realOps rfl x.val (hcs _ (by simp)) _ rfl ⟩⟩
  · cases h
def sc_lsum : { c : SC // strip (body Tryd.f49) = c } := ⟨_, by cbv⟩
theorem walk_lsum (A : Ops) (hA : A = realOps) (f : Nat → Int) (g : Nat → Int) (hf : IsPt f) (hg : IsPt g) (AD : (Nat → Int) → (Nat → Int) → Nat → Int) (hAD : AD = addG) (R : (Nat → Int) → (Nat → Int) → Nat → Int) (hR : R = addG)  :
    Walk (mkEnv A tab.1 Glp [(24, numI), (36, pt2PP AD), (26, onPP)] []) sc_lsum.1 22 [.cell 4 25, .tmp 5] [.arr .u8 64 f, .arr .u8 64 g] (.tup [.arr .u8 64 (R f g), .bool (.lit true)]) := by
  obtain ⟨bi, cm, un, cv, na, eq⟩ := A
  have hbi : bi = realBin := congrArg Ops.bin hA
  have hcm : cm = realCmp := congrArg Ops.cmp hA
  have hna : na = Int.toNat := congrArg Ops.nat hA
  have hcv : cv = fun k n => k.wrap n := congrArg Ops.cnv hA
  have heq : eq = realEqA := congrArg Ops.eqA hA
  clear hA
  refine ⟨?_⟩
  cbv
  exact ⟨hf, hg, by rw [hAD]; exact isPt_add f g, fun _ _ => by rw [hAD, hR], trivial⟩
theorem ok_lsum : Sound Tryd.prog Glp 49 (sumLC addG) := by
  refine sound_each (n := 22) (rs := [.cell 4 25, .tmp 5]) (sc := sc_lsum.1) mixed Tryd.func49 rfl rfl rfl rfl sc_lsum.2 ?_
  intro vs cs r h
  unfold sumLC at h
  split at h
  · rename_i f g
    cases h
    exact ⟨by simp, fun hcs hwf => ⟨_, envOK tabOK ((.cons ((ok_lnum).sub sub_lp) (.cons ((weak_add ok_ptadd).sub sub_lp) (.cons ((weak_on ok_pton).sub sub_lp) .nil)))), rfl, walk_lsum realOps rfl f g (hcs _ (by simp)) (hcs _ (by simp)) _ rfl _ rfl ⟩⟩
  · cases h
def sc_lsome : { c : SC // strip (body Tryd.f48) = c } := ⟨_, by cbv⟩
theorem walk_lsome (A : Ops) (hA : A = realOps) (n : Nat → Int) (t : Int)  (DC : (Nat → Int) → Nat → Int) (hDC : DC = decF) (BM : (Nat → Int) → Nat → Int) (hBM : BM = bmulF) (AD : (Nat → Int) → (Nat → Int) → Nat → Int) (hAD : AD = addG) (R : (Nat → Int) → Int → Nat → Int) (hR : R = someG) (SF : Nat → Int) (hSF : SF = fun i => v_small.2.2.getD i 0) :
    Walk (mkEnv A tab.1 (gSm SF) [(24, numI), (22, decPP DC), (52, ptBC BM), (36, pt2PP AD), (26, onPP)] []) sc_lsome.1 39 [.cell 4 25, .tmp 5] [.arr .u8 32 n, .int .i64 (.sym t)] (.tup [.arr .u8 64 (R n t), .bool (.lit true)]) := by
  obtain ⟨bi, cm, un, cv, na, eq⟩ := A
  have hbi : bi = realBin := congrArg Ops.bin hA
  have hcm : cm = realCmp := congrArg Ops.cmp hA
  have hna : na = Int.toNat := congrArg Ops.nat hA
  have hcv : cv = fun k n => k.wrap n := congrArg Ops.cnv hA
  have heq : eq = realEqA := congrArg Ops.eqA hA
  clear hA
  refine ⟨?_⟩
  have ht : 0 ≤ t % 8 ∧ t % 8 < 8 := by omega
  have hi8 : (t % 8).toNat < 8 := by omega
  have hq : bi .rem .i64 (bi .add .i64 (bi .rem .i64 t 8) 8) 8 = t % 8 := by rw [hbi]; exact mod8_go t
  have hm : (Classical.choice seal_mul).1 (na (bi .rem .i64 (bi .add .i64 (bi .rem .i64 t 8) 8) 8)) 32 = 32 * (t % 8).toNat := by rw [choice_mul, hq, hna]; omega
  have hw : Within (bi .rem .i64 (bi .add .i64 (bi .rem .i64 t 8) 8) 8) 8 := ⟨by rw [hq]; omega⟩
  have hf : FitsIn ((Classical.choice seal_mul).1 (na (bi .rem .i64 (bi .add .i64 (bi .rem .i64 t 8) 8) 8)) 32) 32 256 := ⟨by rw [hm]; omega⟩
  have hs := dec_form (P := Pt.mul (t % 8).toNat smOne) (b := fun j => SF ((Classical.choice seal_mul).1 (na (bi .rem .i64 (bi .add .i64 (bi .rem .i64 t 8) 8) 8)) 32 + j)) (by
    intro j hj
    rw [hm, hSF]
    have hx := small_at _ hi8
    rw [hx.x, hx.y]
    exact small_forms _ hi8 j hj)
  have hd : DC (fun j => SF ((Classical.choice seal_mul).1 (na (bi .rem .i64 (bi .add .i64 (bi .rem .i64 t 8) 8) 8)) 32 + j)) = pb (Pt.mul (t % 8).toNat smOne) := by rw [hDC]; exact hs.2
  have hB : IsPt (BM n) := by rw [hBM]; exact isPt_bmul n
  have hD : IsPt (DC (fun j => SF ((Classical.choice seal_mul).1 (na (bi .rem .i64 (bi .add .i64 (bi .rem .i64 t 8) 8) 8)) 32 + j))) := by rw [hd]; exact isPt_pb _
  have hA : ∀ f g, IsPt (AD f g) := by intro f g; rw [hAD]; exact isPt_add f g
  have he : ∀ i, AD (BM n) (DC (fun j => SF ((Classical.choice seal_mul).1 (na (bi .rem .i64 (bi .add .i64 (bi .rem .i64 t 8) 8) 8)) 32 + j))) i = R n t i := by
    intro i
    rw [hd, hAD, hBM, hR]
    show pb ((ptO (bmulF n)).add (ptO (pb _))) i = _
    rw [ptO_bmul, ptO_pb]
    rfl
  cbv
  exact ⟨hw, hf, ⟨hs.1⟩, hB, hD, hA _ _, fun i _ => he i, trivial⟩
theorem ok_lsome : Sound Tryd.prog Glp 48 (someLC someG) := by
  refine sound_sym (n := 39) (rs := [.cell 4 25, .tmp 5]) (sc := sc_lsome.1) mixed Tryd.func48 rfl rfl rfl rfl sc_lsome.2 ?_
  intro vs cs r h
  unfold someLC at h
  split at h
  · rename_i n t
    cases h
    exact ⟨by simp, fun hcs hwf => ⟨_, envOK tabOK ((.cons ((ok_lnum).sub sub_lp) (.cons ((weak_dec ok_ptdec).sub sub_lp) (.cons ((ok_ptbmul).sub sub_lp) (.cons ((weak_add ok_ptadd).sub sub_lp) (.cons ((weak_on ok_pton).sub sub_lp) .nil)))))), rfl, walk_lsome realOps rfl n t.val  _ rfl _ rfl _ rfl _ rfl _ rfl⟩⟩
  · cases h
def sc_lbase : { c : SC // strip (body Tryd.f37) = c } := ⟨_, by cbv⟩
theorem walk_lbase (A : Ops) (hA : A = realOps)   (NB : Int → Nat → Int) (hNB : NB = fun x => byt x) (BA : Nat → Int) (hBA : BA = pb basePt) (fMU : (Nat → Int) → (Nat → Int) → Nat → Int) (hfMU : fMU = fun f g => fb (fe f * fe g)) (OD : (Nat → Int) → Bool) (hOD : OD = oddB) (DB : (Nat → Int) → Nat → Int) (hDB : DB = dblG)  :
    Walk (mkEnv A tab.1 Gpt [(24, numI), (40, numbLC NB), (19, ptKC BA), (41, bin32C fMU), (47, bool32C OD), (26, onPP), (32, pt1PP DB)] []) sc_lbase.1 38 [.tmp 0] [] (.bool (.lit true)) := by
  obtain ⟨bi, cm, un, cv, na, eq⟩ := A
  have hbi : bi = realBin := congrArg Ops.bin hA
  have hcm : cm = realCmp := congrArg Ops.cmp hA
  have hna : na = Int.toNat := congrArg Ops.nat hA
  have hcv : cv = fun k n => k.wrap n := congrArg Ops.cnv hA
  have heq : eq = realEqA := congrArg Ops.eqA hA
  clear hA
  refine ⟨?_⟩
  have e1 : eq 32 (fMU (NB 5) fun j => BA (32 + j)) (NB 4) = true := by
    rw [heq, hfMU, hNB, hBA]
    show realEqA 32 (fb (fe (byt 5) * fe (nx 32 (pb basePt)))) (byt 4) = true
    rw [fe_small ⟨by decide⟩, fb_small ⟨by decide⟩]
    refine fb_same ?_
    show zi pN 5 * fe (nx 32 (ptB basePt.x basePt.y)) = zi pN 4
    rw [fe_ptB_y]
    exact base_y5
  have e2 : OD BA = false := by rw [hOD, hBA]; exact base_even
  have e3 : eq 64 (DB BA) BA = false := by
    rw [heq, hDB, hBA]
    show realEqA 64 (pb ((ptO (pb basePt)).add (ptO (pb basePt)))) (pb basePt) = false
    rw [ptO_pb]
    exact pb_other base_dbl
  have p1 : IsPt BA := by rw [hBA]; exact isPt_pb _
  have p2 : IsPt (DB BA) := by rw [hDB]; exact isPt_dbl _
  clear hfMU hNB hBA hOD hDB
  cbv
  refine ⟨⟨by decide⟩, ⟨by decide⟩, fun _ => p1, fun h => ?_, fun _ => ?_⟩
  · exfalso
    revert h
    try dsimp only [SI.val, SO.val]
    simp [e1, e2]
  · cbv
    refine ⟨p1, fun _ => p2, ?_⟩
    simp [e3]
theorem ok_lbase : Sound Tryd.prog Gpt 37 (baseLC) := by
  refine sound_each (n := 38) (rs := [.tmp 0]) (sc := sc_lbase.1) mixed Tryd.func37 rfl rfl rfl rfl sc_lbase.2 ?_
  intro vs cs r h
  unfold baseLC at h
  split at h
  · cases h
    exact ⟨by simp, fun hcs hwf => ⟨_, envOK tabOK ((.cons (ok_lnum) (.cons (ok_lnumber) (.cons (ok_ptbase) (.cons (ok_mulZ Gpt) (.cons (ok_oddF Gpt) (.cons (weak_on ok_pton) (.cons (weak_dbl ok_ptdbl) .nil)))))))), rfl, walk_lbase realOps rfl   _ rfl _ rfl _ rfl _ rfl _ rfl ⟩⟩
  · cases h
def sc_lplusP : { c : SC // strip (body Tryd.f56) = c } := ⟨_, by cbv⟩
theorem walk_lplusP (A : Ops) (hA : A = realOps) (f : Nat → Int) (g : Nat → Int) (hf : IsBytes 32 f) (hg : IsBytes 32 g) (R : (Nat → Int) → (Nat → Int) → Nat → Int) (hR : R = fun f g => byt (sumN f g)) (PC : (Nat → Int) → (Nat → Int) → Bool) (hPC : PC = fun f g => decide (sumC f g 32 = 0)) (W : Nat → Int) (hW : W = byt (sumN f g)) (C : Nat → Int) (hC : C = sumC f g) (I : { i : Nat // i ≤ 32 } → St) (hI : I = fun i => slots 35 [(2, .own (.arr .u8 32 f)), (3, .own (.arr .u8 32 g)), (4, .own (.arr .u8 32 fun _ => 0)), (6, .own (.arr .u8 32 fun j => if j < i.1 then W j else 0)), (7, .int .i64 (.sym (C i.1))), (8, .int .i64 (.sym (i.1 : Int)))]) :
    Walk (mkEnv A tab.1 Glp [] [(4, .inv { i : Nat // i ≤ 32 } I fun i => 32 - i.1)]) sc_lplusP.1 35 [.cell 4 23, .tmp 5] [.arr .u8 32 f, .arr .u8 32 g] (.tup [.arr .u8 32 (R f g), .bool (.sym (PC f g))]) := by
  refine ⟨?_⟩
  cbv
  refine ⟨⟨⟨0, by decide⟩, ?_⟩, fun i _ => ?_⟩
  · subst hI
    cbv
    refine ⟨fun _ _ => rfl, fun _ _ => rfl, fun _ _ => rfl, fun _ _ => rfl, ?_, rfl, trivial⟩
    rw [hC]
    rfl
  · subst hI
    cbv
    obtain ⟨i, hi⟩ := i
    refine ⟨fun h => ?_, fun h => ?_⟩
    · cbv
      have hlt : i < 32 := by
        rw [hA] at h
        exact Int.ofNat_lt.1 (of_decide_eq_true h)
      have hb1 := hf i hlt
      have hb2 := hg i hlt
      have hc := carry_bounds (k := i) (fun j hj => hf j (by omega)) (fun j hj => hg j (by omega))
      have hCi : C i = (num i f + num i g) / 256 ^ i := by rw [hC]; rfl
      have hCn : C (i + 1) = (C i + f i + g i) / 256 := by rw [hCi, hC]; exact sum_step f g i
      have hWi : W i = (C i + f i + g i) % 256 := by rw [hCi, hW]; exact sum_byte hlt
      rw [← hCi] at hc
      have e1 : realBin .add .i64 (realBin .add .i64 (IntKind.wrap .i64 (f i)) (IntKind.wrap .i64 (g i))) (C i) = C i + f i + g i := by
        have e0 : realBin .add .i64 (f i) (g i) = f i + g i := add_i64 (by omega)
        rw [wrap_i64 (n := f i) (by omega), wrap_i64 (n := g i) (by omega), e0, add_i64 (by omega)]
        omega
      have e2 : realBin .quo .i64 (C i + f i + g i) 256 = (C i + f i + g i) / 256 := quo_i64 (by omega) (by decide)
      have e3 : IntKind.wrap .u8 (realBin .rem .i64 (C i + f i + g i) 256) = (C i + f i + g i) % 256 := by rw [rem_i64 (by omega), wrap_u8]; omega
      have e4 : realBin .add .i64 (Int.ofNat i) 1 = Int.ofNat (i + 1) := by rw [add_i64 (by simp only [Int.ofNat_eq_natCast]; omega)]; rfl
      refine ⟨⟨by simp only [Int.ofNat_eq_natCast]; omega⟩, ⟨by rw [hA]; show i + 1 ≤ 32; omega⟩, ⟨by simp only [Int.ofNat_eq_natCast]; omega⟩, ⟨by rw [hA]; show i + 1 ≤ 32; omega⟩, ⟨by simp only [Int.ofNat_eq_natCast]; omega⟩, ⟨by rw [hA]; show i + 1 ≤ 32; omega⟩, ⟨i + 1, by omega⟩, ?_, ?_⟩
      · cbv
        subst hA
        refine ⟨fun _ _ => rfl, fun _ _ => rfl, fun _ _ => rfl, fun j hj => ?_, ?_, ?_, trivial⟩
        · show (if j = i then IntKind.wrap .u8 (realBin .rem .i64 (realBin .add .i64 (realBin .add .i64 (IntKind.wrap .i64 (f i)) (IntKind.wrap .i64 (g i))) (C i)) 256) else if j < i then W j else 0) = if j < i + 1 then W j else 0
          rw [e1, e3, ← hWi]
          by_cases hji : j = i
          · subst hji; rw [if_pos rfl, if_pos (by omega)]
          · rw [if_neg hji]
            by_cases h2 : j < i
            · rw [if_pos h2, if_pos (by omega)]
            · rw [if_neg h2, if_neg (by omega)]
        · show realBin .quo .i64 (realBin .add .i64 (realBin .add .i64 (IntKind.wrap .i64 (f i)) (IntKind.wrap .i64 (g i))) (C i)) 256 = C (i + 1)
          rw [e1, e2, hCn]
        · exact e4
      · show 32 - (i + 1) < 32 - i
        omega
    · cbv
      have hlt : i = 32 := by
        rw [hA] at h
        have h3 : ¬ (i < 32) := fun hh => of_decide_eq_false h (Int.ofNat_lt.2 hh)
        omega
      subst hlt
      refine ⟨fun j hj => ?_, ?_, trivial⟩
      · rw [hR, hW]
        exact if_pos hj
      · rw [hPC, hA, hC]
        rfl

theorem ok_lplusP : Sound Tryd.prog Glp 56 (plusLC (fun f g => byt (sumN f g)) (fun f g => decide (sumC f g 32 = 0))) := by
  refine sound_each (n := 35) (rs := [.cell 4 23, .tmp 5]) (sc := sc_lplusP.1) mixed Tryd.func56 rfl rfl rfl rfl sc_lplusP.2 ?_
  intro vs cs r h
  unfold plusLC at h
  split at h
  · rename_i f g
    cases h
    exact ⟨by simp, fun hcs hwf => ⟨_, envOK tabOK ( .nil), rfl, walk_lplusP realOps rfl f g (isB (hwf _ (by simp))) (isB (hwf _ (by simp))) _ rfl _ rfl _ rfl _ rfl _ rfl⟩⟩
  · cases h
end Go.Proofs.YtnbjbamoddmbhaaDoor
