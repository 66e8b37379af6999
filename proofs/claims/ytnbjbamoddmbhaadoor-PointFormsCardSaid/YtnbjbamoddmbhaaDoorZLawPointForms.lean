/-
  PointForms holds for every input: the walk.
-/
import Derived.Test.YtnbjbamoddmbhaaDoorZPtK
import Derived.Test.YtnbjbamoddmbhaaDoorZPA
import Derived.Test.YtnbjbamoddmbhaaDoorZEB
namespace Go.Proofs.YtnbjbamoddmbhaaDoor
open Go Go.Proofs Sx
set_option maxRecDepth 100000
set_option maxHeartbeats 4000000
set_option linter.unusedVariables false
set_option linter.unusedSimpArgs false

def gl_lpf : GL := [v_twice, v_two, v_eighth, v_root, v_ptzero, v_ptone, v_ptcurve, v_ptbase, v_half]
abbrev Glpf : Nat → AV := lookGL gl_lpf
def rm_law_pforms : { r : RM // aliasOf (body Tryd.f6) = r } := ⟨_, by cbv⟩
def sch0_law_pforms : { c : SC // stripR rm_law_pforms.1 (headN 9 (body Tryd.f6)) = c } := ⟨_, by cbv⟩
def sct1_law_pforms : { c : SC // stripR rm_law_pforms.1 (tailN 9 (body Tryd.f6)) = c } := ⟨_, by cbv⟩
def scp0_law_pforms : { c : SC // plugN 9 sch0_law_pforms.1 sct1_law_pforms.1 = c } := ⟨_, by cbv⟩
def sct0_law_pforms : { c : SC // stripR rm_law_pforms.1 (body Tryd.f6) = c } := ⟨scp0_law_pforms.1, (stripR_two rm_law_pforms.1 9 (by kernel_rfl) sch0_law_pforms.2 sct1_law_pforms.2).trans scp0_law_pforms.2⟩
def sc_law_pforms : { c : SC // strip (body Tryd.f6) = c } := ⟨sct0_law_pforms.1, (strip_rm rm_law_pforms.2).trans sct0_law_pforms.2⟩
theorem walk_law_pforms (A : Ops) (hA : A = realOps) (b : Nat → Int) (hb : IsBytes 32 b) (hCan : canB (dcY b) = true) (hl : ¬ legB b < 0) (hz : ¬ (legB b = 0 ∧ dcS b = true)) (DC : (Nat → Int) → Nat → Int) (hDC : DC = decF) (fSQ : (Nat → Int) → Nat → Int) (hfSQ : fSQ = fun f => fb (fe f * fe f)) (NB : Int → Nat → Int) (hNB : NB = fun x => byt x) (fSU : (Nat → Int) → (Nat → Int) → Nat → Int) (hfSU : fSU = fun f g => fb (fe f - fe g)) (fMU : (Nat → Int) → (Nat → Int) → Nat → Int) (hfMU : fMU = fun f g => fb (fe f * fe g)) (fIV : (Nat → Int) → Nat → Int) (hfIV : fIV = invF) (fNE : (Nat → Int) → Nat → Int) (hfNE : fNE = fun f => fb (- fe f)) (fAD : (Nat → Int) → (Nat → Int) → Nat → Int) (hfAD : fAD = fun f g => fb (fe f + fe g)) (LE : (Nat → Int) → Int) (hLE : LE = fun f => legZ (fe f)) (fCA : (Nat → Int) → Bool) (hfCA : fCA = canB) (EN : (Nat → Int) → Nat → Int) (hEN : EN = encF) (ON : (Nat → Int) → Bool) (hON : ON = onB) (OD : (Nat → Int) → Bool) (hOD : OD = oddB) (DE : (Nat → Int) → Int) (hDE : DE = decE) (EE : (Nat → Int) → Int) (hEE : EE = offE) (L : Int) (hL : L = legB b) :
    Walk (mkEnv A tab.1 Glpf [(37, baseLC), (22, decC DC DE), (38, un32C fSQ), (40, numbLC NB), (39, bin32C fSU), (41, bin32C fMU), (44, un32C fIV), (43, un32C fNE), (42, bin32C fAD), (45, leg32C LE), (46, bool32C fCA), (24, numI), (28, encC EN EE), (26, onPC ON), (47, bool32C OD)] []) sc_law_pforms.1 137 [.tmp 2] [.arr .u8 32 b] (.bool (.sym true)) := by
  obtain ⟨bi, cm, un, cv, na, eq⟩ := A
  have hbi : bi = realBin := congrArg Ops.bin hA
  have hcm : cm = realCmp := congrArg Ops.cmp hA
  have hna : na = Int.toNat := congrArg Ops.nat hA
  have hcv : cv = fun k n => k.wrap n := congrArg Ops.cnv hA
  have heq : eq = realEqA := congrArg Ops.eqA hA
  clear hA
  have hp : True := trivial
  have hA : True := trivial
  have hM : True := trivial
  have hB : True := trivial
  have hC : True := trivial
  have hN : True := trivial
  have hD : True := trivial
  have hid : True := trivial
  have hba : True := trivial
  have hy : upd b 31 (bi .and .u8 (b 31) 127) = dcY b := by
    try rw [heq]
    subst hDC hfSQ hNB hfSU hfMU hfIV hfNE hfAD hLE hfCA hEN hON hOD hDE hEE hL
    rw [hbi]; exact dcY_is hb
  have hs : cm .geq (b 31) 128 = dcS b := by
    try rw [heq]
    subst hDC hfSQ hNB hfSU hfMU hfIV hfNE hfAD hLE hfCA hEN hON hOD hDE hEE hL
    rw [hcm]; rfl
  have e1 : ∀ f g, fe (fMU f g) = fe f * fe g := by
    intro f g; rw [hfMU]; exact fe_fb _
  have e2 : ∀ f g, fe (fSU f g) = fe f - fe g := by
    intro f g; rw [hfSU]; exact fe_fb _
  have e3 : ∀ f g, fe (fAD f g) = fe f + fe g := by
    intro f g; rw [hfAD]; exact fe_fb _
  have e4 : ∀ f, fe (fSQ f) = fe f * fe f := by
    intro f; rw [hfSQ]; exact fe_fb _
  have e5 : ∀ f, fe (fNE f) = -fe f := by
    intro f; rw [hfNE]; exact fe_fb _
  have e6 : fe (NB 1) = o1 := by
    rw [hNB]; exact fe_o1
  have e7 : fe (NB 121666) = n6 := by
    rw [hNB]; exact fe_n6
  have e8 : fe (NB 121665) = n5 := by
    rw [hNB]; exact fe_n5
  have e9 : fe (fIV (NB 121666)) = u6 := by
    rw [hNB, hfIV]; exact fe_u6
  have e10 : ∀ f, LE f = legZ (fe f) := by
    intro f; rw [hLE]
  have kL : LE (fMU (fMU (fSU (fSQ (dcY b)) (NB 1)) (NB 121666)) (fMU (NB 121666) (fAD (fMU (fSQ (dcY b)) (fNE (fMU (NB 121665) (fIV (NB 121666))))) (NB 1)))) = L := by
    rw [e10, e1, e1, e1, e2, e3, e1, e4, e5, e1, e9, e6, e7, e8, hL]; exact legB_leg b
  have c40 : fCA (dcY b) = false → DE b = 40 ∧ eq 64 (DC b) (fun _ => 0) = true := by
    try rw [heq]
    subst hDC hfSQ hNB hfSU hfMU hfIV hfNE hfAD hLE hfCA hEN hON hOD hDE hEE hL
    exact forms_40
  have c41 : fCA (dcY b) = true → L < 0 → DE b = 41 ∧ eq 64 (DC b) (fun _ => 0) = true := by
    try rw [heq]
    subst hDC hfSQ hNB hfSU hfMU hfIV hfNE hfAD hLE hfCA hEN hON hOD hDE hEE hL
    exact forms_41
  have c42 : fCA (dcY b) = true → L = 0 → dcS b = true → DE b = 42 ∧ eq 64 (DC b) (fun _ => 0) = true := by
    try rw [heq]
    subst hDC hfSQ hNB hfSU hfMU hfIV hfNE hfAD hLE hfCA hEN hON hOD hDE hEE hL
    exact forms_42
  have c00 : fCA (dcY b) = true → ¬ L < 0 → ¬ (L = 0 ∧ dcS b = true) → DE b = 0 ∧ EE (DC b) = 0 ∧ ON (DC b) = true ∧ eq 32 (fun j => DC b (32 + j)) (dcY b) = true ∧ OD (DC b) = dcS b ∧ eq 32 (EN (DC b)) b = true := by
    try rw [heq]
    subst hDC hfSQ hNB hfSU hfMU hfIV hfNE hfAD hLE hfCA hEN hON hOD hDE hEE hL
    exact forms_00 hb
  have kc : fCA (dcY b) = true := by
    try rw [heq]
    subst hDC hfSQ hNB hfSU hfMU hfIV hfNE hfAD hLE hfCA hEN hON hOD hDE hEE hL
    exact hCan
  clear hDC hfSQ hNB hfSU hfMU hfIV hfNE hfAD hLE hfCA hEN hON hOD hDE hEE
  rw [← hy] at kL c40 c41 c42 c00 kc
  rw [← hL] at hl hz
  refine ⟨?_⟩
  cbv
  repeat (first | refine ⟨hf, ?_⟩ | refine ⟨hn, ?_⟩ | refine ⟨nb1, ?_⟩ | refine ⟨nb2, ?_⟩ | refine ⟨hp _ _, ?_⟩ | refine ⟨hA _ _, ?_⟩ | refine ⟨hM _ _, ?_⟩ | refine ⟨hB _, ?_⟩ | refine ⟨hC _ _ _, ?_⟩ | refine ⟨hN _, ?_⟩ | refine ⟨hD _, ?_⟩ | refine ⟨hid, ?_⟩ | refine ⟨hba, ?_⟩ | refine ⟨⟨by decide⟩, ?_⟩)
  obtain ⟨x1, x2, x3, x4, x5, x6⟩ := c00 kc hl hz
  have e1 : cm .lss (LE (fMU (fMU (fSU (fSQ (upd b 31 (bi .and .u8 (b 31) 127))) (NB 1)) (NB 121666)) (fMU (NB 121666) (fAD (fMU (fSQ (upd b 31 (bi .and .u8 (b 31) 127))) (fNE (fMU (NB 121665) (fIV (NB 121666))))) (NB 1))))) 0 = false := by rw [kL, hcm]; exact decide_eq_false hl
  have e3 : (match cm .eql (LE (fMU (fMU (fSU (fSQ (upd b 31 (bi .and .u8 (b 31) 127))) (NB 1)) (NB 121666)) (fMU (NB 121666) (fAD (fMU (fSQ (upd b 31 (bi .and .u8 (b 31) 127))) (fNE (fMU (NB 121665) (fIV (NB 121666))))) (NB 1))))) 0 with | true => cm .geq (b 31) 128 | false => false) = false := by
    rw [kL, hs, hcm]
    cases hq : realCmp .eql L 0 with
    | false => rfl
    | true =>
      cases hq2 : dcS b with
      | false => rfl
      | true => exact absurd ⟨eq_of_beq hq, hq2⟩ hz
  refine and_dead (fun h => nt_t h kc) (fun _ => ?_)
  cbv
  refine and_dead (fun h => b_tf e1 h) (fun _ => ?_)
  cbv
  refine and_dead (fun h => b_tf e3 h) (fun _ => ?_)
  cbv
  have e9 : cm .eql (DE b) 0 = true := by rw [hcm, x1]; rfl
  have e8 : cm .eql (EE (DC b)) 0 = true := by rw [hcm, x2]; rfl
  rw [← hs] at x5
  exact chain6 e9 e8 x3 x4 (decide_eq_true x5) x6

theorem walk_law_pforms40 (A : Ops) (hA : A = realOps) (b : Nat → Int) (hb : IsBytes 32 b) (hCan : canB (dcY b) = false) (DC : (Nat → Int) → Nat → Int) (hDC : DC = decF) (fSQ : (Nat → Int) → Nat → Int) (hfSQ : fSQ = fun f => fb (fe f * fe f)) (NB : Int → Nat → Int) (hNB : NB = fun x => byt x) (fSU : (Nat → Int) → (Nat → Int) → Nat → Int) (hfSU : fSU = fun f g => fb (fe f - fe g)) (fMU : (Nat → Int) → (Nat → Int) → Nat → Int) (hfMU : fMU = fun f g => fb (fe f * fe g)) (fIV : (Nat → Int) → Nat → Int) (hfIV : fIV = invF) (fNE : (Nat → Int) → Nat → Int) (hfNE : fNE = fun f => fb (- fe f)) (fAD : (Nat → Int) → (Nat → Int) → Nat → Int) (hfAD : fAD = fun f g => fb (fe f + fe g)) (LE : (Nat → Int) → Int) (hLE : LE = fun f => legZ (fe f)) (fCA : (Nat → Int) → Bool) (hfCA : fCA = canB) (EN : (Nat → Int) → Nat → Int) (hEN : EN = encF) (ON : (Nat → Int) → Bool) (hON : ON = onB) (OD : (Nat → Int) → Bool) (hOD : OD = oddB) (DE : (Nat → Int) → Int) (hDE : DE = decE) (EE : (Nat → Int) → Int) (hEE : EE = offE) (L : Int) (hL : L = legB b) :
    Walk (mkEnv A tab.1 Glpf [(37, baseLC), (22, decC DC DE), (38, un32C fSQ), (40, numbLC NB), (39, bin32C fSU), (41, bin32C fMU), (44, un32C fIV), (43, un32C fNE), (42, bin32C fAD), (45, leg32C LE), (46, bool32C fCA), (24, numI), (28, encC EN EE), (26, onPC ON), (47, bool32C OD)] []) sc_law_pforms.1 137 [.tmp 2] [.arr .u8 32 b] (.bool (.sym true)) := by
  obtain ⟨bi, cm, un, cv, na, eq⟩ := A
  have hbi : bi = realBin := congrArg Ops.bin hA
  have hcm : cm = realCmp := congrArg Ops.cmp hA
  have hna : na = Int.toNat := congrArg Ops.nat hA
  have hcv : cv = fun k n => k.wrap n := congrArg Ops.cnv hA
  have heq : eq = realEqA := congrArg Ops.eqA hA
  clear hA
  have hp : True := trivial
  have hA : True := trivial
  have hM : True := trivial
  have hB : True := trivial
  have hC : True := trivial
  have hN : True := trivial
  have hD : True := trivial
  have hid : True := trivial
  have hba : True := trivial
  have hy : upd b 31 (bi .and .u8 (b 31) 127) = dcY b := by
    try rw [heq]
    subst hDC hfSQ hNB hfSU hfMU hfIV hfNE hfAD hLE hfCA hEN hON hOD hDE hEE hL
    rw [hbi]; exact dcY_is hb
  have hs : cm .geq (b 31) 128 = dcS b := by
    try rw [heq]
    subst hDC hfSQ hNB hfSU hfMU hfIV hfNE hfAD hLE hfCA hEN hON hOD hDE hEE hL
    rw [hcm]; rfl
  have e1 : ∀ f g, fe (fMU f g) = fe f * fe g := by
    intro f g; rw [hfMU]; exact fe_fb _
  have e2 : ∀ f g, fe (fSU f g) = fe f - fe g := by
    intro f g; rw [hfSU]; exact fe_fb _
  have e3 : ∀ f g, fe (fAD f g) = fe f + fe g := by
    intro f g; rw [hfAD]; exact fe_fb _
  have e4 : ∀ f, fe (fSQ f) = fe f * fe f := by
    intro f; rw [hfSQ]; exact fe_fb _
  have e5 : ∀ f, fe (fNE f) = -fe f := by
    intro f; rw [hfNE]; exact fe_fb _
  have e6 : fe (NB 1) = o1 := by
    rw [hNB]; exact fe_o1
  have e7 : fe (NB 121666) = n6 := by
    rw [hNB]; exact fe_n6
  have e8 : fe (NB 121665) = n5 := by
    rw [hNB]; exact fe_n5
  have e9 : fe (fIV (NB 121666)) = u6 := by
    rw [hNB, hfIV]; exact fe_u6
  have e10 : ∀ f, LE f = legZ (fe f) := by
    intro f; rw [hLE]
  have kL : LE (fMU (fMU (fSU (fSQ (dcY b)) (NB 1)) (NB 121666)) (fMU (NB 121666) (fAD (fMU (fSQ (dcY b)) (fNE (fMU (NB 121665) (fIV (NB 121666))))) (NB 1)))) = L := by
    rw [e10, e1, e1, e1, e2, e3, e1, e4, e5, e1, e9, e6, e7, e8, hL]; exact legB_leg b
  have c40 : fCA (dcY b) = false → DE b = 40 ∧ eq 64 (DC b) (fun _ => 0) = true := by
    try rw [heq]
    subst hDC hfSQ hNB hfSU hfMU hfIV hfNE hfAD hLE hfCA hEN hON hOD hDE hEE hL
    exact forms_40
  have c41 : fCA (dcY b) = true → L < 0 → DE b = 41 ∧ eq 64 (DC b) (fun _ => 0) = true := by
    try rw [heq]
    subst hDC hfSQ hNB hfSU hfMU hfIV hfNE hfAD hLE hfCA hEN hON hOD hDE hEE hL
    exact forms_41
  have c42 : fCA (dcY b) = true → L = 0 → dcS b = true → DE b = 42 ∧ eq 64 (DC b) (fun _ => 0) = true := by
    try rw [heq]
    subst hDC hfSQ hNB hfSU hfMU hfIV hfNE hfAD hLE hfCA hEN hON hOD hDE hEE hL
    exact forms_42
  have c00 : fCA (dcY b) = true → ¬ L < 0 → ¬ (L = 0 ∧ dcS b = true) → DE b = 0 ∧ EE (DC b) = 0 ∧ ON (DC b) = true ∧ eq 32 (fun j => DC b (32 + j)) (dcY b) = true ∧ OD (DC b) = dcS b ∧ eq 32 (EN (DC b)) b = true := by
    try rw [heq]
    subst hDC hfSQ hNB hfSU hfMU hfIV hfNE hfAD hLE hfCA hEN hON hOD hDE hEE hL
    exact forms_00 hb
  have kc : fCA (dcY b) = false := by
    try rw [heq]
    subst hDC hfSQ hNB hfSU hfMU hfIV hfNE hfAD hLE hfCA hEN hON hOD hDE hEE hL
    exact hCan
  clear hDC hfSQ hNB hfSU hfMU hfIV hfNE hfAD hLE hfCA hEN hON hOD hDE hEE
  rw [← hy] at kL c40 c41 c42 c00 kc
  refine ⟨?_⟩
  cbv
  repeat (first | refine ⟨hf, ?_⟩ | refine ⟨hn, ?_⟩ | refine ⟨nb1, ?_⟩ | refine ⟨nb2, ?_⟩ | refine ⟨hp _ _, ?_⟩ | refine ⟨hA _ _, ?_⟩ | refine ⟨hM _ _, ?_⟩ | refine ⟨hB _, ?_⟩ | refine ⟨hC _ _ _, ?_⟩ | refine ⟨hN _, ?_⟩ | refine ⟨hD _, ?_⟩ | refine ⟨hid, ?_⟩ | refine ⟨hba, ?_⟩ | refine ⟨⟨by decide⟩, ?_⟩)
  obtain ⟨x1, x2⟩ := c40 kc
  refine and_dead2 (fun h => nt_f h kc) (fun _ => ?_)
  cbv
  have e9 : cm .eql (DE b) 40 = true := by rw [hcm, x1]; rfl
  simp [e9, x2]

theorem walk_law_pforms41 (A : Ops) (hA : A = realOps) (b : Nat → Int) (hb : IsBytes 32 b) (hCan : canB (dcY b) = true) (hl : legB b < 0) (DC : (Nat → Int) → Nat → Int) (hDC : DC = decF) (fSQ : (Nat → Int) → Nat → Int) (hfSQ : fSQ = fun f => fb (fe f * fe f)) (NB : Int → Nat → Int) (hNB : NB = fun x => byt x) (fSU : (Nat → Int) → (Nat → Int) → Nat → Int) (hfSU : fSU = fun f g => fb (fe f - fe g)) (fMU : (Nat → Int) → (Nat → Int) → Nat → Int) (hfMU : fMU = fun f g => fb (fe f * fe g)) (fIV : (Nat → Int) → Nat → Int) (hfIV : fIV = invF) (fNE : (Nat → Int) → Nat → Int) (hfNE : fNE = fun f => fb (- fe f)) (fAD : (Nat → Int) → (Nat → Int) → Nat → Int) (hfAD : fAD = fun f g => fb (fe f + fe g)) (LE : (Nat → Int) → Int) (hLE : LE = fun f => legZ (fe f)) (fCA : (Nat → Int) → Bool) (hfCA : fCA = canB) (EN : (Nat → Int) → Nat → Int) (hEN : EN = encF) (ON : (Nat → Int) → Bool) (hON : ON = onB) (OD : (Nat → Int) → Bool) (hOD : OD = oddB) (DE : (Nat → Int) → Int) (hDE : DE = decE) (EE : (Nat → Int) → Int) (hEE : EE = offE) (L : Int) (hL : L = legB b) :
    Walk (mkEnv A tab.1 Glpf [(37, baseLC), (22, decC DC DE), (38, un32C fSQ), (40, numbLC NB), (39, bin32C fSU), (41, bin32C fMU), (44, un32C fIV), (43, un32C fNE), (42, bin32C fAD), (45, leg32C LE), (46, bool32C fCA), (24, numI), (28, encC EN EE), (26, onPC ON), (47, bool32C OD)] []) sc_law_pforms.1 137 [.tmp 2] [.arr .u8 32 b] (.bool (.sym true)) := by
  obtain ⟨bi, cm, un, cv, na, eq⟩ := A
  have hbi : bi = realBin := congrArg Ops.bin hA
  have hcm : cm = realCmp := congrArg Ops.cmp hA
  have hna : na = Int.toNat := congrArg Ops.nat hA
  have hcv : cv = fun k n => k.wrap n := congrArg Ops.cnv hA
  have heq : eq = realEqA := congrArg Ops.eqA hA
  clear hA
  have hp : True := trivial
  have hA : True := trivial
  have hM : True := trivial
  have hB : True := trivial
  have hC : True := trivial
  have hN : True := trivial
  have hD : True := trivial
  have hid : True := trivial
  have hba : True := trivial
  have hy : upd b 31 (bi .and .u8 (b 31) 127) = dcY b := by
    try rw [heq]
    subst hDC hfSQ hNB hfSU hfMU hfIV hfNE hfAD hLE hfCA hEN hON hOD hDE hEE hL
    rw [hbi]; exact dcY_is hb
  have hs : cm .geq (b 31) 128 = dcS b := by
    try rw [heq]
    subst hDC hfSQ hNB hfSU hfMU hfIV hfNE hfAD hLE hfCA hEN hON hOD hDE hEE hL
    rw [hcm]; rfl
  have e1 : ∀ f g, fe (fMU f g) = fe f * fe g := by
    intro f g; rw [hfMU]; exact fe_fb _
  have e2 : ∀ f g, fe (fSU f g) = fe f - fe g := by
    intro f g; rw [hfSU]; exact fe_fb _
  have e3 : ∀ f g, fe (fAD f g) = fe f + fe g := by
    intro f g; rw [hfAD]; exact fe_fb _
  have e4 : ∀ f, fe (fSQ f) = fe f * fe f := by
    intro f; rw [hfSQ]; exact fe_fb _
  have e5 : ∀ f, fe (fNE f) = -fe f := by
    intro f; rw [hfNE]; exact fe_fb _
  have e6 : fe (NB 1) = o1 := by
    rw [hNB]; exact fe_o1
  have e7 : fe (NB 121666) = n6 := by
    rw [hNB]; exact fe_n6
  have e8 : fe (NB 121665) = n5 := by
    rw [hNB]; exact fe_n5
  have e9 : fe (fIV (NB 121666)) = u6 := by
    rw [hNB, hfIV]; exact fe_u6
  have e10 : ∀ f, LE f = legZ (fe f) := by
    intro f; rw [hLE]
  have kL : LE (fMU (fMU (fSU (fSQ (dcY b)) (NB 1)) (NB 121666)) (fMU (NB 121666) (fAD (fMU (fSQ (dcY b)) (fNE (fMU (NB 121665) (fIV (NB 121666))))) (NB 1)))) = L := by
    rw [e10, e1, e1, e1, e2, e3, e1, e4, e5, e1, e9, e6, e7, e8, hL]; exact legB_leg b
  have c40 : fCA (dcY b) = false → DE b = 40 ∧ eq 64 (DC b) (fun _ => 0) = true := by
    try rw [heq]
    subst hDC hfSQ hNB hfSU hfMU hfIV hfNE hfAD hLE hfCA hEN hON hOD hDE hEE hL
    exact forms_40
  have c41 : fCA (dcY b) = true → L < 0 → DE b = 41 ∧ eq 64 (DC b) (fun _ => 0) = true := by
    try rw [heq]
    subst hDC hfSQ hNB hfSU hfMU hfIV hfNE hfAD hLE hfCA hEN hON hOD hDE hEE hL
    exact forms_41
  have c42 : fCA (dcY b) = true → L = 0 → dcS b = true → DE b = 42 ∧ eq 64 (DC b) (fun _ => 0) = true := by
    try rw [heq]
    subst hDC hfSQ hNB hfSU hfMU hfIV hfNE hfAD hLE hfCA hEN hON hOD hDE hEE hL
    exact forms_42
  have c00 : fCA (dcY b) = true → ¬ L < 0 → ¬ (L = 0 ∧ dcS b = true) → DE b = 0 ∧ EE (DC b) = 0 ∧ ON (DC b) = true ∧ eq 32 (fun j => DC b (32 + j)) (dcY b) = true ∧ OD (DC b) = dcS b ∧ eq 32 (EN (DC b)) b = true := by
    try rw [heq]
    subst hDC hfSQ hNB hfSU hfMU hfIV hfNE hfAD hLE hfCA hEN hON hOD hDE hEE hL
    exact forms_00 hb
  have kc : fCA (dcY b) = true := by
    try rw [heq]
    subst hDC hfSQ hNB hfSU hfMU hfIV hfNE hfAD hLE hfCA hEN hON hOD hDE hEE hL
    exact hCan
  clear hDC hfSQ hNB hfSU hfMU hfIV hfNE hfAD hLE hfCA hEN hON hOD hDE hEE
  rw [← hy] at kL c40 c41 c42 c00 kc
  rw [← hL] at hl
  refine ⟨?_⟩
  cbv
  repeat (first | refine ⟨hf, ?_⟩ | refine ⟨hn, ?_⟩ | refine ⟨nb1, ?_⟩ | refine ⟨nb2, ?_⟩ | refine ⟨hp _ _, ?_⟩ | refine ⟨hA _ _, ?_⟩ | refine ⟨hM _ _, ?_⟩ | refine ⟨hB _, ?_⟩ | refine ⟨hC _ _ _, ?_⟩ | refine ⟨hN _, ?_⟩ | refine ⟨hD _, ?_⟩ | refine ⟨hid, ?_⟩ | refine ⟨hba, ?_⟩ | refine ⟨⟨by decide⟩, ?_⟩)
  obtain ⟨x1, x2⟩ := c41 kc hl
  have e1 : cm .lss (LE (fMU (fMU (fSU (fSQ (upd b 31 (bi .and .u8 (b 31) 127))) (NB 1)) (NB 121666)) (fMU (NB 121666) (fAD (fMU (fSQ (upd b 31 (bi .and .u8 (b 31) 127))) (fNE (fMU (NB 121665) (fIV (NB 121666))))) (NB 1))))) 0 = true := by rw [kL, hcm]; exact decide_eq_true hl
  refine and_dead (fun h => nt_t h kc) (fun _ => ?_)
  cbv
  refine and_dead2 (fun h => b_ft e1 h) (fun _ => ?_)
  cbv
  have e9 : cm .eql (DE b) 41 = true := by rw [hcm, x1]; rfl
  simp [e9, x2]

theorem walk_law_pforms42 (A : Ops) (hA : A = realOps) (b : Nat → Int) (hb : IsBytes 32 b) (hCan : canB (dcY b) = true) (hl : legB b = 0) (hz : dcS b = true) (DC : (Nat → Int) → Nat → Int) (hDC : DC = decF) (fSQ : (Nat → Int) → Nat → Int) (hfSQ : fSQ = fun f => fb (fe f * fe f)) (NB : Int → Nat → Int) (hNB : NB = fun x => byt x) (fSU : (Nat → Int) → (Nat → Int) → Nat → Int) (hfSU : fSU = fun f g => fb (fe f - fe g)) (fMU : (Nat → Int) → (Nat → Int) → Nat → Int) (hfMU : fMU = fun f g => fb (fe f * fe g)) (fIV : (Nat → Int) → Nat → Int) (hfIV : fIV = invF) (fNE : (Nat → Int) → Nat → Int) (hfNE : fNE = fun f => fb (- fe f)) (fAD : (Nat → Int) → (Nat → Int) → Nat → Int) (hfAD : fAD = fun f g => fb (fe f + fe g)) (LE : (Nat → Int) → Int) (hLE : LE = fun f => legZ (fe f)) (fCA : (Nat → Int) → Bool) (hfCA : fCA = canB) (EN : (Nat → Int) → Nat → Int) (hEN : EN = encF) (ON : (Nat → Int) → Bool) (hON : ON = onB) (OD : (Nat → Int) → Bool) (hOD : OD = oddB) (DE : (Nat → Int) → Int) (hDE : DE = decE) (EE : (Nat → Int) → Int) (hEE : EE = offE) (L : Int) (hL : L = legB b) :
    Walk (mkEnv A tab.1 Glpf [(37, baseLC), (22, decC DC DE), (38, un32C fSQ), (40, numbLC NB), (39, bin32C fSU), (41, bin32C fMU), (44, un32C fIV), (43, un32C fNE), (42, bin32C fAD), (45, leg32C LE), (46, bool32C fCA), (24, numI), (28, encC EN EE), (26, onPC ON), (47, bool32C OD)] []) sc_law_pforms.1 137 [.tmp 2] [.arr .u8 32 b] (.bool (.sym true)) := by
  obtain ⟨bi, cm, un, cv, na, eq⟩ := A
  have hbi : bi = realBin := congrArg Ops.bin hA
  have hcm : cm = realCmp := congrArg Ops.cmp hA
  have hna : na = Int.toNat := congrArg Ops.nat hA
  have hcv : cv = fun k n => k.wrap n := congrArg Ops.cnv hA
  have heq : eq = realEqA := congrArg Ops.eqA hA
  clear hA
  have hp : True := trivial
  have hA : True := trivial
  have hM : True := trivial
  have hB : True := trivial
  have hC : True := trivial
  have hN : True := trivial
  have hD : True := trivial
  have hid : True := trivial
  have hba : True := trivial
  have hy : upd b 31 (bi .and .u8 (b 31) 127) = dcY b := by
    try rw [heq]
    subst hDC hfSQ hNB hfSU hfMU hfIV hfNE hfAD hLE hfCA hEN hON hOD hDE hEE hL
    rw [hbi]; exact dcY_is hb
  have hs : cm .geq (b 31) 128 = dcS b := by
    try rw [heq]
    subst hDC hfSQ hNB hfSU hfMU hfIV hfNE hfAD hLE hfCA hEN hON hOD hDE hEE hL
    rw [hcm]; rfl
  have e1 : ∀ f g, fe (fMU f g) = fe f * fe g := by
    intro f g; rw [hfMU]; exact fe_fb _
  have e2 : ∀ f g, fe (fSU f g) = fe f - fe g := by
    intro f g; rw [hfSU]; exact fe_fb _
  have e3 : ∀ f g, fe (fAD f g) = fe f + fe g := by
    intro f g; rw [hfAD]; exact fe_fb _
  have e4 : ∀ f, fe (fSQ f) = fe f * fe f := by
    intro f; rw [hfSQ]; exact fe_fb _
  have e5 : ∀ f, fe (fNE f) = -fe f := by
    intro f; rw [hfNE]; exact fe_fb _
  have e6 : fe (NB 1) = o1 := by
    rw [hNB]; exact fe_o1
  have e7 : fe (NB 121666) = n6 := by
    rw [hNB]; exact fe_n6
  have e8 : fe (NB 121665) = n5 := by
    rw [hNB]; exact fe_n5
  have e9 : fe (fIV (NB 121666)) = u6 := by
    rw [hNB, hfIV]; exact fe_u6
  have e10 : ∀ f, LE f = legZ (fe f) := by
    intro f; rw [hLE]
  have kL : LE (fMU (fMU (fSU (fSQ (dcY b)) (NB 1)) (NB 121666)) (fMU (NB 121666) (fAD (fMU (fSQ (dcY b)) (fNE (fMU (NB 121665) (fIV (NB 121666))))) (NB 1)))) = L := by
    rw [e10, e1, e1, e1, e2, e3, e1, e4, e5, e1, e9, e6, e7, e8, hL]; exact legB_leg b
  have c40 : fCA (dcY b) = false → DE b = 40 ∧ eq 64 (DC b) (fun _ => 0) = true := by
    try rw [heq]
    subst hDC hfSQ hNB hfSU hfMU hfIV hfNE hfAD hLE hfCA hEN hON hOD hDE hEE hL
    exact forms_40
  have c41 : fCA (dcY b) = true → L < 0 → DE b = 41 ∧ eq 64 (DC b) (fun _ => 0) = true := by
    try rw [heq]
    subst hDC hfSQ hNB hfSU hfMU hfIV hfNE hfAD hLE hfCA hEN hON hOD hDE hEE hL
    exact forms_41
  have c42 : fCA (dcY b) = true → L = 0 → dcS b = true → DE b = 42 ∧ eq 64 (DC b) (fun _ => 0) = true := by
    try rw [heq]
    subst hDC hfSQ hNB hfSU hfMU hfIV hfNE hfAD hLE hfCA hEN hON hOD hDE hEE hL
    exact forms_42
  have c00 : fCA (dcY b) = true → ¬ L < 0 → ¬ (L = 0 ∧ dcS b = true) → DE b = 0 ∧ EE (DC b) = 0 ∧ ON (DC b) = true ∧ eq 32 (fun j => DC b (32 + j)) (dcY b) = true ∧ OD (DC b) = dcS b ∧ eq 32 (EN (DC b)) b = true := by
    try rw [heq]
    subst hDC hfSQ hNB hfSU hfMU hfIV hfNE hfAD hLE hfCA hEN hON hOD hDE hEE hL
    exact forms_00 hb
  have kc : fCA (dcY b) = true := by
    try rw [heq]
    subst hDC hfSQ hNB hfSU hfMU hfIV hfNE hfAD hLE hfCA hEN hON hOD hDE hEE hL
    exact hCan
  clear hDC hfSQ hNB hfSU hfMU hfIV hfNE hfAD hLE hfCA hEN hON hOD hDE hEE
  rw [← hy] at kL c40 c41 c42 c00 kc
  rw [← hL] at hl
  refine ⟨?_⟩
  cbv
  repeat (first | refine ⟨hf, ?_⟩ | refine ⟨hn, ?_⟩ | refine ⟨nb1, ?_⟩ | refine ⟨nb2, ?_⟩ | refine ⟨hp _ _, ?_⟩ | refine ⟨hA _ _, ?_⟩ | refine ⟨hM _ _, ?_⟩ | refine ⟨hB _, ?_⟩ | refine ⟨hC _ _ _, ?_⟩ | refine ⟨hN _, ?_⟩ | refine ⟨hD _, ?_⟩ | refine ⟨hid, ?_⟩ | refine ⟨hba, ?_⟩ | refine ⟨⟨by decide⟩, ?_⟩)
  obtain ⟨x1, x2⟩ := c42 kc hl hz
  have e1 : cm .lss (LE (fMU (fMU (fSU (fSQ (upd b 31 (bi .and .u8 (b 31) 127))) (NB 1)) (NB 121666)) (fMU (NB 121666) (fAD (fMU (fSQ (upd b 31 (bi .and .u8 (b 31) 127))) (fNE (fMU (NB 121665) (fIV (NB 121666))))) (NB 1))))) 0 = false := by rw [kL, hcm]; exact decide_eq_false (by omega)
  have e2 : cm .eql (LE (fMU (fMU (fSU (fSQ (upd b 31 (bi .and .u8 (b 31) 127))) (NB 1)) (NB 121666)) (fMU (NB 121666) (fAD (fMU (fSQ (upd b 31 (bi .and .u8 (b 31) 127))) (fNE (fMU (NB 121665) (fIV (NB 121666))))) (NB 1))))) 0 = true := by rw [kL, hcm]; exact by rw [hl]; rfl
  have e3 : (match cm .eql (LE (fMU (fMU (fSU (fSQ (upd b 31 (bi .and .u8 (b 31) 127))) (NB 1)) (NB 121666)) (fMU (NB 121666) (fAD (fMU (fSQ (upd b 31 (bi .and .u8 (b 31) 127))) (fNE (fMU (NB 121665) (fIV (NB 121666))))) (NB 1))))) 0 with | true => cm .geq (b 31) 128 | false => false) = true := by rw [e2]; exact hs.trans hz
  refine and_dead (fun h => nt_t h kc) (fun _ => ?_)
  cbv
  refine and_dead (fun h => b_tf e1 h) (fun _ => ?_)
  cbv
  refine and_dead2 (fun h => b_ft e3 h) (fun _ => ?_)
  cbv
  have e9 : cm .eql (DE b) 42 = true := by rw [hcm, x1]; rfl
  simp [e9, x2]

theorem ok_lawP_pforms : Sound Tryd.prog Glpf 6 (lawB) := by
  refine sound_each (n := 137) (rs := [.tmp 2]) (sc := sc_law_pforms.1) mixed Tryd.func6 rfl rfl rfl rfl sc_law_pforms.2 ?_
  intro vs cs r h
  unfold lawB at h
  split at h
  · rename_i b
    cases h
    refine ⟨by simp, fun hcs hwf => ?_⟩
    cases hCan : canB (dcY b) with
    | false => exact ⟨_, envOK tabOK ((.cons ((ok_lbase).sub (sub_of (by decide))) (.cons (ok_ptdec.sub (sub_of (by decide))) (.cons ((ok_squareZ Gpt).sub (sub_of (by decide))) (.cons ((ok_lnumber).sub (sub_of (by decide))) (.cons ((ok_subZ Gpt (ok_less.sub (sub_of (by decide)))).sub (sub_of (by decide))) (.cons ((ok_mulZ Gpt).sub (sub_of (by decide))) (.cons (ok_invertF.sub (sub_of (by decide))) (.cons ((ok_negZ Gpt (ok_less.sub (sub_of (by decide)))).sub (sub_of (by decide))) (.cons ((ok_addZ Gpt).sub (sub_of (by decide))) (.cons (ok_legendreF.sub (sub_of (by decide))) (.cons ((ok_canonF Gpt).sub (sub_of (by decide))) (.cons (ok_lnum.sub (sub_of (by decide))) (.cons (ok_ptenc.sub (sub_of (by decide))) (.cons (ok_pton.sub (sub_of (by decide))) (.cons ((ok_oddF Gpt).sub (sub_of (by decide))) .nil)))))))))))))))), rfl, walk_law_pforms40 realOps rfl b (isB (hwf _ (by simp))) (hCan) _ rfl _ rfl _ rfl _ rfl _ rfl _ rfl _ rfl _ rfl _ rfl _ rfl _ rfl _ rfl _ rfl _ rfl _ rfl _ rfl⟩
    | true =>
      by_cases hl : legB b < 0
      · exact ⟨_, envOK tabOK ((.cons ((ok_lbase).sub (sub_of (by decide))) (.cons (ok_ptdec.sub (sub_of (by decide))) (.cons ((ok_squareZ Gpt).sub (sub_of (by decide))) (.cons ((ok_lnumber).sub (sub_of (by decide))) (.cons ((ok_subZ Gpt (ok_less.sub (sub_of (by decide)))).sub (sub_of (by decide))) (.cons ((ok_mulZ Gpt).sub (sub_of (by decide))) (.cons (ok_invertF.sub (sub_of (by decide))) (.cons ((ok_negZ Gpt (ok_less.sub (sub_of (by decide)))).sub (sub_of (by decide))) (.cons ((ok_addZ Gpt).sub (sub_of (by decide))) (.cons (ok_legendreF.sub (sub_of (by decide))) (.cons ((ok_canonF Gpt).sub (sub_of (by decide))) (.cons (ok_lnum.sub (sub_of (by decide))) (.cons (ok_ptenc.sub (sub_of (by decide))) (.cons (ok_pton.sub (sub_of (by decide))) (.cons ((ok_oddF Gpt).sub (sub_of (by decide))) .nil)))))))))))))))), rfl, walk_law_pforms41 realOps rfl b (isB (hwf _ (by simp))) (hCan) (hl) _ rfl _ rfl _ rfl _ rfl _ rfl _ rfl _ rfl _ rfl _ rfl _ rfl _ rfl _ rfl _ rfl _ rfl _ rfl _ rfl⟩
      · by_cases hz : legB b = 0 ∧ dcS b = true
        · obtain ⟨hl, hz⟩ := hz
          exact ⟨_, envOK tabOK ((.cons ((ok_lbase).sub (sub_of (by decide))) (.cons (ok_ptdec.sub (sub_of (by decide))) (.cons ((ok_squareZ Gpt).sub (sub_of (by decide))) (.cons ((ok_lnumber).sub (sub_of (by decide))) (.cons ((ok_subZ Gpt (ok_less.sub (sub_of (by decide)))).sub (sub_of (by decide))) (.cons ((ok_mulZ Gpt).sub (sub_of (by decide))) (.cons (ok_invertF.sub (sub_of (by decide))) (.cons ((ok_negZ Gpt (ok_less.sub (sub_of (by decide)))).sub (sub_of (by decide))) (.cons ((ok_addZ Gpt).sub (sub_of (by decide))) (.cons (ok_legendreF.sub (sub_of (by decide))) (.cons ((ok_canonF Gpt).sub (sub_of (by decide))) (.cons (ok_lnum.sub (sub_of (by decide))) (.cons (ok_ptenc.sub (sub_of (by decide))) (.cons (ok_pton.sub (sub_of (by decide))) (.cons ((ok_oddF Gpt).sub (sub_of (by decide))) .nil)))))))))))))))), rfl, walk_law_pforms42 realOps rfl b (isB (hwf _ (by simp))) (hCan) (hl) (hz) _ rfl _ rfl _ rfl _ rfl _ rfl _ rfl _ rfl _ rfl _ rfl _ rfl _ rfl _ rfl _ rfl _ rfl _ rfl _ rfl⟩
        · exact ⟨_, envOK tabOK ((.cons ((ok_lbase).sub (sub_of (by decide))) (.cons (ok_ptdec.sub (sub_of (by decide))) (.cons ((ok_squareZ Gpt).sub (sub_of (by decide))) (.cons ((ok_lnumber).sub (sub_of (by decide))) (.cons ((ok_subZ Gpt (ok_less.sub (sub_of (by decide)))).sub (sub_of (by decide))) (.cons ((ok_mulZ Gpt).sub (sub_of (by decide))) (.cons (ok_invertF.sub (sub_of (by decide))) (.cons ((ok_negZ Gpt (ok_less.sub (sub_of (by decide)))).sub (sub_of (by decide))) (.cons ((ok_addZ Gpt).sub (sub_of (by decide))) (.cons (ok_legendreF.sub (sub_of (by decide))) (.cons ((ok_canonF Gpt).sub (sub_of (by decide))) (.cons (ok_lnum.sub (sub_of (by decide))) (.cons (ok_ptenc.sub (sub_of (by decide))) (.cons (ok_pton.sub (sub_of (by decide))) (.cons ((ok_oddF Gpt).sub (sub_of (by decide))) .nil)))))))))))))))), rfl, walk_law_pforms realOps rfl b (isB (hwf _ (by simp))) (hCan) (hl) (hz) _ rfl _ rfl _ rfl _ rfl _ rfl _ rfl _ rfl _ rfl _ rfl _ rfl _ rfl _ rfl _ rfl _ rfl _ rfl _ rfl⟩
  · cases h
theorem ok_law_pforms : Sound Tryd.prog (lookGL gl_lpf) 6 lawB := ok_lawP_pforms
end Go.Proofs.YtnbjbamoddmbhaaDoor
