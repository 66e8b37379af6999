/-
  ScalarAll holds for every script: the steps' walks.
-/
import Derived.Test.YtbiialpakchjgaaDoorZRefD
import Derived.Test.YtbiialpakchjgaaDoorZScalD
import Derived.Test.YtbiialpakchjgaaDoorZScalC
import Derived.Test.YtbiialpakchjgaaDoorZScalL
import Derived.Test.YtbiialpakchjgaaDoorZDigA
import Derived.Test.YtbiialpakchjgaaDoorZDigB
import Derived.Test.YtbiialpakchjgaaDoorZDigS
import Derived.Test.YtbiialpakchjgaaDoorZValA
import Derived.Test.YtbiialpakchjgaaDoorZValB
import Derived.Test.YtbiialpakchjgaaDoorZMA
namespace Go.Proofs.YtbiialpakchjgaaDoor
open Go Go.Proofs Sx
set_option maxRecDepth 100000
set_option maxHeartbeats 4000000
set_option linter.unusedVariables false
set_option linter.unusedSimpArgs false

def gl_sall : GL := [v_rorder, v_mult, v_order]
abbrev G_sall : Nat → AV := lookGL gl_sall
def sc_snumbers : { c : SC // strip (body Tryd.f4) = c } := ⟨_, by cbv⟩
theorem walk_snumbers (A : Ops) (hA : A = realOps)     :
    Walk (mkEnv A tab.1 G0 [] []) sc_snumbers.1 1 [.tmp 0] [] (.bool (.lit true)) := by
  refine ⟨?_⟩
  cbv

theorem ok_snumbers : Sound Tryd.prog G0 4 (trueC) := by
  refine sound_each (n := 1) (rs := [.tmp 0]) (sc := sc_snumbers.1) mixed Tryd.func4 rfl rfl rfl rfl sc_snumbers.2 ?_
  intro vs cs r h
  unfold trueC at h
  split at h
  · cases h
    exact ⟨by simp, fun hcs hwf => ⟨_, envOK tabOK ( .nil), rfl, walk_snumbers realOps rfl    ⟩⟩
  · cases h
def sc_sdigs : { c : SC // strip (body Tryd.f22) = c } := ⟨_, by cbv⟩
theorem walk_sdigs (mem : Mem) (X : Acc) (hX : X = realAcc mem) (A : Ops) (hA : A = realOps) (v : Value) (ho : OpS mem v) (hR : RecOK mem 163 opS v) (DD : (Nat → Int) → Int → Nat → Int) (hDD : DD = digF) (SM : Nat → (Nat → Int) → Nat → (Nat → Int) → Bool) (hSM : SM = sameB) (VA : Nat → (Nat → Int) → Nat → Int) (hVA : VA = valA) (LL : Int → Nat) (hLL : LL = digL) (EE : Int → Int) (hEE : EE = digE) (VE : Nat → Int) (hVE : VE = valErr 2)  :
    Walk (mkEnvM X mem A tab.1 G_sall [(35, digitsC DD LL EE), (36, digitsC DD LL EE), (37, sameC SM), (39, valueC .i64 VA VE), (38, valueC .i64 VA VE)] []) sc_sdigs.1 58 [.tmp 2] [.opq v] (.bool (.sym true)) := by
  obtain ⟨bi, cm, un, cv, na, eq⟩ := A
  have hbi : bi = realBin := congrArg Ops.bin hA
  have hcm : cm = realCmp := congrArg Ops.cmp hA
  have hna : na = Int.toNat := congrArg Ops.nat hA
  have hcv : cv = fun k n => k.wrap n := congrArg Ops.cnv hA
  have heq : eq = realEqA := congrArg Ops.eqA hA
  clear hA
  obtain ⟨cl, nu, ln, cp, ad, gt, ls⟩ := X
  have hcl : cl = rCell := congrArg Acc.cell hX
  have hln : ln = rLen := congrArg Acc.len hX
  have had : ad = rAddr := congrArg Acc.addr hX
  have hgt : gt = rGet mem := congrArg Acc.get hX
  clear hX
  have hS : IsRec v 163 := ho.size
  have hK : IsNum .i64 (cl v 0) := by rw [hcl]; exact ho.kind
  have hA1 : IsNums .u8 32 fun j => cl v (1 + j) := by rw [hcl]; exact ho.a
  have hB1 : IsNums .u8 32 fun j => cl v (33 + j) := by rw [hcl]; exact ho.b
  have hC1 : IsNums .u8 32 fun j => cl v (65 + j) := by rw [hcl]; exact ho.c
  have hW1 : IsNums .u8 64 fun j => cl v (97 + j) := by rw [hcl]; exact ho.w
  have hN1 : IsNum .i64 (cl v 161) := by rw [hcl]; exact ho.n
  have hI : IsSl (cl v 162) := by rw [hcl]; exact ho.sl
  have hL : IsList mem .i8 1 (cl v 162) := by rw [hcl]; exact ho.l
  have e0 : ∀ f, eq 32 f f = true := by intro f; rw [heq]; exact realEqA_iff.2 fun _ _ => rfl
  have c0 : ∀ x, cm .eql x x = true := by intro x; rw [hcm]; exact beq_self_eq_true x
  have k3 : ∀ n f, SM n f n f = true := by intro n f; rw [hSM]; exact sameB_self _ _
  clear hDD hLL hEE hSM hVA hVE hcl hln had hgt
  refine ⟨?_⟩
  cbv
  repeat (first | refine ⟨hK, ?_⟩ | refine ⟨hA1, ?_⟩ | refine ⟨hB1, ?_⟩ | refine ⟨hC1, ?_⟩ | refine ⟨hW1, ?_⟩ | refine ⟨hN1, ?_⟩ | refine ⟨hI, ?_⟩ | refine ⟨hL, ?_⟩ | refine ⟨hS, ?_⟩ | refine ⟨hR, ?_⟩ | refine ⟨⟨Nat.le_refl _⟩, ?_⟩)
  refine ⟨fun h => ?_, fun h => ?_⟩
  · cbv
    repeat (first | refine ⟨hK, ?_⟩ | refine ⟨hA1, ?_⟩ | refine ⟨hB1, ?_⟩ | refine ⟨hC1, ?_⟩ | refine ⟨hW1, ?_⟩ | refine ⟨hN1, ?_⟩ | refine ⟨hI, ?_⟩ | refine ⟨hL, ?_⟩ | refine ⟨hS, ?_⟩ | refine ⟨hR, ?_⟩ | refine ⟨⟨Nat.le_refl _⟩, ?_⟩)
    (try dsimp only [SI.val, SO.val]); (try first | trivial | exact e0 _ | simp [e0, c0, k3])
  · cbv
    repeat (first | refine ⟨hK, ?_⟩ | refine ⟨hA1, ?_⟩ | refine ⟨hB1, ?_⟩ | refine ⟨hC1, ?_⟩ | refine ⟨hW1, ?_⟩ | refine ⟨hN1, ?_⟩ | refine ⟨hI, ?_⟩ | refine ⟨hL, ?_⟩ | refine ⟨hS, ?_⟩ | refine ⟨hR, ?_⟩ | refine ⟨⟨Nat.le_refl _⟩, ?_⟩)
    (try dsimp only [SI.val, SO.val]); (try first | trivial | exact e0 _ | simp [e0, c0, k3])

theorem ok_sdigs (mem : Mem) : SoundM Tryd.prog mem G_sall 22 (playS mem) := by
  refine sound_eachM (mem := mem) (n := 58) (rs := [.tmp 2]) (sc := sc_sdigs.1) mixed Tryd.func22 rfl rfl rfl rfl sc_sdigs.2 ?_
  intro vs cs r h
  unfold playS at h
  split at h
  · rename_i v
    cases h
    exact ⟨by simp, fun hcs hwf => ⟨_, envOKM tabOK ((.cons ((ok_sdigits G_sall).toM mem) (.cons ((ok_rdigits G_sall).toM mem) (.cons ((ok_same G_sall).toM mem) (.cons ((ok_svalue.sub (sub_of (by decide))).toM mem) (.cons ((ok_rvalue.sub (sub_of (by decide))).toM mem) .nil)))))), rfl, rfl, walk_sdigs mem _ rfl realOps rfl v (opS_of (hcs _ (by simp))) (hcs _ (by simp)) _ rfl _ rfl _ rfl _ rfl _ rfl _ rfl ⟩⟩
  · cases h
def sc_splays : { c : SC // strip (body Tryd.f7) = c } := ⟨_, by cbv⟩
theorem walk_splays (mem : Mem) (X : Acc) (hX : X = realAcc mem) (A : Ops) (hA : A = realOps) (v : Value) (ho : OpS mem v) (hR : RecOK mem 163 opS v) (OR : Nat → Int) (hOR : OR = byt lI) (CA : (Nat → Int) → Bool) (hCA : CA = canS) (RD : (Nat → Int) → Nat → Int) (hRD : RD = fun f => sb (sn 64 f)) (AD : (Nat → Int) → (Nat → Int) → Nat → Int) (hAD : AD = fun f g => sb (se f + se g)) (NE : (Nat → Int) → Nat → Int) (hNE : NE = fun f => sb (- se f)) (MA : (Nat → Int) → (Nat → Int) → (Nat → Int) → Nat → Int) (hMA : MA = fun a b c => sb (se a * se b + se c)) (IV : (Nat → Int) → Nat → Int) (hIV : IV = fun f => sb (zinv (se f))) (II : (Nat → Int) → (Nat → Int) → Bool) (hII : II = isInvF) (CM : (Nat → Int) → Nat → Int) (hCM : CM = clampF)  :
    Walk (mkEnvM X mem A tab.1 G_sall [(5, primeC OR), (6, primeC OR), (8, bool32C CA), (9, bool32C CA), (10, un64C RD), (11, un64C RD), (12, bin32C AD), (13, bin32C AD), (14, un32C NE), (15, un32C NE), (16, tri32C MA), (17, tri32C MA), (18, un32C IV), (19, bool232C II), (20, un32C CM), (21, un32C CM), (22, playS mem)] []) sc_splays.1 91 [.tmp 2] [.opq v] (.bool (.sym true)) := by
  obtain ⟨bi, cm, un, cv, na, eq⟩ := A
  have hbi : bi = realBin := congrArg Ops.bin hA
  have hcm : cm = realCmp := congrArg Ops.cmp hA
  have hna : na = Int.toNat := congrArg Ops.nat hA
  have hcv : cv = fun k n => k.wrap n := congrArg Ops.cnv hA
  have heq : eq = realEqA := congrArg Ops.eqA hA
  clear hA
  obtain ⟨cl, nu, ln, cp, ad, gt, ls⟩ := X
  have hcl : cl = rCell := congrArg Acc.cell hX
  have hln : ln = rLen := congrArg Acc.len hX
  have had : ad = rAddr := congrArg Acc.addr hX
  have hgt : gt = rGet mem := congrArg Acc.get hX
  clear hX
  have hS : IsRec v 163 := ho.size
  have hK : IsNum .i64 (cl v 0) := by rw [hcl]; exact ho.kind
  have hA1 : IsNums .u8 32 fun j => cl v (1 + j) := by rw [hcl]; exact ho.a
  have hB1 : IsNums .u8 32 fun j => cl v (33 + j) := by rw [hcl]; exact ho.b
  have hC1 : IsNums .u8 32 fun j => cl v (65 + j) := by rw [hcl]; exact ho.c
  have hW1 : IsNums .u8 64 fun j => cl v (97 + j) := by rw [hcl]; exact ho.w
  have hN1 : IsNum .i64 (cl v 161) := by rw [hcl]; exact ho.n
  have hI : IsSl (cl v 162) := by rw [hcl]; exact ho.sl
  have hL : IsList mem .i8 1 (cl v 162) := by rw [hcl]; exact ho.l
  have e0 : ∀ f, eq 32 f f = true := by intro f; rw [heq]; exact realEqA_iff.2 fun _ _ => rfl
  have c0 : ∀ x, cm .eql x x = true := by intro x; rw [hcm]; exact beq_self_eq_true x
  have ki : ∀ a, II a (IV a) = true := by intro a; rw [hII, hIV]; exact isInv_inv a
  clear hOR hCA hRD hAD hNE hMA hIV hII hCM hcl hln had hgt
  refine ⟨?_⟩
  cbv
  repeat (first | refine ⟨hK, ?_⟩ | refine ⟨hA1, ?_⟩ | refine ⟨hB1, ?_⟩ | refine ⟨hC1, ?_⟩ | refine ⟨hW1, ?_⟩ | refine ⟨hN1, ?_⟩ | refine ⟨hI, ?_⟩ | refine ⟨hL, ?_⟩ | refine ⟨hS, ?_⟩ | refine ⟨hR, ?_⟩ | refine ⟨⟨Nat.le_refl _⟩, ?_⟩)
  refine ⟨fun h => ?_, fun h => ?_⟩
  · cbv
    repeat (first | refine ⟨hK, ?_⟩ | refine ⟨hA1, ?_⟩ | refine ⟨hB1, ?_⟩ | refine ⟨hC1, ?_⟩ | refine ⟨hW1, ?_⟩ | refine ⟨hN1, ?_⟩ | refine ⟨hI, ?_⟩ | refine ⟨hL, ?_⟩ | refine ⟨hS, ?_⟩ | refine ⟨hR, ?_⟩ | refine ⟨⟨Nat.le_refl _⟩, ?_⟩)
    (try dsimp only [SI.val, SO.val]); (try first | trivial | exact e0 _ | simp [e0, c0, ki])
  cbv
  refine ⟨fun h => ?_, fun h => ?_⟩
  · cbv
    repeat (first | refine ⟨hK, ?_⟩ | refine ⟨hA1, ?_⟩ | refine ⟨hB1, ?_⟩ | refine ⟨hC1, ?_⟩ | refine ⟨hW1, ?_⟩ | refine ⟨hN1, ?_⟩ | refine ⟨hI, ?_⟩ | refine ⟨hL, ?_⟩ | refine ⟨hS, ?_⟩ | refine ⟨hR, ?_⟩ | refine ⟨⟨Nat.le_refl _⟩, ?_⟩)
    (try dsimp only [SI.val, SO.val]); (try first | trivial | exact e0 _ | simp [e0, c0, ki])
  cbv
  refine ⟨fun h => ?_, fun h => ?_⟩
  · cbv
    repeat (first | refine ⟨hK, ?_⟩ | refine ⟨hA1, ?_⟩ | refine ⟨hB1, ?_⟩ | refine ⟨hC1, ?_⟩ | refine ⟨hW1, ?_⟩ | refine ⟨hN1, ?_⟩ | refine ⟨hI, ?_⟩ | refine ⟨hL, ?_⟩ | refine ⟨hS, ?_⟩ | refine ⟨hR, ?_⟩ | refine ⟨⟨Nat.le_refl _⟩, ?_⟩)
    (try dsimp only [SI.val, SO.val]); (try first | trivial | exact e0 _ | simp [e0, c0, ki])
  cbv
  refine ⟨fun h => ?_, fun h => ?_⟩
  · cbv
    repeat (first | refine ⟨hK, ?_⟩ | refine ⟨hA1, ?_⟩ | refine ⟨hB1, ?_⟩ | refine ⟨hC1, ?_⟩ | refine ⟨hW1, ?_⟩ | refine ⟨hN1, ?_⟩ | refine ⟨hI, ?_⟩ | refine ⟨hL, ?_⟩ | refine ⟨hS, ?_⟩ | refine ⟨hR, ?_⟩ | refine ⟨⟨Nat.le_refl _⟩, ?_⟩)
    (try dsimp only [SI.val, SO.val]); (try first | trivial | exact e0 _ | simp [e0, c0, ki])
  cbv
  refine ⟨fun h => ?_, fun h => ?_⟩
  · cbv
    repeat (first | refine ⟨hK, ?_⟩ | refine ⟨hA1, ?_⟩ | refine ⟨hB1, ?_⟩ | refine ⟨hC1, ?_⟩ | refine ⟨hW1, ?_⟩ | refine ⟨hN1, ?_⟩ | refine ⟨hI, ?_⟩ | refine ⟨hL, ?_⟩ | refine ⟨hS, ?_⟩ | refine ⟨hR, ?_⟩ | refine ⟨⟨Nat.le_refl _⟩, ?_⟩)
    (try dsimp only [SI.val, SO.val]); (try first | trivial | exact e0 _ | simp [e0, c0, ki])
  cbv
  refine ⟨fun h => ?_, fun h => ?_⟩
  · cbv
    repeat (first | refine ⟨hK, ?_⟩ | refine ⟨hA1, ?_⟩ | refine ⟨hB1, ?_⟩ | refine ⟨hC1, ?_⟩ | refine ⟨hW1, ?_⟩ | refine ⟨hN1, ?_⟩ | refine ⟨hI, ?_⟩ | refine ⟨hL, ?_⟩ | refine ⟨hS, ?_⟩ | refine ⟨hR, ?_⟩ | refine ⟨⟨Nat.le_refl _⟩, ?_⟩)
    (try dsimp only [SI.val, SO.val]); (try first | trivial | exact e0 _ | simp [e0, c0, ki])
  cbv
  refine ⟨fun h => ?_, fun h => ?_⟩
  · cbv
    repeat (first | refine ⟨hK, ?_⟩ | refine ⟨hA1, ?_⟩ | refine ⟨hB1, ?_⟩ | refine ⟨hC1, ?_⟩ | refine ⟨hW1, ?_⟩ | refine ⟨hN1, ?_⟩ | refine ⟨hI, ?_⟩ | refine ⟨hL, ?_⟩ | refine ⟨hS, ?_⟩ | refine ⟨hR, ?_⟩ | refine ⟨⟨Nat.le_refl _⟩, ?_⟩)
    (try dsimp only [SI.val, SO.val]); (try first | trivial | exact e0 _ | simp [e0, c0, ki])
  cbv
  refine ⟨fun h => ?_, fun h => ?_⟩
  · cbv
    repeat (first | refine ⟨hK, ?_⟩ | refine ⟨hA1, ?_⟩ | refine ⟨hB1, ?_⟩ | refine ⟨hC1, ?_⟩ | refine ⟨hW1, ?_⟩ | refine ⟨hN1, ?_⟩ | refine ⟨hI, ?_⟩ | refine ⟨hL, ?_⟩ | refine ⟨hS, ?_⟩ | refine ⟨hR, ?_⟩ | refine ⟨⟨Nat.le_refl _⟩, ?_⟩)
    (try dsimp only [SI.val, SO.val]); (try first | trivial | exact e0 _ | simp [e0, c0, ki])
  cbv
  refine ⟨fun h => ?_, fun h => ?_⟩
  · cbv
    refine dead2 (fun h2 => b_tf2 h h2) (fun _ => ?_)
    cbv
    repeat (first | refine ⟨hK, ?_⟩ | refine ⟨hA1, ?_⟩ | refine ⟨hB1, ?_⟩ | refine ⟨hC1, ?_⟩ | refine ⟨hW1, ?_⟩ | refine ⟨hN1, ?_⟩ | refine ⟨hI, ?_⟩ | refine ⟨hL, ?_⟩ | refine ⟨hS, ?_⟩ | refine ⟨hR, ?_⟩ | refine ⟨⟨Nat.le_refl _⟩, ?_⟩)
    (try dsimp only [SI.val, SO.val]); (try first | trivial | exact e0 _ | simp [e0, c0])
  cbv
  refine ⟨fun h => ?_, fun h => ?_⟩
  · cbv
    repeat (first | refine ⟨hK, ?_⟩ | refine ⟨hA1, ?_⟩ | refine ⟨hB1, ?_⟩ | refine ⟨hC1, ?_⟩ | refine ⟨hW1, ?_⟩ | refine ⟨hN1, ?_⟩ | refine ⟨hI, ?_⟩ | refine ⟨hL, ?_⟩ | refine ⟨hS, ?_⟩ | refine ⟨hR, ?_⟩ | refine ⟨⟨Nat.le_refl _⟩, ?_⟩)
    (try dsimp only [SI.val, SO.val]); (try first | trivial | exact e0 _ | simp [e0, c0])
  cbv

theorem ok_splays (mem : Mem) : SoundM Tryd.prog mem G_sall 7 (playS mem) := by
  refine sound_eachM (mem := mem) (n := 91) (rs := [.tmp 2]) (sc := sc_splays.1) mixed Tryd.func7 rfl rfl rfl rfl sc_splays.2 ?_
  intro vs cs r h
  unfold playS at h
  split at h
  · rename_i v
    cases h
    exact ⟨by simp, fun hcs hwf => ⟨_, envOKM tabOK ((.cons ((ok_orderS.sub (sub_of (by decide))).toM mem) (.cons ((ok_rorder.sub (sub_of (by decide))).toM mem) (.cons ((ok_canonS.sub (sub_of (by decide))).toM mem) (.cons ((ok_rcanon.sub (sub_of (by decide))).toM mem) (.cons ((ok_reduceS.sub (sub_of (by decide))).toM mem) (.cons ((ok_refreduce.sub (sub_of (by decide))).toM mem) (.cons ((ok_addS32.sub (sub_of (by decide))).toM mem) (.cons ((ok_refadd.sub (sub_of (by decide))).toM mem) (.cons ((ok_negS.sub (sub_of (by decide))).toM mem) (.cons ((ok_refneg.sub (sub_of (by decide))).toM mem) (.cons ((ok_muladd.sub (sub_of (by decide))).toM mem) (.cons ((ok_refmuladd.sub (sub_of (by decide))).toM mem) (.cons ((ok_invertS.sub (sub_of (by decide))).toM mem) (.cons ((ok_risinv.sub (sub_of (by decide))).toM mem) (.cons ((ok_clampF G_sall).toM mem) (.cons ((ok_rclamp.sub (sub_of (by decide))).toM mem) (.cons (ok_sdigs mem) .nil)))))))))))))))))), rfl, rfl, walk_splays mem _ rfl realOps rfl v (opS_of (hcs _ (by simp))) (hcs _ (by simp)) _ rfl _ rfl _ rfl _ rfl _ rfl _ rfl _ rfl _ rfl _ rfl ⟩⟩
  · cases h
end Go.Proofs.YtbiialpakchjgaaDoor
