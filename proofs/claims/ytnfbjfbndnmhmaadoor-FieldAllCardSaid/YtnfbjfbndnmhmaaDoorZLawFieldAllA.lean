/-
  FieldAll holds for every script: the steps' walks.
-/
import Derived.Test.YtnfbjfbndnmhmaaDoorZRefQZ
import Derived.Test.YtnfbjfbndnmhmaaDoorZRefQM
import Derived.Test.YtnfbjfbndnmhmaaDoorZRefQX
import Derived.Test.YtnfbjfbndnmhmaaDoorZFieldS
import Derived.Test.YtnfbjfbndnmhmaaDoorZFieldM
import Derived.Test.YtnfbjfbndnmhmaaDoorZNA
import Derived.Test.YtnfbjfbndnmhmaaDoorZFieldL
namespace Go.Proofs.YtnfbjfbndnmhmaaDoor
open Go Go.Proofs Sx
set_option maxRecDepth 100000
set_option maxHeartbeats 4000000
set_option linter.unusedVariables false
set_option linter.unusedSimpArgs false

def gl_fall : GL := [v_two, v_eighth, v_root, v_half, v_twice, v_prime]
abbrev G_fall : Nat → AV := lookGL gl_fall
theorem walk_batchs (A : Ops) (hA : A = realOps) (len : Nat) (cap : Nat) (f : Nat → Int) (hl : Many len)   :
    Walk (mkEnv A tab.1 G0 [] []) sc_batch.1 78 [.tmp 2] [.xsl .u8 32 (.sym len) (.sym cap) f] (.osl .u8 32 (.sym 0) (fun _ => 0)) := by
  obtain ⟨bi, cm, un, cv, na, eq⟩ := A
  have hbi : bi = realBin := congrArg Ops.bin hA
  have hcm : cm = realCmp := congrArg Ops.cmp hA
  have hna : na = Int.toNat := congrArg Ops.nat hA
  have hcv : cv = fun k n => k.wrap n := congrArg Ops.cnv hA
  have heq : eq = realEqA := congrArg Ops.eqA hA
  clear hA
  have hgt : cm .gtr (Int.ofNat len) 256 = true := by
    rw [hcm]
    refine decide_eq_true ?_
    have := hl.h
    simp only [Int.ofNat_eq_natCast]
    omega
  refine ⟨?_⟩
  cbv
  refine dead2 (fun h => b_tf2 hgt h) (fun _ => ?_)
  cbv
  try exact ⟨rfl, rfl⟩

theorem ok_batchs : Sound Tryd.prog G0 34 (batchS) := by
  refine sound_each (n := 78) (rs := [.tmp 2]) (sc := sc_batch.1) mixed Tryd.func34 rfl rfl rfl rfl sc_batch.2 ?_
  intro vs cs r h
  unfold batchS at h
  split at h
  · rename_i len cap f
    cases h
    exact ⟨by simp, fun hcs hwf => ⟨_, envOK tabOK ( .nil), rfl, walk_batchs realOps rfl len cap f (hcs _ (by simp))  ⟩⟩
  · cases h
def sc_lsame : { c : SC // strip (body Tryd.f36) = c } := ⟨_, by cbv⟩
theorem walk_lsame (A : Ops) (hA : A = realOps) (m : Nat) (mc : Nat) (f : Nat → Int) (n : Nat) (nc : Nat) (g : Nat → Int) (hs : SameL m n f g)  (I : { i : Nat // i ≤ m } → St) (hI : I = fun i => slots 26 [(0, .xsl .u8 32 (.sym m) (.sym mc) f), (1, .xsl .u8 32 (.sym m) (.sym nc) g), (5, .int .i64 (.sym (Int.ofNat i.1)))]) :
    Walk (mkEnv A tab.1 G0 [] [(4, .inv { i : Nat // i ≤ m } I fun i => m - i.1)]) sc_lsame.1 26 [.tmp 4] [.xsl .u8 32 (.sym m) (.sym mc) f, .xsl .u8 32 (.sym n) (.sym nc) g] (.bool (.sym true)) := by
  obtain ⟨bi, cm, un, cv, na, eq⟩ := A
  have hbi : bi = realBin := congrArg Ops.bin hA
  have hcm : cm = realCmp := congrArg Ops.cmp hA
  have hna : na = Int.toNat := congrArg Ops.nat hA
  have hcv : cv = fun k n => k.wrap n := congrArg Ops.cnv hA
  have heq : eq = realEqA := congrArg Ops.eqA hA
  clear hA
  obtain ⟨hs1, hs2, hm⟩ := hs
  subst hs1
  have hnq : ∀ x, cm .neq x x = false := by intro x; rw [hcm]; show (x != x) = false; simp
  refine ⟨?_⟩
  cbv
  refine dead1 (by simp [hnq]) (fun _ => ?_)
  cbv
  refine ⟨⟨⟨0, by omega⟩, ?_⟩, fun i _ => ?_⟩
  · subst hI
    cbv
    exact ⟨fun _ _ => rfl, fun _ _ => rfl, rfl, trivial⟩
  · subst hI
    cbv
    obtain ⟨i, hi⟩ := i
    refine ⟨fun h => ?_, fun h => ?_⟩
    · cbv
      have hlt : i < m := by
        rw [hcm] at h
        exact Int.ofNat_lt.1 (of_decide_eq_true h)
      have qi : na (Int.ofNat i) = i := by rw [hna]; rfl
      have m32 : (Classical.choice seal_mul).1 (na (Int.ofNat i)) 32 = 32 * i := by rw [choice_mul, qi]; omega
      have w0 : Within (Int.ofNat i) m := ⟨by simp only [Int.ofNat_eq_natCast]; omega⟩
      have g32 : FitsMul ((Classical.choice seal_mul).1 (na (Int.ofNat i)) 32) 32 m 32 := ⟨by rw [m32]; omega⟩
      have e4 : bi .add .i64 (Int.ofNat i) 1 = Int.ofNat (i + 1) := by rw [hbi, add_i64 (by simp only [Int.ofNat_eq_natCast]; omega)]; rfl
      have z0 : eq 32 (fun j => f ((Classical.choice seal_mul).1 (na (Int.ofNat i)) 32 + j)) (fun j => g ((Classical.choice seal_mul).1 (na (Int.ofNat i)) 32 + j)) = true := by
        rw [m32, heq]
        exact realEqA_iff.2 fun j hj => hs2 _ (by omega)
      refine ⟨w0, g32, w0, g32, ?_⟩
      refine dead1 (fun h => nb_t h z0) (fun _ => ?_)
      cbv
      refine ⟨⟨i + 1, by omega⟩, ?_, by show m - (i + 1) < m - i; omega⟩
      cbv
      exact ⟨fun _ _ => rfl, fun _ _ => rfl, e4, trivial⟩
    · cbv

theorem ok_lsame : Sound Tryd.prog G0 36 (sameC) := by
  refine sound_each (n := 26) (rs := [.tmp 4]) (sc := sc_lsame.1) mixed Tryd.func36 rfl rfl rfl rfl sc_lsame.2 ?_
  intro vs cs r h
  unfold sameC at h
  split at h
  · rename_i m mc f n nc g
    cases h
    exact ⟨by simp, fun hcs hwf => ⟨_, envOK tabOK ( .nil), rfl, walk_lsame realOps rfl m mc f n nc g (hcs _ (by simp))  _ rfl⟩⟩
  · cases h
def sc_asks : { c : SC // strip (body Tryd.f61) = c } := ⟨_, by cbv⟩
theorem walk_asks (mem : Mem) (X : Acc) (hX : X = realAcc mem) (A : Ops) (hA : A = realOps) (v : Value) (ho : OpF mem v) (CA : (Nat → Int) → Bool) (hCA : CA = canB) (RD : (Nat → Int) → Nat → Int) (hRD : RD = fun f => fb (fe f)) (EQ : (Nat → Int) → (Nat → Int) → Bool) (hEQ : EQ = eqB) (OD : (Nat → Int) → Bool) (hOD : OD = oddB) (LE : (Nat → Int) → Int) (hLE : LE = fun f => legZ (fe f))  :
    Walk (mkEnvM X mem A tab.1 G_fall [(41, bool32C CA), (77, bool32C CA), (29, un32C RD), (78, un32C RD), (79, bool232C EQ), (80, bool232C EQ), (81, bool32C OD), (82, bool32C OD), (31, leg32C LE), (40, leg32C LE)] []) sc_asks.1 52 [.tmp 2] [.opq v] (.bool (.sym true)) := by
  obtain ⟨bi, cm, un, cv, na, eq⟩ := A
  have hbi : bi = realBin := congrArg Ops.bin hA
  have hcm : cm = realCmp := congrArg Ops.cmp hA
  have hna : na = Int.toNat := congrArg Ops.nat hA
  have hcv : cv = fun k n => k.wrap n := congrArg Ops.cnv hA
  have heq : eq = realEqA := congrArg Ops.eqA hA
  clear hA
  obtain ⟨cl, nu, ln, cp, ad, gt, ls⟩ := X
  have hcl : cl = rCell := congrArg Acc.cell hX
  have hln : ln = rLen := congrArg Acc.len hX
  have had : ad = rAddr := congrArg Acc.addr hX
  have hgt : gt = rGet mem := congrArg Acc.get hX
  clear hX
  have hS : IsRec v 66 := ho.size
  have hK : IsNum .i64 (cl v 0) := by rw [hcl]; exact ho.kind
  have hA1 : IsNums .u8 32 fun j => cl v (1 + j) := by rw [hcl]; exact ho.a
  have hB1 : IsNums .u8 32 fun j => cl v (33 + j) := by rw [hcl]; exact ho.b
  have hI : IsSl (cl v 65) := by rw [hcl]; exact ho.sl
  have hL : IsList mem .u8 32 (cl v 65) := by rw [hcl]; exact ho.l
  have e0 : ∀ f, eq 32 f f = true := by intro f; rw [heq]; exact realEqA_iff.2 fun _ _ => rfl
  have c0 : ∀ x, cm .eql x x = true := by intro x; rw [hcm]; exact beq_self_eq_true x
  clear hCA hRD hEQ hOD hLE hcl hln had hgt
  refine ⟨?_⟩
  cbv
  repeat (first | refine ⟨hK, ?_⟩ | refine ⟨hA1, ?_⟩ | refine ⟨hB1, ?_⟩ | refine ⟨hI, ?_⟩ | refine ⟨hL, ?_⟩ | refine ⟨hS, ?_⟩)
  refine ⟨fun h => ?_, fun h => ?_⟩
  · cbv
    repeat (first | refine ⟨hK, ?_⟩ | refine ⟨hA1, ?_⟩ | refine ⟨hB1, ?_⟩ | refine ⟨hI, ?_⟩ | refine ⟨hL, ?_⟩ | refine ⟨hS, ?_⟩)
    (try dsimp only [SI.val, SO.val]); (try first | trivial | exact e0 _ | simp [e0, c0])
  cbv
  refine ⟨fun h => ?_, fun h => ?_⟩
  · cbv
    repeat (first | refine ⟨hK, ?_⟩ | refine ⟨hA1, ?_⟩ | refine ⟨hB1, ?_⟩ | refine ⟨hI, ?_⟩ | refine ⟨hL, ?_⟩ | refine ⟨hS, ?_⟩)
    (try dsimp only [SI.val, SO.val]); (try first | trivial | exact e0 _ | simp [e0, c0])
  cbv
  refine ⟨fun h => ?_, fun h => ?_⟩
  · cbv
    repeat (first | refine ⟨hK, ?_⟩ | refine ⟨hA1, ?_⟩ | refine ⟨hB1, ?_⟩ | refine ⟨hI, ?_⟩ | refine ⟨hL, ?_⟩ | refine ⟨hS, ?_⟩)
    (try dsimp only [SI.val, SO.val]); (try first | trivial | exact e0 _ | simp [e0, c0])
  cbv
  refine ⟨fun h => ?_, fun h => ?_⟩
  · cbv
    repeat (first | refine ⟨hK, ?_⟩ | refine ⟨hA1, ?_⟩ | refine ⟨hB1, ?_⟩ | refine ⟨hI, ?_⟩ | refine ⟨hL, ?_⟩ | refine ⟨hS, ?_⟩)
    (try dsimp only [SI.val, SO.val]); (try first | trivial | exact e0 _ | simp [e0, c0])
  cbv
  repeat (first | refine ⟨hK, ?_⟩ | refine ⟨hA1, ?_⟩ | refine ⟨hB1, ?_⟩ | refine ⟨hI, ?_⟩ | refine ⟨hL, ?_⟩ | refine ⟨hS, ?_⟩)
  (try dsimp only [SI.val, SO.val]); (try first | trivial | exact e0 _ | simp [e0, c0])

theorem ok_asks (mem : Mem) : SoundM Tryd.prog mem G_fall 61 (playF mem) := by
  refine sound_eachM (mem := mem) (n := 52) (rs := [.tmp 2]) (sc := sc_asks.1) mixed Tryd.func61 rfl rfl rfl rfl sc_asks.2 ?_
  intro vs cs r h
  unfold playF at h
  split at h
  · rename_i v
    cases h
    exact ⟨by simp, fun hcs hwf => ⟨_, envOKM tabOK ((.cons ((ok_canonF G_fall).toM mem) (.cons ((ok_qcanB.sub (sub_of (by decide))).toM mem) (.cons ((ok_reduceZ G_fall).toM mem) (.cons ((ok_qredB.sub (sub_of (by decide))).toM mem) (.cons ((ok_equalF G_fall).toM mem) (.cons ((ok_qeqB.sub (sub_of (by decide))).toM mem) (.cons ((ok_oddF G_fall).toM mem) (.cons ((ok_qoddB.sub (sub_of (by decide))).toM mem) (.cons ((ok_legendreF.sub (sub_of (by decide))).toM mem) (.cons ((ok_qlegB.sub (sub_of (by decide))).toM mem) .nil))))))))))), rfl, rfl, walk_asks mem _ rfl realOps rfl v (opF_of (hcs _ (by simp))) _ rfl _ rfl _ rfl _ rfl _ rfl ⟩⟩
  · cases h
def sc_plays : { c : SC // strip (body Tryd.f45) = c } := ⟨_, by cbv⟩
theorem walk_plays (mem : Mem) (X : Acc) (hX : X = realAcc mem) (A : Ops) (hA : A = realOps) (v : Value) (ho : OpF mem v) (hr : RecOK mem 66 opF v) (hf : Few (rLen (rCell v 65))) (AD : (Nat → Int) → (Nat → Int) → Nat → Int) (hAD : AD = fun f g => fb (fe f + fe g)) (SU : (Nat → Int) → (Nat → Int) → Nat → Int) (hSU : SU = fun f g => fb (fe f - fe g)) (NE : (Nat → Int) → Nat → Int) (hNE : NE = fun f => fb (- fe f)) (MU : (Nat → Int) → (Nat → Int) → Nat → Int) (hMU : MU = fun f g => fb (fe f * fe g)) (SQ : (Nat → Int) → Nat → Int) (hSQ : SQ = fun f => fb (fe f * fe f)) (PW : (Nat → Int) → (Nat → Int) → Nat → Int) (hPW : PW = fun f e => fb (zp (fe f) (num 32 e).toNat)) (IV : (Nat → Int) → Nat → Int) (hIV : IV = fun f => fb (zinv (fe f))) (SR : (Nat → Int) → (Nat → Int) → Nat → Int) (hSR : SR = sqrtR) (BV : (Nat → Int) → Nat → Int) (hBV : BV = invsF) (SB : (Nat → Int) → (Nat → Int) → Bool) (hSB : SB = sqrtB)  :
    Walk (mkEnvM X mem A tab.1 G_fall [(22, bin32C AD), (23, bin32C AD), (24, bin32C SU), (25, bin32C SU), (30, un32C NE), (62, un32C NE), (18, bin32C MU), (19, bin32C MU), (20, un32C SQ), (21, un32C SQ), (14, bin32C PW), (15, bin32C PW), (16, un32C IV), (17, un32C IV), (39, sqrtC SR SB), (38, sqrtC SR SB), (34, batchC BV), (32, batchC BV), (36, sameC), (61, playF mem)] []) sc_plays.1 133 [.tmp 2] [.opq v] (.bool (.sym true)) := by
  obtain ⟨bi, cm, un, cv, na, eq⟩ := A
  have hbi : bi = realBin := congrArg Ops.bin hA
  have hcm : cm = realCmp := congrArg Ops.cmp hA
  have hna : na = Int.toNat := congrArg Ops.nat hA
  have hcv : cv = fun k n => k.wrap n := congrArg Ops.cnv hA
  have heq : eq = realEqA := congrArg Ops.eqA hA
  clear hA
  obtain ⟨cl, nu, ln, cp, ad, gt, ls⟩ := X
  have hcl : cl = rCell := congrArg Acc.cell hX
  have hln : ln = rLen := congrArg Acc.len hX
  have had : ad = rAddr := congrArg Acc.addr hX
  have hgt : gt = rGet mem := congrArg Acc.get hX
  clear hX
  have hS : IsRec v 66 := ho.size
  have hK : IsNum .i64 (cl v 0) := by rw [hcl]; exact ho.kind
  have hA1 : IsNums .u8 32 fun j => cl v (1 + j) := by rw [hcl]; exact ho.a
  have hB1 : IsNums .u8 32 fun j => cl v (33 + j) := by rw [hcl]; exact ho.b
  have hI : IsSl (cl v 65) := by rw [hcl]; exact ho.sl
  have hL : IsList mem .u8 32 (cl v 65) := by rw [hcl]; exact ho.l
  have e0 : ∀ f, eq 32 f f = true := by intro f; rw [heq]; exact realEqA_iff.2 fun _ _ => rfl
  have c0 : ∀ x, cm .eql x x = true := by intro x; rw [hcm]; exact beq_self_eq_true x
  have hF : Few (ln (cl v 65)) := by rw [hln, hcl]; exact hf
  have hs : SameL (ln (cl v 65)) (ln (cl v 65)) (BV (ls (cl v 65))) (BV (ls (cl v 65))) := ⟨rfl, fun _ _ => rfl, hF.h⟩
  have hs2 : SameL (ln (cl v 65)) (ln (cl v 65)) (BV (ls (cl v 65))) (fun j => BV (ls (cl v 65)) (0 + j)) := ⟨rfl, fun j _ => congrArg (BV (ls (cl v 65))) (Nat.zero_add j).symm, hF.h⟩
  clear hAD hSU hNE hMU hSQ hPW hIV hSR hBV hSB hcl hln had hgt
  refine ⟨?_⟩
  cbv
  repeat (first | refine ⟨hK, ?_⟩ | refine ⟨hA1, ?_⟩ | refine ⟨hB1, ?_⟩ | refine ⟨hI, ?_⟩ | refine ⟨hL, ?_⟩ | refine ⟨hS, ?_⟩ | refine ⟨hF, ?_⟩ | refine ⟨hs, ?_⟩ | refine ⟨hs2, ?_⟩ | refine ⟨⟨Nat.le_refl _⟩, ?_⟩)
  refine ⟨fun h => ?_, fun h => ?_⟩
  · cbv
    refine dead2 (fun h2 => b_tf2 h h2) (fun _ => ?_)
    cbv
    repeat (first | refine ⟨hK, ?_⟩ | refine ⟨hA1, ?_⟩ | refine ⟨hB1, ?_⟩ | refine ⟨hI, ?_⟩ | refine ⟨hL, ?_⟩ | refine ⟨hS, ?_⟩ | refine ⟨hF, ?_⟩ | refine ⟨hs, ?_⟩ | refine ⟨hs2, ?_⟩ | refine ⟨⟨Nat.le_refl _⟩, ?_⟩)
    (try dsimp only [SI.val, SO.val]); (try first | trivial | exact e0 _ | simp [e0, c0])
  cbv
  refine ⟨fun h => ?_, fun h => ?_⟩
  · cbv
    refine dead2 (fun h2 => b_tf2 h h2) (fun _ => ?_)
    cbv
    repeat (first | refine ⟨hK, ?_⟩ | refine ⟨hA1, ?_⟩ | refine ⟨hB1, ?_⟩ | refine ⟨hI, ?_⟩ | refine ⟨hL, ?_⟩ | refine ⟨hS, ?_⟩ | refine ⟨hF, ?_⟩ | refine ⟨hs, ?_⟩ | refine ⟨hs2, ?_⟩ | refine ⟨⟨Nat.le_refl _⟩, ?_⟩)
    (try dsimp only [SI.val, SO.val]); (try first | trivial | exact e0 _ | simp [e0, c0])
  cbv
  refine ⟨fun h => ?_, fun h => ?_⟩
  · cbv
    refine dead2 (fun h2 => b_tf2 h h2) (fun _ => ?_)
    cbv
    repeat (first | refine ⟨hK, ?_⟩ | refine ⟨hA1, ?_⟩ | refine ⟨hB1, ?_⟩ | refine ⟨hI, ?_⟩ | refine ⟨hL, ?_⟩ | refine ⟨hS, ?_⟩ | refine ⟨hF, ?_⟩ | refine ⟨hs, ?_⟩ | refine ⟨hs2, ?_⟩ | refine ⟨⟨Nat.le_refl _⟩, ?_⟩)
    (try dsimp only [SI.val, SO.val]); (try first | trivial | exact e0 _ | simp [e0, c0])
  cbv
  refine ⟨fun h => ?_, fun h => ?_⟩
  · cbv
    refine dead2 (fun h2 => b_tf2 h h2) (fun _ => ?_)
    cbv
    repeat (first | refine ⟨hK, ?_⟩ | refine ⟨hA1, ?_⟩ | refine ⟨hB1, ?_⟩ | refine ⟨hI, ?_⟩ | refine ⟨hL, ?_⟩ | refine ⟨hS, ?_⟩ | refine ⟨hF, ?_⟩ | refine ⟨hs, ?_⟩ | refine ⟨hs2, ?_⟩ | refine ⟨⟨Nat.le_refl _⟩, ?_⟩)
    (try dsimp only [SI.val, SO.val]); (try first | trivial | exact e0 _ | simp [e0, c0])
  cbv
  refine ⟨fun h => ?_, fun h => ?_⟩
  · cbv
    repeat (first | refine ⟨hK, ?_⟩ | refine ⟨hA1, ?_⟩ | refine ⟨hB1, ?_⟩ | refine ⟨hI, ?_⟩ | refine ⟨hL, ?_⟩ | refine ⟨hS, ?_⟩ | refine ⟨hF, ?_⟩ | refine ⟨hs, ?_⟩ | refine ⟨hs2, ?_⟩ | refine ⟨⟨Nat.le_refl _⟩, ?_⟩)
    (try dsimp only [SI.val, SO.val]); (try first | trivial | exact e0 _ | simp [e0, c0])
  cbv
  refine ⟨fun h => ?_, fun h => ?_⟩
  · cbv
    repeat (first | refine ⟨hK, ?_⟩ | refine ⟨hA1, ?_⟩ | refine ⟨hB1, ?_⟩ | refine ⟨hI, ?_⟩ | refine ⟨hL, ?_⟩ | refine ⟨hS, ?_⟩ | refine ⟨hF, ?_⟩ | refine ⟨hs, ?_⟩ | refine ⟨hs2, ?_⟩ | refine ⟨⟨Nat.le_refl _⟩, ?_⟩)
    (try dsimp only [SI.val, SO.val]); (try first | trivial | exact e0 _ | simp [e0, c0])
  cbv
  refine ⟨fun h => ?_, fun h => ?_⟩
  · cbv
    repeat (first | refine ⟨hK, ?_⟩ | refine ⟨hA1, ?_⟩ | refine ⟨hB1, ?_⟩ | refine ⟨hI, ?_⟩ | refine ⟨hL, ?_⟩ | refine ⟨hS, ?_⟩ | refine ⟨hF, ?_⟩ | refine ⟨hs, ?_⟩ | refine ⟨hs2, ?_⟩ | refine ⟨⟨Nat.le_refl _⟩, ?_⟩)
    (try dsimp only [SI.val, SO.val]); (try first | trivial | exact e0 _ | simp [e0, c0])
  cbv
  refine ⟨fun h => ?_, fun h => ?_⟩
  · cbv
    repeat (first | refine ⟨hK, ?_⟩ | refine ⟨hA1, ?_⟩ | refine ⟨hB1, ?_⟩ | refine ⟨hI, ?_⟩ | refine ⟨hL, ?_⟩ | refine ⟨hS, ?_⟩ | refine ⟨hF, ?_⟩ | refine ⟨hs, ?_⟩ | refine ⟨hs2, ?_⟩ | refine ⟨⟨Nat.le_refl _⟩, ?_⟩)
    (try dsimp only [SI.val, SO.val]); (try first | trivial | exact e0 _ | simp [e0, c0])
  cbv
  refine ⟨fun h => ?_, fun h => ?_⟩
  · cbv
    repeat (first | refine ⟨hK, ?_⟩ | refine ⟨hA1, ?_⟩ | refine ⟨hB1, ?_⟩ | refine ⟨hI, ?_⟩ | refine ⟨hL, ?_⟩ | refine ⟨hS, ?_⟩ | refine ⟨hF, ?_⟩ | refine ⟨hs, ?_⟩ | refine ⟨hs2, ?_⟩ | refine ⟨⟨Nat.le_refl _⟩, ?_⟩)
    (try dsimp only [SI.val, SO.val]); (try first | trivial | exact e0 _ | simp [e0, c0])
  cbv
  refine ⟨fun h => ?_, fun h => ?_⟩
  · cbv
    repeat (first | refine ⟨hK, ?_⟩ | refine ⟨hA1, ?_⟩ | refine ⟨hB1, ?_⟩ | refine ⟨hI, ?_⟩ | refine ⟨hL, ?_⟩ | refine ⟨hS, ?_⟩ | refine ⟨hF, ?_⟩ | refine ⟨hs, ?_⟩ | refine ⟨hs2, ?_⟩ | refine ⟨⟨Nat.le_refl _⟩, ?_⟩)
    (try dsimp only [SI.val, SO.val]); (try first | trivial | exact e0 _ | simp [e0, c0])
  cbv
  refine ⟨fun h => ?_, fun h => ?_⟩
  · cbv
    repeat (first | refine ⟨hK, ?_⟩ | refine ⟨hA1, ?_⟩ | refine ⟨hB1, ?_⟩ | refine ⟨hI, ?_⟩ | refine ⟨hL, ?_⟩ | refine ⟨hS, ?_⟩ | refine ⟨hF, ?_⟩ | refine ⟨hs, ?_⟩ | refine ⟨hs2, ?_⟩ | refine ⟨⟨Nat.le_refl _⟩, ?_⟩)
    (try dsimp only [SI.val, SO.val]); (try first | trivial | exact e0 _ | simp [e0, c0])
  cbv
  refine ⟨fun h => ?_, fun h => ?_⟩
  · cbv
    repeat (first | refine ⟨hK, ?_⟩ | refine ⟨hA1, ?_⟩ | refine ⟨hB1, ?_⟩ | refine ⟨hI, ?_⟩ | refine ⟨hL, ?_⟩ | refine ⟨hS, ?_⟩ | refine ⟨hF, ?_⟩ | refine ⟨hs, ?_⟩ | refine ⟨hs2, ?_⟩ | refine ⟨⟨Nat.le_refl _⟩, ?_⟩)
    (try dsimp only [SI.val, SO.val]); (try first | trivial | exact e0 _ | simp [e0, c0])
  cbv
  refine ⟨fun h => ?_, fun h => ?_⟩
  · cbv
    repeat (first | refine ⟨hK, ?_⟩ | refine ⟨hA1, ?_⟩ | refine ⟨hB1, ?_⟩ | refine ⟨hI, ?_⟩ | refine ⟨hL, ?_⟩ | refine ⟨hS, ?_⟩ | refine ⟨hF, ?_⟩ | refine ⟨hs, ?_⟩ | refine ⟨hs2, ?_⟩ | refine ⟨⟨Nat.le_refl _⟩, ?_⟩)
    (try dsimp only [SI.val, SO.val]); (try first | trivial | exact e0 _ | simp [e0, c0])
  cbv
  refine ⟨fun h => ?_, fun h => ?_⟩
  · cbv
    repeat (first | refine ⟨hK, ?_⟩ | refine ⟨hA1, ?_⟩ | refine ⟨hB1, ?_⟩ | refine ⟨hI, ?_⟩ | refine ⟨hL, ?_⟩ | refine ⟨hS, ?_⟩ | refine ⟨hF, ?_⟩ | refine ⟨hs, ?_⟩ | refine ⟨hs2, ?_⟩ | refine ⟨⟨Nat.le_refl _⟩, ?_⟩)
    (try dsimp only [SI.val, SO.val]); (try first | trivial | exact e0 _ | simp [e0, c0])
  cbv

theorem walk_playsx (mem : Mem) (X : Acc) (hX : X = realAcc mem) (A : Ops) (hA : A = realOps) (v : Value) (ho : OpF mem v) (hr : RecOK mem 66 opF v) (hf : Many (rLen (rCell v 65))) (AD : (Nat → Int) → (Nat → Int) → Nat → Int) (hAD : AD = fun f g => fb (fe f + fe g)) (SU : (Nat → Int) → (Nat → Int) → Nat → Int) (hSU : SU = fun f g => fb (fe f - fe g)) (NE : (Nat → Int) → Nat → Int) (hNE : NE = fun f => fb (- fe f)) (MU : (Nat → Int) → (Nat → Int) → Nat → Int) (hMU : MU = fun f g => fb (fe f * fe g)) (SQ : (Nat → Int) → Nat → Int) (hSQ : SQ = fun f => fb (fe f * fe f)) (PW : (Nat → Int) → (Nat → Int) → Nat → Int) (hPW : PW = fun f e => fb (zp (fe f) (num 32 e).toNat)) (IV : (Nat → Int) → Nat → Int) (hIV : IV = fun f => fb (zinv (fe f))) (SR : (Nat → Int) → (Nat → Int) → Nat → Int) (hSR : SR = sqrtR) (SB : (Nat → Int) → (Nat → Int) → Bool) (hSB : SB = sqrtB)  :
    Walk (mkEnvM X mem A tab.1 G_fall [(22, bin32C AD), (23, bin32C AD), (24, bin32C SU), (25, bin32C SU), (30, un32C NE), (62, un32C NE), (18, bin32C MU), (19, bin32C MU), (20, un32C SQ), (21, un32C SQ), (14, bin32C PW), (15, bin32C PW), (16, un32C IV), (17, un32C IV), (39, sqrtC SR SB), (38, sqrtC SR SB), (34, batchS), (32, batchS), (36, sameC), (61, playF mem)] []) sc_plays.1 133 [.tmp 2] [.opq v] (.bool (.sym true)) := by
  obtain ⟨bi, cm, un, cv, na, eq⟩ := A
  have hbi : bi = realBin := congrArg Ops.bin hA
  have hcm : cm = realCmp := congrArg Ops.cmp hA
  have hna : na = Int.toNat := congrArg Ops.nat hA
  have hcv : cv = fun k n => k.wrap n := congrArg Ops.cnv hA
  have heq : eq = realEqA := congrArg Ops.eqA hA
  clear hA
  obtain ⟨cl, nu, ln, cp, ad, gt, ls⟩ := X
  have hcl : cl = rCell := congrArg Acc.cell hX
  have hln : ln = rLen := congrArg Acc.len hX
  have had : ad = rAddr := congrArg Acc.addr hX
  have hgt : gt = rGet mem := congrArg Acc.get hX
  clear hX
  have hS : IsRec v 66 := ho.size
  have hK : IsNum .i64 (cl v 0) := by rw [hcl]; exact ho.kind
  have hA1 : IsNums .u8 32 fun j => cl v (1 + j) := by rw [hcl]; exact ho.a
  have hB1 : IsNums .u8 32 fun j => cl v (33 + j) := by rw [hcl]; exact ho.b
  have hI : IsSl (cl v 65) := by rw [hcl]; exact ho.sl
  have hL : IsList mem .u8 32 (cl v 65) := by rw [hcl]; exact ho.l
  have e0 : ∀ f, eq 32 f f = true := by intro f; rw [heq]; exact realEqA_iff.2 fun _ _ => rfl
  have c0 : ∀ x, cm .eql x x = true := by intro x; rw [hcm]; exact beq_self_eq_true x
  have hF : Many (ln (cl v 65)) := by rw [hln, hcl]; exact hf
  have hs : SameL 0 0 (fun _ => 0) (fun _ => 0) := ⟨rfl, fun _ _ => rfl, by decide⟩
  have hs2 : True := trivial
  clear hAD hSU hNE hMU hSQ hPW hIV hSR hSB hcl hln had hgt
  refine ⟨?_⟩
  cbv
  repeat (first | refine ⟨hK, ?_⟩ | refine ⟨hA1, ?_⟩ | refine ⟨hB1, ?_⟩ | refine ⟨hI, ?_⟩ | refine ⟨hL, ?_⟩ | refine ⟨hS, ?_⟩ | refine ⟨hF, ?_⟩ | refine ⟨hs, ?_⟩ | refine ⟨hs2, ?_⟩ | refine ⟨⟨Nat.le_refl _⟩, ?_⟩)
  refine ⟨fun h => ?_, fun h => ?_⟩
  · cbv
    refine dead2 (fun h2 => b_tf2 h h2) (fun _ => ?_)
    cbv
    repeat (first | refine ⟨hK, ?_⟩ | refine ⟨hA1, ?_⟩ | refine ⟨hB1, ?_⟩ | refine ⟨hI, ?_⟩ | refine ⟨hL, ?_⟩ | refine ⟨hS, ?_⟩ | refine ⟨hF, ?_⟩ | refine ⟨hs, ?_⟩ | refine ⟨hs2, ?_⟩ | refine ⟨⟨Nat.le_refl _⟩, ?_⟩)
    (try dsimp only [SI.val, SO.val]); (try first | trivial | exact e0 _ | simp [e0, c0])
  cbv
  refine ⟨fun h => ?_, fun h => ?_⟩
  · cbv
    refine dead2 (fun h2 => b_tf2 h h2) (fun _ => ?_)
    cbv
    repeat (first | refine ⟨hK, ?_⟩ | refine ⟨hA1, ?_⟩ | refine ⟨hB1, ?_⟩ | refine ⟨hI, ?_⟩ | refine ⟨hL, ?_⟩ | refine ⟨hS, ?_⟩ | refine ⟨hF, ?_⟩ | refine ⟨hs, ?_⟩ | refine ⟨hs2, ?_⟩ | refine ⟨⟨Nat.le_refl _⟩, ?_⟩)
    (try dsimp only [SI.val, SO.val]); (try first | trivial | exact e0 _ | simp [e0, c0])
  cbv
  refine ⟨fun h => ?_, fun h => ?_⟩
  · cbv
    refine dead2 (fun h2 => b_tf2 h h2) (fun _ => ?_)
    cbv
    repeat (first | refine ⟨hK, ?_⟩ | refine ⟨hA1, ?_⟩ | refine ⟨hB1, ?_⟩ | refine ⟨hI, ?_⟩ | refine ⟨hL, ?_⟩ | refine ⟨hS, ?_⟩ | refine ⟨hF, ?_⟩ | refine ⟨hs, ?_⟩ | refine ⟨hs2, ?_⟩ | refine ⟨⟨Nat.le_refl _⟩, ?_⟩)
    (try dsimp only [SI.val, SO.val]); (try first | trivial | exact e0 _ | simp [e0, c0])
  cbv
  refine ⟨fun h => ?_, fun h => ?_⟩
  · cbv
    refine dead2 (fun h2 => b_tf2 h h2) (fun _ => ?_)
    cbv
    repeat (first | refine ⟨hK, ?_⟩ | refine ⟨hA1, ?_⟩ | refine ⟨hB1, ?_⟩ | refine ⟨hI, ?_⟩ | refine ⟨hL, ?_⟩ | refine ⟨hS, ?_⟩ | refine ⟨hF, ?_⟩ | refine ⟨hs, ?_⟩ | refine ⟨hs2, ?_⟩ | refine ⟨⟨Nat.le_refl _⟩, ?_⟩)
    (try dsimp only [SI.val, SO.val]); (try first | trivial | exact e0 _ | simp [e0, c0])
  cbv
  refine ⟨fun h => ?_, fun h => ?_⟩
  · cbv
    repeat (first | refine ⟨hK, ?_⟩ | refine ⟨hA1, ?_⟩ | refine ⟨hB1, ?_⟩ | refine ⟨hI, ?_⟩ | refine ⟨hL, ?_⟩ | refine ⟨hS, ?_⟩ | refine ⟨hF, ?_⟩ | refine ⟨hs, ?_⟩ | refine ⟨hs2, ?_⟩ | refine ⟨⟨Nat.le_refl _⟩, ?_⟩)
    (try dsimp only [SI.val, SO.val]); (try first | trivial | exact e0 _ | simp [e0, c0])
  cbv
  refine ⟨fun h => ?_, fun h => ?_⟩
  · cbv
    repeat (first | refine ⟨hK, ?_⟩ | refine ⟨hA1, ?_⟩ | refine ⟨hB1, ?_⟩ | refine ⟨hI, ?_⟩ | refine ⟨hL, ?_⟩ | refine ⟨hS, ?_⟩ | refine ⟨hF, ?_⟩ | refine ⟨hs, ?_⟩ | refine ⟨hs2, ?_⟩ | refine ⟨⟨Nat.le_refl _⟩, ?_⟩)
    (try dsimp only [SI.val, SO.val]); (try first | trivial | exact e0 _ | simp [e0, c0])
  cbv
  refine ⟨fun h => ?_, fun h => ?_⟩
  · cbv
    repeat (first | refine ⟨hK, ?_⟩ | refine ⟨hA1, ?_⟩ | refine ⟨hB1, ?_⟩ | refine ⟨hI, ?_⟩ | refine ⟨hL, ?_⟩ | refine ⟨hS, ?_⟩ | refine ⟨hF, ?_⟩ | refine ⟨hs, ?_⟩ | refine ⟨hs2, ?_⟩ | refine ⟨⟨Nat.le_refl _⟩, ?_⟩)
    (try dsimp only [SI.val, SO.val]); (try first | trivial | exact e0 _ | simp [e0, c0])
  cbv
  refine ⟨fun h => ?_, fun h => ?_⟩
  · cbv
    repeat (first | refine ⟨hK, ?_⟩ | refine ⟨hA1, ?_⟩ | refine ⟨hB1, ?_⟩ | refine ⟨hI, ?_⟩ | refine ⟨hL, ?_⟩ | refine ⟨hS, ?_⟩ | refine ⟨hF, ?_⟩ | refine ⟨hs, ?_⟩ | refine ⟨hs2, ?_⟩ | refine ⟨⟨Nat.le_refl _⟩, ?_⟩)
    (try dsimp only [SI.val, SO.val]); (try first | trivial | exact e0 _ | simp [e0, c0])
  cbv
  refine ⟨fun h => ?_, fun h => ?_⟩
  · cbv
    repeat (first | refine ⟨hK, ?_⟩ | refine ⟨hA1, ?_⟩ | refine ⟨hB1, ?_⟩ | refine ⟨hI, ?_⟩ | refine ⟨hL, ?_⟩ | refine ⟨hS, ?_⟩ | refine ⟨hF, ?_⟩ | refine ⟨hs, ?_⟩ | refine ⟨hs2, ?_⟩ | refine ⟨⟨Nat.le_refl _⟩, ?_⟩)
    (try dsimp only [SI.val, SO.val]); (try first | trivial | exact e0 _ | simp [e0, c0])
  cbv
  refine ⟨fun h => ?_, fun h => ?_⟩
  · cbv
    repeat (first | refine ⟨hK, ?_⟩ | refine ⟨hA1, ?_⟩ | refine ⟨hB1, ?_⟩ | refine ⟨hI, ?_⟩ | refine ⟨hL, ?_⟩ | refine ⟨hS, ?_⟩ | refine ⟨hF, ?_⟩ | refine ⟨hs, ?_⟩ | refine ⟨hs2, ?_⟩ | refine ⟨⟨Nat.le_refl _⟩, ?_⟩)
    (try dsimp only [SI.val, SO.val]); (try first | trivial | exact e0 _ | simp [e0, c0])
  cbv
  refine ⟨fun h => ?_, fun h => ?_⟩
  · cbv
    repeat (first | refine ⟨hK, ?_⟩ | refine ⟨hA1, ?_⟩ | refine ⟨hB1, ?_⟩ | refine ⟨hI, ?_⟩ | refine ⟨hL, ?_⟩ | refine ⟨hS, ?_⟩ | refine ⟨hF, ?_⟩ | refine ⟨hs, ?_⟩ | refine ⟨hs2, ?_⟩ | refine ⟨⟨Nat.le_refl _⟩, ?_⟩)
    (try dsimp only [SI.val, SO.val]); (try first | trivial | exact e0 _ | simp [e0, c0])
  cbv
  refine ⟨fun h => ?_, fun h => ?_⟩
  · cbv
    repeat (first | refine ⟨hK, ?_⟩ | refine ⟨hA1, ?_⟩ | refine ⟨hB1, ?_⟩ | refine ⟨hI, ?_⟩ | refine ⟨hL, ?_⟩ | refine ⟨hS, ?_⟩ | refine ⟨hF, ?_⟩ | refine ⟨hs, ?_⟩ | refine ⟨hs2, ?_⟩ | refine ⟨⟨Nat.le_refl _⟩, ?_⟩)
    (try dsimp only [SI.val, SO.val]); (try first | trivial | exact e0 _ | simp [e0, c0])
  cbv
  refine ⟨fun h => ?_, fun h => ?_⟩
  · cbv
    repeat (first | refine ⟨hK, ?_⟩ | refine ⟨hA1, ?_⟩ | refine ⟨hB1, ?_⟩ | refine ⟨hI, ?_⟩ | refine ⟨hL, ?_⟩ | refine ⟨hS, ?_⟩ | refine ⟨hF, ?_⟩ | refine ⟨hs, ?_⟩ | refine ⟨hs2, ?_⟩ | refine ⟨⟨Nat.le_refl _⟩, ?_⟩)
    (try dsimp only [SI.val, SO.val]); (try first | trivial | exact e0 _ | simp [e0, c0])
  cbv
  refine ⟨fun h => ?_, fun h => ?_⟩
  · cbv
    repeat (first | refine ⟨hK, ?_⟩ | refine ⟨hA1, ?_⟩ | refine ⟨hB1, ?_⟩ | refine ⟨hI, ?_⟩ | refine ⟨hL, ?_⟩ | refine ⟨hS, ?_⟩ | refine ⟨hF, ?_⟩ | refine ⟨hs, ?_⟩ | refine ⟨hs2, ?_⟩ | refine ⟨⟨Nat.le_refl _⟩, ?_⟩)
    (try dsimp only [SI.val, SO.val]); (try first | trivial | exact e0 _ | simp [e0, c0])
  cbv

theorem ok_plays (mem : Mem) : SoundM Tryd.prog mem G_fall 45 (playF mem) := by
  refine sound_eachM (mem := mem) (n := 133) (rs := [.tmp 2]) (sc := sc_plays.1) mixed Tryd.func45 rfl rfl rfl rfl sc_plays.2 ?_
  intro vs cs r h
  unfold playF at h
  split at h
  · rename_i v
    cases h
    refine ⟨by simp, fun hcs hwf => ?_⟩
    by_cases hN : rLen (rCell v 65) ≤ 256
    · exact ⟨_, envOKM tabOK ((.cons ((ok_addZ G_fall).toM mem) (.cons ((ok_qaddB.sub (sub_of (by decide))).toM mem) (.cons ((ok_subZ G_fall (ok_less.sub (sub_of (by decide)))).toM mem) (.cons ((ok_qsubB.sub (sub_of (by decide))).toM mem) (.cons ((ok_negZ G_fall (ok_less.sub (sub_of (by decide)))).toM mem) (.cons ((ok_qnegB.sub (sub_of (by decide))).toM mem) (.cons ((ok_mulZ G_fall).toM mem) (.cons ((ok_qmulB.sub (sub_of (by decide))).toM mem) (.cons ((ok_squareZ G_fall).toM mem) (.cons ((ok_qsquareB.sub (sub_of (by decide))).toM mem) (.cons ((ok_powF G_fall).toM mem) (.cons ((ok_qpowB.sub (sub_of (by decide))).toM mem) (.cons ((ok_invertF.sub (sub_of (by decide))).toM mem) (.cons ((ok_qinvB.sub (sub_of (by decide))).toM mem) (.cons ((ok_sqrtF.sub (sub_of (by decide))).toM mem) (.cons ((ok_qratioB.sub (sub_of (by decide))).toM mem) (.cons (((ok_batch.sub two_sub).sub (sub_of (by decide))).toM mem) (.cons ((ok_qbatch.sub (sub_of (by decide))).toM mem) (.cons ((ok_lsame.sub (sub_of (by decide))).toM mem) (.cons (ok_asks mem) .nil))))))))))))))))))))), rfl, rfl, walk_plays mem _ rfl realOps rfl v (opF_of (hcs _ (by simp))) (hcs _ (by simp)) (⟨hN⟩) _ rfl _ rfl _ rfl _ rfl _ rfl _ rfl _ rfl _ rfl _ rfl _ rfl ⟩
    · exact ⟨_, envOKM tabOK ((.cons ((ok_addZ G_fall).toM mem) (.cons ((ok_qaddB.sub (sub_of (by decide))).toM mem) (.cons ((ok_subZ G_fall (ok_less.sub (sub_of (by decide)))).toM mem) (.cons ((ok_qsubB.sub (sub_of (by decide))).toM mem) (.cons ((ok_negZ G_fall (ok_less.sub (sub_of (by decide)))).toM mem) (.cons ((ok_qnegB.sub (sub_of (by decide))).toM mem) (.cons ((ok_mulZ G_fall).toM mem) (.cons ((ok_qmulB.sub (sub_of (by decide))).toM mem) (.cons ((ok_squareZ G_fall).toM mem) (.cons ((ok_qsquareB.sub (sub_of (by decide))).toM mem) (.cons ((ok_powF G_fall).toM mem) (.cons ((ok_qpowB.sub (sub_of (by decide))).toM mem) (.cons ((ok_invertF.sub (sub_of (by decide))).toM mem) (.cons ((ok_qinvB.sub (sub_of (by decide))).toM mem) (.cons ((ok_sqrtF.sub (sub_of (by decide))).toM mem) (.cons ((ok_qratioB.sub (sub_of (by decide))).toM mem) (.cons ((ok_batchs.sub (sub_of (by decide))).toM mem) (.cons ((ok_qbatchx.sub (sub_of (by decide))).toM mem) (.cons ((ok_lsame.sub (sub_of (by decide))).toM mem) (.cons (ok_asks mem) .nil))))))))))))))))))))), rfl, rfl, walk_playsx mem _ rfl realOps rfl v (opF_of (hcs _ (by simp))) (hcs _ (by simp)) (⟨Nat.lt_of_not_le hN⟩) _ rfl _ rfl _ rfl _ rfl _ rfl _ rfl _ rfl _ rfl _ rfl ⟩
  · cases h
end Go.Proofs.YtnfbjfbndnmhmaaDoor
