/-
  FieldAll holds for every script: the walk.
-/
import Derived.Test.YtnfbjfbndnmhmaaDoorZLawFieldAllA
namespace Go.Proofs.YtnfbjfbndnmhmaaDoor
open Go Go.Proofs Sx
set_option maxRecDepth 100000
set_option maxHeartbeats 4000000
set_option linter.unusedVariables false
set_option linter.unusedSimpArgs false

def sc_fall : { c : SC // strip (body Tryd.f13) = c } := ⟨_, by cbv⟩
theorem walk_fall (mem : Mem) (X : Acc) (hX : X = realAcc mem) (A : Ops) (hA : A = realOps) (v : Value) (hv : ScriptOK mem 66 opF v) (SL : Int → Nat → Int) (hSL : SL = D16) (BY : (Nat → Int) → Nat → Int) (hBY : BY = fun n => byt (V16 n)) (QP : Nat → Int) (hQP : QP = D16 p25) (MU : (Nat → Int) → (Nat → Int) → Nat → Int) (hMU : MU = fun f g => fb (fe f * fe g)) (L : Nat) (hL : L = rLen v) (I : { i : Nat // i ≤ L } → St) (hI : I = fun i => slots 43 [(0, .opq v), (6, .int .i64 (.sym (Int.ofNat i.1)))]) :
    Walk (mkEnvM X mem A tab.1 G_fall [(43, qsmallC SL), (42, qbytesC BY), (44, qprimeC QP), (18, bin32C MU), (45, playF mem)] [(8, .inv { i : Nat // i ≤ L } I fun i => L - i.1)]) sc_fall.1 43 [.tmp 2] [.opq v] (.bool (.sym true)) := by
  obtain ⟨bi, cm, un, cv, na, eq⟩ := A
  have hbi : bi = realBin := congrArg Ops.bin hA
  have hcm : cm = realCmp := congrArg Ops.cmp hA
  have hna : na = Int.toNat := congrArg Ops.nat hA
  have hcv : cv = fun k n => k.wrap n := congrArg Ops.cnv hA
  have heq : eq = realEqA := congrArg Ops.eqA hA
  clear hA
  obtain ⟨cl, nu, ln, cp, ad, gt, ls⟩ := X
  have hcl : cl = rCell := congrArg Acc.cell hX
  have hln : ln = rLen := congrArg Acc.len hX
  have had : ad = rAddr := congrArg Acc.addr hX
  have hgt : gt = rGet mem := congrArg Acc.get hX
  clear hX
  have o1 : OneDig 1 := ⟨by decide⟩
  have o2 : OneDig 2 := ⟨by decide⟩
  have n1 : Num16 (SL 1) := by rw [hSL]; exact num16_D16 _
  have n2 : Num16 (SL 2) := by rw [hSL]; exact num16_D16 _
  have n3 : Num16 QP := by rw [hQP]; exact num16_D16 _
  have k1 : eq 32 (MU (BY (SL 2)) (upd (BY QP) 0 (bi .add .u8 (BY QP 0) 1))) (BY (SL 2)) = true := by
    rw [heq, hMU, hBY, hSL, hQP, hbi]
    exact head_two
  have k2 : eq 32 (MU (upd (BY QP) 0 (bi .add .u8 (BY QP 0) 1)) (upd (BY QP) 0 (bi .add .u8 (BY QP 0) 1))) (BY (SL 1)) = true := by
    rw [heq, hMU, hBY, hSL, hQP, hbi]
    exact head_one
  have hsl : IsSl v := hv.sl
  have hl0 : rLen v ≤ capMax := by obtain ⟨a, l, c, h1, _, h2, h3⟩ := hsl.h; rw [h1]; exact Nat.le_trans h2 h3
  have hea : ∀ i, i < ln v → HasMem mem (ad v (i * 66)) 66 ∧ RecOK mem 66 opF (gt (ad v (i * 66)) 66) := by
    rw [hln, had, hgt]
    exact hv.each
  have hlv : ln v ≤ capMax := by rw [hln]; exact hl0
  have hLv : ln v = L := by rw [hL, hln]
  clear hSL hBY hQP hMU hcl hln had hgt hv
  refine ⟨?_⟩
  cbv
  repeat (first | refine ⟨o1, ?_⟩ | refine ⟨o2, ?_⟩ | refine ⟨n1, ?_⟩ | refine ⟨n2, ?_⟩ | refine ⟨n3, ?_⟩)
  refine dead1 (by (try dsimp only [SI.val, SO.val]); simp [k1, k2]) (fun _ => ?_)
  cbv
  refine ⟨⟨⟨0, by omega⟩, ?_⟩, fun i _ => ?_⟩
  · subst hI
    cbv
    exact ⟨rfl, trivial⟩
  · subst hI
    cbv
    refine ⟨hsl, ?_⟩
    obtain ⟨i, hi⟩ := i
    refine ⟨fun h => ?_, fun h => ?_⟩
    · cbv
      have hlt : i < ln v := by
        rw [hcm] at h
        exact Int.ofNat_lt.1 (of_decide_eq_true h)
      have qi : na (Int.ofNat i) = i := by rw [hna]; rfl
      have m66 : (Classical.choice seal_mul).1 (na (Int.ofNat i)) 66 = i * 66 := by rw [choice_mul, qi]
      have w0 : Within (Int.ofNat i) (ln v) := ⟨by simp only [Int.ofNat_eq_natCast]; omega⟩
      have h1 : HasMem mem (ad v ((Classical.choice seal_mul).1 (na (Int.ofNat i)) 66)) 66 := by rw [m66]; exact (hea i hlt).1
      have h2 : RecOK mem 66 opF (gt (ad v ((Classical.choice seal_mul).1 (na (Int.ofNat i)) 66)) 66) := by rw [m66]; exact (hea i hlt).2
      have e4 : bi .add .i64 (Int.ofNat i) 1 = Int.ofNat (i + 1) := by rw [hbi, add_i64 (by have := hlv; unfold capMax at this; simp only [Int.ofNat_eq_natCast]; omega)]; rfl
      refine ⟨hsl, w0, h1, h2, ?_⟩
      refine dead1 (by simp) (fun _ => ?_)
      cbv
      refine ⟨⟨i + 1, by omega⟩, ?_, by show L - (i + 1) < L - i; omega⟩
      cbv
      exact ⟨e4, trivial⟩
    · cbv

theorem ok_law_fall (mem : Mem) : SoundM Tryd.prog mem G_fall 13 (scriptF mem) := by
  refine sound_eachM (mem := mem) (n := 43) (rs := [.tmp 2]) (sc := sc_fall.1) mixed Tryd.func13 rfl rfl rfl rfl sc_fall.2 ?_
  intro vs cs r h
  unfold scriptF at h
  split at h
  · rename_i v
    cases h
    exact ⟨by simp, fun hcs hwf => ⟨_, envOKM tabOK ((.cons ((ok_qsmall G_fall).toM mem) (.cons ((ok_qbytes G_fall).toM mem) (.cons ((ok_qprime.sub (sub_of (by decide))).toM mem) (.cons ((ok_mulZ G_fall).toM mem) (.cons (ok_plays mem) .nil)))))), rfl, rfl, walk_fall mem _ rfl realOps rfl v (hcs _ (by simp)) _ rfl _ rfl _ rfl _ rfl _ rfl _ rfl⟩⟩
  · cases h
end Go.Proofs.YtnfbjfbndnmhmaaDoor
