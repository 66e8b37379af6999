/-
  ScalarAll holds for every script: the walk.
-/
import Derived.Test.YtbiialpakchjgaaDoorZLawScalarAllA
namespace Go.Proofs.YtbiialpakchjgaaDoor
open Go Go.Proofs Sx
set_option maxRecDepth 100000
set_option maxHeartbeats 4000000
set_option linter.unusedVariables false
set_option linter.unusedSimpArgs false

def sc_sall : { c : SC // strip (body Tryd.f3) = c } := ⟨_, by cbv⟩
theorem walk_sall (mem : Mem) (X : Acc) (hX : X = realAcc mem) (A : Ops) (hA : A = realOps) (v : Value) (hv : ScriptOK mem 163 opS v) (OR : Nat → Int) (hOR : OR = byt lI) (L : Nat) (hL : L = rLen v) (I : { i : Nat // i ≤ L } → St) (hI : I = fun i => slots 25 [(0, .opq v), (3, .int .i64 (.sym (Int.ofNat i.1)))]) :
    Walk (mkEnvM X mem A tab.1 G_sall [(5, primeC OR), (6, primeC OR), (4, trueC), (7, playS mem)] [(4, .inv { i : Nat // i ≤ L } I fun i => L - i.1)]) sc_sall.1 25 [.tmp 2] [.opq v] (.bool (.sym true)) := by
  obtain ⟨bi, cm, un, cv, na, eq⟩ := A
  have hbi : bi = realBin := congrArg Ops.bin hA
  have hcm : cm = realCmp := congrArg Ops.cmp hA
  have hna : na = Int.toNat := congrArg Ops.nat hA
  have hcv : cv = fun k n => k.wrap n := congrArg Ops.cnv hA
  have heq : eq = realEqA := congrArg Ops.eqA hA
  clear hA
  obtain ⟨cl, nu, ln, cp, ad, gt, ls⟩ := X
  have hcl : cl = rCell := congrArg Acc.cell hX
  have hln : ln = rLen := congrArg Acc.len hX
  have had : ad = rAddr := congrArg Acc.addr hX
  have hgt : gt = rGet mem := congrArg Acc.get hX
  clear hX
  have e0 : ∀ f, eq 32 f f = true := by intro f; rw [heq]; exact realEqA_iff.2 fun _ _ => rfl
  have hsl : IsSl v := hv.sl
  have hl0 : rLen v ≤ capMax := by obtain ⟨a, l, c, h1, _, h2, h3⟩ := hsl.h; rw [h1]; exact Nat.le_trans h2 h3
  have hea : ∀ i, i < ln v → HasMem mem (ad v (i * 163)) 163 ∧ RecOK mem 163 opS (gt (ad v (i * 163)) 163) := by
    rw [hln, had, hgt]
    exact hv.each
  have hlv : ln v ≤ capMax := by rw [hln]; exact hl0
  have hLv : ln v = L := by rw [hL, hln]
  clear hOR hcl hln had hgt hv
  refine ⟨?_⟩
  cbv
  refine dead1 (by (try dsimp only [SI.val, SO.val]); simp [e0]) (fun _ => ?_)
  cbv
  refine ⟨⟨⟨0, by omega⟩, ?_⟩, fun i _ => ?_⟩
  · subst hI
    cbv
    exact ⟨rfl, trivial⟩
  · subst hI
    cbv
    refine ⟨hsl, ?_⟩
    obtain ⟨i, hi⟩ := i
    refine ⟨fun h => ?_, fun h => ?_⟩
    · cbv
      have hlt : i < ln v := by
        rw [hcm] at h
        exact Int.ofNat_lt.1 (of_decide_eq_true h)
      have qi : na (Int.ofNat i) = i := by rw [hna]; rfl
      have m66 : (Classical.choice seal_mul).1 (na (Int.ofNat i)) 163 = i * 163 := by rw [choice_mul, qi]
      have w0 : Within (Int.ofNat i) (ln v) := ⟨by simp only [Int.ofNat_eq_natCast]; omega⟩
      have h1 : HasMem mem (ad v ((Classical.choice seal_mul).1 (na (Int.ofNat i)) 163)) 163 := by rw [m66]; exact (hea i hlt).1
      have h2 : RecOK mem 163 opS (gt (ad v ((Classical.choice seal_mul).1 (na (Int.ofNat i)) 163)) 163) := by rw [m66]; exact (hea i hlt).2
      have e4 : bi .add .i64 (Int.ofNat i) 1 = Int.ofNat (i + 1) := by rw [hbi, add_i64 (by have := hlv; unfold capMax at this; simp only [Int.ofNat_eq_natCast]; omega)]; rfl
      refine ⟨hsl, w0, h1, h2, ?_⟩
      refine dead1 (by simp) (fun _ => ?_)
      cbv
      refine ⟨⟨i + 1, by omega⟩, ?_, by show L - (i + 1) < L - i; omega⟩
      cbv
      exact ⟨e4, trivial⟩
    · cbv

theorem ok_law_sall (mem : Mem) : SoundM Tryd.prog mem G_sall 3 (scriptS mem) := by
  refine sound_eachM (mem := mem) (n := 25) (rs := [.tmp 2]) (sc := sc_sall.1) mixed Tryd.func3 rfl rfl rfl rfl sc_sall.2 ?_
  intro vs cs r h
  unfold scriptS at h
  split at h
  · rename_i v
    cases h
    exact ⟨by simp, fun hcs hwf => ⟨_, envOKM tabOK ((.cons ((ok_orderS.sub (sub_of (by decide))).toM mem) (.cons ((ok_rorder.sub (sub_of (by decide))).toM mem) (.cons ((ok_snumbers.sub (sub_of (by decide))).toM mem) (.cons (ok_splays mem) .nil))))), rfl, rfl, walk_sall mem _ rfl realOps rfl v (hcs _ (by simp)) _ rfl _ rfl _ rfl⟩⟩
  · cases h
end Go.Proofs.YtbiialpakchjgaaDoor
