/-
  PointTimes holds for every input: the walk.
-/
import Derived.Test.YtnbjbamoddmbhaaDoorZRefNK
import Derived.Test.YtnbjbamoddmbhaaDoorZPmE
import Derived.Test.YtnbjbamoddmbhaaDoorZNA
namespace Go.Proofs.YtnbjbamoddmbhaaDoor
open Go Go.Proofs Sx
set_option maxRecDepth 100000
set_option maxHeartbeats 4000000
set_option linter.unusedVariables false
set_option linter.unusedSimpArgs false

def gl_ptimes : GL := [v_dbytes, v_twice, v_two, v_ptzero, v_ptone, v_ptcurve, v_ptbase]
abbrev G_ptimes : Nat → AV := lookGL gl_ptimes
def sc_law_ptimes : { c : SC // strip (body Tryd.f9) = c } := ⟨_, by cbv⟩
theorem walk_law_ptimes (A : Ops) (hA : A = realOps) (n : Nat → Int) (p : Nat → Int) (m : Nat → Int)  (AL : (Nat → Int) → (Nat → Int) → Bool) (hAL : AL = alB) (ML : (Nat → Int) → (Nat → Int) → Nat → Int) (hML : ML = mulPF) (BM : (Nat → Int) → Nat → Int) (hBM : BM = bmulF) (CB : (Nat → Int) → (Nat → Int) → (Nat → Int) → Nat → Int) (hCB : CB = combF) (OE : (Nat → Int) → Int) (hOE : OE = offE)  :
    Walk (mkEnv A tab.1 G_ptimes [(16, alikeC AL), (24, numI0), (25, mineC), (50, ptMC ML OE), (51, ptMC ML OE), (52, ptBC BM), (53, ptBC BM), (54, ptCC CB OE), (55, ptCC CB OE)] []) sc_law_ptimes.1 64 [.tmp 6] [.arr .u8 32 n, .arr .u8 64 p, .arr .u8 32 m] (.bool (.sym true)) := by
  obtain ⟨bi, cm, un, cv, na, eq⟩ := A
  have hbi : bi = realBin := congrArg Ops.bin hA
  have hcm : cm = realCmp := congrArg Ops.cmp hA
  have hna : na = Int.toNat := congrArg Ops.nat hA
  have hcv : cv = fun k n => k.wrap n := congrArg Ops.cnv hA
  have heq : eq = realEqA := congrArg Ops.eqA hA
  clear hA
  have a0 : ∀ f, AL f f = true := by intro f; rw [hAL]; exact alB_self f
  have c0 : ∀ x, cm .eql x x = true := by intro x; rw [hcm]; exact beq_self_eq_true x
  have c1 : ∀ x, cm .neq x x = false := by intro x; rw [hcm]; show (x != x) = false; simp
  have c2 : ∀ f, eq 32 f f = true := by intro f; rw [heq]; exact eqA_of fun _ _ => rfl
  clear hAL hML hBM hCB hOE
  refine ⟨?_⟩
  cbv
  refine and_dead (by (try dsimp only [SI.val, SO.val]); simp [a0, c0, c1, c2]) (fun _ => ?_)
  cbv
  refine and_dead (by (try dsimp only [SI.val, SO.val]); simp [a0, c0, c1, c2]) (fun _ => ?_)
  cbv
  try dsimp only [SI.val, SO.val]
  simp [a0, c0, c1, c2]

theorem ok_law_ptimes : Sound Tryd.prog G_ptimes 9 (lawNPM) := by
  refine sound_each (n := 64) (rs := [.tmp 6]) (sc := sc_law_ptimes.1) mixed Tryd.func9 rfl rfl rfl rfl sc_law_ptimes.2 ?_
  intro vs cs r h
  unfold lawNPM at h
  split at h
  · rename_i n p m
    cases h
    exact ⟨by simp, fun hcs hwf => ⟨_, envOK tabOK ((.cons (ok_ralike.sub (sub_of (by decide))) (.cons (ok_rnum.sub (sub_of (by decide))) (.cons (ok_rmine.sub (sub_of (by decide))) (.cons ((ok_ptmul).sub (sub_of (by decide))) (.cons ((ok_nMult).sub (sub_of (by decide))) (.cons ((ok_ptbmul).sub (sub_of (by decide))) (.cons ((ok_nBaseMult).sub (sub_of (by decide))) (.cons ((ok_ptcomb).sub (sub_of (by decide))) (.cons ((ok_nCombine).sub (sub_of (by decide))) .nil)))))))))), rfl, walk_law_ptimes realOps rfl n p m  _ rfl _ rfl _ rfl _ rfl _ rfl ⟩⟩
  · cases h
end Go.Proofs.YtnbjbamoddmbhaaDoor
