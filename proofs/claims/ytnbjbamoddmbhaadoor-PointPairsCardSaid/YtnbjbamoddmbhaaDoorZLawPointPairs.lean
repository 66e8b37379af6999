/-
  PointPairs holds for every input: the walk.
-/
import Derived.Test.YtnbjbamoddmbhaaDoorZRefNK
import Derived.Test.YtnbjbamoddmbhaaDoorZPpE
import Derived.Test.YtnbjbamoddmbhaaDoorZNA
namespace Go.Proofs.YtnbjbamoddmbhaaDoor
open Go Go.Proofs Sx
set_option maxRecDepth 100000
set_option maxHeartbeats 4000000
set_option linter.unusedVariables false
set_option linter.unusedSimpArgs false

def gl_ppairs : GL := [v_dbytes, v_twice, v_two, v_ptzero, v_ptone, v_ptcurve]
abbrev G_ppairs : Nat → AV := lookGL gl_ppairs
def sc_law_ppairs : { c : SC // strip (body Tryd.f5) = c } := ⟨_, by cbv⟩
theorem walk_law_ppairs (A : Ops) (hA : A = realOps) (p : Nat → Int) (q : Nat → Int)  (AL : (Nat → Int) → (Nat → Int) → Bool) (hAL : AL = alB) (ON : (Nat → Int) → Bool) (hON : ON = onB) (EN : (Nat → Int) → Nat → Int) (hEN : EN = encF) (NG : (Nat → Int) → Nat → Int) (hNG : NG = negF) (DB : (Nat → Int) → Nat → Int) (hDB : DB = dblF) (AD : (Nat → Int) → (Nat → Int) → Nat → Int) (hAD : AD = ptAddF) (SS : (Nat → Int) → Bool) (hSS : SS = smallF) (OE : (Nat → Int) → Int) (hOE : OE = offE) (AE : (Nat → Int) → (Nat → Int) → Int) (hAE : AE = ptAddE)  :
    Walk (mkEnv A tab.1 G_ppairs [(16, alikeC AL), (24, numI0), (25, mineC), (26, onPC ON), (27, onPC ON), (28, encC EN OE), (29, encC EN OE), (30, pt1C NG OE), (31, pt1C NG OE), (32, pt1C DB OE), (36, pt2C AD AE), (33, pt2C AD AE), (34, smallC SS OE), (35, smallC SS OE)] []) sc_law_ppairs.1 147 [.tmp 4] [.arr .u8 64 p, .arr .u8 64 q] (.bool (.sym true)) := by
  obtain ⟨bi, cm, un, cv, na, eq⟩ := A
  have hbi : bi = realBin := congrArg Ops.bin hA
  have hcm : cm = realCmp := congrArg Ops.cmp hA
  have hna : na = Int.toNat := congrArg Ops.nat hA
  have hcv : cv = fun k n => k.wrap n := congrArg Ops.cnv hA
  have heq : eq = realEqA := congrArg Ops.eqA hA
  clear hA
  have a0 : ∀ f, AL f f = true := by intro f; rw [hAL]; exact alB_self f
  have c0 : ∀ x, cm .eql x x = true := by intro x; rw [hcm]; exact beq_self_eq_true x
  have c1 : ∀ x, cm .neq x x = false := by intro x; rw [hcm]; show (x != x) = false; simp
  have c2 : ∀ f, eq 32 f f = true := by intro f; rw [heq]; exact eqA_of fun _ _ => rfl
  have d0 : ∀ f, AL (DB f) (AD f f) = true := by intro f; rw [hAL, hDB, hAD, dbl_add]; exact alB_self _
  have d1 : ∀ f, cm .neq (OE f) (AE f f) = false := by intro f; rw [hcm, hOE, hAE, off_add2]; show (offE f != offE f) = false; simp
  have d2 : ∀ f g, AL (AD g f) (AD f g) = true := by intro f g; rw [hAL, hAD, ptAdd_comm]; exact alB_self _
  have d3 : ∀ f g, cm .eql (AE g f) (AE f g) = true := by intro f g; rw [hcm, hAE, ptAddE_comm]; exact beq_self_eq_true _
  clear hAL hON hEN hNG hDB hAD hSS hOE hAE
  refine ⟨?_⟩
  cbv
  refine and_dead (by (try dsimp only [SI.val, SO.val]); simp [a0, c0, c1, c2, d0, d1]) (fun _ => ?_)
  cbv
  refine and_dead (by (try dsimp only [SI.val, SO.val]); simp [a0, c0, c1, c2, d0, d1]) (fun _ => ?_)
  cbv
  refine and_dead (by (try dsimp only [SI.val, SO.val]); simp [a0, c0, c1, c2, d0, d1]) (fun _ => ?_)
  cbv
  refine and_dead (by (try dsimp only [SI.val, SO.val]); simp [a0, c0, c1, c2, d0, d1]) (fun _ => ?_)
  cbv
  refine and_dead (by (try dsimp only [SI.val, SO.val]); simp [a0, c0, c1, c2, d0, d1]) (fun _ => ?_)
  cbv
  refine and_dead (by (try dsimp only [SI.val, SO.val]); simp [a0, c0, c1, c2, d0, d1]) (fun _ => ?_)
  cbv
  try dsimp only [SI.val, SO.val]
  simp [a0, c0, c1, c2, d2, d3]

theorem ok_law_ppairs : Sound Tryd.prog G_ppairs 5 (lawPP) := by
  refine sound_each (n := 147) (rs := [.tmp 4]) (sc := sc_law_ppairs.1) mixed Tryd.func5 rfl rfl rfl rfl sc_law_ppairs.2 ?_
  intro vs cs r h
  unfold lawPP at h
  split at h
  · rename_i p q
    cases h
    exact ⟨by simp, fun hcs hwf => ⟨_, envOK tabOK ((.cons (ok_ralike.sub (sub_of (by decide))) (.cons (ok_rnum.sub (sub_of (by decide))) (.cons (ok_rmine.sub (sub_of (by decide))) (.cons ((ok_pton).sub (sub_of (by decide))) (.cons ((ok_nOn).sub (sub_of (by decide))) (.cons ((ok_ptenc).sub (sub_of (by decide))) (.cons ((ok_nEncode).sub (sub_of (by decide))) (.cons ((ok_ptneg).sub (sub_of (by decide))) (.cons ((ok_nNeg).sub (sub_of (by decide))) (.cons ((ok_ptdbl).sub (sub_of (by decide))) (.cons ((ok_ptadd).sub (sub_of (by decide))) (.cons ((ok_nAdd).sub (sub_of (by decide))) (.cons ((ok_ptsmall).sub (sub_of (by decide))) (.cons ((ok_nSmall).sub (sub_of (by decide))) .nil))))))))))))))), rfl, walk_law_ppairs realOps rfl p q  _ rfl _ rfl _ rfl _ rfl _ rfl _ rfl _ rfl _ rfl _ rfl ⟩⟩
  · cases h
end Go.Proofs.YtnbjbamoddmbhaaDoor
