/-
  The document's powers.
-/
import Derived.Test.YtnfbjfbndnmhmaaDoorZRefQT
import Derived.Test.YtnfbjfbndnmhmaaDoorZRefQP
import Derived.Test.YtnfbjfbndnmhmaaDoorZNA
namespace Go.Proofs.YtnfbjfbndnmhmaaDoor
open Go Go.Proofs Sx
set_option maxRecDepth 100000
set_option maxHeartbeats 4000000
set_option linter.unusedVariables false
set_option linter.unusedSimpArgs false

def sc_qpower : { c : SC // strip (body Tryd.f50) = c } := ⟨_, by cbv⟩
theorem walk_qpower (A : Ops) (hA : A = realOps) (a : Nat → Int) (e : Nat → Int) (ha : Num16 a) (he : IsBytes 32 e) (SM : Int → Nat → Int) (hSM : SM = D16) (TM : (Nat → Int) → (Nat → Int) → Nat → Int) (hTM : TM = fun a b => nb (nv a * nv b)) (BT : (Nat → Int) → Int → Bool) (hBT : BT = fun e i => bitB e i.toNat) (R : (Nat → Int) → (Nat → Int) → Nat → Int) (hR : R = fun a e => nb (zp (nv a) (num 32 e).toNat)) (XP : Nat → Nat → Int) (hXP : XP = fun k => nb (pwR (nv a) e k)) (IX : Nat → Int) (hIX : IX = fun (k : Nat) => 255 - (k : Int)) (I : { k : Nat // k ≤ 256 } → St) (hI : I = fun k => slots 24 [(2, .own (.arr .i64 16 a)), (3, .own (.arr .u8 32 e)), (4, .own (.arr .i64 16 fun _ => 0)), (5, .own (.arr .i64 16 (XP k.1))), (6, .int .i64 (.sym (IX k.1)))]) :
    Walk (mkEnv A tab.1 Gqprime [(43, qsmallC SM), (53, qbinC TM), (67, qbitC BT)] [(3, .inv { k : Nat // k ≤ 256 } I fun k => 256 - k.1)]) sc_qpower.1 24 [.cell 4 46] [.arr .i64 16 a, .arr .u8 32 e] (.arr .i64 16 (R a e)) := by
  obtain ⟨bi, cm, un, cv, na, eq⟩ := A
  have hbi : bi = realBin := congrArg Ops.bin hA
  have hcm : cm = realCmp := congrArg Ops.cmp hA
  have hna : na = Int.toNat := congrArg Ops.nat hA
  have hcv : cv = fun k n => k.wrap n := congrArg Ops.cnv hA
  have heq : eq = realEqA := congrArg Ops.eqA hA
  clear hA
  have n1 : ∀ k, Num16 (XP k) := by intro k; rw [hXP]; exact num16_nb _
  have n2 : ∀ f g, Num16 (TM f g) := by intro f g; rw [hTM]; exact num16_nb _
  have x0 : ∀ c, SM 1 c = XP 0 c := by intro c; rw [hSM, hXP]; rfl
  have ix0 : 255 = IX 0 := by rw [hIX]; rfl
  have ixs : ∀ k, k < 256 → bi .sub .i64 (IX k) 1 = IX (k + 1) := by
    intro k hk
    rw [hIX, hbi, sub_i64 (by dsimp only; omega)]
    dsimp only
    omega
  have ixw : ∀ k, k < 256 → 0 ≤ IX k ∧ IX k < 256 := by
    intro k hk
    rw [hIX]
    dsimp only
    omega
  have ixc : ∀ k, k ≤ 256 → cm .geq (IX k) 0 = decide (k < 256) := by
    intro k hk
    rw [hIX, hcm]
    show decide ((0 : Int) ≤ 255 - (k : Int)) = _
    rw [Bool.eq_iff_iff]
    simp only [decide_eq_true_eq]
    omega
  have bt : ∀ k, k < 256 → BT e (IX k) = bitB e (255 - k) := by
    intro k hk
    rw [hBT, hIX]
    dsimp only
    congr 1
    omega
  have tT : ∀ k, k < 256 → BT e (IX k) = true → ∀ c, TM (TM (XP k) (XP k)) a c = XP (k + 1) c := by
    intro k hk h c
    rw [bt k hk] at h
    rw [hTM, hXP]
    dsimp only
    rw [nv_nb, nv_nb]
    simp only [pwR]
    rw [if_pos h]
  have tF : ∀ k, k < 256 → BT e (IX k) = false → ∀ c, TM (XP k) (XP k) c = XP (k + 1) c := by
    intro k hk h c
    rw [bt k hk] at h
    rw [hTM, hXP]
    dsimp only
    rw [nv_nb]
    simp only [pwR]
    rw [if_neg (by rw [h]; decide)]
  have te : R a e = XP 256 := by
    rw [hR, hXP]
    dsimp only
    rw [pwR_end he]
  clear hXP hTM hSM hR hBT bt hIX
  refine ⟨?_⟩
  cbv
  refine ⟨⟨by decide⟩, ⟨⟨0, by decide⟩, ?_⟩, fun k _ => ?_⟩
  · subst hI
    cbv
    exact ⟨fun _ _ => rfl, fun _ _ => rfl, fun _ _ => rfl, fun c _ => x0 c, ix0, trivial⟩
  · subst hI
    cbv
    obtain ⟨k, hk⟩ := k
    have hc := ixc k hk
    refine ⟨fun h => ?_, fun h => ?_⟩
    · have hk2 : k < 256 := by
        have h' : cm .geq (IX k) 0 = true := h
        rw [hc] at h'
        exact of_decide_eq_true h'
      cbv
      refine ⟨n1 k, n1 k, ⟨ixw k hk2⟩, fun hb => ?_, fun hb => ?_⟩
      · have hl := tT k hk2 hb
        cbv
        refine ⟨n2 _ _, ha, ⟨k + 1, by omega⟩, ?_, by show 256 - (k + 1) < 256 - k; omega⟩
        cbv
        exact ⟨fun _ _ => rfl, fun _ _ => rfl, fun _ _ => rfl, fun c _ => hl c, ixs k hk2, trivial⟩
      · have hl := tF k hk2 hb
        cbv
        refine ⟨⟨k + 1, by omega⟩, ?_, by show 256 - (k + 1) < 256 - k; omega⟩
        cbv
        exact ⟨fun _ _ => rfl, fun _ _ => rfl, fun _ _ => rfl, fun c _ => hl c, ixs k hk2, trivial⟩
    · have hk2 : k = 256 := by
        have h' : cm .geq (IX k) 0 = false := h
        rw [hc] at h'
        have := of_decide_eq_false h'
        omega
      subst hk2
      cbv
      rw [te]
      exact fun _ _ => rfl

theorem ok_qpower : Sound Tryd.prog Gqprime 50 (qpowC (fun a e => nb (zp (nv a) (num 32 e).toNat))) := by
  refine sound_each (n := 24) (rs := [.cell 4 46]) (sc := sc_qpower.1) mixed Tryd.func50 rfl rfl rfl rfl sc_qpower.2 ?_
  intro vs cs r h
  unfold qpowC at h
  split at h
  · rename_i a e
    cases h
    exact ⟨by simp, fun hcs hwf => ⟨_, envOK tabOK ((.cons (ok_qsmall Gqprime) (.cons (ok_qtimes) (.cons (ok_qbit Gqprime) .nil)))), rfl, walk_qpower realOps rfl a e ((hcs _ (by simp) : Num16 a)) (isB (hwf _ (by simp))) _ rfl _ rfl _ rfl _ rfl _ rfl _ rfl _ rfl⟩⟩
  · cases h
end Go.Proofs.YtnfbjfbndnmhmaaDoor
