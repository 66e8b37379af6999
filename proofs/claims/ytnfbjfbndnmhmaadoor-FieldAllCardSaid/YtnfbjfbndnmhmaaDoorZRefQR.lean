/-
  The document's roots.
-/
import Derived.Test.YtnfbjfbndnmhmaaDoorZRefQI
import Derived.Test.YtnfbjfbndnmhmaaDoorZRefQB
import Derived.Test.YtnfbjfbndnmhmaaDoorZRefQD
import Derived.Test.YtnfbjfbndnmhmaaDoorZNA
namespace Go.Proofs.YtnfbjfbndnmhmaaDoor
open Go Go.Proofs Sx
set_option maxRecDepth 100000
set_option maxHeartbeats 4000000
set_option linter.unusedVariables false
set_option linter.unusedSimpArgs false

def sc_qends : { c : SC // strip (body Tryd.f76) = c } := ⟨_, by cbv⟩
theorem walk_qends (A : Ops) (hA : A = realOps) (x : Int) (y : Int)  (R : Int → Int → Nat → Int) (hR : R = endF) (WF : Nat → Nat → Int) (hWF : WF = fun i j => if j < i then 255 else 0) (I : { i : Nat // i ≤ 32 } → St) (hI : I = fun i => slots 18 [(0, .int .u8 (.sym x)), (1, .int .u8 (.sym y)), (4, .own (.arr .u8 32 fun _ => 0)), (5, .own (.arr .u8 32 (WF i.1))), (6, .int .i64 (.sym (i.1 : Int)))]) :
    Walk (mkEnv A tab.1 Gqprime [] [(3, .inv { i : Nat // i ≤ 32 } I fun i => 32 - i.1)]) sc_qends.1 18 [.cell 4 22] [.int .u8 (.sym x), .int .u8 (.sym y)] (.arr .u8 32 (R x y)) := by
  obtain ⟨bi, cm, un, cv, na, eq⟩ := A
  have hbi : bi = realBin := congrArg Ops.bin hA
  have hcm : cm = realCmp := congrArg Ops.cmp hA
  have hna : na = Int.toNat := congrArg Ops.nat hA
  have hcv : cv = fun k n => k.wrap n := congrArg Ops.cnv hA
  have heq : eq = realEqA := congrArg Ops.eqA hA
  clear hA
  have w0 : ∀ k, 0 = WF 0 k := by intro k; rw [hWF]; rfl
  have ws : ∀ i k, (if k = i then 255 else WF i k) = WF (i + 1) k := by
    intro i k
    rw [hWF]
    dsimp only
    by_cases h : k = i
    · subst h; rw [if_pos rfl, if_pos (by omega)]
    · rw [if_neg h]
      by_cases h2 : k < i
      · rw [if_pos h2, if_pos (by omega)]
      · rw [if_neg h2, if_neg (by omega)]
  have we : ∀ k, k < 32 → upd (upd (WF 32) 0 x) 31 y k = R x y k := by
    intro k hk
    rw [hWF, hR]
    show (if k = 31 then y else if k = 0 then x else if k < 32 then 255 else 0) = endF x y k
    unfold endF
    by_cases h : k = 31
    · rw [if_pos h, if_pos h]
    · rw [if_neg h, if_neg h]
      by_cases h2 : k = 0
      · rw [if_pos h2, if_pos h2]
      · rw [if_neg h2, if_neg h2]
        exact if_pos hk
  clear hWF hR
  refine ⟨?_⟩
  cbv
  refine ⟨⟨⟨0, by decide⟩, ?_⟩, fun i _ => ?_⟩
  · subst hI
    cbv
    exact ⟨fun _ _ => rfl, fun k _ => w0 k, rfl, trivial⟩
  · subst hI
    obtain ⟨i, hi⟩ := i
    cbv
    refine ⟨fun h => ?_, fun h => ?_⟩
    · have hlt : i < 32 := by
        have h' : cm .lss (Int.ofNat i) 32 = true := h
        rw [hcm] at h'
        have := of_decide_eq_true h'
        simp only [Int.ofNat_eq_natCast] at this
        omega
      have qi : na (Int.ofNat i) = i := by rw [hna]; rfl
      have p4 : bi .add .i64 (Int.ofNat i) 1 = Int.ofNat (i + 1) := by rw [hbi, add_i64 (by simp only [Int.ofNat_eq_natCast]; omega)]; rfl
      have w1 : Within (Int.ofNat i) 32 := ⟨by constructor <;> simp only [Int.ofNat_eq_natCast] <;> omega⟩
      have f1 : FitsIn (na (Int.ofNat i)) 1 32 := ⟨by rw [qi]; omega⟩
      cbv
      refine ⟨w1, f1, ⟨i + 1, by omega⟩, ?_, by show 32 - (i + 1) < 32 - i; omega⟩
      cbv
      refine ⟨fun _ _ => rfl, fun k _ => ?_, p4, trivial⟩
      show (if k = na (Int.ofNat i) then 255 else WF i k) = WF (i + 1) k
      rw [qi]
      exact ws i k
    · have hN : i = 32 := by
        have h' : cm .lss (Int.ofNat i) 32 = false := h
        rw [hcm] at h'
        have := of_decide_eq_false h'
        simp only [Int.ofNat_eq_natCast] at this
        omega
      subst hN
      cbv
      exact we

theorem ok_qends : Sound Tryd.prog Gqprime 76 (qendsC endF) := by
  refine sound_sym (n := 18) (rs := [.cell 4 22]) (sc := sc_qends.1) mixed Tryd.func76 rfl rfl rfl rfl sc_qends.2 ?_
  intro vs cs r h
  unfold qendsC at h
  split at h
  · rename_i x y
    cases h
    exact ⟨by simp, fun hcs hwf => ⟨_, envOK tabOK ( .nil), rfl, walk_qends realOps rfl x.val y.val  _ rfl _ rfl _ rfl⟩⟩
  · cases h
def sc_qroot : { c : SC // strip (body Tryd.f60) = c } := ⟨_, by cbv⟩
theorem walk_qroot (A : Ops) (hA : A = realOps) (a : Nat → Int) (ha : Low a) (ED : Int → Int → Nat → Int) (hED : ED = endF) (PW : (Nat → Int) → (Nat → Int) → Nat → Int) (hPW : PW = fun a e => nb (zp (nv a) (num 32 e).toNat)) (TM : (Nat → Int) → (Nat → Int) → Nat → Int) (hTM : TM = fun a b => nb (nv a * nv b)) (SA : (Nat → Int) → (Nat → Int) → Bool) (hSA : SA = realEqA 16) (SM : Int → Nat → Int) (hSM : SM = D16) (MN : (Nat → Int) → (Nat → Int) → Nat → Int) (hMN : MN = fun a b => nb (nv a - nv b)) (R : (Nat → Int) → Nat → Int) (hR : R = fun a => nb (rootZ (nv a))) (q : Zp) (hq : q = nv a) (w : Zp) (hw : w = zp q rE) (ww : Zp) (hww : ww = w * w) (iw : Zp) (hiw : iw = zp 2 iE) (wi : Zp) (hwi : wi = w * iw) (NF : Zp → Nat → Int) (hNF : NF = nb) (EV : Zp → Zp) (hEV : EV = evZ) :
    Walk (mkEnv A tab.1 Gqprime [(76, qendsC ED), (50, qpowC PW), (53, qbinC TM), (68, qsameC SA), (43, qsmallC SM), (57, qbinC MN)] []) sc_qroot.1 40 [.cell 2 46] [.arr .i64 16 a] (.arr .i64 16 (R a)) := by
  obtain ⟨bi, cm, un, cv, na, eq⟩ := A
  have hbi : bi = realBin := congrArg Ops.bin hA
  have hcm : cm = realCmp := congrArg Ops.cmp hA
  have hna : na = Int.toNat := congrArg Ops.nat hA
  have hcv : cv = fun k n => k.wrap n := congrArg Ops.cnv hA
  have heq : eq = realEqA := congrArg Ops.eqA hA
  clear hA
  have nA : Num16 a := ha.n
  have ea : ∀ i, i < 16 → nb q i = a i := by intro i hi; rw [hq]; exact low_is ha hi
  have n1 : ∀ f e, Num16 (PW f e) := by intro f e; rw [hPW]; exact num16_nb _
  have n2 : ∀ f g, Num16 (TM f g) := by intro f g; rw [hTM]; exact num16_nb _
  have n3 : ∀ x, Num16 (SM x) := by intro x; rw [hSM]; exact num16_D16 _
  have vr : PW a (ED 254 15) = NF w := by rw [hPW, hED, hNF, hw, hq]; dsimp only; rw [end_root]
  have vi : PW (SM 2) (ED 251 31) = NF iw := by
    rw [hPW, hED, hNF, hiw, hSM]
    dsimp only
    rw [end_i, show nv (D16 2) = 2 from nv_small]
  have ts : TM (NF w) (NF w) = NF ww := by rw [hTM, hNF, hww]; dsimp only; rw [nv_nb]
  have ti : TM (NF w) (NF iw) = NF wi := by rw [hTM, hNF, hwi]; dsimp only; rw [nv_nb, nv_nb]
  have sm : SA (NF ww) a = decide (ww = q) := by
    rw [hSA, hNF, Bool.eq_iff_iff]
    simp only [decide_eq_true_eq]
    constructor
    · intro h
      have h1 := eqA_all16 h
      exact nb_inj fun i hi => (h1 i hi).trans (ea i hi).symm
    · intro h
      simp only [realEqA, List.all_eq_true, List.mem_range, beq_iff_eq]
      intro i hi
      rw [h]
      exact ea i hi
  have od : ∀ r, cm .eql (bi .rem .i64 (NF r 0) 2) 1 = decide (r.val % 2 = 1) := by
    intro r
    have e : NF r 0 = ((r.val % 65536 : Nat) : Int) := by rw [hNF]; exact nb_low r
    rw [hbi, e, rem_i64 (by omega), hcm]
    show (((r.val % 65536 : Nat) : Int) % 2 == 1) = _
    rw [Bool.eq_iff_iff]
    simp only [beq_iff_eq, decide_eq_true_eq]
    omega
  have mn : ∀ r i, r.val % 2 = 1 → MN (SM 0) (NF r) i = NF (EV r) i := by
    intro r i h
    rw [hMN, hNF, hSM, hEV]
    dsimp only
    rw [nv_nb, show nv (D16 0) = 0 from nv_nil]
    unfold evZ
    rw [if_pos h, show (0 : Zp) - r = -r from by grind]
  have ms : ∀ r i, ¬ r.val % 2 = 1 → NF r i = NF (EV r) i := by
    intro r i h
    rw [hEV]
    unfold evZ
    rw [if_neg h]
  have n4 : ∀ r, Num16 (NF r) := by intro r; rw [hNF]; exact num16_nb _
  have rt : ww = q → ∀ i, NF (EV w) i = R a i := by
    intro h i
    rw [hR, hNF, hEV]
    dsimp only
    rw [← hq]
    unfold rootZ rootW
    rw [← hw, ← hww, if_pos h]
  have rf : ww ≠ q → ∀ i, NF (EV wi) i = R a i := by
    intro h i
    rw [hR, hNF, hEV]
    dsimp only
    rw [← hq]
    unfold rootZ rootW
    rw [← hw, ← hww, if_neg h, ← hiw, ← hwi]
  have od1 := od w
  have od2 := od wi
  have m1 := mn w
  have m2 := mn wi
  have m3 := ms w
  have m4 := ms wi
  rw [← vr] at ts ti od1 m1 m3
  rw [← ts] at sm
  rw [← vi] at ti
  rw [← ti] at od2 m2 m4
  clear hNF hEV hPW hED hTM hSM hSA hMN hR hq hw hww hwi hiw
  refine ⟨?_⟩
  cbv
  refine ⟨nA, n1 _ _, n1 _ _, fun h => ?_, fun h => ?_⟩
  · have h1 : ww ≠ q := by
      have h' := mnot_yes2 (a := SA (TM (PW a (ED 254 15)) (PW a (ED 254 15))) a) h
      rw [sm] at h'
      exact of_decide_eq_false h'
    have hr := rf h1
    cbv
    refine ⟨⟨by decide⟩, n3 _, n1 _ _, n1 _ _, fun h2 => ?_, fun h2 => ?_⟩
    · have h3 : wi.val % 2 = 1 := by
        have h' : cm .eql (bi .rem .i64 (TM (PW a (ED 254 15)) (PW (SM 2) (ED 251 31)) 0) 2) 1 = true := h2
        rw [od2] at h'
        exact of_decide_eq_true h'
      cbv
      exact ⟨⟨by decide⟩, n3 _, n2 _ _, fun i _ => (m2 i h3).trans (hr i)⟩
    · have h3 : ¬ wi.val % 2 = 1 := by
        have h' : cm .eql (bi .rem .i64 (TM (PW a (ED 254 15)) (PW (SM 2) (ED 251 31)) 0) 2) 1 = false := h2
        rw [od2] at h'
        exact of_decide_eq_false h'
      cbv
      exact fun i _ => (m4 i h3).trans (hr i)
  · have h1 : ww = q := by
      have h' := mnot_no2 (a := SA (TM (PW a (ED 254 15)) (PW a (ED 254 15))) a) h
      rw [sm] at h'
      exact of_decide_eq_true h'
    have hr := rt h1
    cbv
    refine ⟨fun h2 => ?_, fun h2 => ?_⟩
    · have h3 : w.val % 2 = 1 := by
        have h' : cm .eql (bi .rem .i64 (PW a (ED 254 15) 0) 2) 1 = true := h2
        rw [od1] at h'
        exact of_decide_eq_true h'
      cbv
      exact ⟨⟨by decide⟩, n3 _, n1 _ _, fun i _ => (m1 i h3).trans (hr i)⟩
    · have h3 : ¬ w.val % 2 = 1 := by
        have h' : cm .eql (bi .rem .i64 (PW a (ED 254 15) 0) 2) 1 = false := h2
        rw [od1] at h'
        exact of_decide_eq_false h'
      cbv
      exact fun i _ => (m3 i h3).trans (hr i)

theorem ok_qroot : Sound Tryd.prog Gqprime 60 (qlowC (fun a => nb (rootZ (nv a)))) := by
  refine sound_each (n := 40) (rs := [.cell 2 46]) (sc := sc_qroot.1) mixed Tryd.func60 rfl rfl rfl rfl sc_qroot.2 ?_
  intro vs cs r h
  unfold qlowC at h
  split at h
  · rename_i a
    cases h
    exact ⟨by simp, fun hcs hwf => ⟨_, envOK tabOK ((.cons (ok_qends) (.cons (ok_qpower) (.cons (ok_qtimes) (.cons (ok_qsame Gqprime) (.cons (ok_qsmall Gqprime) (.cons (ok_qminus) .nil))))))), rfl, walk_qroot realOps rfl a ((hcs _ (by simp) : Low a)) _ rfl _ rfl _ rfl _ rfl _ rfl _ rfl _ rfl _ rfl _ rfl _ rfl _ rfl _ rfl _ rfl _ rfl⟩⟩
  · cases h
end Go.Proofs.YtnfbjfbndnmhmaaDoor
