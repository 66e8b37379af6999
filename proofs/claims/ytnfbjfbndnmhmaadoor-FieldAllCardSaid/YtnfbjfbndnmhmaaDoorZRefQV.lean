/-
  The document's inverses.
-/
import Derived.Test.YtnfbjfbndnmhmaaDoorZRefQH
import Derived.Test.YtnfbjfbndnmhmaaDoorZRefQD
import Derived.Test.YtnfbjfbndnmhmaaDoorZRefQB
import Derived.Test.YtnfbjfbndnmhmaaDoorZNA
namespace Go.Proofs.YtnfbjfbndnmhmaaDoor
open Go Go.Proofs Sx
set_option maxRecDepth 100000
set_option maxHeartbeats 4000000
set_option linter.unusedVariables false
set_option linter.unusedSimpArgs false

def sc_qinverse : { c : SC // strip (body Tryd.f51) = c } := ⟨_, by cbv⟩
theorem walk_qinverse (A : Ops) (hA : A = realOps) (a : Nat → Int) (ha : Num16 a) (FT : (Nat → Int) → Nat → Int) (hFT : FT = fun a => nb (nv a)) (ZR : (Nat → Int) → Bool) (hZR : ZR = zero16) (PV : Nat → Int) (hPV : PV = D16 p25) (SM : Int → Nat → Int) (hSM : SM = D16) (SA : (Nat → Int) → (Nat → Int) → Bool) (hSA : SA = realEqA 16) (HF : (Nat → Int) → Nat → Int) (hHF : HF = fun a => D16 (V16 a / 2)) (HM : (Nat → Int) → Nat → Int) (hHM : HM = fun a => nb (halfZ (nv a))) (BL : (Nat → Int) → (Nat → Int) → Bool) (hBL : BL = below16) (LS : (Nat → Int) → (Nat → Int) → Nat → Int) (hLS : LS = fun a b => D16 (V16 a - V16 b)) (MN : (Nat → Int) → (Nat → Int) → Nat → Int) (hMN : MN = fun a b => nb (nv a - nv b)) (R : (Nat → Int) → Nat → Int) (hR : R = fun a => nb (zinv (nv a))) (Az : Zp) (hAz : Az = nv a) (AI : Int) (hAI : AI = (Az.val : Int)) (pc : Int) (hpc : pc = p25) (HZ : Zp → Zp) (hHZ : HZ = halfZ) (DZ : Zp → Zp → Zp) (hDZ : DZ = fun x y => x - y) (HI : Int → Int) (hHI : HI = fun u => u / 2) (DI : Int → Int → Int) (hDI : DI = fun u v => u - v) (z1 z0 : Zp) (hz1 : z1 = 1) (hz0 : z0 = 0) (DF : Int → Nat → Int) (hDF : DF = D16) (NF : Zp → Nat → Int) (hNF : NF = nb) (I : { s : Int × Int × Zp × Zp // InvS Az s.1 s.2.1 s.2.2.1 s.2.2.2 } → St) (hI : I = fun s => slots 66 [(1, .own (.arr .i64 16 a)), (2, .own (.arr .i64 16 fun _ => 0)), (3, .own (.arr .i64 16 (DF s.1.1))), (5, .own (.arr .i64 16 (DF s.1.2.1))), (6, .own (.arr .i64 16 (NF s.1.2.2.1))), (7, .own (.arr .i64 16 (NF s.1.2.2.2))), (8, .own (.arr .i64 16 (SM 1)))]) :
    Walk (mkEnv A tab.1 Gqprime [(66, qunC FT), (58, qzeroC ZR), (44, qprimeC PV), (43, qsmallC SM), (68, qsameC SA), (69, qunC HF), (70, qlowC HM), (71, qbelowC BL), (72, qlessC LS), (57, qbinC MN)] [(9, .inv { s : Int × Int × Zp × Zp // InvS Az s.1 s.2.1 s.2.2.1 s.2.2.2 } I fun s => (s.1.1 + s.1.2.1).toNat)]) sc_qinverse.1 66 [.cell 2 46] [.arr .i64 16 a] (.arr .i64 16 (R a)) := by
  obtain ⟨bi, cm, un, cv, na, eq⟩ := A
  have hbi : bi = realBin := congrArg Ops.bin hA
  have hcm : cm = realCmp := congrArg Ops.cmp hA
  have hna : na = Int.toNat := congrArg Ops.nat hA
  have hcv : cv = fun k n => k.wrap n := congrArg Ops.cnv hA
  have heq : eq = realEqA := congrArg Ops.eqA hA
  clear hA
  have n1 : ∀ u, Num16 (DF u) := by intro u; rw [hDF]; exact num16_D16 u
  have n2 : ∀ x, Num16 (NF x) := by intro x; rw [hNF]; exact num16_nb x
  have lw : ∀ x, Low (NF x) := by intro x; rw [hNF]; exact low_nb x
  have nP : ∀ i, PV i = DF pc i := by intro i; rw [hPV, hDF, hpc]
  have nFT : Num16 (FT a) := by rw [hFT]; exact num16_nb _
  have fa : ∀ i, FT a i = DF AI i := by intro i; rw [hFT, hDF, hAI, hAz]; rfl
  have zt : ZR (FT a) = true → ∀ i, FT a i = R a i := by
    intro h i
    rw [hZR, hFT] at h
    have h1 := of_decide_eq_true h
    rw [V16_nb] at h1
    have h2 : nv a = 0 := Fin.ext (by have : (nv a).val = 0 := by omega
                                      rw [this]; rfl)
    rw [hFT, hR]
    dsimp only
    rw [h2, zinv_zero (by decide)]
  have zf : ZR (FT a) = false → Az ≠ 0 := by
    intro h e
    rw [hAz] at e
    rw [hZR, hFT] at h
    have h1 := of_decide_eq_false h
    rw [V16_nb, e] at h1
    exact h1 rfl
  have s1 : ∀ i, SM 1 i = NF z1 i := by intro i; rw [hSM, hNF, hz1]; rfl
  have s0 : ∀ i, SM 0 i = NF z0 i := by intro i; rw [hSM, hNF, hz0]; rfl
  have bs : Az ≠ 0 → InvS Az AI pc z1 z0 := by intro h; rw [hAI, hpc, hz1, hz0]; exact invS_begin h
  have bd : p25 < qP := by decide
  have sa : ∀ u, 0 < u → u ≤ p25 → SA (DF u) (SM 1) = decide (u = 1) := by
    intro u h0 h1
    rw [hSA, hDF, hSM]
    exact same_D16 ⟨Int.le_of_lt h0, Int.lt_of_le_of_lt h1 bd⟩ ⟨by decide, by decide⟩
  have ev : ∀ u, 0 < u → cm .eql (bi .rem .i64 (DF u 0) 2) 0 = decide (u % 2 = 0) := by
    intro u h0
    have e : DF u 0 % 2 = u % 2 := by rw [hDF]; exact D16_low u
    have hr : 0 ≤ DF u 0 := ((n1 u).h 0 (by decide)).1
    rw [hbi, rem_i64 hr, e, hcm]
    rfl
  have hv : ∀ u, 0 < u → u ≤ p25 → ∀ i, HF (DF u) i = DF (HI u) i := by
    intro u h0 h1 i
    rw [hHF, hDF, hHI]
    dsimp only
    rw [V16_D16 (Int.le_of_lt h0) (Int.lt_of_le_of_lt h1 bd)]
  have hmv : ∀ x i, HM (NF x) i = NF (HZ x) i := by
    intro x i
    rw [hHM, hNF, hHZ]
    dsimp only
    rw [nv_nb]
  have bl : ∀ u v, 0 < u → u ≤ p25 → 0 < v → v ≤ p25 → BL (DF u) (DF v) = decide (u < v) := by
    intro u v h0 h1 h2 h3
    rw [hBL, hDF]
    unfold below16
    rw [V16_D16 (Int.le_of_lt h0) (Int.lt_of_le_of_lt h1 bd), V16_D16 (Int.le_of_lt h2) (Int.lt_of_le_of_lt h3 bd)]
  have ov : ∀ u v, 0 < u → u ≤ p25 → 0 < v → v ≤ p25 → v ≤ u → Over (DF u) (DF v) := by
    intro u v h0 h1 h2 h3 h4
    rw [hDF]
    exact ⟨by rw [V16_D16 (Int.le_of_lt h0) (Int.lt_of_le_of_lt h1 bd), V16_D16 (Int.le_of_lt h2) (Int.lt_of_le_of_lt h3 bd)]; exact h4⟩
  have lsv : ∀ u v, 0 < u → u ≤ p25 → 0 < v → v ≤ p25 → ∀ i, LS (DF u) (DF v) i = DF (DI u v) i := by
    intro u v h0 h1 h2 h3 i
    rw [hLS, hDF, hDI]
    dsimp only
    rw [V16_D16 (Int.le_of_lt h0) (Int.lt_of_le_of_lt h1 bd), V16_D16 (Int.le_of_lt h2) (Int.lt_of_le_of_lt h3 bd)]
  have mn : ∀ x y i, MN (NF x) (NF y) i = NF (DZ x y) i := by
    intro x y i
    rw [hMN, hNF, hDZ]
    dsimp only
    rw [nv_nb, nv_nb]
  have rv : ∀ x, x = zinv Az → ∀ i, NF x i = R a i := by intro x e i; rw [e, hNF, hR, hAz]
  have sU : ∀ {u v : Int} {x y : Zp}, InvS Az u v x y → u % 2 = 0 → InvS Az (HI u) v (HZ x) y ∧ (HI u + v).toNat < (u + v).toNat := by intro u v x y h e; rw [hHI, hHZ]; exact ⟨h.evenU e, by have := h.hu; have := h.hv; dsimp only; omega⟩
  have sV : ∀ {u v : Int} {x y : Zp}, InvS Az u v x y → v % 2 = 0 → InvS Az u (HI v) x (HZ y) ∧ (u + HI v).toNat < (u + v).toNat := by intro u v x y h e; rw [hHI, hHZ]; exact ⟨h.evenV e, by have := h.hu; have := h.hv; dsimp only; omega⟩
  have lV : ∀ {u v : Int} {x y : Zp}, InvS Az u v x y → u < v → InvS Az u (DI v u) x (DZ y x) ∧ (u + DI v u).toNat < (u + v).toNat := by intro u v x y h e; rw [hDI, hDZ]; exact ⟨h.lessV e, by have := h.hu; have := h.hv; dsimp only; omega⟩
  have lU : ∀ {u v : Int} {x y : Zp}, InvS Az u v x y → ¬ u < v → u ≠ 1 → InvS Az (DI u v) v (DZ x y) y ∧ (DI u v + v).toNat < (u + v).toNat := by intro u v x y h e e1; rw [hDI, hDZ]; exact ⟨h.lessU e e1, by have := h.hu; have := h.hv; dsimp only; omega⟩
  clear hHZ hDZ hHI hDI hDF hNF hPV hFT hZR hSM hSA hHF hHM hBL hLS hMN hR
  refine ⟨?_⟩
  cbv
  refine ⟨ha, nFT, fun hz => ?_, fun hz => ?_⟩
  · cbv
    exact fun i _ => zt hz i
  · have hA := zf hz
    cbv
    refine ⟨⟨by decide⟩, ⟨by decide⟩, ⟨by decide⟩, ⟨⟨(AI, pc, z1, z0), bs hA⟩, ?_⟩, fun s _ => ?_⟩
    · subst hI
      cbv
      exact ⟨fun _ _ => rfl, fun _ _ => rfl, fun i _ => fa i, fun i _ => nP i, fun i _ => s1 i, fun i _ => s0 i, fun _ _ => rfl, trivial⟩
    · subst hI
      obtain ⟨⟨u, v, x, y⟩, hs⟩ := s
      have i1 : 0 < u := hs.hu
      have i2 : 0 < v := hs.hv
      have i3 : u ≤ p25 := hs.hu2
      have i4 : v ≤ p25 := hs.hv2
      have c1 := sa u i1 i3
      have c2 := sa v i2 i4
      have c3 := ev u i1
      have c4 := ev v i2
      have c5 := bl u v i1 i3 i2 i4
      cbv
      refine ⟨fun h1 => ?_, fun h1 => ?_⟩
      · have g1 : u = 1 := by
          have h1' : SA (DF u) (SM 1) = true := h1
          rw [c1] at h1'
          exact of_decide_eq_true h1'
        have gx : x = zinv Az := by subst g1; exact hs.endU
        cbv
        exact fun i _ => rv x gx i
      · have g1 : u ≠ 1 := by
          have h1' : SA (DF u) (SM 1) = false := h1
          rw [c1] at h1'
          exact of_decide_eq_false h1'
        cbv
        refine ⟨fun h2 => ?_, fun h2 => ?_⟩
        · have g2 : v = 1 := by
            have h2' : SA (DF v) (SM 1) = true := h2
            rw [c2] at h2'
            exact of_decide_eq_true h2'
          have gy : y = zinv Az := by subst g2; exact hs.endV
          cbv
          exact fun i _ => rv y gy i
        · cbv
          refine ⟨fun h3 => ?_, fun h3 => ?_⟩
          · have g3 : u % 2 = 0 := by
              have h3' : cm .eql (bi .rem .i64 (DF u 0) 2) 0 = true := h3
              rw [c3] at h3'
              exact of_decide_eq_true h3'
            have nx := sU hs g3
            have e1 := hv u i1 i3
            have e2 := hmv x
            cbv
            refine ⟨n1 u, lw x, ⟨(HI u, v, HZ x, y), nx.1⟩, ?_, nx.2⟩
            cbv
            exact ⟨fun _ _ => rfl, fun _ _ => rfl, fun i _ => e1 i, fun _ _ => rfl, fun i _ => e2 i, fun _ _ => rfl, fun _ _ => rfl, trivial⟩
          · have g3 : u % 2 ≠ 0 := by
              have h3' : cm .eql (bi .rem .i64 (DF u 0) 2) 0 = false := h3
              rw [c3] at h3'
              exact of_decide_eq_false h3'
            cbv
            refine ⟨fun h4 => ?_, fun h4 => ?_⟩
            · have g4 : v % 2 = 0 := by
                have h4' : cm .eql (bi .rem .i64 (DF v 0) 2) 0 = true := h4
                rw [c4] at h4'
                exact of_decide_eq_true h4'
              have nx := sV hs g4
              have e1 := hv v i2 i4
              have e2 := hmv y
              cbv
              refine ⟨n1 v, lw y, ⟨(u, HI v, x, HZ y), nx.1⟩, ?_, nx.2⟩
              cbv
              exact ⟨fun _ _ => rfl, fun _ _ => rfl, fun _ _ => rfl, fun i _ => e1 i, fun _ _ => rfl, fun i _ => e2 i, fun _ _ => rfl, trivial⟩
            · cbv
              refine ⟨n1 u, n1 v, fun h5 => ?_, fun h5 => ?_⟩
              · have g5 : u < v := by
                  have h5' : BL (DF u) (DF v) = true := h5
                  rw [c5] at h5'
                  exact of_decide_eq_true h5'
                have nx := lV hs g5
                have e1 := lsv v u i2 i4 i1 i3
                have e2 := mn y x
                cbv
                refine ⟨n1 v, n1 u, ov v u i2 i4 i1 i3 (Int.le_of_lt g5), n2 y, n2 x, ⟨(u, DI v u, x, DZ y x), nx.1⟩, ?_, nx.2⟩
                cbv
                exact ⟨fun _ _ => rfl, fun _ _ => rfl, fun _ _ => rfl, fun i _ => e1 i, fun _ _ => rfl, fun i _ => e2 i, fun _ _ => rfl, trivial⟩
              · have g5 : ¬ u < v := by
                  have h5' : BL (DF u) (DF v) = false := h5
                  rw [c5] at h5'
                  exact of_decide_eq_false h5'
                have nx := lU hs g5 g1
                have e1 := lsv u v i1 i3 i2 i4
                have e2 := mn x y
                cbv
                refine ⟨n1 u, n1 v, ov u v i1 i3 i2 i4 (Int.not_lt.1 g5), n2 x, n2 y, ⟨(DI u v, v, DZ x y, y), nx.1⟩, ?_, nx.2⟩
                cbv
                exact ⟨fun _ _ => rfl, fun _ _ => rfl, fun i _ => e1 i, fun _ _ => rfl, fun i _ => e2 i, fun _ _ => rfl, fun _ _ => rfl, trivial⟩

theorem ok_qinverse : Sound Tryd.prog Gqprime 51 (qunC (fun a => nb (zinv (nv a)))) := by
  refine sound_each (n := 66) (rs := [.cell 2 46]) (sc := sc_qinverse.1) mixed Tryd.func51 rfl rfl rfl rfl sc_qinverse.2 ?_
  intro vs cs r h
  unfold qunC at h
  split at h
  · rename_i a
    cases h
    exact ⟨by simp, fun hcs hwf => ⟨_, envOK tabOK ((.cons (ok_qfit) (.cons (ok_qzero Gqprime) (.cons (ok_qprime) (.cons (ok_qsmall Gqprime) (.cons (ok_qsame Gqprime) (.cons (ok_qhalf Gqprime) (.cons (ok_qhalfmod) (.cons (ok_qbelow Gqprime) (.cons (ok_qless Gqprime) (.cons (ok_qminus) .nil))))))))))), rfl, walk_qinverse realOps rfl a ((hcs _ (by simp) : Num16 a)) _ rfl _ rfl _ rfl _ rfl _ rfl _ rfl _ rfl _ rfl _ rfl _ rfl _ rfl _ rfl _ rfl _ rfl _ rfl _ rfl _ rfl _ rfl _ _ rfl rfl _ rfl _ rfl _ rfl⟩⟩
  · cases h
end Go.Proofs.YtnfbjfbndnmhmaaDoor
