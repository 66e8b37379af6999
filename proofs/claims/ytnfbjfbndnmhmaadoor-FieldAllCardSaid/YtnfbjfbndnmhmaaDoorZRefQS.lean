/-
  The document's symbol.
-/
import Derived.Test.YtnfbjfbndnmhmaaDoorZRefQH
import Derived.Test.YtnfbjfbndnmhmaaDoorZRefQD
import Derived.Test.YtnfbjfbndnmhmaaDoorZRefQB
import Derived.Test.YtnfbjfbndnmhmaaDoorZNA
namespace Go.Proofs.YtnfbjfbndnmhmaaDoor
open Go Go.Proofs Sx
set_option maxRecDepth 100000
set_option maxHeartbeats 4000000
set_option linter.unusedVariables false
set_option linter.unusedSimpArgs false

def sc_qsymbol : { c : SC // strip (body Tryd.f59) = c } := ⟨_, by cbv⟩
theorem walk_qsymbol (A : Ops) (hA : A = realOps) (a : Nat → Int) (ha : Num16 a) (FT : (Nat → Int) → Nat → Int) (hFT : FT = fun a => nb (nv a)) (ZR : (Nat → Int) → Bool) (hZR : ZR = zero16) (PV : Nat → Int) (hPV : PV = D16 p25) (SM : Int → Nat → Int) (hSM : SM = D16) (SA : (Nat → Int) → (Nat → Int) → Bool) (hSA : SA = realEqA 16) (HF : (Nat → Int) → Nat → Int) (hHF : HF = fun a => D16 (V16 a / 2)) (BL : (Nat → Int) → (Nat → Int) → Bool) (hBL : BL = below16) (LS : (Nat → Int) → (Nat → Int) → Nat → Int) (hLS : LS = fun a b => D16 (V16 a - V16 b)) (R : (Nat → Int) → Int) (hR : R = fun a => legZ (nv a)) (Az : Zp) (hAz : Az = nv a) (AN : Nat) (hAN : AN = Az.val) (pc : Nat) (hpc : pc = pN) (HN : Nat → Nat) (hHN : HN = fun x => x / 2) (SN : Nat → Nat → Nat) (hSN : SN = fun x n => x - n) (DF : Nat → Nat → Int) (hDF : DF = DN) (BD : (Nat → Int) → (Nat → Int) → Nat → Nat → Nat → Int) (hBD : BD = BDN) (I : { s : Nat × Nat × Int // SymS Az s.1 s.2.1 s.2.2 } → St) (hI : I = fun s => slots 60 [(1, .own (.arr .i64 16 a)), (3, .own (.arr .i64 16 (DF s.1.1))), (4, .own (.arr .i64 16 (DF s.1.2.1))), (5, .int .i64 (.sym s.1.2.2))]) (J : St → { s : Nat × Nat × Int // SymS Az s.1 s.2.1 s.2.2 ∧ 0 < s.1 } → St) (hJ : J = fun S s => slots 60 [(1, .own (.arr .i64 16 a)), (3, .own (.arr .i64 16 (BD (arrAt S 3) (arrAt S 4) s.1.1 s.1.2.1))), (4, .own (.arr .i64 16 (DF s.1.2.1))), (5, .int .i64 (.sym s.1.2.2))]) :
    Walk (mkEnv A tab.1 Gqprime [(66, qunC FT), (58, qzeroC ZR), (44, qprimeC PV), (43, qsmallC SM), (68, qsameC SA), (69, qunC HF), (71, qbelowC BL), (72, qlessC LS)] [(4, .inv { s : Nat × Nat × Int // SymS Az s.1 s.2.1 s.2.2 } I fun s => s.1.1 + s.1.2.1), (6, .invd { s : Nat × Nat × Int // SymS Az s.1 s.2.1 s.2.2 ∧ 0 < s.1 } J fun s => s.1.1)]) sc_qsymbol.1 60 [.tmp 2] [.arr .i64 16 a] (.int .i64 (.sym (R a))) := by
  obtain ⟨bi, cm, un, cv, na, eq⟩ := A
  have hbi : bi = realBin := congrArg Ops.bin hA
  have hcm : cm = realCmp := congrArg Ops.cmp hA
  have hna : na = Int.toNat := congrArg Ops.nat hA
  have hcv : cv = fun k n => k.wrap n := congrArg Ops.cnv hA
  have heq : eq = realEqA := congrArg Ops.eqA hA
  have hun : un = realUn := congrArg Ops.un hA
  clear hA
  have n1 : ∀ x, Num16 (DF x) := by intro x; rw [hDF]; exact num16_DN x
  have nFT : Num16 (FT a) := by rw [hFT]; exact num16_nb _
  have fa : ∀ i, FT a i = DF AN i := by intro i; rw [hFT, hDF, hAN, hAz]; rfl
  have nP : ∀ i, PV i = DF pc i := by intro i; rw [hPV, hDF, hpc]; rfl
  have bs : SymS Az AN pc 1 := by rw [hAN, hpc]; exact symS_begin Az
  have zr : ∀ x, x ≤ pN → ZR (DF x) = decide (x = 0) := by intro x h; rw [hZR, hDF]; exact dn_zero h
  have hv : ∀ x, x ≤ pN → ∀ i, HF (DF x) i = DF (HN x) i := by intro x h i; rw [hHF, hDF, hHN]; exact congrFun (dn_half h) i
  have bl : ∀ x n, x ≤ pN → n ≤ pN → BL (DF x) (DF n) = decide (x < n) := by intro x n h h1; rw [hBL, hDF]; exact dn_below h h1
  have lsv : ∀ x n, x ≤ pN → n ≤ pN → n ≤ x → ∀ i, LS (DF x) (DF n) i = DF (SN x n) i := by intro x n h h1 h2 i; rw [hLS, hDF, hSN]; exact congrFun (dn_less h h1 h2) i
  have ov : ∀ x n, x ≤ pN → n ≤ pN → n ≤ x → Over (DF x) (DF n) := by intro x n h h1 h2; rw [hDF]; exact dn_over h h1 h2
  have sa : ∀ n, n ≤ pN → SA (DF n) (SM 1) = decide (n = 1) := by intro n h; rw [hSA, hDF, hSM]; exact dn_same h
  have rm : ∀ x (m : Int), m = 2 ∨ m = 4 ∨ m = 8 → bi .rem .i64 (DF x 0) m = (x : Int) % m := by
    intro x m hm
    have e : DF x 0 = ((x % 65536 : Nat) : Int) := by rw [hDF]; exact dn_low x
    rw [hbi, e, rem_i64 (by omega)]
    rcases hm with rfl | rfl | rfl <;> omega
  have r2 : ∀ x, cm .eql (bi .rem .i64 (DF x 0) 2) 0 = decide (x % 2 = 0) := by
    intro x
    rw [rm x 2 (.inl rfl), hcm]
    show ((x : Int) % 2 == 0) = _
    rw [Bool.eq_iff_iff]
    simp only [beq_iff_eq, decide_eq_true_eq]
    omega
  have r4 : ∀ x, cm .eql (bi .rem .i64 (DF x 0) 4) 3 = decide (x % 4 = 3) := by
    intro x
    rw [rm x 4 (.inr (.inl rfl)), hcm]
    show ((x : Int) % 4 == 3) = _
    rw [Bool.eq_iff_iff]
    simp only [beq_iff_eq, decide_eq_true_eq]
    omega
  have r8 : ∀ x, (match cm .eql (bi .rem .i64 (DF x 0) 8) 3 with | true => true | false => cm .eql (bi .rem .i64 (DF x 0) 8) 5) = decide (x % 8 = 3 ∨ x % 8 = 5) := by
    intro x
    rw [rm x 8 (.inr (.inr rfl)), hcm]
    show (match ((x : Int) % 8 == 3) with | true => true | false => ((x : Int) % 8 == 5)) = _
    by_cases h3 : (x : Int) % 8 = 3
    · rw [beq_iff_eq.2 h3]
      exact (decide_eq_true (.inl (by omega))).symm
    · rw [beq_eq_false_iff_ne.2 h3]
      dsimp only
      rw [Bool.eq_iff_iff]
      simp only [beq_iff_eq, decide_eq_true_eq]
      omega
  have ng : ∀ s, s = 1 ∨ s = -1 → un .neg .i64 s = -s := by intro s h; rw [hun]; exact neg_unit h
  have bg : ∀ x0 n0 x n, x0 ≤ pN → n0 ≤ pN → x + n ≤ x0 + n0 → BD (DF x0) (DF n0) x n = DF x := by intro x0 n0 x n h h1 h2; rw [hBD, hDF]; exact bdn_good h h1 h2
  have bb : ∀ x0 n0 x n, x0 ≤ pN → n0 ≤ pN → (∀ i, i < 16 → inR .i64 (BD (DF x0) (DF n0) x n i)) → x + n ≤ x0 + n0 := by intro x0 n0 x n h h1 h2; rw [hBD, hDF] at h2; exact bdn_bad h h1 h2
  have en : ∀ n s, SymS Az 0 n s → (n = 1 → s = R a) ∧ (n ≠ 1 → 0 = R a) := by intro n s h; rw [hR]; dsimp only; rw [← hAz]; exact h.ends
  have sE : ∀ {x n : Nat} {s : Int}, SymS Az x n s → 0 < x → x % 2 = 0 → SymS Az (HN x) n (flipIf (decide (n % 8 = 3 ∨ n % 8 = 5)) s) ∧ 0 < HN x ∧ HN x < x := by intro x n s h h0 he; rw [hHN]; exact ⟨h.even h0 he, by dsimp only; omega, by dsimp only; omega⟩
  have sS : ∀ {x n : Nat} {s : Int}, SymS Az x n s → 0 < x → x % 2 = 1 → x < n → SymS Az (SN n x) x (flipIf (decide (n % 4 = 3 ∧ x % 4 = 3)) s) ∧ SN n x + x = n := by intro x n s h h0 ho hl; rw [hSN]; exact ⟨(h.swap h0 ho).less (by omega) (by omega), by dsimp only; omega⟩
  have sL : ∀ {x n : Nat} {s : Int}, SymS Az x n s → 0 < x → ¬ x < n → SymS Az (SN x n) n s ∧ SN x n + n = x := by intro x n s h h0 hl; rw [hSN]; exact ⟨h.less h0 (by omega), by dsimp only; omega⟩
  clear hDF hBD hPV hFT hZR hSM hSA hHF hBL hLS hR hHN hSN hpc hAN
  refine ⟨?_⟩
  cbv
  refine ⟨ha, ⟨⟨(AN, pc, 1), bs⟩, ?_⟩, fun t _ => ?_⟩
  · subst hI
    cbv
    exact ⟨fun _ _ => rfl, fun i _ => fa i, fun i _ => nP i, trivial⟩
  · subst hI
    obtain ⟨⟨x0, n0, s0⟩, hs0⟩ := t
    have j1 : x0 ≤ pN := hs0.hx
    have j2 : n0 ≤ pN := hs0.hn
    have j3 : n0 % 2 = 1 := hs0.odd
    have j4 : s0 = 1 ∨ s0 = -1 := hs0.sg
    have hs0' : SymS Az x0 n0 s0 := hs0
    have z0 := zr x0 j1
    cbv
    refine ⟨n1 x0, fun hz => ?_, fun hz => ?_⟩
    · have gz : x0 = 0 := by
        have hz' : ZR (DF x0) = true := hz
        rw [z0] at hz'
        exact of_decide_eq_true hz'
      have gs : SymS Az 0 n0 s0 := by rw [← gz]; exact hs0'
      have ge := en n0 s0 gs
      have gn := sa n0 j2
      cbv
      refine ⟨⟨by decide⟩, fun h1 => ?_, fun h1 => ?_⟩
      · have h1' : SA (DF n0) (SM 1) = false := mnot_yes2 (a := SA (DF n0) (SM 1)) h1
        rw [gn] at h1'
        cbv
        exact ge.2 (of_decide_eq_false h1')
      · have h1' : SA (DF n0) (SM 1) = true := mnot_no2 (a := SA (DF n0) (SM 1)) h1
        rw [gn] at h1'
        cbv
        exact ge.1 (of_decide_eq_true h1')
    · have gz : 0 < x0 := by
        have hz' : ZR (DF x0) = false := hz
        rw [z0] at hz'
        have := of_decide_eq_false hz'
        omega
      have b0 := bg x0 n0 x0 n0 j1 j2 (Nat.le_refl _)
      cbv
      refine ⟨⟨⟨(x0, n0, s0), hs0', gz⟩, ?_⟩, fun q hwf => ?_⟩
      · subst hJ
        cbv
        exact ⟨fun _ _ => rfl, fun i _ => (congrFun b0 i).symm, fun _ _ => rfl, trivial⟩
      · subst hJ
        obtain ⟨⟨x, n, s⟩, hs, hx⟩ := q
        have k0 : 0 < x := hx
        have k1 : x ≤ pN := hs.hx
        have k2 : n ≤ pN := hs.hn
        have k3 : n % 2 = 1 := hs.odd
        have k4 : s = 1 ∨ s = -1 := hs.sg
        have hs' : SymS Az x n s := hs
        have hb : x + n ≤ x0 + n0 := bb x0 n0 x n j1 j2 hwf.2.2.2.1
        clear hwf
        have e0 := bg x0 n0 x n j1 j2 hb
        have c2 := r2 x
        have c8 := r8 n
        have cb := bl x n k1 k2
        rw [← e0] at c2 cb
        cbv
        refine ⟨fun h1 => ?_, fun h1 => ?_⟩
        · have g1 : x % 2 = 0 := by
            have h1' : cm .eql (bi .rem .i64 (BD (DF x0) (DF n0) x n 0) 2) 0 = true := h1
            rw [c2] at h1'
            exact of_decide_eq_true h1'
          have nx := sE hs' k0 g1
          have e1 := bg x0 n0 (HN x) n j1 j2 (by omega)
          have e2 : ∀ i, HF (BD (DF x0) (DF n0) x n) i = BD (DF x0) (DF n0) (HN x) n i := by intro i; rw [e0, e1]; exact hv x k1 i
          have nF : Num16 (BD (DF x0) (DF n0) x n) := by rw [e0]; exact n1 x
          cbv
          refine ⟨nF, fun h2 => ?_, fun h2 => ?_⟩
          · have h2' : decide (n % 8 = 3 ∨ n % 8 = 5) = true := c8.symm.trans h2
            have hn' : SymS Az (HN x) n (un .neg .i64 s) := by
              have h3 := nx.1
              rw [h2'] at h3
              rw [ng s k4]
              exact h3
            cbv
            refine ⟨⟨(HN x, n, un .neg .i64 s), hn', nx.2.1⟩, ?_, nx.2.2⟩
            cbv
            exact ⟨fun _ _ => rfl, fun i _ => e2 i, fun _ _ => rfl, trivial⟩
          · have h2' : decide (n % 8 = 3 ∨ n % 8 = 5) = false := c8.symm.trans h2
            have hn' : SymS Az (HN x) n s := by
              have h3 := nx.1
              rw [h2'] at h3
              exact h3
            cbv
            refine ⟨⟨(HN x, n, s), hn', nx.2.1⟩, ?_, nx.2.2⟩
            cbv
            exact ⟨fun _ _ => rfl, fun i _ => e2 i, fun _ _ => rfl, trivial⟩
        · have g1 : x % 2 = 1 := by
            have h1' : cm .eql (bi .rem .i64 (BD (DF x0) (DF n0) x n 0) 2) 0 = false := h1
            rw [c2] at h1'
            have := of_decide_eq_false h1'
            omega
          have nF : Num16 (BD (DF x0) (DF n0) x n) := by rw [e0]; exact n1 x
          cbv
          refine ⟨nF, n1 n, fun h2 => ?_, fun h2 => ?_⟩
          · have g2 : x < n := by
              have h2' : BL (BD (DF x0) (DF n0) x n) (DF n) = true := h2
              rw [cb] at h2'
              exact of_decide_eq_true h2'
            have nx := sS hs' k0 g1 g2
            have e2 : ∀ i, LS (DF n) (BD (DF x0) (DF n0) x n) i = DF (SN n x) i := by intro i; rw [e0]; exact lsv n x k2 k1 (by omega) i
            have e3 : ∀ i, (BD (DF x0) (DF n0) x n) i = DF x i := by intro i; rw [e0]
            have ov1 : Over (DF n) (BD (DF x0) (DF n0) x n) := by rw [e0]; exact ov n x k2 k1 (by omega)
            have d4 := r4 n
            have d5 := r4 x
            rw [← e0] at d5
            have dm : SN n x + x < x0 + n0 := by omega
            cbv
            refine ⟨fun h3 => ?_, fun h3 => ?_⟩
            · have h3' : (n % 4 = 3 ∧ x % 4 = 3) := by
                have h4 : (match cm .eql (bi .rem .i64 (DF n 0) 4) 3 with | true => cm .eql (bi .rem .i64 (BD (DF x0) (DF n0) x n 0) 4) 3 | false => false) = true := h3
                rw [d4, d5] at h4
                by_cases q : n % 4 = 3
                · rw [decide_eq_true q] at h4
                  exact ⟨q, of_decide_eq_true h4⟩
                · rw [decide_eq_false q] at h4
                  cases h4
              have hn' : SymS Az (SN n x) x (un .neg .i64 s) := by
                have h4 := nx.1
                rw [decide_eq_true h3'] at h4
                rw [ng s k4]
                exact h4
              cbv
              refine ⟨n1 n, nF, ov1, ⟨(SN n x, x, un .neg .i64 s), hn'⟩, ?_, dm⟩
              cbv
              exact ⟨fun _ _ => rfl, fun i _ => e2 i, fun i _ => e3 i, trivial⟩
            · have h3' : ¬ (n % 4 = 3 ∧ x % 4 = 3) := by
                have h4 : (match cm .eql (bi .rem .i64 (DF n 0) 4) 3 with | true => cm .eql (bi .rem .i64 (BD (DF x0) (DF n0) x n 0) 4) 3 | false => false) = false := h3
                rw [d4, d5] at h4
                rintro ⟨q1, q2⟩
                rw [decide_eq_true q1, decide_eq_true q2] at h4
                cases h4
              have hn' : SymS Az (SN n x) x s := by
                have h4 := nx.1
                rw [decide_eq_false h3'] at h4
                exact h4
              cbv
              refine ⟨n1 n, nF, ov1, ⟨(SN n x, x, s), hn'⟩, ?_, dm⟩
              cbv
              exact ⟨fun _ _ => rfl, fun i _ => e2 i, fun i _ => e3 i, trivial⟩
          · have g2 : ¬ x < n := by
              have h2' : BL (BD (DF x0) (DF n0) x n) (DF n) = false := h2
              rw [cb] at h2'
              exact of_decide_eq_false h2'
            have nx := sL hs' k0 g2
            have e2 : ∀ i, LS (BD (DF x0) (DF n0) x n) (DF n) i = DF (SN x n) i := by intro i; rw [e0]; exact lsv x n k1 k2 (by omega) i
            have ov1 : Over (BD (DF x0) (DF n0) x n) (DF n) := by rw [e0]; exact ov x n k1 k2 (by omega)
            have dm : SN x n + n < x0 + n0 := by omega
            cbv
            refine ⟨nF, n1 n, ov1, ⟨(SN x n, n, s), nx.1⟩, ?_, dm⟩
            cbv
            exact ⟨fun _ _ => rfl, fun i _ => e2 i, fun _ _ => rfl, trivial⟩

theorem ok_qsymbol : Sound Tryd.prog Gqprime 59 (qsymC (fun a => legZ (nv a))) := by
  refine sound_each (n := 60) (rs := [.tmp 2]) (sc := sc_qsymbol.1) mixed Tryd.func59 rfl rfl rfl rfl sc_qsymbol.2 ?_
  intro vs cs r h
  unfold qsymC at h
  split at h
  · rename_i a
    cases h
    exact ⟨by simp, fun hcs hwf => ⟨_, envOK tabOK ((.cons (ok_qfit) (.cons (ok_qzero Gqprime) (.cons (ok_qprime) (.cons (ok_qsmall Gqprime) (.cons (ok_qsame Gqprime) (.cons (ok_qhalf Gqprime) (.cons (ok_qbelow Gqprime) (.cons (ok_qless Gqprime) .nil))))))))), rfl, walk_qsymbol realOps rfl a ((hcs _ (by simp) : Num16 a)) _ rfl _ rfl _ rfl _ rfl _ rfl _ rfl _ rfl _ rfl _ rfl _ rfl _ rfl _ rfl _ rfl _ rfl _ rfl _ rfl _ rfl _ rfl⟩⟩
  · cases h
end Go.Proofs.YtnfbjfbndnmhmaaDoor
