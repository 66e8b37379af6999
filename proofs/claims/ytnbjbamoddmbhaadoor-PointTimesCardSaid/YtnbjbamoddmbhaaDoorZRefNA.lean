/-
  The document's numbers of layer 4: settling, sums, differences.
-/
import Derived.Test.YtnbjbamoddmbhaaDoorZBase
import Derived.Test.YtnbjbamoddmbhaaDoorZMA
import Derived.Test.YtnbjbamoddmbhaaDoorZEB
namespace Go.Proofs.YtnbjbamoddmbhaaDoor
open Go Go.Proofs Sx
set_option maxRecDepth 100000
set_option maxHeartbeats 4000000
set_option linter.unusedVariables false
set_option linter.unusedSimpArgs false

abbrev G4 : Nat → AV := lookGL []
def sc_nsettled : { c : SC // strip (body Tryd.f94) = c } := ⟨_, by cbv⟩
theorem walk_nsettled (A : Ops) (hA : A = realOps) (a : Nat → Int) (ha : Mild17 a) (R : (Nat → Int) → Nat → Int) (hR : R = setF) (PA : (Nat → Int) → Nat → Nat → Int) (hPA : PA = passA) (PC : (Nat → Int) → Nat → Int) (hPC : PC = passC) (PE : (Nat → Int) → Nat → Int) (hPE : PE = passE) (QB : (Nat → Int) → Bool) (hQB : QB = fun g => decide (V17 g / q255 ≠ 0)) (DG : (Nat → Int) → Nat → Int) (hDG : DG = fun g i => dgt b15 (V17 g) i) (I : { s : Nat × (Nat → Int) × Bool // SetS a s.1 s.2.1 s.2.2 } → St) (hI : I = fun s => slots 38 [(1, .own (.arr .i64 17 s.1.2.1)), (2, .own (.arr .i64 17 fun _ => 0)), (3, .bool (.sym s.1.2.2))]) (J : St → { i : Nat // i ≤ 17 } → St) (hJ : J = fun S i => slots 38 [(1, .own (.arr .i64 17 (PA (arrIn S 1) i.1))), (2, .own (.arr .i64 17 fun _ => 0)), (4, .int .i64 (.sym (PC (arrIn S 1) i.1))), (5, .int .i64 (.sym (i.1 : Int)))]) :
    Walk (mkEnv A tab.1 G4 [] [(2, .inv { s : Nat × (Nat → Int) × Bool // SetS a s.1 s.2.1 s.2.2 } I fun s => 3 - s.1.1), (5, .invd { i : Nat // i ≤ 17 } J fun i => 17 - i.1)]) sc_nsettled.1 38 [.cell 2 77] [.arr .i64 17 a] (.arr .i64 17 (R a)) := by
  obtain ⟨bi, cm, un, cv, na, eq⟩ := A
  have hbi : bi = realBin := congrArg Ops.bin hA
  have hcm : cm = realCmp := congrArg Ops.cmp hA
  have hna : na = Int.toNat := congrArg Ops.nat hA
  have hcv : cv = fun k n => k.wrap n := congrArg Ops.cnv hA
  have heq : eq = realEqA := congrArg Ops.eqA hA
  clear hA
  have st := set_begin ha
  have a0 : ∀ g j, g j = PA g 0 j := by intro g j; rw [hPA]; exact passA_zero g j
  have c0 : ∀ g, 0 = PC g 0 := by intro g; rw [hPC]; exact passC_zero g
  have cr : ∀ g, Mild17 g → ∀ i, i ≤ 17 → -68719476736 ≤ PC g i ∧ PC g i ≤ 68719476736 := by intro g hg i hi; rw [hPC]; exact car_range hg i hi
  have at_ : ∀ g i, PA g i i = g i := by intro g i; rw [hPA]; exact passA_at g i
  have up : ∀ g i j, (if j = i then DG g i else PA g i j) = PA g (i + 1) j := by intro g i j; rw [hPA, hDG]; exact passA_upd g i j
  have sp : ∀ g i, i < 17 → (g i + PC g i) % 32768 = DG g i ∧ (g i + PC g i) / 32768 = PC g (i + 1) := by intro g i hi; rw [hPC, hDG]; exact pass_step hi
  have pe : ∀ g, Mild17 g → ∀ j, (if j = 0 then bi .add .i64 (PA g 17 0) (bi .mul .i64 19 (PC g 17)) else PA g 17 j) = PE g j := by
    intro g hg j
    have hc := cr g hg 17 (Nat.le_refl _)
    have hd : 0 ≤ PA g 17 0 ∧ PA g 17 0 < 32768 := by
      rw [hPA]
      unfold passA
      rw [if_pos (by decide)]
      exact D17_range (V17 g) 0
    have e1 : PC g 17 = V17 g / q255 := by rw [hPC]; exact top_car g
    rw [hbi, mul_i64 (by omega), add_i64 (by omega), e1, hPE, hPA]
    rfl
  have qb : ∀ g, cm .neq (PC g 17) 0 = QB g := by
    intro g
    have e1 : PC g 17 = V17 g / q255 := by rw [hPC]; exact top_car g
    rw [e1, hcm, hQB]
    show (V17 g / q255 != 0) = decide (V17 g / q255 ≠ 0)
    rw [Bool.eq_iff_iff]
    simp
  have ss : ∀ g k, SetS a k g true → SetS a (k + 1) (PE g) (QB g) ∧ k ≤ 2 := by intro g k h; rw [hPE, hQB]; exact set_step ha h
  have en : ∀ g k, SetS a k g false → ∀ j, j < 17 → g j = R a j := by intro g k h; rw [hR]; exact h.f rfl
  clear hPA hPC hPE hQB hDG hR
  refine ⟨?_⟩
  cbv
  refine ⟨⟨⟨(0, a, true), st⟩, ?_⟩, fun s _ => ?_⟩
  · subst hI
    cbv
    exact ⟨fun _ _ => rfl, fun _ _ => rfl, trivial⟩
  · subst hI
    obtain ⟨⟨k, g, b⟩, hs⟩ := s
    have hs' : SetS a k g b := hs
    have hm : Mild17 g := hs'.m
    cbv
    refine ⟨fun hb => ?_, fun hb => ?_⟩
    · have hst := ss g k (by rw [show b = true from hb] at hs'; exact hs')
      cbv
      refine ⟨⟨⟨0, by decide⟩, ?_⟩, fun i hwf => ?_⟩
      · subst hJ
        cbv
        exact ⟨fun j _ => a0 g j, fun _ _ => rfl, c0 g, rfl, trivial⟩
      · subst hJ
        clear hwf
        obtain ⟨i, hi⟩ := i
        cbv
        refine ⟨fun h => ?_, fun h => ?_⟩
        · have hlt : i < 17 := by
            have h' : cm .lss (Int.ofNat i) 17 = true := h
            rw [hcm] at h'
            have := of_decide_eq_true h'
            simp only [Int.ofNat_eq_natCast] at this
            omega
          have qi : na (Int.ofNat i) = i := by rw [hna]; rfl
          have pi : bi .add .i64 (Int.ofNat i) 1 = Int.ofNat (i + 1) := by rw [hbi, add_i64 (by simp only [Int.ofNat_eq_natCast]; omega)]; rfl
          have wi : Within (Int.ofNat i) 17 := ⟨by constructor <;> simp only [Int.ofNat_eq_natCast] <;> omega⟩
          have fi : FitsIn (na (Int.ofNat i)) 1 17 := ⟨by rw [qi]; omega⟩
          have hg := hm.h i hlt
          have hc := cr g hm i hi
          have v : bi .add .i64 (PA g i (na (Int.ofNat i))) (PC g i) = g i + PC g i := by rw [qi, at_, hbi, add_i64 (by omega)]
          have lo : bi .rem .i64 (bi .add .i64 (bi .rem .i64 (bi .add .i64 (PA g i (na (Int.ofNat i))) (PC g i)) 32768) 32768) 32768 = DG g i := by
            rw [v, hbi, low_go (by omega)]
            exact (sp g i hlt).1
          have ca : bi .quo .i64 (bi .sub .i64 (bi .add .i64 (PA g i (na (Int.ofNat i))) (PC g i)) (bi .rem .i64 (bi .add .i64 (bi .rem .i64 (bi .add .i64 (PA g i (na (Int.ofNat i))) (PC g i)) 32768) 32768) 32768)) 32768 = PC g (i + 1) := by
            rw [lo, v, ← (sp g i hlt).1, hbi, car_go (by omega)]
            exact (sp g i hlt).2
          cbv
          refine ⟨wi, fi, wi, fi, ⟨i + 1, by omega⟩, ?_, by show 17 - (i + 1) < 17 - i; omega⟩
          cbv
          refine ⟨fun j _ => ?_, fun _ _ => rfl, ca, pi, trivial⟩
          show (if j = na (Int.ofNat i) then bi .rem .i64 (bi .add .i64 (bi .rem .i64 (bi .add .i64 (PA g i (na (Int.ofNat i))) (PC g i)) 32768) 32768) 32768 else PA g i j) = PA g (i + 1) j
          rw [lo, qi]
          exact up g i j
        · have hN : i = 17 := by
            have h' : cm .lss (Int.ofNat i) 17 = false := h
            rw [hcm] at h'
            have := of_decide_eq_false h'
            simp only [Int.ofNat_eq_natCast] at this
            omega
          subst hN
          cbv
          refine ⟨⟨(k + 1, PE g, QB g), hst.1⟩, ?_, by show 3 - (k + 1) < 3 - k; omega⟩
          cbv
          exact ⟨fun j _ => pe g hm j, fun _ _ => rfl, qb g, trivial⟩
    · have hen := en g k (by rw [show b = false from hb] at hs'; exact hs')
      cbv
      exact hen

theorem ok_nsettled : Sound Tryd.prog G4 94 (nSetC setF) := by
  refine sound_each (n := 38) (rs := [.cell 2 77]) (sc := sc_nsettled.1) mixed Tryd.func94 rfl rfl rfl rfl sc_nsettled.2 ?_
  intro vs cs r h
  unfold nSetC at h
  split at h
  · rename_i a
    cases h
    exact ⟨by simp, fun hcs hwf => ⟨_, envOK tabOK ( .nil), rfl, walk_nsettled realOps rfl a ((hcs _ (by simp) : Mild17 a)) _ rfl _ rfl _ rfl _ rfl _ rfl _ rfl _ rfl _ rfl⟩⟩
  · cases h
def sc_nplus : { c : SC // strip (body Tryd.f69) = c } := ⟨_, by cbv⟩
theorem walk_nplus (A : Ops) (hA : A = realOps) (a : Nat → Int) (b : Nat → Int) (ha : Num17 a) (hb : Num17 b) (SE : (Nat → Int) → Nat → Int) (hSE : SE = setF) (R : (Nat → Int) → (Nat → Int) → Nat → Int) (hR : R = fun a b => setF fun i => a i + b i) (AF : Nat → Nat → Int) (hAF : AF = fun i j => if j < i then a j + b j else a j) (I : { i : Nat // i ≤ 17 } → St) (hI : I = fun i => slots 21 [(2, .own (.arr .i64 17 (AF i.1))), (3, .own (.arr .i64 17 b)), (4, .own (.arr .i64 17 fun _ => 0)), (5, .int .i64 (.sym (i.1 : Int)))]) :
    Walk (mkEnv A tab.1 G4 [(94, nSetC SE)] [(2, .inv { i : Nat // i ≤ 17 } I fun i => 17 - i.1)]) sc_nplus.1 21 [.cell 4 77] [.arr .i64 17 a, .arr .i64 17 b] (.arr .i64 17 (R a b)) := by
  obtain ⟨bi, cm, un, cv, na, eq⟩ := A
  have hbi : bi = realBin := congrArg Ops.bin hA
  have hcm : cm = realCmp := congrArg Ops.cmp hA
  have hna : na = Int.toNat := congrArg Ops.nat hA
  have hcv : cv = fun k n => k.wrap n := congrArg Ops.cnv hA
  have heq : eq = realEqA := congrArg Ops.eqA hA
  clear hA
  have a0 : ∀ j, a j = AF 0 j := by intro j; rw [hAF]; exact (if_neg (Nat.not_lt_zero j)).symm
  have at_ : ∀ i, AF i i = a i := by intro i; rw [hAF]; exact if_neg (Nat.lt_irrefl i)
  have up : ∀ i j, (if j = i then a i + b i else AF i j) = AF (i + 1) j := by
    intro i j
    rw [hAF]
    dsimp only
    by_cases h : j = i
    · subst h; rw [if_pos rfl, if_pos (by omega)]
    · rw [if_neg h]
      by_cases h2 : j < i
      · rw [if_pos h2, if_pos (by omega)]
      · rw [if_neg h2, if_neg (by omega)]
  have ml : Mild17 (AF 17) := by
    rw [hAF]
    refine ⟨fun i hi => ?_⟩
    have h1 := ha.h i hi
    have h2 := hb.h i hi
    simp only [b15] at h1 h2
    dsimp only
    rw [if_pos hi]
    omega
  have en : ∀ j, SE (AF 17) j = R a b j := by
    intro j
    rw [hSE, hR, hAF]
    unfold setF
    rw [V17_congr (g := fun i => a i + b i) fun i hi => if_pos hi]
  clear hAF hSE hR
  refine ⟨?_⟩
  cbv
  refine ⟨⟨⟨0, by decide⟩, ?_⟩, fun i _ => ?_⟩
  · subst hI
    cbv
    exact ⟨fun j _ => a0 j, fun _ _ => rfl, fun _ _ => rfl, rfl, trivial⟩
  · subst hI
    obtain ⟨i, hi⟩ := i
    cbv
    refine ⟨fun h => ?_, fun h => ?_⟩
    · have hlt : i < 17 := by
        have h' : cm .lss (Int.ofNat i) 17 = true := h
        rw [hcm] at h'
        have := of_decide_eq_true h'
        simp only [Int.ofNat_eq_natCast] at this
        omega
      have qi : na (Int.ofNat i) = i := by rw [hna]; rfl
      have pi : bi .add .i64 (Int.ofNat i) 1 = Int.ofNat (i + 1) := by rw [hbi, add_i64 (by simp only [Int.ofNat_eq_natCast]; omega)]; rfl
      have wi : Within (Int.ofNat i) 17 := ⟨by constructor <;> simp only [Int.ofNat_eq_natCast] <;> omega⟩
      have fi : FitsIn (na (Int.ofNat i)) 1 17 := ⟨by rw [qi]; omega⟩
      have h1 := ha.h i hlt
      have h2 := hb.h i hlt
      simp only [b15] at h1 h2
      have v : bi .add .i64 (AF i (na (Int.ofNat i))) (b (na (Int.ofNat i))) = a i + b i := by rw [qi, at_, hbi, add_i64 (by omega)]
      cbv
      refine ⟨wi, fi, wi, fi, wi, fi, ⟨i + 1, by omega⟩, ?_, by show 17 - (i + 1) < 17 - i; omega⟩
      cbv
      refine ⟨fun j _ => ?_, fun _ _ => rfl, fun _ _ => rfl, pi, trivial⟩
      show (if j = na (Int.ofNat i) then bi .add .i64 (AF i (na (Int.ofNat i))) (b (na (Int.ofNat i))) else AF i j) = AF (i + 1) j
      rw [v, qi]
      exact up i j
    · have hN : i = 17 := by
        have h' : cm .lss (Int.ofNat i) 17 = false := h
        rw [hcm] at h'
        have := of_decide_eq_false h'
        simp only [Int.ofNat_eq_natCast] at this
        omega
      subst hN
      cbv
      exact ⟨ml, fun j _ => en j⟩

theorem ok_nplus : Sound Tryd.prog G4 69 (nBinC (fun a b => setF fun i => a i + b i)) := by
  refine sound_each (n := 21) (rs := [.cell 4 77]) (sc := sc_nplus.1) mixed Tryd.func69 rfl rfl rfl rfl sc_nplus.2 ?_
  intro vs cs r h
  unfold nBinC at h
  split at h
  · rename_i a b
    cases h
    exact ⟨by simp, fun hcs hwf => ⟨_, envOK tabOK ((.cons (ok_nsettled) .nil)), rfl, walk_nplus realOps rfl a b ((hcs _ (by simp) : Num17 a)) ((hcs _ (by simp) : Num17 b)) _ rfl _ rfl _ rfl _ rfl⟩⟩
  · cases h
def sc_nminus : { c : SC // strip (body Tryd.f71) = c } := ⟨_, by cbv⟩
theorem walk_nminus (A : Ops) (hA : A = realOps) (a : Nat → Int) (b : Nat → Int) (ha : Num17 a) (hb : Num17 b) (SE : (Nat → Int) → Nat → Int) (hSE : SE = setF) (R : (Nat → Int) → (Nat → Int) → Nat → Int) (hR : R = fun a b => setF fun i => a i - b i) (AF : Nat → Nat → Int) (hAF : AF = fun i j => if j < i then a j - b j else a j) (I : { i : Nat // i ≤ 17 } → St) (hI : I = fun i => slots 21 [(2, .own (.arr .i64 17 (AF i.1))), (3, .own (.arr .i64 17 b)), (4, .own (.arr .i64 17 fun _ => 0)), (5, .int .i64 (.sym (i.1 : Int)))]) :
    Walk (mkEnv A tab.1 G4 [(94, nSetC SE)] [(2, .inv { i : Nat // i ≤ 17 } I fun i => 17 - i.1)]) sc_nminus.1 21 [.cell 4 77] [.arr .i64 17 a, .arr .i64 17 b] (.arr .i64 17 (R a b)) := by
  obtain ⟨bi, cm, un, cv, na, eq⟩ := A
  have hbi : bi = realBin := congrArg Ops.bin hA
  have hcm : cm = realCmp := congrArg Ops.cmp hA
  have hna : na = Int.toNat := congrArg Ops.nat hA
  have hcv : cv = fun k n => k.wrap n := congrArg Ops.cnv hA
  have heq : eq = realEqA := congrArg Ops.eqA hA
  clear hA
  have a0 : ∀ j, a j = AF 0 j := by intro j; rw [hAF]; exact (if_neg (Nat.not_lt_zero j)).symm
  have at_ : ∀ i, AF i i = a i := by intro i; rw [hAF]; exact if_neg (Nat.lt_irrefl i)
  have up : ∀ i j, (if j = i then a i - b i else AF i j) = AF (i + 1) j := by
    intro i j
    rw [hAF]
    dsimp only
    by_cases h : j = i
    · subst h; rw [if_pos rfl, if_pos (by omega)]
    · rw [if_neg h]
      by_cases h2 : j < i
      · rw [if_pos h2, if_pos (by omega)]
      · rw [if_neg h2, if_neg (by omega)]
  have ml : Mild17 (AF 17) := by
    rw [hAF]
    refine ⟨fun i hi => ?_⟩
    have h1 := ha.h i hi
    have h2 := hb.h i hi
    simp only [b15] at h1 h2
    dsimp only
    rw [if_pos hi]
    omega
  have en : ∀ j, SE (AF 17) j = R a b j := by
    intro j
    rw [hSE, hR, hAF]
    unfold setF
    rw [V17_congr (g := fun i => a i - b i) fun i hi => if_pos hi]
  clear hAF hSE hR
  refine ⟨?_⟩
  cbv
  refine ⟨⟨⟨0, by decide⟩, ?_⟩, fun i _ => ?_⟩
  · subst hI
    cbv
    exact ⟨fun j _ => a0 j, fun _ _ => rfl, fun _ _ => rfl, rfl, trivial⟩
  · subst hI
    obtain ⟨i, hi⟩ := i
    cbv
    refine ⟨fun h => ?_, fun h => ?_⟩
    · have hlt : i < 17 := by
        have h' : cm .lss (Int.ofNat i) 17 = true := h
        rw [hcm] at h'
        have := of_decide_eq_true h'
        simp only [Int.ofNat_eq_natCast] at this
        omega
      have qi : na (Int.ofNat i) = i := by rw [hna]; rfl
      have pi : bi .add .i64 (Int.ofNat i) 1 = Int.ofNat (i + 1) := by rw [hbi, add_i64 (by simp only [Int.ofNat_eq_natCast]; omega)]; rfl
      have wi : Within (Int.ofNat i) 17 := ⟨by constructor <;> simp only [Int.ofNat_eq_natCast] <;> omega⟩
      have fi : FitsIn (na (Int.ofNat i)) 1 17 := ⟨by rw [qi]; omega⟩
      have h1 := ha.h i hlt
      have h2 := hb.h i hlt
      simp only [b15] at h1 h2
      have v : bi .sub .i64 (AF i (na (Int.ofNat i))) (b (na (Int.ofNat i))) = a i - b i := by rw [qi, at_, hbi, sub_i64 (by omega)]
      cbv
      refine ⟨wi, fi, wi, fi, wi, fi, ⟨i + 1, by omega⟩, ?_, by show 17 - (i + 1) < 17 - i; omega⟩
      cbv
      refine ⟨fun j _ => ?_, fun _ _ => rfl, fun _ _ => rfl, pi, trivial⟩
      show (if j = na (Int.ofNat i) then bi .sub .i64 (AF i (na (Int.ofNat i))) (b (na (Int.ofNat i))) else AF i j) = AF (i + 1) j
      rw [v, qi]
      exact up i j
    · have hN : i = 17 := by
        have h' : cm .lss (Int.ofNat i) 17 = false := h
        rw [hcm] at h'
        have := of_decide_eq_false h'
        simp only [Int.ofNat_eq_natCast] at this
        omega
      subst hN
      cbv
      exact ⟨ml, fun j _ => en j⟩

theorem ok_nminus : Sound Tryd.prog G4 71 (nBinC (fun a b => setF fun i => a i - b i)) := by
  refine sound_each (n := 21) (rs := [.cell 4 77]) (sc := sc_nminus.1) mixed Tryd.func71 rfl rfl rfl rfl sc_nminus.2 ?_
  intro vs cs r h
  unfold nBinC at h
  split at h
  · rename_i a b
    cases h
    exact ⟨by simp, fun hcs hwf => ⟨_, envOK tabOK ((.cons (ok_nsettled) .nil)), rfl, walk_nminus realOps rfl a b ((hcs _ (by simp) : Num17 a)) ((hcs _ (by simp) : Num17 b)) _ rfl _ rfl _ rfl _ rfl⟩⟩
  · cases h
end Go.Proofs.YtnbjbamoddmbhaaDoor
