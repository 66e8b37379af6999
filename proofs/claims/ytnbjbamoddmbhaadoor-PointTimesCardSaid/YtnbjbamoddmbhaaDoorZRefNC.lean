/-
  The document's numbers of layer 4: small ones, the least, equality, bits.
-/
import Derived.Test.YtnbjbamoddmbhaaDoorZRefNB
import Derived.Test.YtnbjbamoddmbhaaDoorZMB
import Derived.Test.YtnbjbamoddmbhaaDoorZMA
namespace Go.Proofs.YtnbjbamoddmbhaaDoor
open Go Go.Proofs Sx
set_option maxRecDepth 100000
set_option maxHeartbeats 4000000
set_option linter.unusedVariables false
set_option linter.unusedSimpArgs false

def sc_nsmall : { c : SC // strip (body Tryd.f60) = c } := ⟨_, by cbv⟩
theorem walk_nsmall (A : Ops) (hA : A = realOps) (x : Int) (hx : Dig1 x) (R : Int → Nat → Int) (hR : R = D17)  :
    Walk (mkEnv A tab.1 G4 [] []) sc_nsmall.1 7 [.cell 2 77] [.int .i64 (.sym x)] (.arr .i64 17 (R x)) := by
  refine ⟨?_⟩
  cbv
  subst hR
  exact fun i _ => small_17 hx.h i
theorem ok_nsmall : Sound Tryd.prog G4 60 (nSmallC D17) := by
  refine sound_sym (n := 7) (rs := [.cell 2 77]) (sc := sc_nsmall.1) mixed Tryd.func60 rfl rfl rfl rfl sc_nsmall.2 ?_
  intro vs cs r h
  unfold nSmallC at h
  split at h
  · rename_i x
    cases h
    exact ⟨by simp, fun hcs hwf => ⟨_, envOK tabOK ( .nil), rfl, walk_nsmall realOps rfl x.val ((hcs _ (by simp) : Dig1 x.val)) _ rfl ⟩⟩
  · cases h
def sc_nbig : { c : SC // strip (body Tryd.f93) = c } := ⟨_, by cbv⟩
theorem walk_nbig (A : Ops) (hA : A = realOps) (x : Int) (hx : Dig2 x) (SM : Int → Nat → Int) (hSM : SM = D17) (R : Int → Nat → Int) (hR : R = D17)  :
    Walk (mkEnv A tab.1 G4 [(60, nSmallC SM)] []) sc_nbig.1 11 [.cell 2 77] [.int .i64 (.sym x)] (.arr .i64 17 (R x)) := by
  obtain ⟨bi, cm, un, cv, na, eq⟩ := A
  have hbi : bi = realBin := congrArg Ops.bin hA
  have hcm : cm = realCmp := congrArg Ops.cmp hA
  have hna : na = Int.toNat := congrArg Ops.nat hA
  have hcv : cv = fun k n => k.wrap n := congrArg Ops.cnv hA
  have heq : eq = realEqA := congrArg Ops.eqA hA
  clear hA
  have h0 := hx.h
  have e1 : bi .rem .i64 x 32768 = x % 32768 := by rw [hbi]; exact rem_i64 (by omega)
  have e2 : bi .quo .i64 x 32768 = x / 32768 := by rw [hbi]; exact quo_i64 (by omega) (by decide)
  have d1 : Dig1 (bi .rem .i64 x 32768) := ⟨by rw [e1]; omega⟩
  have en : ∀ i, upd (SM (bi .rem .i64 x 32768)) 1 (bi .quo .i64 x 32768) i = R x i := by intro i; rw [e1, e2, hSM, hR]; exact big_17 h0
  clear hSM hR
  refine ⟨?_⟩
  cbv
  exact ⟨d1, fun i _ => en i⟩

theorem ok_nbig : Sound Tryd.prog G4 93 (nBigC D17) := by
  refine sound_sym (n := 11) (rs := [.cell 2 77]) (sc := sc_nbig.1) mixed Tryd.func93 rfl rfl rfl rfl sc_nbig.2 ?_
  intro vs cs r h
  unfold nBigC at h
  split at h
  · rename_i x
    cases h
    exact ⟨by simp, fun hcs hwf => ⟨_, envOK tabOK ((.cons (ok_nsmall) .nil)), rfl, walk_nbig realOps rfl x.val ((hcs _ (by simp) : Dig2 x.val)) _ rfl _ rfl ⟩⟩
  · cases h
def sc_nleast : { c : SC // strip (body Tryd.f73) = c } := ⟨_, by cbv⟩
theorem walk_nleast (A : Ops) (hA : A = realOps) (a : Nat → Int) (ha : Num17 a) (SM : Int → Nat → Int) (hSM : SM = D17) (R : (Nat → Int) → Nat → Int) (hR : R = fun a => rb (rz a)) (TP : Nat → Bool) (hTP : TP = topQ a) (I : { k : Nat // k ≤ 16 } → St) (hI : I = fun k => slots 25 [(1, .own (.arr .i64 17 a)), (2, .own (.arr .i64 17 fun _ => 0)), (3, .bool (.sym (TP k.1))), (4, .int .i64 (.sym ((k.1 + 1 : Nat) : Int)))]) :
    Walk (mkEnv A tab.1 G4 [(60, nSmallC SM)] [(3, .inv { k : Nat // k ≤ 16 } I fun k => 16 - k.1)]) sc_nleast.1 25 [.cell 2 77] [.arr .i64 17 a] (.arr .i64 17 (R a)) := by
  obtain ⟨bi, cm, un, cv, na, eq⟩ := A
  have hbi : bi = realBin := congrArg Ops.bin hA
  have hcm : cm = realCmp := congrArg Ops.cmp hA
  have hna : na = Int.toNat := congrArg Ops.nat hA
  have hcv : cv = fun k n => k.wrap n := congrArg Ops.cnv hA
  have heq : eq = realEqA := congrArg Ops.eqA hA
  clear hA
  have t0 : cm .geq (a 0) 32749 = TP 0 := by rw [hcm, hTP]; rfl
  have ts : ∀ k, TP (k + 1) = (match TP k with | true => cm .eql (a (k + 1)) 32767 | false => false) := by
    intro k
    have e : cm .eql (a (k + 1)) 32767 = decide (a (k + 1) = 32767) := by
      rw [hcm]
      show (a (k + 1) == 32767) = _
      rw [Bool.eq_iff_iff]
      simp
    rw [e, hTP]
    show (topQ a k && decide (a (k + 1) = 32767)) = _
    cases topQ a k <;> rfl
  have d0 := ha.h 0 (by decide)
  simp only [b15] at d0
  have sb : bi .sub .i64 (a 0) 32749 = a 0 - 32749 := by rw [hbi]; exact sub_i64 (by omega)
  have lt : TP 16 = true → Dig1 (bi .sub .i64 (a 0) 32749) ∧ ∀ i, SM (bi .sub .i64 (a 0) 32749) i = R a i := by
    intro h
    rw [hTP] at h
    have h1 := least_top ha h
    rw [sb, hSM, hR]
    exact ⟨⟨h1.1⟩, h1.2⟩
  have lf : TP 16 = false → ∀ i, i < 17 → a i = R a i := by
    intro h
    rw [hTP] at h
    rw [hR]
    exact least_low ha h
  clear hTP hSM hR
  refine ⟨?_⟩
  cbv
  refine ⟨⟨⟨0, by decide⟩, ?_⟩, fun k _ => ?_⟩
  · subst hI
    cbv
    exact ⟨fun _ _ => rfl, fun _ _ => rfl, t0, rfl, trivial⟩
  · subst hI
    obtain ⟨k, hk⟩ := k
    cbv
    refine ⟨fun h => ?_, fun h => ?_⟩
    · have hlt : k < 16 := by
        have h' : cm .lss (Int.ofNat (k + 1)) 17 = true := h
        rw [hcm] at h'
        have := of_decide_eq_true h'
        simp only [Int.ofNat_eq_natCast] at this
        omega
      have qk : na (Int.ofNat (k + 1)) = k + 1 := by rw [hna]; rfl
      have pk : bi .add .i64 (Int.ofNat (k + 1)) 1 = Int.ofNat (k + 1 + 1) := by rw [hbi, add_i64 (by simp only [Int.ofNat_eq_natCast]; omega)]; rfl
      have wk : Within (Int.ofNat (k + 1)) 17 := ⟨by constructor <;> simp only [Int.ofNat_eq_natCast] <;> omega⟩
      have fk : FitsIn (na (Int.ofNat (k + 1))) 1 17 := ⟨by rw [qk]; omega⟩
      have es := ts k
      rw [← qk] at es
      cbv
      refine ⟨fun _ => wk, fun _ => fk, ⟨k + 1, by omega⟩, ?_, by show 16 - (k + 1) < 16 - k; omega⟩
      cbv
      refine ⟨fun _ _ => rfl, fun _ _ => rfl, ?_, pk, trivial⟩
      show (match TP k with | true => cm .eql (a (na (Int.ofNat (k + 1)))) 32767 | false => false) = TP (k + 1)
      rw [ts k, qk]
    · have hN : k = 16 := by
        have h' : cm .lss (Int.ofNat (k + 1)) 17 = false := h
        rw [hcm] at h'
        have := of_decide_eq_false h'
        simp only [Int.ofNat_eq_natCast] at this
        omega
      subst hN
      cbv
      refine ⟨fun h => ?_, fun h => ?_⟩
      · have hl := lt h
        cbv
        exact ⟨hl.1, fun i _ => hl.2 i⟩
      · have hl := lf h
        cbv
        exact hl

theorem ok_nleast : Sound Tryd.prog G4 73 (nUnC (fun a => rb (rz a))) := by
  refine sound_each (n := 25) (rs := [.cell 2 77]) (sc := sc_nleast.1) mixed Tryd.func73 rfl rfl rfl rfl sc_nleast.2 ?_
  intro vs cs r h
  unfold nUnC at h
  split at h
  · rename_i a
    cases h
    exact ⟨by simp, fun hcs hwf => ⟨_, envOK tabOK ((.cons (ok_nsmall) .nil)), rfl, walk_nleast realOps rfl a ((hcs _ (by simp) : Num17 a)) _ rfl _ rfl _ rfl _ rfl⟩⟩
  · cases h
def sc_nequal : { c : SC // strip (body Tryd.f62) = c } := ⟨_, by cbv⟩
theorem walk_nequal (A : Ops) (hA : A = realOps) (a : Nat → Int) (b : Nat → Int) (ha : Num17 a) (hb : Num17 b) (LE : (Nat → Int) → Nat → Int) (hLE : LE = fun a => rb (rz a)) (R : (Nat → Int) → (Nat → Int) → Bool) (hR : R = fun a b => decide (rz a = rz b))  :
    Walk (mkEnv A tab.1 G4 [(73, nUnC LE)] []) sc_nequal.1 10 [.tmp 4] [.arr .i64 17 a, .arr .i64 17 b] (.bool (.sym (R a b))) := by
  obtain ⟨bi, cm, un, cv, na, eq⟩ := A
  have hbi : bi = realBin := congrArg Ops.bin hA
  have hcm : cm = realCmp := congrArg Ops.cmp hA
  have hna : na = Int.toNat := congrArg Ops.nat hA
  have hcv : cv = fun k n => k.wrap n := congrArg Ops.cnv hA
  have heq : eq = realEqA := congrArg Ops.eqA hA
  clear hA
  have en : eq 17 (LE a) (LE b) = R a b := by rw [heq, hLE, hR]; exact rb_same _ _
  clear hLE hR
  refine ⟨?_⟩
  cbv
  exact ⟨ha, hb, en⟩

theorem ok_nequal : Sound Tryd.prog G4 62 (nEqC (fun a b => decide (rz a = rz b))) := by
  refine sound_each (n := 10) (rs := [.tmp 4]) (sc := sc_nequal.1) mixed Tryd.func62 rfl rfl rfl rfl sc_nequal.2 ?_
  intro vs cs r h
  unfold nEqC at h
  split at h
  · rename_i a b
    cases h
    exact ⟨by simp, fun hcs hwf => ⟨_, envOK tabOK ((.cons (ok_nleast) .nil)), rfl, walk_nequal realOps rfl a b ((hcs _ (by simp) : Num17 a)) ((hcs _ (by simp) : Num17 b)) _ rfl _ rfl ⟩⟩
  · cases h
end Go.Proofs.YtnbjbamoddmbhaaDoor
