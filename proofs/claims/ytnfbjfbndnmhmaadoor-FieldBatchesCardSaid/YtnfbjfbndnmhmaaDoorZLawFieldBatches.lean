/-
  FieldBatches holds for every input: the walk.
-/
import Derived.Test.YtnfbjfbndnmhmaaDoorZFieldK
import Derived.Test.YtnfbjfbndnmhmaaDoorZFieldM
namespace Go.Proofs.YtnfbjfbndnmhmaaDoor
open Go Go.Proofs Sx
set_option maxRecDepth 100000
set_option maxHeartbeats 4000000
set_option linter.unusedVariables false
set_option linter.unusedSimpArgs false

def gl_batches : GL := [v_two]
abbrev G_batches : Nat → AV := lookGL gl_batches
def sc_law_batches : { c : SC // strip (body Tryd.f10) = c } := ⟨_, by cbv⟩
theorem walk_law_batches (A : Ops) (hA : A = realOps) (len : Nat) (cap : Nat) (f : Nat → Int) (hf : RowsB f len) (hl : Few len) (NU : Int → Nat → Int) (hNU : NU = fun x => fb (zi pN x)) (DV : (Nat → Int) → Nat → Int) (hDV : DV = invsF) (IV : (Nat → Int) → Nat → Int) (hIV : IV = fun f => fb (zinv (fe f))) (MU : (Nat → Int) → (Nat → Int) → Nat → Int) (hMU : MU = fun f g => fb (fe f * fe g)) (RD : (Nat → Int) → Nat → Int) (hRD : RD = fun f => fb (fe f)) (PR : Nat → Int) (hPR : PR = byt p25) (LT : (Nat → Int) → (Nat → Int) → Bool) (hLT : LT = ltB) (I : { i : Nat // i ≤ len } → St) (hI : I = fun i => slots 75 [(0, .xsl .u8 32 (.sym len) (.sym cap) f), (3, .own (.arr .u8 32 (NU 0))), (4, .own (.arr .u8 32 (NU 1))), (5, .osl .u8 32 (.sym len) (DV f)), (6, .int .i64 (.sym (Int.ofNat i.1)))]) :
    Walk (mkEnv A tab.1 G_batches [(26, numberC NU), (34, batchC DV), (16, un32C IV), (18, bin32C MU), (29, un32C RD), (28, primeC PR), (27, bool232C LT)] [(9, .inv { i : Nat // i ≤ len } I fun i => len - i.1)]) sc_law_batches.1 75 [.tmp 2] [.xsl .u8 32 (.sym len) (.sym cap) f] (.bool (.sym true)) := by
  obtain ⟨bi, cm, un, cv, na, eq⟩ := A
  have hbi : bi = realBin := congrArg Ops.bin hA
  have hcm : cm = realCmp := congrArg Ops.cmp hA
  have hna : na = Int.toNat := congrArg Ops.nat hA
  have hcv : cv = fun k n => k.wrap n := congrArg Ops.cnv hA
  have heq : eq = realEqA := congrArg Ops.eqA hA
  clear hA
  have k1 : eq 32 (IV (NU 1)) (NU 1) = true := by
    try rw [heq]
    subst hNU hDV hIV hMU hRD hPR hLT
    try dsimp only at *
    try simp only [fe_fb, zi_zero, zi_one, zi_two]
    exact fb_same (by exact zinv_one)
  have qd : ∀ i, i < len → eq 32 (RD fun j => f (32 * i + j)) (NU 0) = true → eq 32 (fun j => DV f (32 * i + j)) (NU 0) = true := by
    intro i hi h
    rw [heq] at *
    subst hNU hDV hIV hMU hRD hPR hLT
    exact rows_zero hf hi h
  have qm : ∀ i, i < len → eq 32 (RD fun j => f (32 * i + j)) (NU 0) = false → eq 32 (MU (fun j => f (32 * i + j)) fun j => DV f (32 * i + j)) (NU 1) = true := by
    intro i hi h
    rw [heq] at *
    subst hNU hDV hIV hMU hRD hPR hLT
    exact rows_one hf hi h
  have ql : ∀ i, i < len → LT (fun j => DV f (32 * i + j)) PR = true := by
    intro i hi
    subst hNU hDV hIV hMU hRD hPR hLT
    exact rows_less f i
  have hlen := hl.h
  have nl : na (Int.ofNat len) = len := by rw [hna]; rfl
  clear hNU hDV hIV hMU hRD hPR hLT
  refine ⟨?_⟩
  cbv
  have hgt : cm .gtr (Int.ofNat len) 256 = false := by
    rw [hcm]
    refine decide_eq_false ?_
    have := hl.h
    simp only [Int.ofNat_eq_natCast]
    omega
  have hnq : ∀ x, cm .neq x x = false := by intro x; rw [hcm]; show (x != x) = false; simp
  refine ⟨⟨Nat.le_refl _⟩, hl, ?_⟩
  refine dead1 (fun h => b_ft2 hgt h) (fun _ => ?_)
  cbv
  refine dead1 (by (try dsimp only [SI.val, SO.val]); simp [hnq, k1]) (fun _ => ?_)
  cbv
  refine ⟨⟨⟨0, by omega⟩, ?_⟩, fun i _ => ?_⟩
  · subst hI
    cbv
    have e0 : (fun j => f ((SO.lit 0).val + j)) = f := by funext j; exact congrArg f (Nat.zero_add j)
    refine ⟨fun _ _ => rfl, fun _ _ => rfl, fun _ _ => rfl, fun j _ => ?_, rfl, trivial⟩
    exact congrFun (congrArg DV e0) j
  · subst hI
    cbv
    obtain ⟨i, hi⟩ := i
    refine ⟨fun h => ?_, fun h => ?_⟩
    · cbv
      have hlt : i < len := by
        rw [hcm] at h
        exact Int.ofNat_lt.1 (of_decide_eq_true h)
      have qi : na (Int.ofNat i) = i := by rw [hna]; rfl
      have m32 : (Classical.choice seal_mul).1 (na (Int.ofNat i)) 32 = 32 * i := by rw [choice_mul, qi]; omega
      have w0 : Within (Int.ofNat i) len := ⟨by simp only [Int.ofNat_eq_natCast]; omega⟩
      have g32 : FitsMul ((Classical.choice seal_mul).1 (na (Int.ofNat i)) 32) 32 len 32 := ⟨by rw [m32]; omega⟩
      have e4 : bi .add .i64 (Int.ofNat i) 1 = Int.ofNat (i + 1) := by rw [hbi, add_i64 (by simp only [Int.ofNat_eq_natCast]; omega)]; rfl
      have z0 : eq 32 (RD fun j => f ((Classical.choice seal_mul).1 (na (Int.ofNat i)) 32 + j)) (NU 0) = true → eq 32 (fun j => DV f ((Classical.choice seal_mul).1 (na (Int.ofNat i)) 32 + j)) (NU 0) = true := by rw [m32]; exact qd i hlt
      have z1 : eq 32 (RD fun j => f ((Classical.choice seal_mul).1 (na (Int.ofNat i)) 32 + j)) (NU 0) = false → eq 32 (MU (fun j => f ((Classical.choice seal_mul).1 (na (Int.ofNat i)) 32 + j)) fun j => DV f ((Classical.choice seal_mul).1 (na (Int.ofNat i)) 32 + j)) (NU 1) = true := by rw [m32]; exact qm i hlt
      have z2 : LT (fun j => DV f ((Classical.choice seal_mul).1 (na (Int.ofNat i)) 32 + j)) PR = true := by rw [m32]; exact ql i hlt
      refine ⟨w0, g32, w0, g32, w0, g32, fun h2 => ?_, fun h2 => ?_⟩
      · have z := z0 h2
        cbv
        refine ⟨w0, g32, ?_⟩
        refine dead1 (fun h => nb_t h z) (fun _ => ?_)
        cbv
        refine ⟨⟨i + 1, by omega⟩, ?_, by show len - (i + 1) < len - i; omega⟩
        cbv
        exact ⟨fun _ _ => rfl, fun _ _ => rfl, fun _ _ => rfl, fun _ _ => rfl, e4, trivial⟩
      · have z := z1 h2
        cbv
        refine ⟨fun _ => w0, fun _ => g32, ?_⟩
        refine dead1 (fun h => orb_dead h z z2) (fun _ => ?_)
        cbv
        refine ⟨⟨i + 1, by omega⟩, ?_, by show len - (i + 1) < len - i; omega⟩
        cbv
        exact ⟨fun _ _ => rfl, fun _ _ => rfl, fun _ _ => rfl, fun _ _ => rfl, e4, trivial⟩
    · cbv

theorem walk_law_batchesx (A : Ops) (hA : A = realOps) (len : Nat) (cap : Nat) (f : Nat → Int) (hl : Many len) (NU : Int → Nat → Int) (hNU : NU = fun x => fb (zi pN x)) (IV : (Nat → Int) → Nat → Int) (hIV : IV = fun f => fb (zinv (fe f))) (MU : (Nat → Int) → (Nat → Int) → Nat → Int) (hMU : MU = fun f g => fb (fe f * fe g)) (RD : (Nat → Int) → Nat → Int) (hRD : RD = fun f => fb (fe f)) (PR : Nat → Int) (hPR : PR = byt p25) (LT : (Nat → Int) → (Nat → Int) → Bool) (hLT : LT = ltB)  :
    Walk (mkEnv A tab.1 G_batches [(26, numberC NU), (34, batchX), (16, un32C IV), (18, bin32C MU), (29, un32C RD), (28, primeC PR), (27, bool232C LT)] []) sc_law_batches.1 75 [.tmp 2] [.xsl .u8 32 (.sym len) (.sym cap) f] (.bool (.sym true)) := by
  obtain ⟨bi, cm, un, cv, na, eq⟩ := A
  have hbi : bi = realBin := congrArg Ops.bin hA
  have hcm : cm = realCmp := congrArg Ops.cmp hA
  have hna : na = Int.toNat := congrArg Ops.nat hA
  have hcv : cv = fun k n => k.wrap n := congrArg Ops.cnv hA
  have heq : eq = realEqA := congrArg Ops.eqA hA
  clear hA
  have k1 : eq 32 (IV (NU 1)) (NU 1) = true := by
    try rw [heq]
    subst hNU hIV hMU hRD hPR hLT
    try dsimp only at *
    try simp only [fe_fb, zi_zero, zi_one, zi_two]
    exact fb_same (by exact zinv_one)
  clear hNU hIV hMU hRD hPR hLT
  refine ⟨?_⟩
  cbv
  have hgt : cm .gtr (Int.ofNat len) 256 = true := by
    rw [hcm]
    refine decide_eq_true ?_
    have := hl.h
    simp only [Int.ofNat_eq_natCast]
    omega
  refine ⟨⟨Nat.le_refl _⟩, hl, ?_⟩
  refine dead2 (fun h => b_tf2 hgt h) (fun _ => ?_)
  cbv
  try dsimp only [SI.val, SO.val]
  simp [k1]

theorem ok_law_batches : Sound Tryd.prog G_batches 10 (lawRows) := by
  refine sound_each (n := 75) (rs := [.tmp 2]) (sc := sc_law_batches.1) mixed Tryd.func10 rfl rfl rfl rfl sc_law_batches.2 ?_
  intro vs cs r h
  unfold lawRows at h
  split at h
  · rename_i len cap f
    cases h
    refine ⟨by simp, fun hcs hwf => ?_⟩
    by_cases hN : len ≤ 256
    · exact ⟨_, envOK tabOK ((.cons (ok_numberZ G_batches) (.cons (ok_batch.sub two_sub) (.cons (ok_invertF.sub (sub_of (by decide))) (.cons (ok_mulZ G_batches) (.cons (ok_reduceZ G_batches) (.cons (ok_prime G_batches) (.cons (ok_lless G_batches) .nil)))))))), rfl, walk_law_batches realOps rfl len cap f ((show RowsB f len from hwf (.xsl .u8 32 (.sym len) (.sym cap) f) (by simp))) (⟨hN⟩) _ rfl _ rfl _ rfl _ rfl _ rfl _ rfl _ rfl _ rfl⟩
    · exact ⟨_, envOK tabOK ((.cons (ok_numberZ G_batches) (.cons (ok_batchx.sub (sub_of (by decide))) (.cons (ok_invertF.sub (sub_of (by decide))) (.cons (ok_mulZ G_batches) (.cons (ok_reduceZ G_batches) (.cons (ok_prime G_batches) (.cons (ok_lless G_batches) .nil)))))))), rfl, walk_law_batchesx realOps rfl len cap f (⟨Nat.lt_of_not_le hN⟩) _ rfl _ rfl _ rfl _ rfl _ rfl _ rfl ⟩
  · cases h
end Go.Proofs.YtnfbjfbndnmhmaaDoor
