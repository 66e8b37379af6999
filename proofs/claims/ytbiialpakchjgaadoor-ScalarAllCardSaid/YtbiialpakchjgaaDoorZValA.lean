/-
  The value of digits, as package scalar finds it.
-/
import Derived.Test.YtbiialpakchjgaaDoorZScalB
import Derived.Test.YtbiialpakchjgaaDoorZMA
import Derived.Test.YtbiialpakchjgaaDoorZEB
namespace Go.Proofs.YtbiialpakchjgaaDoor
open Go Go.Proofs Sx
set_option maxRecDepth 100000
set_option maxHeartbeats 4000000
set_option linter.unusedVariables false
set_option linter.unusedSimpArgs false

def gMult (f : Nat → Int) : Nat → AV := fun g => if g = 2 then .arr .u64 85 f else .junk
def sc_svalue : { c : SC // strip (body Tryd.f39) = c } := ⟨_, by cbv⟩
theorem walk_svalue (A : Ops) (hA : A = realOps) (n : Nat) (ca : SO) (d : Nat → Int) (hd : IsDigs n d) (P : (Nat → Int) → (Nat → Int) → Nat → Int) (hP : P = plusW) (M : (Nat → Int) → (Nat → Int) → Nat → Int) (hM : M = minusW) (FO : (Nat → Int) → Nat → Int) (hFO : FO = foldW) (BY : (Nat → Int) → Nat → Int) (hBY : BY = bytesW) (B : (Nat → Int) → (Nat → Int) → Bool) (hB : B = ltW) (VA : Nat → (Nat → Int) → Nat → Int) (hVA : VA = valA) (VE : Nat → Int) (hVE : VE = valErr 2) (Y : Nat → Nat → Int) (hY : Y = valW n d) (I : { i : Nat // i ≤ n } → St) (hI : I = fun i => slots 54 [(0, .xsl .i8 1 (.sym n) ca d), (2, .own (.arr .u8 32 fun _ => 0)), (4, .own (.arr .u64 5 (Y i.1))), (12, .int .i64 (.sym (n : Int))), (13, .int .i64 (.sym (i.1 : Int)))]) :
    Walk (mkEnv A tab.1 Gmul [(27, lim2C P), (30, lMinusC M B), (28, foldC FO), (24, bytesC BY)] [(5, .inv { i : Nat // i ≤ n } I fun i => n - i.1)]) sc_svalue.1 54 [.cell 2 24, .tmp 3] [.xsl .i8 1 (.sym n) ca d] (.tup [.arr .u8 32 (VA n d), .int .i64 (.sym (VE n))]) := by
  obtain ⟨bi, cm, un, cv, na, eq⟩ := A
  have hbi : bi = realBin := congrArg Ops.bin hA
  have hcm : cm = realCmp := congrArg Ops.cmp hA
  have hna : na = Int.toNat := congrArg Ops.nat hA
  have hcv : cv = fun k n => k.wrap n := congrArg Ops.cnv hA
  have heq : eq = realEqA := congrArg Ops.eqA hA
  have hun : un = realUn := congrArg Ops.un hA
  clear hA
  refine ⟨?_⟩
  cbv
  refine ⟨fun h => ?_, fun h => ?_⟩
  · cbv
    have hn : ¬ n ≤ 300 := by rw [hcm] at h; have hh := gtrT h; simp only [Int.ofNat_eq_natCast] at hh; omega
    refine ⟨fun k _ => ?_, ?_, trivial⟩
    · rw [hVA, valA, if_neg hn]
    · show 2 = VE n
      rw [hVE, valErr, if_neg hn]
  · cbv
    have hn : n ≤ 300 := by rw [hcm] at h; have hh := gtrF h; simp only [Int.ofNat_eq_natCast] at hh; omega
    clear h
    refine ⟨⟨⟨0, Nat.zero_le _⟩, ?_⟩, fun i _ => ?_⟩
    · subst hI
      cbv
      refine ⟨fun _ _ => rfl, fun _ _ => rfl, fun k _ => ?_, rfl, trivial⟩
      show 0 = Y 0 k
      rw [hY]
      show 0 = (valV n d 0 % lI) / q64 ^ k % q64
      rw [valV_zero]
      simp
    · subst hI
      obtain ⟨i, hi⟩ := i
      cbv
      refine ⟨fun h => ?_, fun h => ?_⟩
      · cbv
        have hlti : i < n := by rw [hcm] at h; have hh := lssT h; simp only [Int.ofNat_eq_natCast] at hh; omega
        have q4 : bi .add .i64 (Int.ofNat i) 1 = Int.ofNat (i + 1) := by rw [hbi, add_i64 (by simp only [Int.ofNat_eq_natCast]; omega)]; rfl
        have x0 : bi .sub .i64 (Int.ofNat n) 1 = Int.ofNat (n - 1) := by rw [hbi, sub_i64 (by simp only [Int.ofNat_eq_natCast]; omega)]; simp only [Int.ofNat_eq_natCast]; omega
        have x1 : bi .sub .i64 (bi .sub .i64 (Int.ofNat n) 1) (Int.ofNat i) = Int.ofNat (n - 1 - i) := by rw [x0, hbi, sub_i64 (by simp only [Int.ofNat_eq_natCast]; omega)]; simp only [Int.ofNat_eq_natCast]; omega
        have x2 : na (bi .sub .i64 (bi .sub .i64 (Int.ofNat n) 1) (Int.ofNat i)) = n - 1 - i := by rw [x1, hna]; rfl
        have hdi := hd (n - 1 - i) (by omega)
        have e0 : cv .i64 (d (na (bi .sub .i64 (bi .sub .i64 (Int.ofNat n) 1) (Int.ofNat i)))) = d (n - 1 - i) := by rw [x2, hcv]; exact wrap_i64 (by omega)
        have hdbl := val_dbl n d i
        have t1 : Top16 (P (Y i) (Y i)) := by rw [hP, hY]; exact hdbl.1
        have w1 : W5 (FO (P (Y i) (Y i))) = (2 * valV n d i) % lI := by rw [hFO, hP, hY]; exact hdbl.2
        refine ⟨t1, ⟨by rw [x1]; simp only [Int.ofNat_eq_natCast]; omega⟩, ⟨by rw [x2]; omega⟩, fun g => ?_, fun g => ?_⟩
        · cbv
          have hneg : d (n - 1 - i) < 0 := by rw [hcm] at g; have hh : cv .i64 (d (na (bi .sub .i64 (bi .sub .i64 (Int.ofNat n) 1) (Int.ofNat i)))) < 0 := lssT g; rw [e0] at hh; exact hh
          have hu : cv .u64 (un .neg .i64 (cv .i64 (d (na (bi .sub .i64 (bi .sub .i64 (Int.ofNat n) 1) (Int.ofNat i)))))) = -d (n - 1 - i) := by
            rw [e0, hcv, hun]
            show IntKind.wrap .u64 (IntKind.wrap .i64 (0 - d (n - 1 - i))) = _
            rw [wrap_i64 (by omega), wrap_u64]
            omega
          have hs := val_less hlti rfl hneg (by omega) w1 mult_one
          have hnum : M (P (FO (P (Y i) (Y i))) (fun j => v_mult.2.2.getD (5 + j) 0)) (upd (fun _ => 0) 0 (cv .u64 (un .neg .i64 (cv .i64 (d (na (bi .sub .i64 (bi .sub .i64 (Int.ofNat n) 1) (Int.ofNat i)))))))) = minusW (plusW (FO (P (Y i) (Y i))) (fun j => v_mult.2.2.getD (5 + j) 0)) (oneW (-d (n - 1 - i))) := by rw [hu, hM, hP]; rfl
          have t2 : Top16 (M (P (FO (P (Y i) (Y i))) (fun j => v_mult.2.2.getD (5 + j) 0)) (upd (fun _ => 0) 0 (cv .u64 (un .neg .i64 (cv .i64 (d (na (bi .sub .i64 (bi .sub .i64 (Int.ofNat n) 1) (Int.ofNat i))))))))) := by rw [hnum]; exact hs.1
          refine ⟨t2, ⟨i + 1, by omega⟩, ?_, by show n - (i + 1) < n - i; omega⟩
          cbv
          refine ⟨fun _ _ => rfl, fun _ _ => rfl, fun k _ => ?_, q4, trivial⟩
          show FO (M (P (FO (P (Y i) (Y i))) (fun j => v_mult.2.2.getD (5 + j) 0)) (upd (fun _ => 0) 0 (cv .u64 (un .neg .i64 (cv .i64 (d (na (bi .sub .i64 (bi .sub .i64 (Int.ofNat n) 1) (Int.ofNat i))))))))) k = Y (i + 1) k
          rw [hnum]
          have e9 := congrFun hs.2 k
          rw [hFO, hY] at *
          exact e9
        · cbv
          have hpos : 0 ≤ d (n - 1 - i) := by rw [hcm] at g; have hh : 0 ≤ cv .i64 (d (na (bi .sub .i64 (bi .sub .i64 (Int.ofNat n) 1) (Int.ofNat i)))) := lssF g; rw [e0] at hh; exact hh
          have hu : cv .u64 (cv .i64 (d (na (bi .sub .i64 (bi .sub .i64 (Int.ofNat n) 1) (Int.ofNat i))))) = d (n - 1 - i) := by
            rw [e0, hcv]
            show IntKind.wrap .u64 _ = _
            rw [wrap_u64]
            omega
          have hs := val_more hlti rfl hpos (by omega) w1
          have hnum : P (FO (P (Y i) (Y i))) (upd (fun _ => 0) 0 (cv .u64 (cv .i64 (d (na (bi .sub .i64 (bi .sub .i64 (Int.ofNat n) 1) (Int.ofNat i))))))) = plusW (FO (P (Y i) (Y i))) (oneW (d (n - 1 - i))) := by rw [hu, hP]; rfl
          have t2 : Top16 (P (FO (P (Y i) (Y i))) (upd (fun _ => 0) 0 (cv .u64 (cv .i64 (d (na (bi .sub .i64 (bi .sub .i64 (Int.ofNat n) 1) (Int.ofNat i)))))))) := by rw [hnum]; exact hs.1
          refine ⟨t2, ⟨i + 1, by omega⟩, ?_, by show n - (i + 1) < n - i; omega⟩
          cbv
          refine ⟨fun _ _ => rfl, fun _ _ => rfl, fun k _ => ?_, q4, trivial⟩
          show FO (P (FO (P (Y i) (Y i))) (upd (fun _ => 0) 0 (cv .u64 (cv .i64 (d (na (bi .sub .i64 (bi .sub .i64 (Int.ofNat n) 1) (Int.ofNat i)))))))) k = Y (i + 1) k
          rw [hnum]
          have e9 := congrFun hs.2 k
          rw [hFO, hY] at *
          exact e9
      · cbv
        have heqi : i = n := by rw [hcm] at h; have hh := lssF h; simp only [Int.ofNat_eq_natCast] at hh; omega
        subst heqi
        refine ⟨fun k _ => ?_, ?_, trivial⟩
        · show BY (Y i) k = VA i d k
          rw [hBY, hY, hVA, valA, if_pos hn]
          exact congrFun (value_all i d) k
        · show 0 = VE i
          rw [hVE, valErr, if_pos hn]

theorem ok_svalue : Sound Tryd.prog Gmul 39 (valueC .i64 valA (valErr 2)) := by
  refine sound_symx (n := 54) (rs := [.cell 2 24, .tmp 3]) (sc := sc_svalue.1) mixed Tryd.func39 rfl rfl rfl rfl sc_svalue.2 ?_
  intro vs cs r h
  unfold valueC at h
  split at h
  · rename_i len ca d
    cases h
    exact ⟨by simp, fun hcs hwf => ⟨_, envOK tabOK ((.cons (ok_wplus Gmul) (.cons (ok_wminus Gmul) (.cons (ok_wfold) (.cons (ok_wbytes Gmul) .nil))))), rfl, walk_svalue realOps rfl len.val ca d (isX8 (hwf _ (List.mem_cons_self ..))) _ rfl _ rfl _ rfl _ rfl _ rfl _ rfl _ rfl _ rfl _ rfl⟩⟩
  · cases h
end Go.Proofs.YtbiialpakchjgaaDoor
