/-
  Package scalar: the inverse.
-/
import Derived.Test.YtbiialpakchjgaaDoorZScalC
import Derived.Test.YtbiialpakchjgaaDoorZMA
import Derived.Test.YtbiialpakchjgaaDoorZEB
namespace Go.Proofs.YtbiialpakchjgaaDoor
open Go Go.Proofs Sx
set_option maxRecDepth 100000
set_option maxHeartbeats 4000000
set_option linter.unusedVariables false
set_option linter.unusedSimpArgs false

def gl_inv : GL := [v_order, v_mult]
abbrev Ginv : Nat → AV := lookGL gl_inv
theorem inv_e : ∀ i, i < 32 → upd (fun i => v_order.2.2.getD i 0) 0 (realBin .sub .u8 (v_order.2.2.getD 0 0) 2) i = byt (lI - 2) i := by decide +kernel
def sc_sinvert : { c : SC // strip (body Tryd.f18) = c } := ⟨_, by cbv⟩
theorem walk_sinvert (A : Ops) (hA : A = realOps) (a : Nat → Int) (ha : IsBytes 32 a) (MA : (Nat → Int) → (Nat → Int) → (Nat → Int) → Nat → Int) (hMA : MA = fun a b c => sb (se a * se b + se c)) (R : (Nat → Int) → Nat → Int) (hR : R = fun f => sb (zinv (se f))) (EB : Nat → Int) (hEB : EB = byt (lI - 2)) (PW : Nat → Nat → Int) (hPW : PW = fun i => sb (pwZ (se a) (byt (lI - 2)) (253 - i))) (I : { i : Nat // i ≤ 253 } → St) (hI : I = fun i => slots 37 [(1, .own (.arr .u8 32 a)), (2, .own (.arr .u8 32 fun _ => 0)), (3, .own (.arr .u8 32 EB)), (4, .own (.arr .u8 32 (PW i.1))), (13, .int .i64 (.sym (i.1 : Int)))]) :
    Walk (mkEnv A tab.1 Ginv [(16, tri32C MA)] [(5, .inv { i : Nat // i ≤ 253 } I fun i => 253 - i.1)]) sc_sinvert.1 37 [.cell 2 24] [.arr .u8 32 a] (.arr .u8 32 (R a)) := by
  obtain ⟨bi, cm, un, cv, na, eq⟩ := A
  have hbi : bi = realBin := congrArg Ops.bin hA
  have hcm : cm = realCmp := congrArg Ops.cmp hA
  have hna : na = Int.toNat := congrArg Ops.nat hA
  have hcv : cv = fun k n => k.wrap n := congrArg Ops.cnv hA
  have heq : eq = realEqA := congrArg Ops.eqA hA
  clear hA
  refine ⟨?_⟩
  cbv
  refine ⟨⟨⟨0, by decide⟩, ?_⟩, fun i _ => ?_⟩
  · subst hI
    cbv
    refine ⟨fun _ _ => rfl, fun _ _ => rfl, fun k hk => ?_, fun k hk => ?_, rfl, trivial⟩
    · rw [hEB, hbi]
      exact inv_e k hk
    · rw [hPW]
      show upd (fun _ => 0) 0 1 k = sb (pwZ (se a) (byt (lI - 2)) 253) k
      rw [pwZ_top _ inv_high]
      exact one_bytesS k hk
  · subst hI
    cbv
    obtain ⟨i, hi⟩ := i
    refine ⟨fun h => ?_, fun h => ?_⟩
    · cbv
      have hlt : i < 253 := by
        rw [hcm] at h
        exact Int.ofNat_lt.1 (of_decide_eq_true h)
      obtain ⟨k, hk⟩ : ∃ k, k = 252 - i := ⟨_, rfl⟩
      have q0 : bi .sub .i64 252 (Int.ofNat i) = (k : Int) := by rw [hbi, sub_i64 (by simp only [Int.ofNat_eq_natCast]; omega)]; simp only [Int.ofNat_eq_natCast]; omega
      have q1 : bi .quo .i64 (bi .sub .i64 252 (Int.ofNat i)) 8 = ((k / 8 : Nat) : Int) := by rw [q0, hbi]; exact quo_i64 (by omega) (by decide)
      have q2 : bi .rem .i64 (bi .sub .i64 252 (Int.ofNat i)) 8 = ((k % 8 : Nat) : Int) := by rw [q0, hbi]; exact rem_i64 (by omega)
      have q3 : na (bi .quo .i64 (bi .sub .i64 252 (Int.ofNat i)) 8) = k / 8 := by rw [q1, hna]; exact Int.toNat_natCast _
      have q4 : bi .add .i64 (Int.ofNat i) 1 = Int.ofNat (i + 1) := by rw [hbi, add_i64 (by simp only [Int.ofNat_eq_natCast]; omega)]; rfl
      have hE : IsBytes 32 (byt (lI - 2)) := byt_isBytes _ _
      have hbit : cm .eql (bi .and .u8 (bi .shr .u8 (EB (na (bi .quo .i64 (bi .sub .i64 252 (Int.ofNat i)) 8))) (bi .rem .i64 (bi .sub .i64 252 (Int.ofNat i)) 8)) 1) 1 = bitB (byt (lI - 2)) k := by
        rw [q3, q2, hcm, hbi, hEB]
        exact bit_asked hE (by omega)
      have st := pwZ_step (se a) hE (i := k) (by omega)
      have e1 : 253 - i = k + 1 := by omega
      have e2 : 253 - (i + 1) = k := by omega
      have hsq : MA (PW i) (PW i) (fun _ => 0) = sb (pwZ (se a) (byt (lI - 2)) (k + 1) * pwZ (se a) (byt (lI - 2)) (k + 1)) := by
        rw [hMA, hPW]
        show sb (se (sb (pwZ _ _ (253 - i))) * se (sb (pwZ _ _ (253 - i))) + se fun _ => 0) = _
        rw [e1, se_sb, se_zero]
        congr 1
        grind
      refine ⟨⟨by show 0 ≤ bi .quo .i64 (bi .sub .i64 252 (Int.ofNat i)) 8 ∧ bi .quo .i64 (bi .sub .i64 252 (Int.ofNat i)) 8 < 32; rw [q1]; omega⟩, ⟨by show na (bi .quo .i64 (bi .sub .i64 252 (Int.ofNat i)) 8) + 1 ≤ 32; rw [q3]; omega⟩, ⟨by show 0 ≤ bi .rem .i64 (bi .sub .i64 252 (Int.ofNat i)) 8; rw [q2]; omega⟩, fun hb => ?_, fun hb => ?_⟩
      · cbv
        have hb' : bitB (byt (lI - 2)) k = true := hbit.symm.trans hb
        rw [if_pos hb'] at st
        refine ⟨⟨i + 1, by omega⟩, ?_, by show 253 - (i + 1) < 253 - i; omega⟩
        cbv
        refine ⟨fun _ _ => rfl, fun _ _ => rfl, fun _ _ => rfl, fun n _ => ?_, q4, trivial⟩
        show MA (MA (PW i) (PW i) fun _ => 0) a (fun _ => 0) n = PW (i + 1) n
        rw [hsq, hMA, hPW]
        show sb (se (sb _) * se a + se fun _ => 0) n = sb (pwZ (se a) (byt (lI - 2)) (253 - (i + 1))) n
        rw [e2, st, se_sb, se_zero]
        have e3 : pwZ (se a) (byt (lI - 2)) (k + 1) * pwZ (se a) (byt (lI - 2)) (k + 1) * se a + 0 = pwZ (se a) (byt (lI - 2)) (k + 1) * pwZ (se a) (byt (lI - 2)) (k + 1) * se a := by grind
        rw [e3]
      · cbv
        have hb' : ¬ bitB (byt (lI - 2)) k = true := by rw [← hbit]; exact Bool.eq_false_iff.1 hb
        rw [if_neg hb'] at st
        refine ⟨⟨i + 1, by omega⟩, ?_, by show 253 - (i + 1) < 253 - i; omega⟩
        cbv
        refine ⟨fun _ _ => rfl, fun _ _ => rfl, fun _ _ => rfl, fun n _ => ?_, q4, trivial⟩
        show MA (PW i) (PW i) (fun _ => 0) n = PW (i + 1) n
        rw [hsq, hPW]
        show _ = sb (pwZ (se a) (byt (lI - 2)) (253 - (i + 1))) n
        rw [e2, st]
    · cbv
      have hlt : i = 253 := by
        rw [hcm] at h
        have h3 : ¬ (i < 253) := fun hh => of_decide_eq_false h (Int.ofNat_lt.2 hh)
        omega
      subst hlt
      intro n _
      rw [hR, hPW]
      show sb (pwZ (se a) (byt (lI - 2)) 0) n = sb (zinv (se a)) n
      rw [pwZ_all, num_inv]
      rfl

theorem ok_invertS : Sound Tryd.prog Ginv 18 (un32C (fun f => sb (zinv (se f)))) := by
  refine sound_each (n := 37) (rs := [.cell 2 24]) (sc := sc_sinvert.1) mixed Tryd.func18 rfl rfl rfl rfl sc_sinvert.2 ?_
  intro vs cs r h
  unfold un32C at h
  split at h
  · rename_i a
    cases h
    exact ⟨by simp, fun hcs hwf => ⟨_, envOK tabOK ((.cons (ok_muladd.sub (sub_of (by decide))) .nil)), rfl, walk_sinvert realOps rfl a (isB (hwf _ (by simp))) _ rfl _ rfl _ rfl _ rfl _ rfl⟩⟩
  · cases h
end Go.Proofs.YtbiialpakchjgaaDoor
