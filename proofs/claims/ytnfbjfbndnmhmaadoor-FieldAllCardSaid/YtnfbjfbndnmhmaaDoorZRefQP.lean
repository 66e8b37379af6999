/-
  The document's numbers modulo p: bits.
-/
import Derived.Test.YtnfbjfbndnmhmaaDoorZRefQC
namespace Go.Proofs.YtnfbjfbndnmhmaaDoor
open Go Go.Proofs Sx
set_option maxRecDepth 100000
set_option maxHeartbeats 4000000
set_option linter.unusedVariables false
set_option linter.unusedSimpArgs false

def sc_qbit : { c : SC // strip (body Tryd.f67) = c } := ⟨_, by cbv⟩
theorem walk_qbit (A : Ops) (hA : A = realOps) (G : Nat → AV) (e : Nat → Int) (i : Int) (he : IsBytes 32 e) (hi : BitIx i) (R : (Nat → Int) → Int → Bool) (hR : R = fun e i => bitB e i.toNat) (XK : Nat → Int) (hXK : XK = fun k => e (i.toNat / 8) / 2 ^ k) (I : { k : Nat // k ≤ i.toNat % 8 } → St) (hI : I = fun k => slots 23 [(1, .int .i64 (.sym i)), (2, .own (.arr .u8 32 e)), (5, .int .i64 (.sym (XK k.1))), (6, .int .i64 (.sym (k.1 : Int)))]) :
    Walk (mkEnv A tab.1 G [] [(3, .inv { k : Nat // k ≤ i.toNat % 8 } I fun k => 8 - k.1)]) sc_qbit.1 23 [.tmp 4] [.arr .u8 32 e, .int .i64 (.sym i)] (.bool (.sym (R e i))) := by
  obtain ⟨bi, cm, un, cv, na, eq⟩ := A
  have hbi : bi = realBin := congrArg Ops.bin hA
  have hcm : cm = realCmp := congrArg Ops.cmp hA
  have hna : na = Int.toNat := congrArg Ops.nat hA
  have hcv : cv = fun k n => k.wrap n := congrArg Ops.cnv hA
  have heq : eq = realEqA := congrArg Ops.eqA hA
  clear hA
  have hi := hi.h
  have m8 : i.toNat % 8 < 8 := Nat.mod_lt _ (by decide)
  have d8 : i.toNat / 8 < 32 := by omega
  have q0 : bi .quo .i64 i 8 = Int.ofNat (i.toNat / 8) := by rw [hbi, quo_i64 (by omega) (by decide)]; simp only [Int.ofNat_eq_natCast]; omega
  have r8 : bi .rem .i64 i 8 = Int.ofNat (i.toNat % 8) := by rw [hbi, rem_i64 (by omega)]; simp only [Int.ofNat_eq_natCast]; omega
  have q8 : na (bi .quo .i64 i 8) = i.toNat / 8 := by rw [q0, hna]; rfl
  have b0 := he (i.toNat / 8) d8
  have xr : ∀ k, 0 ≤ XK k := by
    intro k
    rw [hXK]
    exact Int.ediv_nonneg b0.1 (Int.le_of_lt (Int.pow_pos (by decide)))
  have xl : ∀ k, XK k ≤ 255 := by
    intro k
    rw [hXK]
    have := Int.ediv_le_self (2 ^ k) b0.1
    dsimp only
    omega
  have x0 : cv .i64 (e (na (bi .quo .i64 i 8))) = XK 0 := by
    rw [q8, hcv, hXK]
    dsimp only
    rw [wrap_i64 (by omega), Int.pow_zero, Int.ediv_one]
  have xs : ∀ k, bi .quo .i64 (XK k) 2 = XK (k + 1) := by
    intro k
    have h1 := xr k
    have h2 := xl k
    rw [hbi, quo_i64 (by omega) (by decide), hXK]
    dsimp only
    rw [Int.ediv_ediv_of_nonneg (Int.le_of_lt (Int.pow_pos (by decide))), Int.pow_succ]
  have xe : cm .eql (bi .rem .i64 (XK (i.toNat % 8)) 2) 1 = R e i := by
    rw [hcm, hbi, rem_i64 (xr _), hXK, hR]
    unfold bitB
    rw [Bool.eq_iff_iff]
    simp [realCmp]
  have c1 : 0 ≤ bi .quo .i64 i 8 ∧ bi .quo .i64 i 8 < 32 := by rw [q0]; simp only [Int.ofNat_eq_natCast]; omega
  generalize hM : i.toNat % 8 = M at *
  clear hXK hR
  refine ⟨?_⟩
  cbv
  refine ⟨⟨c1⟩, ⟨by rw [q8]; exact d8⟩, ⟨⟨0, Nat.zero_le _⟩, ?_⟩, fun k _ => ?_⟩
  · subst hI
    cbv
    exact ⟨fun _ _ => rfl, x0, rfl, trivial⟩
  · subst hI
    cbv
    obtain ⟨k, hk⟩ := k
    refine ⟨fun h => ?_, fun h => ?_⟩
    · cbv
      have hlt : k < M := by
        rw [hcm] at h
        have h1 := ltT h
        try dsimp only [SI.val, SO.val] at h1
        rw [r8] at h1
        exact Int.ofNat_lt.1 h1
      have q4 : bi .add .i64 (Int.ofNat k) 1 = Int.ofNat (k + 1) := by rw [hbi, add_i64 (by simp only [Int.ofNat_eq_natCast]; omega)]; rfl
      refine ⟨⟨k + 1, by omega⟩, ?_, by show 8 - (k + 1) < 8 - k; omega⟩
      cbv
      exact ⟨fun _ _ => rfl, xs k, q4, trivial⟩
    · cbv
      have hN : k = M := by
        rw [hcm] at h
        have h1 := ltF h
        try dsimp only [SI.val, SO.val] at h1
        rw [r8] at h1
        have h2 : M ≤ k := Int.ofNat_le.1 h1
        omega
      subst hN
      exact xe

theorem ok_qbit (G : Nat → AV) : Sound Tryd.prog G 67 (qbitC (fun e i => bitB e i.toNat)) := by
  refine sound_sym (n := 23) (rs := [.tmp 4]) (sc := sc_qbit.1) mixed Tryd.func67 rfl rfl rfl rfl sc_qbit.2 ?_
  intro vs cs r h
  unfold qbitC at h
  split at h
  · rename_i e i
    cases h
    exact ⟨by simp, fun hcs hwf => ⟨_, envOK tabOK ( .nil), rfl, walk_qbit realOps rfl G e i.val (isB (hwf _ (by simp))) ((hcs _ (by simp) : BitIx i.val)) _ rfl _ rfl _ rfl⟩⟩
  · cases h
end Go.Proofs.YtnfbjfbndnmhmaaDoor
