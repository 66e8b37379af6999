/-
  The document's numbers modulo p: digits of base 65536.
-/
import Derived.Test.YtnfbjfbndnmhmaaDoorZBase
import Derived.Test.YtnfbjfbndnmhmaaDoorZNA
import Derived.Test.YtnfbjfbndnmhmaaDoorZMA
import Derived.Test.YtnfbjfbndnmhmaaDoorZEB
namespace Go.Proofs.YtnfbjfbndnmhmaaDoor
open Go Go.Proofs Sx
set_option maxRecDepth 100000
set_option maxHeartbeats 4000000
set_option linter.unusedVariables false
set_option linter.unusedSimpArgs false

abbrev Gqprime : Nat → AV := lookGL [v_prime]
theorem qprime_dig : ∀ i, i < 16 → v_prime.2.2.getD i 0 = D16 p25 i := prime_digit

def sc_qsmall : { c : SC // strip (body Tryd.f43) = c } := ⟨_, by cbv⟩
theorem walk_qsmall (A : Ops) (hA : A = realOps) (G : Nat → AV) (x : Int) (hx : OneDig x) (S : Int → Nat → Int) (hS : S = D16)  :
    Walk (mkEnv A tab.1 G [] []) sc_qsmall.1 7 [.cell 2 46] [.int .i64 (.sym x)] (.arr .i64 16 (S x)) := by
  obtain ⟨bi, cm, un, cv, na, eq⟩ := A
  have hbi : bi = realBin := congrArg Ops.bin hA
  have hcm : cm = realCmp := congrArg Ops.cmp hA
  have hna : na = Int.toNat := congrArg Ops.nat hA
  have hcv : cv = fun k n => k.wrap n := congrArg Ops.cnv hA
  have heq : eq = realEqA := congrArg Ops.eqA hA
  clear hA
  refine ⟨?_⟩
  cbv
  intro k hk
  rw [hS]
  exact small_digit hx k

theorem ok_qsmall (G : Nat → AV) : Sound Tryd.prog G 43 (qsmallC D16) := by
  refine sound_sym (n := 7) (rs := [.cell 2 46]) (sc := sc_qsmall.1) mixed Tryd.func43 rfl rfl rfl rfl sc_qsmall.2 ?_
  intro vs cs r h
  unfold qsmallC at h
  split at h
  · rename_i x
    cases h
    exact ⟨by simp, fun hcs hwf => ⟨_, envOK tabOK ( .nil), rfl, walk_qsmall realOps rfl G x.val ((hcs _ (by simp) : OneDig x.val)) _ rfl ⟩⟩
  · cases h
def sc_qraw : { c : SC // strip (body Tryd.f65) = c } := ⟨_, by cbv⟩
theorem walk_qraw (A : Ops) (hA : A = realOps) (G : Nat → AV) (a : Nat → Int) (ha : IsBytes 32 a) (R : (Nat → Int) → Nat → Int) (hR : R = fun a => D16 (num 32 a)) (FA : Nat → Nat → Int) (hFA : FA = fun i j => if j < i then D16 (num 32 a) j else 0) (I : { i : Nat // i ≤ 16 } → St) (hI : I = fun i => slots 25 [(1, .own (.arr .u8 32 a)), (2, .own (.arr .i64 16 fun _ => 0)), (3, .own (.arr .i64 16 (FA i.1))), (4, .int .i64 (.sym (i.1 : Int)))]) :
    Walk (mkEnv A tab.1 G [] [(3, .inv { i : Nat // i ≤ 16 } I fun i => 16 - i.1)]) sc_qraw.1 25 [.cell 2 46] [.arr .u8 32 a] (.arr .i64 16 (R a)) := by
  obtain ⟨bi, cm, un, cv, na, eq⟩ := A
  have hbi : bi = realBin := congrArg Ops.bin hA
  have hcm : cm = realCmp := congrArg Ops.cmp hA
  have hna : na = Int.toNat := congrArg Ops.nat hA
  have hcv : cv = fun k n => k.wrap n := congrArg Ops.cnv hA
  have heq : eq = realEqA := congrArg Ops.eqA hA
  clear hA
  refine ⟨?_⟩
  cbv
  refine ⟨⟨⟨0, by decide⟩, ?_⟩, fun i _ => ?_⟩
  · subst hI
    cbv
    exact ⟨fun _ _ => rfl, fun _ _ => rfl, (fun k _ => by rw [hFA]; exact (if_neg (Nat.not_lt_zero k)).symm), rfl, trivial⟩
  · subst hI
    cbv
    obtain ⟨i, hi⟩ := i
    refine ⟨fun h => ?_, fun h => ?_⟩
    · cbv
      rw [hcm] at h
      have hlt := ltT h
      simp only [Int.ofNat_eq_natCast] at hlt
      have hlt2 : i < 16 := by omega
      have qi : na (Int.ofNat i) = i := by rw [hna]; rfl
      have q4 : bi .add .i64 (Int.ofNat i) 1 = Int.ofNat (i + 1) := by rw [hbi, add_i64 (by simp only [Int.ofNat_eq_natCast]; omega)]; rfl
      have v : bi .add .i64 (cv .i64 (a (na (bi .mul .i64 2 (Int.ofNat i))))) (bi .mul .i64 256 (cv .i64 (a (na (bi .add .i64 (bi .mul .i64 2 (Int.ofNat i)) 1))))) = D16 (num 32 a) i := by
        have b1 := ha (2 * i) (by omega)
        have b2 := ha (2 * i + 1) (by omega)
        have m : bi .mul .i64 2 (Int.ofNat i) = ((2 * i : Nat) : Int) := by rw [hbi, mul_i64 (by simp only [Int.ofNat_eq_natCast]; omega)]; simp only [Int.ofNat_eq_natCast]; omega
        have m1 : bi .add .i64 ((2 * i : Nat) : Int) 1 = ((2 * i + 1 : Nat) : Int) := by rw [hbi, add_i64 (by omega)]; omega
        have n1 : na ((2 * i : Nat) : Int) = 2 * i := by rw [hna]; exact Int.toNat_natCast _
        have n2 : na ((2 * i + 1 : Nat) : Int) = 2 * i + 1 := by rw [hna]; exact Int.toNat_natCast _
        rw [m, m1, n1, n2, ← pair_digit ha hlt2, hcv]
        dsimp only
        rw [wrap_i64 (by omega), wrap_i64 (by omega), hbi, mul_i64 (by omega), add_i64 (by omega)]
      refine ⟨(by constructor; (try dsimp only [SI.val, SO.val]); (try simp (disch := omega) only [hbi, hna, hcv, Int.ofNat_eq_natCast, add_i64, sub_i64, mul_i64, quo_i64, rem_i64, wrap_i64, wrap_u8, Int.toNat_natCast]); omega), (by constructor; (try dsimp only [SI.val, SO.val]); (try simp (disch := omega) only [hbi, hna, hcv, Int.ofNat_eq_natCast, add_i64, sub_i64, mul_i64, quo_i64, rem_i64, wrap_i64, wrap_u8, Int.toNat_natCast]); omega), (by constructor; (try dsimp only [SI.val, SO.val]); (try simp (disch := omega) only [hbi, hna, hcv, Int.ofNat_eq_natCast, add_i64, sub_i64, mul_i64, quo_i64, rem_i64, wrap_i64, wrap_u8, Int.toNat_natCast]); omega), (by constructor; (try dsimp only [SI.val, SO.val]); (try simp (disch := omega) only [hbi, hna, hcv, Int.ofNat_eq_natCast, add_i64, sub_i64, mul_i64, quo_i64, rem_i64, wrap_i64, wrap_u8, Int.toNat_natCast]); omega), (by constructor; (try dsimp only [SI.val, SO.val]); (try simp (disch := omega) only [hbi, hna, hcv, Int.ofNat_eq_natCast, add_i64, sub_i64, mul_i64, quo_i64, rem_i64, wrap_i64, wrap_u8, Int.toNat_natCast]); omega), (by constructor; (try dsimp only [SI.val, SO.val]); (try simp (disch := omega) only [hbi, hna, hcv, Int.ofNat_eq_natCast, add_i64, sub_i64, mul_i64, quo_i64, rem_i64, wrap_i64, wrap_u8, Int.toNat_natCast]); omega), ⟨i + 1, by omega⟩, ?_, by show 16 - (i + 1) < 16 - i; omega⟩
      cbv
      refine ⟨fun _ _ => rfl, fun _ _ => rfl, fun k _ => ?_, q4, trivial⟩
      show (if k = na (Int.ofNat i) then bi .add .i64 (cv .i64 (a (na (bi .mul .i64 2 (Int.ofNat i))))) (bi .mul .i64 256 (cv .i64 (a (na (bi .add .i64 (bi .mul .i64 2 (Int.ofNat i)) 1))))) else FA i k) = FA (i + 1) k
      rw [qi, v, hFA]
      dsimp only
      by_cases hk : k = i
      · subst hk
        rw [if_pos rfl, if_pos (by omega)]
      · rw [if_neg hk]
        by_cases h2 : k < i
        · rw [if_pos h2, if_pos (by omega)]
        · rw [if_neg h2, if_neg (by omega)]

    · cbv
      have hN : i = 16 := by
        rw [hcm] at h
        have := ltF h
        simp only [Int.ofNat_eq_natCast] at this
        omega
      subst hN
      intro k hk
      rw [hR, hFA]
      exact if_pos hk

theorem ok_qraw (G : Nat → AV) : Sound Tryd.prog G 65 (qrawC (fun a => D16 (num 32 a))) := by
  refine sound_each (n := 25) (rs := [.cell 2 46]) (sc := sc_qraw.1) mixed Tryd.func65 rfl rfl rfl rfl sc_qraw.2 ?_
  intro vs cs r h
  unfold qrawC at h
  split at h
  · rename_i a
    cases h
    exact ⟨by simp, fun hcs hwf => ⟨_, envOK tabOK ( .nil), rfl, walk_qraw realOps rfl G a (isB (hwf _ (by simp))) _ rfl _ rfl _ rfl⟩⟩
  · cases h
def gQprime (f : Nat → Int) : Nat → AV := fun g => if g = 4 then .arr .i64 16 f else .junk
def sc_qprime : { c : SC // strip (body Tryd.f44) = c } := ⟨_, by cbv⟩
theorem walk_qprime (A : Ops) (hA : A = realOps)   (P : Nat → Int) (hP : P = D16 p25) (PV : Nat → Int) (hPV : PV = fun i => v_prime.2.2.getD i 0) (FA : Nat → Nat → Int) (hFA : FA = fun i j => if j < i then P j else 0) (I : { i : Nat // i ≤ 16 } → St) (hI : I = fun i => slots 13 [(0, .own (.arr .i64 16 fun _ => 0)), (1, .own (.arr .i64 16 (FA i.1))), (2, .int .i64 (.sym (i.1 : Int)))]) :
    Walk (mkEnv A tab.1 (gQprime PV) [] [(3, .inv { i : Nat // i ≤ 16 } I fun i => 16 - i.1)]) sc_qprime.1 13 [.cell 0 46] [] (.arr .i64 16 P) := by
  obtain ⟨bi, cm, un, cv, na, eq⟩ := A
  have hbi : bi = realBin := congrArg Ops.bin hA
  have hcm : cm = realCmp := congrArg Ops.cmp hA
  have hna : na = Int.toNat := congrArg Ops.nat hA
  have hcv : cv = fun k n => k.wrap n := congrArg Ops.cnv hA
  have heq : eq = realEqA := congrArg Ops.eqA hA
  clear hA
  have hpd : ∀ i, i < 16 → PV i = P i := by rw [hPV, hP]; exact qprime_dig
  clear hPV hP
  refine ⟨?_⟩
  cbv
  refine ⟨⟨⟨0, by decide⟩, ?_⟩, fun i _ => ?_⟩
  · subst hI
    cbv
    exact ⟨fun _ _ => rfl, (fun k _ => by rw [hFA]; exact (if_neg (Nat.not_lt_zero k)).symm), rfl, trivial⟩
  · subst hI
    cbv
    obtain ⟨i, hi⟩ := i
    refine ⟨fun h => ?_, fun h => ?_⟩
    · cbv
      rw [hcm] at h
      have hlt := ltT h
      simp only [Int.ofNat_eq_natCast] at hlt
      have hlt2 : i < 16 := by omega
      have qi : na (Int.ofNat i) = i := by rw [hna]; rfl
      have q4 : bi .add .i64 (Int.ofNat i) 1 = Int.ofNat (i + 1) := by rw [hbi, add_i64 (by simp only [Int.ofNat_eq_natCast]; omega)]; rfl
      have v : PV i = P i := hpd i hlt2
      refine ⟨(by constructor; (try dsimp only [SI.val, SO.val]); (try simp (disch := omega) only [hbi, hna, hcv, Int.ofNat_eq_natCast, add_i64, sub_i64, mul_i64, quo_i64, rem_i64, wrap_i64, wrap_u8, Int.toNat_natCast]); omega), (by constructor; (try dsimp only [SI.val, SO.val]); (try simp (disch := omega) only [hbi, hna, hcv, Int.ofNat_eq_natCast, add_i64, sub_i64, mul_i64, quo_i64, rem_i64, wrap_i64, wrap_u8, Int.toNat_natCast]); omega), (by constructor; (try dsimp only [SI.val, SO.val]); (try simp (disch := omega) only [hbi, hna, hcv, Int.ofNat_eq_natCast, add_i64, sub_i64, mul_i64, quo_i64, rem_i64, wrap_i64, wrap_u8, Int.toNat_natCast]); omega), (by constructor; (try dsimp only [SI.val, SO.val]); (try simp (disch := omega) only [hbi, hna, hcv, Int.ofNat_eq_natCast, add_i64, sub_i64, mul_i64, quo_i64, rem_i64, wrap_i64, wrap_u8, Int.toNat_natCast]); omega), ⟨i + 1, by omega⟩, ?_, by show 16 - (i + 1) < 16 - i; omega⟩
      cbv
      refine ⟨fun _ _ => rfl, fun k _ => ?_, q4, trivial⟩
      show (if k = na (Int.ofNat i) then PV (na (Int.ofNat i)) else FA i k) = FA (i + 1) k
      rw [qi, v, hFA]
      dsimp only
      by_cases hk : k = i
      · subst hk
        rw [if_pos rfl, if_pos (by omega)]
      · rw [if_neg hk]
        by_cases h2 : k < i
        · rw [if_pos h2, if_pos (by omega)]
        · rw [if_neg h2, if_neg (by omega)]

    · cbv
      have hN : i = 16 := by
        rw [hcm] at h
        have := ltF h
        simp only [Int.ofNat_eq_natCast] at this
        omega
      subst hN
      intro k hk
      rw [hFA]
      exact if_pos hk

theorem ok_qprime : Sound Tryd.prog Gqprime 44 (qprimeC (D16 p25)) := by
  refine sound_each (n := 13) (rs := [.cell 0 46]) (sc := sc_qprime.1) mixed Tryd.func44 rfl rfl rfl rfl sc_qprime.2 ?_
  intro vs cs r h
  unfold qprimeC at h
  split at h
  · cases h
    exact ⟨by simp, fun hcs hwf => ⟨_, envOK tabOK ( .nil), rfl, walk_qprime realOps rfl   _ rfl _ rfl _ rfl _ rfl⟩⟩
  · cases h
def sc_qbytes : { c : SC // strip (body Tryd.f42) = c } := ⟨_, by cbv⟩
theorem walk_qbytes (A : Ops) (hA : A = realOps) (G : Nat → AV) (n : Nat → Int) (hn : Num16 n) (B : (Nat → Int) → Nat → Int) (hB : B = fun n => byt (V16 n)) (FA : Nat → Nat → Int) (hFA : FA = fun i j => if j < 2 * i then byt (V16 n) j else 0) (I : { i : Nat // i ≤ 16 } → St) (hI : I = fun i => slots 27 [(1, .own (.arr .i64 16 n)), (2, .own (.arr .u8 32 fun _ => 0)), (3, .own (.arr .u8 32 (FA i.1))), (4, .int .i64 (.sym (i.1 : Int)))]) :
    Walk (mkEnv A tab.1 G [] [(3, .inv { i : Nat // i ≤ 16 } I fun i => 16 - i.1)]) sc_qbytes.1 27 [.cell 2 22] [.arr .i64 16 n] (.arr .u8 32 (B n)) := by
  obtain ⟨bi, cm, un, cv, na, eq⟩ := A
  have hbi : bi = realBin := congrArg Ops.bin hA
  have hcm : cm = realCmp := congrArg Ops.cmp hA
  have hna : na = Int.toNat := congrArg Ops.nat hA
  have hcv : cv = fun k n => k.wrap n := congrArg Ops.cnv hA
  have heq : eq = realEqA := congrArg Ops.eqA hA
  clear hA
  refine ⟨?_⟩
  cbv
  refine ⟨⟨⟨0, by decide⟩, ?_⟩, fun i _ => ?_⟩
  · subst hI
    cbv
    exact ⟨fun _ _ => rfl, fun _ _ => rfl, (fun k _ => by rw [hFA]; exact (if_neg (Nat.not_lt_zero k)).symm), rfl, trivial⟩
  · subst hI
    cbv
    obtain ⟨i, hi⟩ := i
    refine ⟨fun h => ?_, fun h => ?_⟩
    · cbv
      rw [hcm] at h
      have hlt := ltT h
      simp only [Int.ofNat_eq_natCast] at hlt
      have hlt2 : i < 16 := by omega
      have qi : na (Int.ofNat i) = i := by rw [hna]; rfl
      have q4 : bi .add .i64 (Int.ofNat i) 1 = Int.ofNat (i + 1) := by rw [hbi, add_i64 (by simp only [Int.ofNat_eq_natCast]; omega)]; rfl
      have d := digit_bytes (V16 n) i
      rw [D16_V16 hn hlt2] at d
      have r := hn.h i hlt2
      simp only [b16] at r
      have m : bi .mul .i64 2 (Int.ofNat i) = ((2 * i : Nat) : Int) := by rw [hbi, mul_i64 (by simp only [Int.ofNat_eq_natCast]; omega)]; simp only [Int.ofNat_eq_natCast]; omega
      have m1 : bi .add .i64 ((2 * i : Nat) : Int) 1 = ((2 * i + 1 : Nat) : Int) := by rw [hbi, add_i64 (by omega)]; omega
      have n1 : na ((2 * i : Nat) : Int) = 2 * i := by rw [hna]; exact Int.toNat_natCast _
      have n2 : na ((2 * i + 1 : Nat) : Int) = 2 * i + 1 := by rw [hna]; exact Int.toNat_natCast _
      have v1 : cv .u8 (bi .rem .i64 (n (na (Int.ofNat i))) 256) = byt (V16 n) (2 * i) := by
        rw [qi, hbi, rem_i64 (by omega), d.1, hcv]
        have := byt_isBytes (V16 n) 32 (2 * i) (by omega)
        dsimp only
        rw [wrap_u8, Int.emod_eq_of_lt this.1 this.2]
      have v2 : cv .u8 (bi .quo .i64 (n (na (Int.ofNat i))) 256) = byt (V16 n) (2 * i + 1) := by
        rw [qi, hbi, quo_i64 (by omega) (by omega), d.2, hcv]
        have := byt_isBytes (V16 n) 32 (2 * i + 1) (by omega)
        dsimp only
        rw [wrap_u8, Int.emod_eq_of_lt this.1 this.2]
      refine ⟨(by constructor; (try dsimp only [SI.val, SO.val]); (try simp (disch := omega) only [hbi, hna, hcv, Int.ofNat_eq_natCast, add_i64, sub_i64, mul_i64, quo_i64, rem_i64, wrap_i64, wrap_u8, Int.toNat_natCast]); omega), (by constructor; (try dsimp only [SI.val, SO.val]); (try simp (disch := omega) only [hbi, hna, hcv, Int.ofNat_eq_natCast, add_i64, sub_i64, mul_i64, quo_i64, rem_i64, wrap_i64, wrap_u8, Int.toNat_natCast]); omega), (by constructor; (try dsimp only [SI.val, SO.val]); (try simp (disch := omega) only [hbi, hna, hcv, Int.ofNat_eq_natCast, add_i64, sub_i64, mul_i64, quo_i64, rem_i64, wrap_i64, wrap_u8, Int.toNat_natCast]); omega), (by constructor; (try dsimp only [SI.val, SO.val]); (try simp (disch := omega) only [hbi, hna, hcv, Int.ofNat_eq_natCast, add_i64, sub_i64, mul_i64, quo_i64, rem_i64, wrap_i64, wrap_u8, Int.toNat_natCast]); omega), (by constructor; (try dsimp only [SI.val, SO.val]); (try simp (disch := omega) only [hbi, hna, hcv, Int.ofNat_eq_natCast, add_i64, sub_i64, mul_i64, quo_i64, rem_i64, wrap_i64, wrap_u8, Int.toNat_natCast]); omega), (by constructor; (try dsimp only [SI.val, SO.val]); (try simp (disch := omega) only [hbi, hna, hcv, Int.ofNat_eq_natCast, add_i64, sub_i64, mul_i64, quo_i64, rem_i64, wrap_i64, wrap_u8, Int.toNat_natCast]); omega), (by constructor; (try dsimp only [SI.val, SO.val]); (try simp (disch := omega) only [hbi, hna, hcv, Int.ofNat_eq_natCast, add_i64, sub_i64, mul_i64, quo_i64, rem_i64, wrap_i64, wrap_u8, Int.toNat_natCast]); omega), (by constructor; (try dsimp only [SI.val, SO.val]); (try simp (disch := omega) only [hbi, hna, hcv, Int.ofNat_eq_natCast, add_i64, sub_i64, mul_i64, quo_i64, rem_i64, wrap_i64, wrap_u8, Int.toNat_natCast]); omega), ⟨i + 1, by omega⟩, ?_, by show 16 - (i + 1) < 16 - i; omega⟩
      cbv
      refine ⟨fun _ _ => rfl, fun _ _ => rfl, fun k _ => ?_, q4, trivial⟩
      show (if k = na (bi .add .i64 (bi .mul .i64 2 (Int.ofNat i)) 1) then cv .u8 (bi .quo .i64 (n (na (Int.ofNat i))) 256) else if k = na (bi .mul .i64 2 (Int.ofNat i)) then cv .u8 (bi .rem .i64 (n (na (Int.ofNat i))) 256) else FA i k) = FA (i + 1) k
      rw [v1, v2, m, m1, n1, n2, hFA]
      exact fill_two (byt (V16 n)) i k

    · cbv
      have hN : i = 16 := by
        rw [hcm] at h
        have := ltF h
        simp only [Int.ofNat_eq_natCast] at this
        omega
      subst hN
      intro k hk
      rw [hB, hFA]
      exact if_pos hk

theorem ok_qbytes (G : Nat → AV) : Sound Tryd.prog G 42 (qbytesC (fun n => byt (V16 n))) := by
  refine sound_each (n := 27) (rs := [.cell 2 22]) (sc := sc_qbytes.1) mixed Tryd.func42 rfl rfl rfl rfl sc_qbytes.2 ?_
  intro vs cs r h
  unfold qbytesC at h
  split at h
  · rename_i n
    cases h
    exact ⟨by simp, fun hcs hwf => ⟨_, envOK tabOK ( .nil), rfl, walk_qbytes realOps rfl G n ((hcs _ (by simp) : Num16 n)) _ rfl _ rfl _ rfl⟩⟩
  · cases h
def sc_qbelow : { c : SC // strip (body Tryd.f71) = c } := ⟨_, by cbv⟩
theorem walk_qbelow (A : Ops) (hA : A = realOps) (G : Nat → AV) (a : Nat → Int) (b : Nat → Int) (ha : Num16 a) (hb : Num16 b) (R : (Nat → Int) → (Nat → Int) → Bool) (hR : R = below16) (I : DownTo a b → St) (hI : I = fun x => slots 24 [(2, .own (.arr .i64 16 a)), (3, .own (.arr .i64 16 b)), (5, .int .i64 (.sym x.1))]) :
    Walk (mkEnv A tab.1 G [] [(2, .inv (DownTo a b) I fun a => (a.1 + 1).toNat)]) sc_qbelow.1 24 [.tmp 4] [.arr .i64 16 a, .arr .i64 16 b] (.bool (.sym (R a b))) := by
  obtain ⟨bi, cm, un, cv, na, eq⟩ := A
  have hbi : bi = realBin := congrArg Ops.bin hA
  have hcm : cm = realCmp := congrArg Ops.cmp hA
  have hna : na = Int.toNat := congrArg Ops.nat hA
  have hcv : cv = fun k n => k.wrap n := congrArg Ops.cnv hA
  have heq : eq = realEqA := congrArg Ops.eqA hA
  clear hA
  refine ⟨?_⟩
  cbv
  refine ⟨⟨⟨15, by omega, by omega, fun j h1 _ => by simp only [Int.ofNat_eq_natCast] at h1; omega⟩, ?_⟩, fun x _ => ?_⟩
  · subst hI
    cbv
    exact ⟨fun _ _ => rfl, fun _ _ => rfl, trivial⟩
  · subst hI
    cbv
    obtain ⟨x, h1, h2, h3⟩ := x
    refine ⟨fun h => ?_, fun h => ?_⟩
    · cbv
      have hx : 0 ≤ x := by rw [hcm] at h; exact geT h
      obtain ⟨k, rfl⟩ := Int.eq_ofNat_of_zero_le hx
      have hk : k < 16 := by omega
      have h4 : ∀ j, k < j → j < 16 → a j = b j := fun j hj1 hj2 => h3 j (Int.ofNat_lt.2 hj1) hj2
      have qi : na (Int.ofNat k) = k := by rw [hna]; rfl
      have qc : na (k : Int) = k := qi
      refine ⟨(by constructor; (try dsimp only [SI.val, SO.val]); (try simp (disch := omega) only [hbi, hna, hcv, Int.ofNat_eq_natCast, add_i64, sub_i64, mul_i64, quo_i64, rem_i64, wrap_i64, wrap_u8, Int.toNat_natCast]); omega), (by constructor; (try dsimp only [SI.val, SO.val]); (try simp (disch := omega) only [hbi, hna, hcv, Int.ofNat_eq_natCast, add_i64, sub_i64, mul_i64, quo_i64, rem_i64, wrap_i64, wrap_u8, Int.toNat_natCast]); omega), (by constructor; (try dsimp only [SI.val, SO.val]); (try simp (disch := omega) only [hbi, hna, hcv, Int.ofNat_eq_natCast, add_i64, sub_i64, mul_i64, quo_i64, rem_i64, wrap_i64, wrap_u8, Int.toNat_natCast]); omega), (by constructor; (try dsimp only [SI.val, SO.val]); (try simp (disch := omega) only [hbi, hna, hcv, Int.ofNat_eq_natCast, add_i64, sub_i64, mul_i64, quo_i64, rem_i64, wrap_i64, wrap_u8, Int.toNat_natCast]); omega), fun hn => ?_, fun he => ?_⟩
      · cbv
        have hne : a k ≠ b k := by rw [hcm] at hn; have := neT hn; dsimp only [SI.val, SO.val] at this; rw [qc] at this; exact this
        refine ⟨(by constructor; (try dsimp only [SI.val, SO.val]); (try simp (disch := omega) only [hbi, hna, hcv, Int.ofNat_eq_natCast, add_i64, sub_i64, mul_i64, quo_i64, rem_i64, wrap_i64, wrap_u8, Int.toNat_natCast]); omega), (by constructor; (try dsimp only [SI.val, SO.val]); (try simp (disch := omega) only [hbi, hna, hcv, Int.ofNat_eq_natCast, add_i64, sub_i64, mul_i64, quo_i64, rem_i64, wrap_i64, wrap_u8, Int.toNat_natCast]); omega), (by constructor; (try dsimp only [SI.val, SO.val]); (try simp (disch := omega) only [hbi, hna, hcv, Int.ofNat_eq_natCast, add_i64, sub_i64, mul_i64, quo_i64, rem_i64, wrap_i64, wrap_u8, Int.toNat_natCast]); omega), (by constructor; (try dsimp only [SI.val, SO.val]); (try simp (disch := omega) only [hbi, hna, hcv, Int.ofNat_eq_natCast, add_i64, sub_i64, mul_i64, quo_i64, rem_i64, wrap_i64, wrap_u8, Int.toNat_natCast]); omega), ?_⟩
        show cm .lss (a (na (Int.ofNat k))) (b (na (Int.ofNat k))) = R a b
        rw [qi, hcm, hR]
        exact below_at ha hb hk h4 hne
      · cbv
        have hq : a k = b k := by rw [hcm] at he; have := neF he; dsimp only [SI.val, SO.val] at this; rw [qc] at this; exact this
        obtain ⟨y, hy⟩ : ∃ y : Int, y = Int.ofNat k - 1 := ⟨_, rfl⟩
        simp only [Int.ofNat_eq_natCast] at hy
        refine ⟨⟨y, by omega, by omega, fun j hj1 hj2 => ?_⟩, ?_, ?_⟩
        · simp only [Int.ofNat_eq_natCast] at hj1
          by_cases hjk : j = k
          · subst hjk; exact hq
          · exact h4 j (by omega) hj2
        · cbv
          refine ⟨fun _ _ => rfl, fun _ _ => rfl, ?_, trivial⟩
          rw [hy, hbi]
          exact sub_i64 (by simp only [Int.ofNat_eq_natCast]; omega)
        · show (y + 1).toNat < (Int.ofNat k + 1).toNat
          simp only [Int.ofNat_eq_natCast]
          omega
    · cbv
      have hx : x = -1 := by rw [hcm] at h; have := geF h; dsimp only at this; omega
      rw [hR, below_none (fun j hj => h3 j (by simp only [Int.ofNat_eq_natCast]; omega) hj)]

theorem ok_qbelow (G : Nat → AV) : Sound Tryd.prog G 71 (qbelowC below16) := by
  refine sound_each (n := 24) (rs := [.tmp 4]) (sc := sc_qbelow.1) mixed Tryd.func71 rfl rfl rfl rfl sc_qbelow.2 ?_
  intro vs cs r h
  unfold qbelowC at h
  split at h
  · rename_i a b
    cases h
    exact ⟨by simp, fun hcs hwf => ⟨_, envOK tabOK ( .nil), rfl, walk_qbelow realOps rfl G a b ((hcs _ (by simp) : Num16 a)) ((hcs _ (by simp) : Num16 b)) _ rfl _ rfl⟩⟩
  · cases h
end Go.Proofs.YtnfbjfbndnmhmaaDoor
