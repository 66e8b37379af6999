/-
  The document's powers of layer 4.
-/
import Derived.Test.YtnbjbamoddmbhaaDoorZRefND
import Derived.Test.YtnbjbamoddmbhaaDoorZNA
namespace Go.Proofs.YtnbjbamoddmbhaaDoor
open Go Go.Proofs Sx
set_option maxRecDepth 100000
set_option maxHeartbeats 4000000
set_option linter.unusedVariables false
set_option linter.unusedSimpArgs false

def sc_npower : { c : SC // strip (body Tryd.f95) = c } := ⟨_, by cbv⟩
theorem walk_npower (A : Ops) (hA : A = realOps) (a : Nat → Int) (n : Int) (z : Int) (ha : Num17 a) (hp : PwOK n z) (SM : Int → Nat → Int) (hSM : SM = D17) (TM : (Nat → Int) → (Nat → Int) → Nat → Int) (hTM : TM = tmF) (R : (Nat → Int) → Int → Int → Nat → Int) (hR : R = powF) (XP : Nat → Nat → Int) (hXP : XP = pwF a n.toNat z) (IX : Nat → Int) (hIX : IX = fun (k : Nat) => n - 1 - (k : Int)) (I : { k : Nat // k ≤ n.toNat } → St) (hI : I = fun k => slots 33 [(1, .int .i64 (.sym n)), (2, .int .i64 (.sym z)), (3, .own (.arr .i64 17 a)), (6, .own (.arr .i64 17 fun _ => 0)), (7, .own (.arr .i64 17 (XP k.1))), (8, .int .i64 (.sym (IX k.1)))]) :
    Walk (mkEnv A tab.1 G4 [(60, nSmallC SM), (68, nBinC TM)] [(3, .inv { k : Nat // k ≤ n.toNat } I fun k => n.toNat - k.1)]) sc_npower.1 33 [.cell 6 77] [.arr .i64 17 a, .int .i64 (.sym n), .int .i64 (.sym z)] (.arr .i64 17 (R a n z)) := by
  obtain ⟨bi, cm, un, cv, na, eq⟩ := A
  have hbi : bi = realBin := congrArg Ops.bin hA
  have hcm : cm = realCmp := congrArg Ops.cmp hA
  have hna : na = Int.toNat := congrArg Ops.nat hA
  have hcv : cv = fun k n => k.wrap n := congrArg Ops.cnv hA
  have heq : eq = realEqA := congrArg Ops.eqA hA
  clear hA
  have hn := hp.n
  have hz := hp.z
  have n1 : ∀ k, Num17 (XP k) := by intro k; rw [hXP]; exact pwF_num _ _ _ _
  have n2 : ∀ f g, Num17 (TM f g) := by intro f g; rw [hTM]; exact tmF_num _ _
  have x0 : ∀ c, SM 1 c = XP 0 c := by intro c; rw [hSM, hXP]; rfl
  have ix0 : bi .sub .i64 n 1 = IX 0 := by rw [hbi, sub_i64 (by omega), hIX]; dsimp only; omega
  have ixs : ∀ k, k < n.toNat → bi .sub .i64 (IX k) 1 = IX (k + 1) := by
    intro k hk
    rw [hIX, hbi, sub_i64 (by dsimp only; omega)]
    dsimp only
    omega
  have ixc : ∀ k, k ≤ n.toNat → cm .geq (IX k) 0 = decide (k < n.toNat) := by
    intro k hk
    rw [hIX, hcm]
    show decide ((0 : Int) ≤ n - 1 - (k : Int)) = _
    rw [Bool.eq_iff_iff]
    simp only [decide_eq_true_eq]
    omega
  have ixv : ∀ k, k < n.toNat → IX k = ((n.toNat - 1 - k : Nat) : Int) := by intro k hk; rw [hIX]; dsimp only; omega
  have cvv : ∀ k, k < n.toNat → cv .u64 (IX k) = ((n.toNat - 1 - k : Nat) : Int) := by
    intro k hk
    rw [ixv k hk, hcv]
    show IntKind.wrap .u64 _ = _
    rw [wrap_u64]
    omega
  have bqv : ∀ k, k < n.toNat → (match cm .geq (IX k) 8 with | true => true | false => cm .eql (bi .and .i64 (bi .shr .i64 z (cv .u64 (IX k))) 1) 0) = bq z (n.toNat - 1 - k) := by
    intro k hk
    rw [cvv k hk, ixv k hk, hcm]
    generalize hi : n.toNat - 1 - k = i
    have hi2 : i < 255 := by omega
    have e1 : realCmp .geq ((i : Nat) : Int) 8 = decide (8 ≤ i) := by
      show decide ((8 : Int) ≤ (i : Int)) = _
      rw [Bool.eq_iff_iff]
      simp only [decide_eq_true_eq]
      omega
    rw [e1]
    unfold bq
    by_cases h8 : 8 ≤ i
    · rw [decide_eq_true h8]
      rfl
    · rw [decide_eq_false h8, Bool.false_or]
      have hpw : (0 : Int) < 2 ^ i := Int.pow_pos (by decide)
      have hq : 0 ≤ z / 2 ^ i := Int.ediv_nonneg hz.1 (Int.le_of_lt hpw)
      have hq2 : z / 2 ^ i ≤ z := Int.ediv_le_self _ hz.1
      rw [hbi, shr_any .i64 _ _ (by show i ≤ 64; omega), and_bit' (by omega)]
      show (z / 2 ^ i % 2 == 0) = decide (z / 2 ^ i % 2 = 0)
      rw [Bool.eq_iff_iff]
      simp
  have nn : ∀ k, k < n.toNat → NonNeg (cv .u64 (IX k)) := by intro k hk; exact ⟨by rw [cvv k hk]; omega⟩
  have tT : ∀ k, bq z (n.toNat - 1 - k) = true → ∀ c, TM (TM (XP k) (XP k)) a c = XP (k + 1) c := by
    intro k h c
    rw [hTM, hXP]
    simp only [pwF]
    rw [if_pos h]
  have tF : ∀ k, bq z (n.toNat - 1 - k) = false → ∀ c, TM (XP k) (XP k) c = XP (k + 1) c := by
    intro k h c
    rw [hTM, hXP]
    simp only [pwF]
    rw [if_neg (by rw [h]; decide)]
  have te : R a n z = XP n.toNat := by rw [hR, hXP]; rfl
  clear hXP hTM hSM hR hIX
  refine ⟨?_⟩
  cbv
  refine ⟨⟨by decide⟩, ⟨⟨0, Nat.zero_le _⟩, ?_⟩, fun k _ => ?_⟩
  · subst hI
    cbv
    exact ⟨fun _ _ => rfl, fun _ _ => rfl, fun c _ => x0 c, ix0, trivial⟩
  · subst hI
    obtain ⟨k, hk⟩ := k
    have hc := ixc k hk
    cbv
    refine ⟨fun h => ?_, fun h => ?_⟩
    · have hk2 : k < n.toNat := by
        have h' : cm .geq (IX k) 0 = true := h
        rw [hc] at h'
        exact of_decide_eq_true h'
      have hb := bqv k hk2
      cbv
      refine ⟨n1 k, n1 k, fun _ => nn k hk2, fun h2 => ?_, fun h2 => ?_⟩
      · have hl := tT k (hb.symm.trans h2)
        cbv
        refine ⟨n2 _ _, ha, ⟨k + 1, by omega⟩, ?_, by show n.toNat - (k + 1) < n.toNat - k; omega⟩
        cbv
        exact ⟨fun _ _ => rfl, fun _ _ => rfl, fun c _ => hl c, ixs k hk2, trivial⟩
      · have hl := tF k (hb.symm.trans h2)
        cbv
        refine ⟨⟨k + 1, by omega⟩, ?_, by show n.toNat - (k + 1) < n.toNat - k; omega⟩
        cbv
        exact ⟨fun _ _ => rfl, fun _ _ => rfl, fun c _ => hl c, ixs k hk2, trivial⟩
    · have hk2 : k = n.toNat := by
        have h' : cm .geq (IX k) 0 = false := h
        rw [hc] at h'
        have := of_decide_eq_false h'
        omega
      subst hk2
      cbv
      rw [te]
      exact fun _ _ => rfl

theorem ok_npower : Sound Tryd.prog G4 95 (nPowC powF) := by
  refine sound_sym (n := 33) (rs := [.cell 6 77]) (sc := sc_npower.1) mixed Tryd.func95 rfl rfl rfl rfl sc_npower.2 ?_
  intro vs cs r h
  unfold nPowC at h
  split at h
  · rename_i a n z
    cases h
    exact ⟨by simp, fun hcs hwf => ⟨_, envOK tabOK ((.cons (ok_nsmall) (.cons (ok_ntimes) .nil))), rfl, walk_npower realOps rfl a n.val z.val ((hcs _ (by simp) : Num17 a)) ((hcs _ (by simp) : PwOK n.val z.val)) _ rfl _ rfl _ rfl _ rfl _ rfl _ rfl⟩⟩
  · cases h
def sc_ninverse : { c : SC // strip (body Tryd.f72) = c } := ⟨_, by cbv⟩
theorem walk_ninverse (A : Ops) (hA : A = realOps) (a : Nat → Int) (ha : Num17 a) (PW : (Nat → Int) → Int → Int → Nat → Int) (hPW : PW = powF) (R : (Nat → Int) → Nat → Int) (hR : R = invQ)  :
    Walk (mkEnv A tab.1 G4 [(95, nPowC PW)] []) sc_ninverse.1 5 [.cell 2 77] [.arr .i64 17 a] (.arr .i64 17 (R a)) := by
  refine ⟨?_⟩
  cbv
  subst hPW hR
  exact ⟨ha, ⟨by decide, by decide⟩, fun _ _ => rfl⟩
theorem ok_ninverse : Sound Tryd.prog G4 72 (nUnC invQ) := by
  refine sound_each (n := 5) (rs := [.cell 2 77]) (sc := sc_ninverse.1) mixed Tryd.func72 rfl rfl rfl rfl sc_ninverse.2 ?_
  intro vs cs r h
  unfold nUnC at h
  split at h
  · rename_i a
    cases h
    exact ⟨by simp, fun hcs hwf => ⟨_, envOK tabOK ((.cons (ok_npower) .nil)), rfl, walk_ninverse realOps rfl a ((hcs _ (by simp) : Num17 a)) _ rfl _ rfl ⟩⟩
  · cases h
def sc_ncanonical : { c : SC // strip (body Tryd.f67) = c } := ⟨_, by cbv⟩
theorem walk_ncanonical (A : Ops) (hA : A = realOps) (b : Nat → Int) (hb : IsBytes 32 b) (RD : (Nat → Int) → Nat → Int) (hRD : RD = rdF) (WR : (Nat → Int) → Nat → Int) (hWR : WR = wrF) (R : (Nat → Int) → Bool) (hR : R = canB)  :
    Walk (mkEnv A tab.1 G4 [(63, nReadC RD), (74, nWriteC WR)] []) sc_ncanonical.1 8 [.tmp 2] [.arr .u8 32 b] (.bool (.sym (R b))) := by
  obtain ⟨bi, cm, un, cv, na, eq⟩ := A
  have hbi : bi = realBin := congrArg Ops.bin hA
  have hcm : cm = realCmp := congrArg Ops.cmp hA
  have hna : na = Int.toNat := congrArg Ops.nat hA
  have hcv : cv = fun k n => k.wrap n := congrArg Ops.cnv hA
  have heq : eq = realEqA := congrArg Ops.eqA hA
  clear hA
  have n1 : Num17 (RD b) := by rw [hRD]; exact rdF_num b
  have en : eq 32 (WR (RD b)) b = R b := by rw [heq, hWR, hRD, hR]; exact can_ref hb
  clear hRD hWR hR
  refine ⟨?_⟩
  cbv
  exact ⟨n1, en⟩

theorem ok_ncanonical : Sound Tryd.prog G4 67 (n32BC canB) := by
  refine sound_each (n := 8) (rs := [.tmp 2]) (sc := sc_ncanonical.1) mixed Tryd.func67 rfl rfl rfl rfl sc_ncanonical.2 ?_
  intro vs cs r h
  unfold n32BC at h
  split at h
  · rename_i b
    cases h
    exact ⟨by simp, fun hcs hwf => ⟨_, envOK tabOK ((.cons (ok_nread) (.cons (ok_nwritten) .nil))), rfl, walk_ncanonical realOps rfl b (isB (hwf _ (by simp))) _ rfl _ rfl _ rfl ⟩⟩
  · cases h
def sc_nrootm : { c : SC // strip (body Tryd.f96) = c } := ⟨_, by cbv⟩
theorem walk_nrootm (A : Ops) (hA : A = realOps)   (SM : Int → Nat → Int) (hSM : SM = D17) (PW : (Nat → Int) → Int → Int → Nat → Int) (hPW : PW = powF) (R : Nat → Int) (hR : R = powF (D17 2) 253 4)  :
    Walk (mkEnv A tab.1 G4 [(60, nSmallC SM), (95, nPowC PW)] []) sc_nrootm.1 3 [.cell 0 77] [] (.arr .i64 17 R) := by
  obtain ⟨bi, cm, un, cv, na, eq⟩ := A
  have hbi : bi = realBin := congrArg Ops.bin hA
  have hcm : cm = realCmp := congrArg Ops.cmp hA
  have hna : na = Int.toNat := congrArg Ops.nat hA
  have hcv : cv = fun k n => k.wrap n := congrArg Ops.cnv hA
  have heq : eq = realEqA := congrArg Ops.eqA hA
  clear hA
  have n1 : Num17 (SM 2) := by rw [hSM]; exact num17_D17 _
  have en : ∀ i, PW (SM 2) 253 4 i = R i := by intro i; rw [hPW, hSM, hR]
  clear hPW hSM hR
  refine ⟨?_⟩
  cbv
  exact ⟨⟨by decide⟩, n1, ⟨by decide, by decide⟩, fun i _ => en i⟩

theorem ok_nrootm : Sound Tryd.prog G4 96 (nNilC (powF (D17 2) 253 4)) := by
  refine sound_each (n := 3) (rs := [.cell 0 77]) (sc := sc_nrootm.1) mixed Tryd.func96 rfl rfl rfl rfl sc_nrootm.2 ?_
  intro vs cs r h
  unfold nNilC at h
  split at h
  · cases h
    exact ⟨by simp, fun hcs hwf => ⟨_, envOK tabOK ((.cons (ok_nsmall) (.cons (ok_npower) .nil))), rfl, walk_nrootm realOps rfl   _ rfl _ rfl _ rfl ⟩⟩
  · cases h
end Go.Proofs.YtnbjbamoddmbhaaDoor
