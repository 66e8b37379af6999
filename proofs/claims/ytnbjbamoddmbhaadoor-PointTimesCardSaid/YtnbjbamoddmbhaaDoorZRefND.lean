/-
  The document's numbers of layer 4: bits, reading, writing.
-/
import Derived.Test.YtnbjbamoddmbhaaDoorZRefNC
import Derived.Test.YtnbjbamoddmbhaaDoorZMB
namespace Go.Proofs.YtnbjbamoddmbhaaDoor
open Go Go.Proofs Sx
set_option maxRecDepth 100000
set_option maxHeartbeats 4000000
set_option linter.unusedVariables false
set_option linter.unusedSimpArgs false

def sc_nbit : { c : SC // strip (body Tryd.f66) = c } := ⟨_, by cbv⟩
theorem walk_nbit (A : Ops) (hA : A = realOps) (b : Nat → Int) (i : Int) (hb : IsBytes 32 b) (hi : Ix256 i) (R : (Nat → Int) → Int → Int) (hR : R = fun b i => bitN (num 32 b) i.toNat)  :
    Walk (mkEnv A tab.1 G4 [] []) sc_nbit.1 15 [.tmp 4] [.arr .u8 32 b, .int .i64 (.sym i)] (.int .i64 (.sym (R b i))) := by
  obtain ⟨bi, cm, un, cv, na, eq⟩ := A
  have hbi : bi = realBin := congrArg Ops.bin hA
  have hcm : cm = realCmp := congrArg Ops.cmp hA
  have hna : na = Int.toNat := congrArg Ops.nat hA
  have hcv : cv = fun k n => k.wrap n := congrArg Ops.cnv hA
  have heq : eq = realEqA := congrArg Ops.eqA hA
  clear hA
  have h0 := hi.h
  obtain ⟨k, rfl⟩ := Int.eq_ofNat_of_zero_le h0.1
  have hk : k < 256 := by omega
  have e1 : bi .quo .i64 (k : Int) 8 = ((k / 8 : Nat) : Int) := by rw [hbi]; exact quo_i64 ⟨by omega, by omega⟩ (by decide)
  have e2 : na (bi .quo .i64 (k : Int) 8) = k / 8 := by rw [e1, hna]; exact Int.toNat_natCast _
  have e3 : cv .u64 (bi .rem .i64 (k : Int) 8) = ((k % 8 : Nat) : Int) := by rw [hbi, rem_i64 (by omega), hcv]; show IntKind.wrap .u64 _ = _; rw [wrap_u64]; omega
  have hx := hb (k / 8) (by omega)
  have ev : bi .and .i64 (cv .i64 (bi .shr .u8 (b (na (bi .quo .i64 (k : Int) 8))) (cv .u64 (bi .rem .i64 (k : Int) 8)))) 1 = R b (k : Int) := by
    rw [e2, e3, hbi, shr_any .u8 _ _ (by show k % 8 ≤ 8; omega), hcv, hR]
    have hp : (0 : Int) < 2 ^ (k % 8) := Int.pow_pos (by decide)
    have hq : 0 ≤ b (k / 8) / 2 ^ (k % 8) := Int.ediv_nonneg hx.1 (Int.le_of_lt hp)
    have hq2 : b (k / 8) / 2 ^ (k % 8) ≤ b (k / 8) := Int.ediv_le_self _ hx.1
    dsimp only
    rw [wrap_i64 (by omega), and_bit' (by omega), Int.toNat_natCast]
    exact byte_bit hb hk
  have w1 : Within (bi .quo .i64 (k : Int) 8) 32 := ⟨by rw [e1]; omega⟩
  have f1 : FitsIn (na (bi .quo .i64 (k : Int) 8)) 1 32 := ⟨by rw [e2]; omega⟩
  have n1 : NonNeg (cv .u64 (bi .rem .i64 (k : Int) 8)) := ⟨by rw [e3]; omega⟩
  clear hR
  refine ⟨?_⟩
  generalize (k : Int) = ki at *
  cbv
  exact ⟨w1, f1, n1, ev⟩

theorem ok_nbit : Sound Tryd.prog G4 66 (nBitC (fun b i => bitN (num 32 b) i.toNat)) := by
  refine sound_sym (n := 15) (rs := [.tmp 4]) (sc := sc_nbit.1) mixed Tryd.func66 rfl rfl rfl rfl sc_nbit.2 ?_
  intro vs cs r h
  unfold nBitC at h
  split at h
  · rename_i b i
    cases h
    exact ⟨by simp, fun hcs hwf => ⟨_, envOK tabOK ( .nil), rfl, walk_nbit realOps rfl b i.val (isB (hwf _ (by simp))) ((hcs _ (by simp) : Ix256 i.val)) _ rfl ⟩⟩
  · cases h
def sc_nread : { c : SC // strip (body Tryd.f63) = c } := ⟨_, by cbv⟩
theorem walk_nread (A : Ops) (hA : A = realOps) (b : Nat → Int)  (BT : (Nat → Int) → Int → Int) (hBT : BT = fun b i => bitN (num 32 b) i.toNat) (R : (Nat → Int) → Nat → Int) (hR : R = rdF) (RD : Nat → Nat → Int) (hRD : RD = fun i => D17 (num 32 b % 2 ^ i)) (I : { i : Nat // i ≤ 255 } → St) (hI : I = fun i => slots 25 [(1, .own (.arr .u8 32 b)), (2, .own (.arr .i64 17 fun _ => 0)), (3, .own (.arr .i64 17 (RD i.1))), (4, .int .i64 (.sym (i.1 : Int)))]) :
    Walk (mkEnv A tab.1 G4 [(66, nBitC BT)] [(3, .inv { i : Nat // i ≤ 255 } I fun i => 255 - i.1)]) sc_nread.1 25 [.cell 2 77] [.arr .u8 32 b] (.arr .i64 17 (R b)) := by
  obtain ⟨bi, cm, un, cv, na, eq⟩ := A
  have hbi : bi = realBin := congrArg Ops.bin hA
  have hcm : cm = realCmp := congrArg Ops.cmp hA
  have hna : na = Int.toNat := congrArg Ops.nat hA
  have hcv : cv = fun k n => k.wrap n := congrArg Ops.cnv hA
  have heq : eq = realEqA := congrArg Ops.eqA hA
  clear hA
  have z0 : ∀ k, 0 = RD 0 k := by
    intro k
    rw [hRD]
    show 0 = D17 (num 32 b % 2 ^ 0) k
    have : num 32 b % 2 ^ 0 = 0 := by rw [Int.pow_zero]; exact Int.emod_one _
    rw [this]
    unfold D17 dgt
    rw [Int.zero_ediv]
    rfl
  have st : ∀ i k, (if k = i / 15 then RD i (i / 15) + 2 ^ (i % 15) * BT b (Int.ofNat i) else RD i k) = RD (i + 1) k := by
    intro i k
    rw [hRD, hBT]
    exact low_dgt (w := 15) (by decide) (by decide) (num 32 b) i k
  have br : ∀ i : Nat, 0 ≤ BT b (Int.ofNat i) ∧ BT b (Int.ofNat i) ≤ 1 := by intro i; rw [hBT]; exact bitN_range _ _
  have rr : ∀ i k, 0 ≤ RD i k ∧ RD i k < 32768 := by intro i k; rw [hRD]; exact D17_range _ _
  have en : ∀ k, RD 255 k = R b k := by intro k; rw [hRD, hR]; rfl
  clear hRD hR hBT
  refine ⟨?_⟩
  cbv
  refine ⟨⟨⟨0, by decide⟩, ?_⟩, fun i _ => ?_⟩
  · subst hI
    cbv
    exact ⟨fun _ _ => rfl, fun _ _ => rfl, fun k _ => z0 k, rfl, trivial⟩
  · subst hI
    obtain ⟨i, hi⟩ := i
    cbv
    refine ⟨fun h => ?_, fun h => ?_⟩
    · have hlt : i < 255 := by
        have h' : cm .lss (Int.ofNat i) 255 = true := h
        rw [hcm] at h'
        have := of_decide_eq_true h'
        simp only [Int.ofNat_eq_natCast] at this
        omega
      have pi : bi .add .i64 (Int.ofNat i) 1 = Int.ofNat (i + 1) := by rw [hbi, add_i64 (by simp only [Int.ofNat_eq_natCast]; omega)]; rfl
      have aq : bi .quo .i64 (Int.ofNat i) 15 = Int.ofNat (i / 15) := by rw [hbi]; exact quo_i64 ⟨by simp only [Int.ofNat_eq_natCast]; omega, by simp only [Int.ofNat_eq_natCast]; omega⟩ (by decide)
      have bq : na (bi .quo .i64 (Int.ofNat i) 15) = i / 15 := by rw [aq, hna]; rfl
      have cq : cv .u64 (bi .rem .i64 (Int.ofNat i) 15) = ((i % 15 : Nat) : Int) := by rw [hbi, rem_i64 (by simp only [Int.ofNat_eq_natCast]; omega), hcv]; show IntKind.wrap .u64 _ = _; rw [wrap_u64]; simp only [Int.ofNat_eq_natCast]; omega
      have wq : Within (bi .quo .i64 (Int.ofNat i) 15) 17 := ⟨by rw [aq]; constructor <;> simp only [Int.ofNat_eq_natCast] <;> omega⟩
      have fq : FitsIn (na (bi .quo .i64 (Int.ofNat i) 15)) 1 17 := ⟨by rw [bq]; omega⟩
      have nq : NonNeg (cv .u64 (bi .rem .i64 (Int.ofNat i) 15)) := ⟨by rw [cq]; omega⟩
      have ix : Ix256 (Int.ofNat i) := ⟨by constructor <;> simp only [Int.ofNat_eq_natCast] <;> omega⟩
      have hb1 := br i
      have hr1 := rr i (i / 15)
      have hr2 := rr (i + 1) (i / 15)
      have hs := st i (i / 15)
      rw [if_pos rfl] at hs
      have v : bi .add .i64 (RD i (na (bi .quo .i64 (Int.ofNat i) 15))) (bi .shl .i64 (BT b (Int.ofNat i)) (cv .u64 (bi .rem .i64 (Int.ofNat i) 15))) = RD i (i / 15) + 2 ^ (i % 15) * BT b (Int.ofNat i) := by
        rw [bq, cq, hbi, shl_bit hb1 (by omega), add_i64 (by rw [hs]; omega)]
      cbv
      refine ⟨wq, fq, ix, nq, wq, fq, ⟨i + 1, by omega⟩, ?_, by show 255 - (i + 1) < 255 - i; omega⟩
      cbv
      refine ⟨fun _ _ => rfl, fun _ _ => rfl, fun k _ => ?_, pi, trivial⟩
      show (if k = na (bi .quo .i64 (Int.ofNat i) 15) then bi .add .i64 (RD i (na (bi .quo .i64 (Int.ofNat i) 15))) (bi .shl .i64 (BT b (Int.ofNat i)) (cv .u64 (bi .rem .i64 (Int.ofNat i) 15))) else RD i k) = RD (i + 1) k
      rw [v, bq]
      exact st i k
    · have hN : i = 255 := by
        have h' : cm .lss (Int.ofNat i) 255 = false := h
        rw [hcm] at h'
        have := of_decide_eq_false h'
        simp only [Int.ofNat_eq_natCast] at this
        omega
      subst hN
      cbv
      exact fun k _ => en k

theorem ok_nread : Sound Tryd.prog G4 63 (nReadC rdF) := by
  refine sound_each (n := 25) (rs := [.cell 2 77]) (sc := sc_nread.1) mixed Tryd.func63 rfl rfl rfl rfl sc_nread.2 ?_
  intro vs cs r h
  unfold nReadC at h
  split at h
  · rename_i b
    cases h
    exact ⟨by simp, fun hcs hwf => ⟨_, envOK tabOK ((.cons (ok_nbit) .nil)), rfl, walk_nread realOps rfl b  _ rfl _ rfl _ rfl _ rfl⟩⟩
  · cases h
def sc_nwritten : { c : SC // strip (body Tryd.f74) = c } := ⟨_, by cbv⟩
theorem walk_nwritten (A : Ops) (hA : A = realOps) (a : Nat → Int) (ha : Num17 a) (LE : (Nat → Int) → Nat → Int) (hLE : LE = fun a => rb (rz a)) (R : (Nat → Int) → Nat → Int) (hR : R = wrF) (XV : Int) (hXV : XV = ((rz a).val : Int)) (WD : Nat → Nat → Int) (hWD : WD = fun i => dgt 256 (XV % 2 ^ i)) (I : { i : Nat // i ≤ 255 } → St) (hI : I = fun i => slots 34 [(1, .own (.arr .i64 17 (LE a))), (2, .own (.arr .u8 32 fun _ => 0)), (3, .own (.arr .u8 32 (WD i.1))), (4, .int .i64 (.sym (i.1 : Int)))]) :
    Walk (mkEnv A tab.1 G4 [(73, nUnC LE)] [(4, .inv { i : Nat // i ≤ 255 } I fun i => 255 - i.1)]) sc_nwritten.1 34 [.cell 2 23] [.arr .i64 17 a] (.arr .u8 32 (R a)) := by
  obtain ⟨bi, cm, un, cv, na, eq⟩ := A
  have hbi : bi = realBin := congrArg Ops.bin hA
  have hcm : cm = realCmp := congrArg Ops.cmp hA
  have hna : na = Int.toNat := congrArg Ops.nat hA
  have hcv : cv = fun k n => k.wrap n := congrArg Ops.cnv hA
  have heq : eq = realEqA := congrArg Ops.eqA hA
  clear hA
  have z0 : ∀ k, 0 = WD 0 k := by
    intro k
    rw [hWD]
    show 0 = dgt 256 (XV % 2 ^ 0) k
    have : XV % 2 ^ 0 = 0 := by rw [Int.pow_zero]; exact Int.emod_one _
    rw [this]
    unfold dgt
    rw [Int.zero_ediv]
    rfl
  have st : ∀ i k, (if k = i / 8 then WD i (i / 8) + 2 ^ (i % 8) * bitN XV i else WD i k) = WD (i + 1) k := by
    intro i k
    rw [hWD]
    exact low_dgt (w := 8) (by decide) (by decide) XV i k
  have rr : ∀ i k, 0 ≤ WD i k ∧ WD i k < 256 := by intro i k; rw [hWD]; exact dgt_isDig (by decide) _ (k + 1) k (by omega)
  have lr : ∀ k, 0 ≤ LE a k ∧ LE a k < 32768 := by intro k; rw [hLE]; exact D17_range _ k
  have lb : ∀ i, LE a (i / 15) / 2 ^ (i % 15) % 2 = bitN XV i := by intro i; rw [hLE, hXV]; exact dgt_bit (w := 15) (by decide) (by decide) _ i
  have br : ∀ i, 0 ≤ bitN XV i ∧ bitN XV i ≤ 1 := bitN_range XV
  have en : ∀ k, WD 255 k = R a k := by
    intro k
    have hz := zval_bounds (rz a)
    have e : XV % 2 ^ 255 = XV := by
      rw [hXV]
      refine Int.emod_eq_of_lt hz.1 (Int.lt_trans hz.2 (by decide))
    rw [hWD]
    dsimp only
    rw [e, hR, hXV]
    rfl
  clear hWD hR hLE hXV
  refine ⟨?_⟩
  cbv
  refine ⟨ha, ⟨⟨0, by decide⟩, ?_⟩, fun i _ => ?_⟩
  · subst hI
    cbv
    exact ⟨fun _ _ => rfl, fun _ _ => rfl, fun k _ => z0 k, rfl, trivial⟩
  · subst hI
    obtain ⟨i, hi⟩ := i
    cbv
    refine ⟨fun h => ?_, fun h => ?_⟩
    · have hlt : i < 255 := by
        have h' : cm .lss (Int.ofNat i) 255 = true := h
        rw [hcm] at h'
        have := of_decide_eq_true h'
        simp only [Int.ofNat_eq_natCast] at this
        omega
      have pi : bi .add .i64 (Int.ofNat i) 1 = Int.ofNat (i + 1) := by rw [hbi, add_i64 (by simp only [Int.ofNat_eq_natCast]; omega)]; rfl
      have aq : bi .quo .i64 (Int.ofNat i) 15 = Int.ofNat (i / 15) := by rw [hbi]; exact quo_i64 ⟨by simp only [Int.ofNat_eq_natCast]; omega, by simp only [Int.ofNat_eq_natCast]; omega⟩ (by decide)
      have bq : na (bi .quo .i64 (Int.ofNat i) 15) = i / 15 := by rw [aq, hna]; rfl
      have cq : cv .u64 (bi .rem .i64 (Int.ofNat i) 15) = ((i % 15 : Nat) : Int) := by rw [hbi, rem_i64 (by simp only [Int.ofNat_eq_natCast]; omega), hcv]; show IntKind.wrap .u64 _ = _; rw [wrap_u64]; simp only [Int.ofNat_eq_natCast]; omega
      have wq : Within (bi .quo .i64 (Int.ofNat i) 15) 17 := ⟨by rw [aq]; constructor <;> simp only [Int.ofNat_eq_natCast] <;> omega⟩
      have fq : FitsIn (na (bi .quo .i64 (Int.ofNat i) 15)) 1 17 := ⟨by rw [bq]; omega⟩
      have nq : NonNeg (cv .u64 (bi .rem .i64 (Int.ofNat i) 15)) := ⟨by rw [cq]; omega⟩
      have ae : bi .quo .i64 (Int.ofNat i) 8 = Int.ofNat (i / 8) := by rw [hbi]; exact quo_i64 ⟨by simp only [Int.ofNat_eq_natCast]; omega, by simp only [Int.ofNat_eq_natCast]; omega⟩ (by decide)
      have be : na (bi .quo .i64 (Int.ofNat i) 8) = i / 8 := by rw [ae, hna]; rfl
      have ce : cv .u64 (bi .rem .i64 (Int.ofNat i) 8) = ((i % 8 : Nat) : Int) := by rw [hbi, rem_i64 (by simp only [Int.ofNat_eq_natCast]; omega), hcv]; show IntKind.wrap .u64 _ = _; rw [wrap_u64]; simp only [Int.ofNat_eq_natCast]; omega
      have we : Within (bi .quo .i64 (Int.ofNat i) 8) 32 := ⟨by rw [ae]; constructor <;> simp only [Int.ofNat_eq_natCast] <;> omega⟩
      have fe : FitsIn (na (bi .quo .i64 (Int.ofNat i) 8)) 1 32 := ⟨by rw [be]; omega⟩
      have ne : NonNeg (cv .u64 (bi .rem .i64 (Int.ofNat i) 8)) := ⟨by rw [ce]; omega⟩
      have hb1 := br i
      have hl := lr (i / 15)
      have hr1 := rr i (i / 8)
      have hr2 := rr (i + 1) (i / 8)
      have hs := st i (i / 8)
      rw [if_pos rfl] at hs
      have t : bi .and .i64 (bi .shr .i64 (LE a (na (bi .quo .i64 (Int.ofNat i) 15))) (cv .u64 (bi .rem .i64 (Int.ofNat i) 15))) 1 = bitN XV i := by
        have hp : (0 : Int) < 2 ^ (i % 15) := Int.pow_pos (by decide)
        have hq : 0 ≤ LE a (i / 15) / 2 ^ (i % 15) := Int.ediv_nonneg hl.1 (Int.le_of_lt hp)
        have hq2 : LE a (i / 15) / 2 ^ (i % 15) ≤ LE a (i / 15) := Int.ediv_le_self _ hl.1
        rw [bq, cq, hbi, shr_any .i64 _ _ (by show i % 15 ≤ 64; omega), and_bit15' (by omega)]
        exact lb i
      have v : bi .add .u8 (WD i (na (bi .quo .i64 (Int.ofNat i) 8))) (bi .shl .u8 (cv .u8 (bi .and .i64 (bi .shr .i64 (LE a (na (bi .quo .i64 (Int.ofNat i) 15))) (cv .u64 (bi .rem .i64 (Int.ofNat i) 15))) 1)) (cv .u64 (bi .rem .i64 (Int.ofNat i) 8))) = WD i (i / 8) + 2 ^ (i % 8) * bitN XV i := by
        have c8 : cv .u8 (bitN XV i) = bitN XV i := by rw [hcv]; show IntKind.wrap .u8 _ = _; rw [wrap_u8]; omega
        rw [t, c8, be, ce, hbi, shl_bit8 hb1 (by omega)]
        show IntKind.wrap .u8 (WD i (i / 8) + 2 ^ (i % 8) * bitN XV i) = _
        rw [hs, wrap_u8]
        omega
      cbv
      refine ⟨we, fe, wq, fq, nq, ne, we, fe, ⟨i + 1, by omega⟩, ?_, by show 255 - (i + 1) < 255 - i; omega⟩
      cbv
      refine ⟨fun _ _ => rfl, fun _ _ => rfl, fun k _ => ?_, pi, trivial⟩
      show (if k = na (bi .quo .i64 (Int.ofNat i) 8) then bi .add .u8 (WD i (na (bi .quo .i64 (Int.ofNat i) 8))) (bi .shl .u8 (cv .u8 (bi .and .i64 (bi .shr .i64 (LE a (na (bi .quo .i64 (Int.ofNat i) 15))) (cv .u64 (bi .rem .i64 (Int.ofNat i) 15))) 1)) (cv .u64 (bi .rem .i64 (Int.ofNat i) 8))) else WD i k) = WD (i + 1) k
      rw [v, be]
      exact st i k
    · have hN : i = 255 := by
        have h' : cm .lss (Int.ofNat i) 255 = false := h
        rw [hcm] at h'
        have := of_decide_eq_false h'
        simp only [Int.ofNat_eq_natCast] at this
        omega
      subst hN
      cbv
      exact fun k _ => en k

theorem ok_nwritten : Sound Tryd.prog G4 74 (nWriteC wrF) := by
  refine sound_each (n := 34) (rs := [.cell 2 23]) (sc := sc_nwritten.1) mixed Tryd.func74 rfl rfl rfl rfl sc_nwritten.2 ?_
  intro vs cs r h
  unfold nWriteC at h
  split at h
  · rename_i a
    cases h
    exact ⟨by simp, fun hcs hwf => ⟨_, envOK tabOK ((.cons (ok_nleast) .nil)), rfl, walk_nwritten realOps rfl a ((hcs _ (by simp) : Num17 a)) _ rfl _ rfl _ rfl _ rfl _ rfl⟩⟩
  · cases h
end Go.Proofs.YtnbjbamoddmbhaaDoor
