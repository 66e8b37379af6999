/-
  The document's numbers of bytes modulo L: comparing, the rest of a division.
-/
import Derived.Test.YtbiialpakchjgaaDoorZBase
import Derived.Test.YtbiialpakchjgaaDoorZMA
import Derived.Test.YtbiialpakchjgaaDoorZEB
namespace Go.Proofs.YtbiialpakchjgaaDoor
open Go Go.Proofs Sx
set_option maxRecDepth 100000
set_option maxHeartbeats 4000000
set_option linter.unusedVariables false
set_option linter.unusedSimpArgs false

abbrev Grord : Nat → AV := lookGL [v_rorder]
def gRord (f : Nat → Int) : Nat → AV := fun g => if g = 1 then .arr .u8 32 f else .junk
theorem rorder_byt : ∀ i, i < 32 → v_rorder.2.2.getD i 0 = byt lI i := order_bytes

def sc_below : { c : SC // strip (body Tryd.f41) = c } := ⟨_, by cbv⟩
theorem walk_below (A : Ops) (hA : A = realOps) (r : Nat → Int) (b : Nat → Int) (hr : Dig33 r) (hb : IsBytes 32 b) (R : (Nat → Int) → (Nat → Int) → Bool) (hR : R = below33) (I : LessAt r b → St) (hI : I = fun a => slots 29 [(2, .own (.arr .i64 33 r)), (3, .own (.arr .u8 32 b)), (5, .int .i64 (.sym a.1))]) :
    Walk (mkEnv A tab.1 Grord [] [(4, .inv (LessAt r b) I fun a => (a.1 + 1).toNat)]) sc_below.1 29 [.tmp 4] [.arr .i64 33 r, .arr .u8 32 b] (.bool (.sym (R r b))) := by
  obtain ⟨bi, cm, un, cv, na, eq⟩ := A
  have hbi : bi = realBin := congrArg Ops.bin hA
  have hcm : cm = realCmp := congrArg Ops.cmp hA
  have hna : na = Int.toNat := congrArg Ops.nat hA
  have hcv : cv = fun k n => k.wrap n := congrArg Ops.cnv hA
  have heq : eq = realEqA := congrArg Ops.eqA hA
  clear hA
  have hrb := dig33_bytes hr
  refine ⟨?_⟩
  cbv
  refine ⟨fun h0 => ?_, fun h0 => ?_⟩
  · cbv
    rw [hcm] at h0
    rw [hR, below_top hr hb (neqT h0)]
  · cbv
    have e0 : r 32 = 0 := by rw [hcm] at h0; exact neqF h0
    refine ⟨⟨⟨31, by omega, by omega, fun j _ _ => by omega⟩, ?_⟩, fun a _ => ?_⟩
    · subst hI
      cbv
      exact ⟨fun _ _ => rfl, fun _ _ => rfl, trivial⟩
    · subst hI
      cbv
      obtain ⟨x, h1, h2, h3⟩ := a
      refine ⟨fun h => ?_, fun h => ?_⟩
      · cbv
        have hx : 0 ≤ x := by rw [hcm] at h; exact geqT h
        have hk : x.toNat < 32 := by omega
        have hbx := hb x.toNat hk
        have e1 : na x = x.toNat := by rw [hna]
        have e2 : cv .i64 (b (na x)) = b x.toNat := by rw [hcv, e1]; exact wrap_i64 (by omega)
        refine ⟨⟨by omega⟩, ⟨by rw [e1]; omega⟩, ⟨by omega⟩, ⟨by rw [e1]; omega⟩, fun hn => ?_, fun he => ?_⟩
        · cbv
          have hne : r x.toNat ≠ b x.toNat := by rw [hcm] at hn; have := neqT hn; dsimp only [SI.val, SO.val] at this; rw [e2, e1] at this; exact this
          refine ⟨⟨by omega⟩, ⟨by rw [e1]; omega⟩, ⟨by omega⟩, ⟨by rw [e1]; omega⟩, ?_⟩
          show cm .lss (r (na x)) (cv .i64 (b (na x))) = R r b
          rw [e2, e1, hcm, hR, below_num e0]
          exact lt_at hrb hb hk (fun j (hj1 : x.toNat < j) hj2 => h3 j (by omega) hj2) hne
        · cbv
          have hq : r x.toNat = b x.toNat := by rw [hcm] at he; have := neqF he; dsimp only [SI.val, SO.val] at this; rw [e2, e1] at this; exact this
          obtain ⟨y, hy⟩ : ∃ y : Int, y = x - 1 := ⟨_, rfl⟩
          refine ⟨⟨y, by omega, by omega, fun j hj1 hj2 => ?_⟩, ?_, ?_⟩
          · by_cases hjk : j = x.toNat
            · subst hjk; exact hq
            · exact h3 j (by omega) hj2
          · cbv
            refine ⟨fun _ _ => rfl, fun _ _ => rfl, ?_, trivial⟩
            rw [hy, hbi]
            exact sub_i64 (by omega)
          · show (y + 1).toNat < (x + 1).toNat
            omega
      · cbv
        have hx : x = -1 := by rw [hcm] at h; have := geqF h; dsimp only at this; omega
        rw [hR, below_num e0, lt_none (fun j hj => h3 j (by omega) hj)]

theorem ok_below : Sound Tryd.prog Grord 41 (belowC below33) := by
  refine sound_each (n := 29) (rs := [.tmp 4]) (sc := sc_below.1) mixed Tryd.func41 rfl rfl rfl rfl sc_below.2 ?_
  intro vs cs r h
  unfold belowC at h
  split at h
  · rename_i r b
    cases h
    exact ⟨by simp, fun hcs hwf => ⟨_, envOK tabOK ( .nil), rfl, walk_below realOps rfl r b (hcs _ (by simp)) (isB (hwf _ (by simp))) _ rfl _ rfl⟩⟩
  · cases h
def sc_rest : { c : SC // strip (body Tryd.f25) = c } := ⟨_, by cbv⟩
theorem walk_rest (A : Ops) (hA : A = realOps) (n : Nat) (cap : SO) (b : Nat → Int) (hb : IsBytes n b) (hn : Short n) (BL : (Nat → Int) → (Nat → Int) → Bool) (hBL : BL = below33) (R : Nat → (Nat → Int) → Nat → Int) (hR : R = fun n b => sb (sn n b)) (OF : Nat → Int) (hOF : OF = fun i => v_rorder.2.2.getD i 0) (X0 : Int) (hX0 : -1 ≤ X0 ∧ (X0 + 1).toNat = 8 * n) (YR : Int → Nat → Int) (hYR : YR = fun x => dgt 256 (restR n b (x + 1).toNat)) (YX : Nat → Nat → Int) (hYX : YX = fun i => dgt 256 (restX n b i)) (DA : Nat → Nat → Nat → Int) (hDA : DA = dblA n b) (DC : Nat → Nat → Int) (hDC : DC = dblC n b) (UA : Nat → Nat → Nat → Int) (hUA : UA = subA n b) (UB : Nat → Nat → Int) (hUB : UB = subB n b) (OB : Nat → Int) (hOB : OB = byt (num n b % lI))
    (I : { x : Int // -1 ≤ x ∧ x ≤ X0 } → St) (hI : I = fun x => slots 89 [(0, .xsl .u8 1 (.sym n) cap b), (2, .own (.arr .u8 32 fun _ => 0)), (3, .own (.arr .i64 33 (YR x.1))), (4, .int .i64 (.sym x.1))])
    (J : St → { j : Nat // j ≤ 33 } → St) (hJ : J = fun s j => slots 89 (keepS s [0, 2, 4] ++ [(3, .own (.arr .i64 33 (DA (natIn s 4) j.1))), (5, .int .i64 (.sym (DC (natIn s 4) j.1))), (6, .int .i64 (.sym (j.1 : Int)))]))
    (K : St → { j : Nat // j ≤ 33 } → St) (hK : K = fun s j => slots 89 (keepS s [0, 2, 4] ++ [(3, .own (.arr .i64 33 (UA (natIn s 4) j.1))), (9, .int .i64 (.sym (UB (natIn s 4) j.1))), (10, .int .i64 (.sym (j.1 : Int)))]))
    (I4 : { i : Nat // i ≤ 32 } → St) (hI4 : I4 = fun i => slots 89 [(2, .own (.arr .u8 32 fun _ => 0)), (3, .own (.arr .i64 33 (YR (-1)))), (12, .own (.arr .u8 32 fun j => if j < i.1 then OB j else 0)), (13, .int .i64 (.sym (i.1 : Int)))]) :
    Walk (mkEnv A tab.1 (gRord OF) [(41, belowC BL)] [(3, .inv { x : Int // -1 ≤ x ∧ x ≤ X0 } I fun x => (x.1 + 1).toNat), (7, .invd { j : Nat // j ≤ 33 } J fun j => 33 - j.1), (16, .invd { j : Nat // j ≤ 33 } K fun j => 33 - j.1), (28, .inv { i : Nat // i ≤ 32 } I4 fun i => 32 - i.1)]) sc_rest.1 89 [.cell 2 24] [.xsl .u8 1 (.sym n) cap b] (.arr .u8 32 (R n b)) := by
  obtain ⟨bi, cm, un, cv, na, eq⟩ := A
  have hbi : bi = realBin := congrArg Ops.bin hA
  have hcm : cm = realCmp := congrArg Ops.cmp hA
  have hna : na = Int.toNat := congrArg Ops.nat hA
  have hcv : cv = fun k n => k.wrap n := congrArg Ops.cnv hA
  have heq : eq = realEqA := congrArg Ops.eqA hA
  clear hA
  have hn4 := hn.h
  refine ⟨?_⟩
  cbv
  refine ⟨⟨⟨X0, by omega⟩, ?_⟩, fun x _ => ?_⟩
  · subst hI
    cbv
    refine ⟨fun _ _ => rfl, fun _ _ => rfl, fun k _ => ?_, ?_, trivial⟩
    · show 0 = YR X0 k
      have e : (X0 + 1).toNat = 8 * n := by omega
      rw [hYR]
      show 0 = dgt 256 (restR n b (X0 + 1).toNat) k
      rw [e, rest_zero hb]
      simp [dgt]
    · show bi .sub .i64 (bi .mul .i64 8 (Int.ofNat n)) 1 = X0
      simp (disch := omega) only [hbi, hna, hcv, Int.ofNat_eq_natCast, add_i64, sub_i64, mul_i64, quo_i64, rem_i64, wrap_i64, wrap_u8, Int.toNat_natCast]
      omega
  · subst hI
    obtain ⟨x, hx1, hx2⟩ := x
    cbv
    rcases (by omega : x < 0 ∨ 0 ≤ x) with hx | hx
    · refine ⟨fun h => ?_, fun h => ?_⟩
      · exfalso
        rw [hcm] at h
        have := geqT h
        try dsimp only at this
        omega
      · have hx3 : x = -1 := by omega
        subst hx3
        cbv
        refine ⟨⟨⟨0, by decide⟩, ?_⟩, fun i _ => ?_⟩
        · subst hI4
          cbv
          exact ⟨fun _ _ => rfl, fun _ _ => rfl, fun k _ => (if_neg (Nat.not_lt_zero k)).symm, rfl, trivial⟩
        · subst hI4
          cbv
          obtain ⟨i, hi⟩ := i
          refine ⟨fun h2 => ?_, fun h2 => ?_⟩
          · cbv
            rw [hcm] at h2
            have hlt := lssT h2
            simp only [Int.ofNat_eq_natCast] at hlt
            have qi : na (Int.ofNat i) = i := by rw [hna]; rfl
            have q4 : bi .add .i64 (Int.ofNat i) 1 = Int.ofNat (i + 1) := by rw [hbi, add_i64 (by simp only [Int.ofNat_eq_natCast]; omega)]; rfl
            refine ⟨(by constructor; (try dsimp only [SI.val, SO.val]); (try simp (disch := omega) only [hbi, hna, hcv, Int.ofNat_eq_natCast, add_i64, sub_i64, mul_i64, quo_i64, rem_i64, wrap_i64, wrap_u8, Int.toNat_natCast]); omega), (by constructor; (try dsimp only [SI.val, SO.val]); (try simp (disch := omega) only [hbi, hna, hcv, Int.ofNat_eq_natCast, add_i64, sub_i64, mul_i64, quo_i64, rem_i64, wrap_i64, wrap_u8, Int.toNat_natCast]); omega), (by constructor; (try dsimp only [SI.val, SO.val]); (try simp (disch := omega) only [hbi, hna, hcv, Int.ofNat_eq_natCast, add_i64, sub_i64, mul_i64, quo_i64, rem_i64, wrap_i64, wrap_u8, Int.toNat_natCast]); omega), (by constructor; (try dsimp only [SI.val, SO.val]); (try simp (disch := omega) only [hbi, hna, hcv, Int.ofNat_eq_natCast, add_i64, sub_i64, mul_i64, quo_i64, rem_i64, wrap_i64, wrap_u8, Int.toNat_natCast]); omega), ⟨i + 1, by omega⟩, ?_, by show 32 - (i + 1) < 32 - i; omega⟩
            cbv
            refine ⟨fun _ _ => rfl, fun _ _ => rfl, fun j hj => ?_, q4, trivial⟩
            show (if j = na (Int.ofNat i) then cv .u8 (YR (-1) (na (Int.ofNat i))) else if j < i then OB j else 0) = if j < i + 1 then OB j else 0
            rw [qi, hcv, hYR, hOB]
            by_cases hji : j = i
            · subst hji
              rw [if_pos rfl, if_pos (by omega)]
              show IntKind.wrap .u8 (dgt 256 (restR n b 0) j) = byt (num n b % lI) j
              have hd := dig_range (restR n b 0) j
              rw [wrap_u8, Int.emod_eq_of_lt hd.1 hd.2, rest_all]
              rfl
            · rw [if_neg hji]
              by_cases h2 : j < i
              · rw [if_pos h2, if_pos (by omega)]
              · rw [if_neg h2, if_neg (by omega)]
          · cbv
            have hi32 : i = 32 := by
              rw [hcm] at h2
              have := lssF h2
              simp only [Int.ofNat_eq_natCast] at this
              omega
            subst hi32
            intro j hj
            rw [hR, hOB]
            show (if j < 32 then byt (num n b % lI) j else 0) = sb (sn n b) j
            rw [if_pos hj, sn, sb_zi]
    · obtain ⟨i, rfl⟩ := Int.eq_ofNat_of_zero_le hx
      have hi8 : i < 8 * n := by omega
      refine ⟨fun h => ?_, fun h => ?_⟩
      · cbv
        have e1 : bi .quo .i64 (Int.ofNat i) 8 = ((i / 8 : Nat) : Int) := by rw [hbi]; exact quo_i64 ⟨by simp only [Int.ofNat_eq_natCast]; omega, by simp only [Int.ofNat_eq_natCast]; omega⟩ (by decide)
        have e2 : bi .rem .i64 (Int.ofNat i) 8 = ((i % 8 : Nat) : Int) := by rw [hbi]; exact rem_i64 (by simp only [Int.ofNat_eq_natCast]; omega)
        have e3 : na (bi .quo .i64 (Int.ofNat i) 8) = i / 8 := by rw [e1, hna]; exact Int.toNat_natCast _
        have e4 : cv .u64 (bi .rem .i64 (Int.ofNat i) 8) = ((i % 8 : Nat) : Int) := by rw [e2, hcv]; show IntKind.wrap .u64 _ = _; rw [wrap_u64]; omega
        have hy : (Int.ofNat i + 1).toNat = i + 1 := by simp only [Int.ofNat_eq_natCast]; omega
        refine ⟨⟨by rw [e1]; omega⟩, ⟨by rw [e3]; omega⟩, ⟨by rw [e4]; omega⟩, ⟨⟨0, by decide⟩, ?_⟩, fun j hwf => ?_⟩
        · subst hJ
          cbv
          refine ⟨fun _ _ => rfl, fun _ _ => rfl, fun k _ => ?_, ?_, rfl, trivial⟩
          · show YR (Int.ofNat i) k = DA i 0 k
            rw [hDA, dbl_zero, hYR]
            show dgt 256 (restR n b (Int.ofNat i + 1).toNat) k = _
            rw [hy]
          · show bi .rem .i64 (cv .i64 (bi .shr .u8 (b (na (bi .quo .i64 (Int.ofNat i) 8))) (cv .u64 (bi .rem .i64 (Int.ofNat i) 8)))) 2 = DC i 0
            rw [e3, e2, hDC, dbl_czero, hbi, hcv]
            exact bit_look hb hi8
        · subst hJ
          clear hwf
          obtain ⟨j, hj⟩ := j
          cbv
          have qj : na (Int.ofNat j) = j := by rw [hna]; rfl
          refine ⟨fun h2 => ?_, fun h2 => ?_⟩
          · cbv
            rw [hcm] at h2
            have hlt2 := lssT h2
            simp only [Int.ofNat_eq_natCast] at hlt2
            have hj33 : j < 33 := by omega
            have q4 : bi .add .i64 (Int.ofNat j) 1 = Int.ofNat (j + 1) := by rw [hbi, add_i64 (by simp only [Int.ofNat_eq_natCast]; omega)]; rfl
            have hr1 := dig_range (restR n b (i + 1)) j
            have hr2 := dblC_range (n := n) (b := b) (i := i) j
            have hv : bi .add .i64 (bi .mul .i64 2 (DA i j (na (Int.ofNat j)))) (DC i j) = 2 * dblA n b i j j + dblC n b i j := by
              rw [qj, hDA, hDC, hbi, dbl_at, mul_i64 (by omega), add_i64 (by omega)]
            have st := dbl_step (n := n) (b := b) (i := i) hj33
            rw [dbl_at] at st hv
            refine ⟨(by constructor; (try dsimp only [SI.val, SO.val]); (try simp (disch := omega) only [hbi, hna, hcv, Int.ofNat_eq_natCast, add_i64, sub_i64, mul_i64, quo_i64, rem_i64, wrap_i64, wrap_u8, Int.toNat_natCast]); omega), (by constructor; (try dsimp only [SI.val, SO.val]); (try simp (disch := omega) only [hbi, hna, hcv, Int.ofNat_eq_natCast, add_i64, sub_i64, mul_i64, quo_i64, rem_i64, wrap_i64, wrap_u8, Int.toNat_natCast]); omega), (by constructor; (try dsimp only [SI.val, SO.val]); (try simp (disch := omega) only [hbi, hna, hcv, Int.ofNat_eq_natCast, add_i64, sub_i64, mul_i64, quo_i64, rem_i64, wrap_i64, wrap_u8, Int.toNat_natCast]); omega), (by constructor; (try dsimp only [SI.val, SO.val]); (try simp (disch := omega) only [hbi, hna, hcv, Int.ofNat_eq_natCast, add_i64, sub_i64, mul_i64, quo_i64, rem_i64, wrap_i64, wrap_u8, Int.toNat_natCast]); omega), ⟨j + 1, by omega⟩, ?_, by show 33 - (j + 1) < 33 - j; omega⟩
            cbv
            refine ⟨fun _ _ => rfl, fun _ _ => rfl, fun k hk => ?_, ?_, q4, trivial⟩
            · show (if k = na (Int.ofNat j) then bi .rem .i64 (bi .add .i64 (bi .mul .i64 2 (DA i j (na (Int.ofNat j)))) (DC i j)) 256 else DA i j k) = DA i (j + 1) k
              rw [hv, hbi, rem_i64 (by omega), st.1, qj, hDA]
              exact dbl_upd k
            · show bi .quo .i64 (bi .add .i64 (bi .mul .i64 2 (DA i j (na (Int.ofNat j)))) (DC i j)) 256 = DC i (j + 1)
              rw [hv, hbi, quo_i64 (by omega) (by omega), st.2, hDC]
          · cbv
            have hj33 : j = 33 := by
              rw [hcm] at h2
              have := lssF h2
              simp only [Int.ofNat_eq_natCast] at this
              omega
            subst hj33
            have hda : ∀ k, k < 33 → DA i 33 k = YX i k := by
              intro k hk
              rw [hDA, hYX]
              exact dbl_end hk
            have hbl : BL (DA i 33) OF = decide (restX n b i < lI) := by
              rw [hBL, below_congr (b' := byt lI) hda (fun k hk => by rw [hOF]; exact rorder_byt k hk), hYX]
              exact below_X
            obtain ⟨y, hy⟩ : ∃ y : Int, y = (i : Int) - 1 := ⟨_, rfl⟩
            have hy1 : (y + 1).toNat = i := by omega
            have hy2 : (Int.ofNat i + 1).toNat = i + 1 := by simp only [Int.ofNat_eq_natCast]; omega
            have hy3 : -1 ≤ y ∧ y ≤ X0 := by omega
            refine ⟨?_, fun h3 => ?_, fun h3 => ?_⟩
            · show Dig33 (DA i 33)
              exact ⟨fun k hk => by rw [hda k hk, hYX]; exact dig_range _ k⟩
            · cbv
              have h4 : (!BL (DA i 33) OF) = true := h3
              have hge : lI ≤ restX n b i := by
                rw [hbl] at h4
                simpa using h4
              refine ⟨⟨⟨0, by decide⟩, ?_⟩, fun j hwf => ?_⟩
              · subst hK
                cbv
                refine ⟨fun _ _ => rfl, fun _ _ => rfl, fun k hk => ?_, ?_, rfl, trivial⟩
                · show DA i 33 k = UA i 0 k
                  rw [hda k hk, hYX, hUA, sub_zero]
                · show 0 = UB i 0
                  rw [hUB, sub_bzero]
              · subst hK
                clear hwf
                obtain ⟨j, hj⟩ := j
                cbv
                have qj : na (Int.ofNat j) = j := by rw [hna]; rfl
                refine ⟨fun h2 => ?_, fun h2 => ?_⟩
                · cbv
                  rw [hcm] at h2
                  have hlt2 := lssT h2
                  simp only [Int.ofNat_eq_natCast] at hlt2
                  have hj33 : j < 33 := by omega
                  have q4 : bi .add .i64 (Int.ofNat j) 1 = Int.ofNat (j + 1) := by rw [hbi, add_i64 (by simp only [Int.ofNat_eq_natCast]; omega)]; rfl
                  have hr1 := dig_range (restX n b i) j
                  have hr2 := subB_range (n := n) (b := b) (i := i) j
                  have hr3 := ordD_range j
                  have st := sub_step (n := n) (b := b) (i := i) hj33 rfl
                  refine ⟨(by constructor; (try dsimp only [SI.val, SO.val]); (try simp (disch := omega) only [hbi, hna, hcv, Int.ofNat_eq_natCast, add_i64, sub_i64, mul_i64, quo_i64, rem_i64, wrap_i64, wrap_u8, Int.toNat_natCast]); omega), (by constructor; (try dsimp only [SI.val, SO.val]); (try simp (disch := omega) only [hbi, hna, hcv, Int.ofNat_eq_natCast, add_i64, sub_i64, mul_i64, quo_i64, rem_i64, wrap_i64, wrap_u8, Int.toNat_natCast]); omega), fun h5 => ?_, fun h5 => ?_⟩
                  · cbv
                    have hv : bi .sub .i64 (bi .sub .i64 (UA i j (na (Int.ofNat j))) (UB i j)) (cv .i64 (OF (na (Int.ofNat j)))) = dgt 256 (restX n b i) j - subB n b i j - ordD j := by
                      rw [hcm] at h5
                      have hj32 := lssT h5
                      simp only [Int.ofNat_eq_natCast] at hj32
                      have ho : cv .i64 (OF (na (Int.ofNat j))) = ordD j := by
                        rw [qj, hOF, hcv]
                        show IntKind.wrap .i64 (v_rorder.2.2.getD j 0) = ordD j
                        rw [rorder_byt j (by omega), ordD_byt]
                        exact wrap_i64 (by omega)
                      have hin : realBin .sub .i64 (dgt 256 (restX n b i) j) (subB n b i j) = dgt 256 (restX n b i) j - subB n b i j := sub_i64 (by omega)
                      rw [ho, qj, hUA, hUB, hbi, sub_at, hin, sub_i64 (by omega)]
                    have hj32 : j < 32 := by
                      rw [hcm] at h5
                      have hj32 := lssT h5
                      simp only [Int.ofNat_eq_natCast] at hj32
                      omega
                    refine ⟨(by constructor; (try dsimp only [SI.val, SO.val]); (try simp (disch := omega) only [hbi, hna, hcv, Int.ofNat_eq_natCast, add_i64, sub_i64, mul_i64, quo_i64, rem_i64, wrap_i64, wrap_u8, Int.toNat_natCast]); omega), (by constructor; (try dsimp only [SI.val, SO.val]); (try simp (disch := omega) only [hbi, hna, hcv, Int.ofNat_eq_natCast, add_i64, sub_i64, mul_i64, quo_i64, rem_i64, wrap_i64, wrap_u8, Int.toNat_natCast]); omega), fun h6 => ?_, fun h6 => ?_⟩
                    · cbv
                      have h7 : bi .sub .i64 (bi .sub .i64 (UA i j (na (Int.ofNat j))) (UB i j)) (cv .i64 (OF (na (Int.ofNat j)))) < 0 := by rw [hcm] at h6; exact lssT h6
                      rw [hv] at h7
                      obtain ⟨s1, s2⟩ := st.1 h7
                      refine ⟨(by constructor; (try dsimp only [SI.val, SO.val]); (try simp (disch := omega) only [hbi, hna, hcv, Int.ofNat_eq_natCast, add_i64, sub_i64, mul_i64, quo_i64, rem_i64, wrap_i64, wrap_u8, Int.toNat_natCast]); omega), (by constructor; (try dsimp only [SI.val, SO.val]); (try simp (disch := omega) only [hbi, hna, hcv, Int.ofNat_eq_natCast, add_i64, sub_i64, mul_i64, quo_i64, rem_i64, wrap_i64, wrap_u8, Int.toNat_natCast]); omega), ⟨j + 1, by omega⟩, ?_, by show 33 - (j + 1) < 33 - j; omega⟩
                      cbv
                      refine ⟨fun _ _ => rfl, fun _ _ => rfl, fun k hk => ?_, ?_, q4, trivial⟩
                      · show (if k = na (Int.ofNat j) then bi .add .i64 (bi .sub .i64 (bi .sub .i64 (UA i j (na (Int.ofNat j))) (UB i j)) (cv .i64 (OF (na (Int.ofNat j))))) 256 else UA i j k) = UA i (j + 1) k
                        rw [hv, hbi, add_i64 (by omega), s1, qj, hUA]
                        exact sub_upd k
                      · show 1 = UB i (j + 1)
                        rw [hUB]; exact s2
                    · cbv
                      have h7 : 0 ≤ bi .sub .i64 (bi .sub .i64 (UA i j (na (Int.ofNat j))) (UB i j)) (cv .i64 (OF (na (Int.ofNat j)))) := by rw [hcm] at h6; exact lssF h6
                      rw [hv] at h7
                      obtain ⟨s1, s2⟩ := st.2 h7
                      refine ⟨(by constructor; (try dsimp only [SI.val, SO.val]); (try simp (disch := omega) only [hbi, hna, hcv, Int.ofNat_eq_natCast, add_i64, sub_i64, mul_i64, quo_i64, rem_i64, wrap_i64, wrap_u8, Int.toNat_natCast]); omega), (by constructor; (try dsimp only [SI.val, SO.val]); (try simp (disch := omega) only [hbi, hna, hcv, Int.ofNat_eq_natCast, add_i64, sub_i64, mul_i64, quo_i64, rem_i64, wrap_i64, wrap_u8, Int.toNat_natCast]); omega), ⟨j + 1, by omega⟩, ?_, by show 33 - (j + 1) < 33 - j; omega⟩
                      cbv
                      refine ⟨fun _ _ => rfl, fun _ _ => rfl, fun k hk => ?_, ?_, q4, trivial⟩
                      · show (if k = na (Int.ofNat j) then bi .sub .i64 (bi .sub .i64 (UA i j (na (Int.ofNat j))) (UB i j)) (cv .i64 (OF (na (Int.ofNat j)))) else UA i j k) = UA i (j + 1) k
                        rw [hv, s1, qj, hUA]
                        exact sub_upd k
                      · show 0 = UB i (j + 1)
                        rw [hUB]; exact s2
                  · cbv
                    have hv : bi .sub .i64 (UA i j (na (Int.ofNat j))) (UB i j) = dgt 256 (restX n b i) j - subB n b i j - ordD j := by
                      rw [hcm] at h5
                      have hj32 := lssF h5
                      simp only [Int.ofNat_eq_natCast] at hj32
                      have hj : j = 32 := by omega
                      subst hj
                      rw [qj, hUA, hUB, hbi, sub_at, sub_i64 (by omega), ordD_32, Int.sub_zero]
                    refine ⟨fun h6 => ?_, fun h6 => ?_⟩
                    · cbv
                      have h7 : bi .sub .i64 (UA i j (na (Int.ofNat j))) (UB i j) < 0 := by rw [hcm] at h6; exact lssT h6
                      rw [hv] at h7
                      obtain ⟨s1, s2⟩ := st.1 h7
                      refine ⟨(by constructor; (try dsimp only [SI.val, SO.val]); (try simp (disch := omega) only [hbi, hna, hcv, Int.ofNat_eq_natCast, add_i64, sub_i64, mul_i64, quo_i64, rem_i64, wrap_i64, wrap_u8, Int.toNat_natCast]); omega), (by constructor; (try dsimp only [SI.val, SO.val]); (try simp (disch := omega) only [hbi, hna, hcv, Int.ofNat_eq_natCast, add_i64, sub_i64, mul_i64, quo_i64, rem_i64, wrap_i64, wrap_u8, Int.toNat_natCast]); omega), ⟨j + 1, by omega⟩, ?_, by show 33 - (j + 1) < 33 - j; omega⟩
                      cbv
                      refine ⟨fun _ _ => rfl, fun _ _ => rfl, fun k hk => ?_, ?_, q4, trivial⟩
                      · show (if k = na (Int.ofNat j) then bi .add .i64 (bi .sub .i64 (UA i j (na (Int.ofNat j))) (UB i j)) 256 else UA i j k) = UA i (j + 1) k
                        rw [hv, hbi, add_i64 (by omega), s1, qj, hUA]
                        exact sub_upd k
                      · show 1 = UB i (j + 1)
                        rw [hUB]; exact s2
                    · cbv
                      have h7 : 0 ≤ bi .sub .i64 (UA i j (na (Int.ofNat j))) (UB i j) := by rw [hcm] at h6; exact lssF h6
                      rw [hv] at h7
                      obtain ⟨s1, s2⟩ := st.2 h7
                      refine ⟨(by constructor; (try dsimp only [SI.val, SO.val]); (try simp (disch := omega) only [hbi, hna, hcv, Int.ofNat_eq_natCast, add_i64, sub_i64, mul_i64, quo_i64, rem_i64, wrap_i64, wrap_u8, Int.toNat_natCast]); omega), (by constructor; (try dsimp only [SI.val, SO.val]); (try simp (disch := omega) only [hbi, hna, hcv, Int.ofNat_eq_natCast, add_i64, sub_i64, mul_i64, quo_i64, rem_i64, wrap_i64, wrap_u8, Int.toNat_natCast]); omega), ⟨j + 1, by omega⟩, ?_, by show 33 - (j + 1) < 33 - j; omega⟩
                      cbv
                      refine ⟨fun _ _ => rfl, fun _ _ => rfl, fun k hk => ?_, ?_, q4, trivial⟩
                      · show (if k = na (Int.ofNat j) then bi .sub .i64 (UA i j (na (Int.ofNat j))) (UB i j) else UA i j k) = UA i (j + 1) k
                        rw [hv, s1, qj, hUA]
                        exact sub_upd k
                      · show 0 = UB i (j + 1)
                        rw [hUB]; exact s2
                · cbv
                  have hj33 : j = 33 := by
                    rw [hcm] at h2
                    have := lssF h2
                    simp only [Int.ofNat_eq_natCast] at this
                    omega
                  subst hj33
                  refine ⟨⟨y, hy3.1, hy3.2⟩, ?_, ?_⟩
                  · cbv
                    refine ⟨fun _ _ => rfl, fun _ _ => rfl, fun k hk => ?_, ?_, trivial⟩
                    · show UA i 33 k = YR y k
                      rw [hYR]
                      show UA i 33 k = dgt 256 (restR n b (y + 1).toNat) k
                      rw [hy1]
                      rw [hUA, sub_end hk, rest_sub hge]
                    · show bi .sub .i64 (Int.ofNat i) 1 = y
                      rw [hbi, hy]
                      exact sub_i64 (by simp only [Int.ofNat_eq_natCast]; omega)
                  · show (y + 1).toNat < (Int.ofNat i + 1).toNat
                    rw [hy1, hy2]
                    omega
            · cbv
              have h4 : (!BL (DA i 33) OF) = false := h3
              have hlt : restX n b i < lI := by
                rw [hbl] at h4
                simpa using h4
              refine ⟨⟨y, hy3.1, hy3.2⟩, ?_, ?_⟩
              · cbv
                refine ⟨fun _ _ => rfl, fun _ _ => rfl, fun k hk => ?_, ?_, trivial⟩
                · show DA i 33 k = YR y k
                  rw [hYR]
                  show DA i 33 k = dgt 256 (restR n b (y + 1).toNat) k
                  rw [hy1]
                  rw [hda k hk, hYX, (rest_both).1 hlt]
                · show bi .sub .i64 (Int.ofNat i) 1 = y
                  rw [hbi, hy]
                  exact sub_i64 (by simp only [Int.ofNat_eq_natCast]; omega)
              · show (y + 1).toNat < (Int.ofNat i + 1).toNat
                rw [hy1, hy2]
                omega
      · exfalso
        rw [hcm] at h
        have := geqF h
        try dsimp only at this
        omega

theorem ok_rest : Sound Tryd.prog Grord 25 (restC (fun n b => sb (sn n b))) := by
  refine sound_symx (n := 89) (rs := [.cell 2 24]) (sc := sc_rest.1) mixed Tryd.func25 rfl rfl rfl rfl sc_rest.2 ?_
  intro vs cs r h
  unfold restC at h
  split at h
  · rename_i len cap b
    cases h
    exact ⟨by simp, fun hcs hwf => ⟨_, envOK tabOK ((.cons (ok_below) .nil)), rfl, walk_rest realOps rfl len.val cap b (isX (hwf _ (List.mem_cons_self ..))) (hcs _ (by simp)) _ rfl _ rfl _ rfl (8 * (len.val : Int) - 1) (by omega) _ rfl _ rfl _ rfl _ rfl _ rfl _ rfl _ rfl _ rfl _ rfl _ rfl _ rfl⟩⟩
  · cases h
end Go.Proofs.YtbiialpakchjgaaDoor
