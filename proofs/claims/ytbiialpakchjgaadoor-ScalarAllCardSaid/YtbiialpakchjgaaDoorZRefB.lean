/-
  The document's lists of bytes: sums and products.
-/
import Derived.Test.YtbiialpakchjgaaDoorZRefA
import Derived.Test.YtbiialpakchjgaaDoorZMA
namespace Go.Proofs.YtbiialpakchjgaaDoor
open Go Go.Proofs Sx
set_option maxRecDepth 100000
set_option maxHeartbeats 4000000
set_option linter.unusedVariables false
set_option linter.unusedSimpArgs false

def sc_list : { c : SC // strip (body Tryd.f26) = c } := ⟨_, by cbv⟩
theorem walk_list (A : Ops) (hA : A = realOps) (G : Nat → AV) (a : Nat → Int) (ha : IsBytes 32 a) (L : (Nat → Int) → Nat → Int) (hL : L = fun a => a) (I : { i : Nat // i ≤ 32 } → St) (hI : I = fun i => slots 16 [(1, .own (.arr .u8 32 a)), (3, .osl .u8 1 (.sym i.1) a), (4, .int .i64 (.sym (i.1 : Int)))]) :
    Walk (mkEnv A tab.1 G [] [(3, .inv { i : Nat // i ≤ 32 } I fun i => 32 - i.1)]) sc_list.1 16 [.tmp 2] [.arr .u8 32 a] (.osl .u8 1 (.lit 32) (L a)) := by
  obtain ⟨bi, cm, un, cv, na, eq⟩ := A
  have hbi : bi = realBin := congrArg Ops.bin hA
  have hcm : cm = realCmp := congrArg Ops.cmp hA
  have hna : na = Int.toNat := congrArg Ops.nat hA
  have hcv : cv = fun k n => k.wrap n := congrArg Ops.cnv hA
  have heq : eq = realEqA := congrArg Ops.eqA hA
  clear hA
  refine ⟨?_⟩
  cbv
  refine ⟨⟨⟨0, by decide⟩, ?_⟩, fun i _ => ?_⟩
  · subst hI
    cbv
    exact ⟨fun _ _ => rfl, rfl, trivial⟩
  · subst hI
    obtain ⟨i, hi⟩ := i
    cbv
    refine ⟨fun h => ?_, fun h => ?_⟩
    · cbv
      have hlti : i < 32 := by rw [hcm] at h; have hh := lssT h; simp only [Int.ofNat_eq_natCast] at hh; omega
      have qi : na (Int.ofNat i) = i := by rw [hna]; rfl
      have q4 : bi .add .i64 (Int.ofNat i) 1 = Int.ofNat (i + 1) := by rw [hbi, add_i64 (by simp only [Int.ofNat_eq_natCast]; omega)]; rfl
      refine ⟨(by constructor; (try dsimp only [SI.val, SO.val]); (try simp (disch := omega) only [hbi, hna, hcv, Int.ofNat_eq_natCast, add_i64, sub_i64, mul_i64, quo_i64, rem_i64, wrap_i64, wrap_u8, Int.toNat_natCast]); omega), (by constructor; (try dsimp only [SI.val, SO.val]); (try simp (disch := omega) only [hbi, hna, hcv, Int.ofNat_eq_natCast, add_i64, sub_i64, mul_i64, quo_i64, rem_i64, wrap_i64, wrap_u8, Int.toNat_natCast]); omega), room_one (by omega), ⟨i + 1, by omega⟩, ?_, by show 32 - (i + 1) < 32 - i; omega⟩
      cbv
      refine ⟨fun _ _ => rfl, ⟨choice_add i 1, fun k hk => ?_⟩, q4, trivial⟩
      exact join_one rfl (fun _ _ => rfl) (by show a (na (Int.ofNat i)) = a i; rw [qi]) (len_one i) k hk
    · cbv
      have heqi : i = 32 := by rw [hcm] at h; have hh := lssF h; simp only [Int.ofNat_eq_natCast] at hh; omega
      subst heqi
      refine ⟨rfl, fun k _ => ?_⟩
      rw [hL]

theorem ok_list (G : Nat → AV) : Sound Tryd.prog G 26 (listC (fun a => a)) := by
  refine sound_each (n := 16) (rs := [.tmp 2]) (sc := sc_list.1) mixed Tryd.func26 rfl rfl rfl rfl sc_list.2 ?_
  intro vs cs r h
  unfold listC at h
  split at h
  · rename_i a
    cases h
    exact ⟨by simp, fun hcs hwf => ⟨_, envOK tabOK ( .nil), rfl, walk_list realOps rfl G a (isB (hwf _ (by simp))) _ rfl _ rfl⟩⟩
  · cases h
def sc_refreduce : { c : SC // strip (body Tryd.f11) = c } := ⟨_, by cbv⟩
theorem walk_refreduce (A : Ops) (hA : A = realOps) (a : Nat → Int)  (RS : Nat → (Nat → Int) → Nat → Int) (hRS : RS = fun n b => sb (sn n b)) (R : (Nat → Int) → Nat → Int) (hR : R = fun f => sb (sn 64 f)) (I : { i : Nat // i ≤ 64 } → St) (hI : I = fun i => slots 17 [(1, .own (.arr .u8 64 a)), (2, .own (.arr .u8 32 fun _ => 0)), (3, .osl .u8 1 (.sym i.1) a), (4, .int .i64 (.sym (i.1 : Int)))]) :
    Walk (mkEnv A tab.1 Grord [(25, restC RS)] [(3, .inv { i : Nat // i ≤ 64 } I fun i => 64 - i.1)]) sc_refreduce.1 17 [.cell 2 24] [.arr .u8 64 a] (.arr .u8 32 (R a)) := by
  obtain ⟨bi, cm, un, cv, na, eq⟩ := A
  have hbi : bi = realBin := congrArg Ops.bin hA
  have hcm : cm = realCmp := congrArg Ops.cmp hA
  have hna : na = Int.toNat := congrArg Ops.nat hA
  have hcv : cv = fun k n => k.wrap n := congrArg Ops.cnv hA
  have heq : eq = realEqA := congrArg Ops.eqA hA
  clear hA
  refine ⟨?_⟩
  cbv
  refine ⟨⟨⟨0, by decide⟩, ?_⟩, fun i _ => ?_⟩
  · subst hI
    cbv
    exact ⟨fun _ _ => rfl, fun _ _ => rfl, rfl, trivial⟩
  · subst hI
    obtain ⟨i, hi⟩ := i
    cbv
    refine ⟨fun h => ?_, fun h => ?_⟩
    · cbv
      have hlti : i < 64 := by rw [hcm] at h; have hh := lssT h; simp only [Int.ofNat_eq_natCast] at hh; omega
      have qi : na (Int.ofNat i) = i := by rw [hna]; rfl
      have q4 : bi .add .i64 (Int.ofNat i) 1 = Int.ofNat (i + 1) := by rw [hbi, add_i64 (by simp only [Int.ofNat_eq_natCast]; omega)]; rfl
      refine ⟨(by constructor; (try dsimp only [SI.val, SO.val]); (try simp (disch := omega) only [hbi, hna, hcv, Int.ofNat_eq_natCast, add_i64, sub_i64, mul_i64, quo_i64, rem_i64, wrap_i64, wrap_u8, Int.toNat_natCast]); omega), (by constructor; (try dsimp only [SI.val, SO.val]); (try simp (disch := omega) only [hbi, hna, hcv, Int.ofNat_eq_natCast, add_i64, sub_i64, mul_i64, quo_i64, rem_i64, wrap_i64, wrap_u8, Int.toNat_natCast]); omega), room_one (by omega), ⟨i + 1, by omega⟩, ?_, by show 64 - (i + 1) < 64 - i; omega⟩
      cbv
      refine ⟨fun _ _ => rfl, fun _ _ => rfl, ⟨choice_add i 1, fun k hk => ?_⟩, q4, trivial⟩
      exact join_one rfl (fun _ _ => rfl) (by show a (na (Int.ofNat i)) = a i; rw [qi]) (len_one i) k hk
    · cbv
      have heqi : i = 64 := by rw [hcm] at h; have hh := lssF h; simp only [Int.ofNat_eq_natCast] at hh; omega
      subst heqi
      refine ⟨⟨Nat.le_refl _⟩, ⟨by decide⟩, fun k _ => ?_⟩
      show RS 64 (fun j => a (0 + j)) k = R a k
      rw [zero_off, hR, hRS]

theorem ok_refreduce : Sound Tryd.prog Grord 11 (un64C (fun f => sb (sn 64 f))) := by
  refine sound_each (n := 17) (rs := [.cell 2 24]) (sc := sc_refreduce.1) mixed Tryd.func11 rfl rfl rfl rfl sc_refreduce.2 ?_
  intro vs cs r h
  unfold un64C at h
  split at h
  · rename_i a
    cases h
    exact ⟨by simp, fun hcs hwf => ⟨_, envOK tabOK ((.cons (ok_rest) .nil)), rfl, walk_refreduce realOps rfl a  _ rfl _ rfl _ rfl⟩⟩
  · cases h
def sc_added : { c : SC // strip (body Tryd.f29) = c } := ⟨_, by cbv⟩
theorem walk_added (A : Ops) (hA : A = realOps) (G : Nat → AV) (la : Nat) (ca : SO) (a : Nat → Int) (lb : Nat) (cb : SO) (b : Nat → Int) (ha : IsBytes la a) (hb : IsBytes lb b) (hsa : Short la) (hsb : Short lb) (F : Nat → (Nat → Int) → Nat → (Nat → Int) → Nat → Int) (hF : F = addedF) (L : SO) (hL : L.val = max la lb + 1) (M : Nat) (hM : M = max la lb) (K : Nat → Int) (hK : K = addK la a lb b) (I : { i : Nat // i ≤ M } → St) (hI : I = fun i => slots 58 [(0, .xsl .u8 1 (.sym la) ca a), (1, .xsl .u8 1 (.sym lb) cb b), (5, .osl .u8 1 (.sym i.1) (F la a lb b)), (6, .int .i64 (.sym (K i.1))), (7, .int .i64 (.sym (i.1 : Int)))]) :
    Walk (mkEnv A tab.1 G [] [(4, .inv { i : Nat // i ≤ M } I fun i => M - i.1)]) sc_added.1 58 [.tmp 4] [.xsl .u8 1 (.sym la) ca a, .xsl .u8 1 (.sym lb) cb b] (.osl .u8 1 L (F la a lb b)) := by
  obtain ⟨bi, cm, un, cv, na, eq⟩ := A
  have hbi : bi = realBin := congrArg Ops.bin hA
  have hcm : cm = realCmp := congrArg Ops.cmp hA
  have hna : na = Int.toNat := congrArg Ops.nat hA
  have hcv : cv = fun k n => k.wrap n := congrArg Ops.cnv hA
  have heq : eq = realEqA := congrArg Ops.eqA hA
  clear hA
  have hsa4 := hsa.h
  have hsb4 := hsb.h
  have hM4 : M ≤ 4096 := by rw [hM]; omega
  refine ⟨?_⟩
  cbv
  refine ⟨⟨⟨0, Nat.zero_le _⟩, ?_⟩, fun i _ => ?_⟩
  · subst hI
    cbv
    refine ⟨fun _ _ => rfl, fun _ _ => rfl, ?_, rfl, trivial⟩
    show 0 = K 0
    rw [hK, addK_zero]
  · subst hI
    obtain ⟨i, hi⟩ := i
    cbv
    refine ⟨fun h => ?_, fun h => ?_⟩
    · cbv
      have hor : i < la ∨ i < lb := by
        rw [hcm] at h
        revert h
        try dsimp only [SI.val, SO.val, SB.val]
        cases h1 : realCmp .lss (Int.ofNat i) (Int.ofNat la) with
        | true => intro _; have h2 := lssT h1; simp only [Int.ofNat_eq_natCast] at h2; omega
        | false => intro h3; have h2 := lssT h3; simp only [Int.ofNat_eq_natCast] at h2; omega
      have hiM : i < max la lb := by omega
      have hlti : i < M := by rw [hM]; exact hiM
      have hx := addX_range ha hb i
      have hc := addK_range ha hb i
      have st := added_step (a := a) (b := b) hiM
      have hpos : 0 ≤ addX la a lb b i + addK la a lb b i := by omega
      have qi : na (Int.ofNat i) = i := by rw [hna]; rfl
      have q4 : bi .add .i64 (Int.ofNat i) 1 = Int.ofNat (i + 1) := by rw [hbi, add_i64 (by simp only [Int.ofNat_eq_natCast]; omega)]; rfl
      refine ⟨fun h1 => ?_, fun h1 => ?_⟩
      · cbv
        have g1 : i < la := by rw [hcm] at h1; have hh := lssT h1; simp only [Int.ofNat_eq_natCast] at hh; omega
        have r1 := ha i g1
        have e1 : cv .i64 (a (na (Int.ofNat i))) = a i := by rw [qi, hcv]; exact wrap_i64 (by omega)
        refine ⟨(by constructor; (try dsimp only [SI.val, SO.val]); (try simp (disch := omega) only [hbi, hna, hcv, Int.ofNat_eq_natCast, add_i64, sub_i64, mul_i64, quo_i64, rem_i64, wrap_i64, wrap_u8, Int.toNat_natCast]); omega), ⟨by rw [qi]; show i + 1 ≤ la * 1; omega⟩, fun h2 => ?_, fun h2 => ?_⟩
        · cbv
          have g2 : i < lb := by rw [hcm] at h2; have hh := lssT h2; simp only [Int.ofNat_eq_natCast] at hh; omega
          have r2 := hb i g2
          have e2 : cv .i64 (b (na (Int.ofNat i))) = b i := by rw [qi, hcv]; exact wrap_i64 (by omega)
          refine ⟨(by constructor; (try dsimp only [SI.val, SO.val]); (try simp (disch := omega) only [hbi, hna, hcv, Int.ofNat_eq_natCast, add_i64, sub_i64, mul_i64, quo_i64, rem_i64, wrap_i64, wrap_u8, Int.toNat_natCast]); omega), ⟨by rw [qi]; show i + 1 ≤ lb * 1; omega⟩, ?_⟩
          have hv : bi .add .i64 (bi .add .i64 (K i) (cv .i64 (a (na (Int.ofNat i))))) (cv .i64 (b (na (Int.ofNat i)))) = addX la a lb b i + addK la a lb b i := by
            rw [e1, e2, hK, hbi, add_i64 (a := addK la a lb b i) (by omega), add_i64 (by omega)]
            unfold addX
            rw [if_pos g1, if_pos g2]
            omega
          have hb1 := byte_of (st.1.symm) hpos
          refine ⟨room_one (by omega), ⟨i + 1, by omega⟩, ?_, by show M - (i + 1) < M - i; omega⟩
          cbv
          refine ⟨fun _ _ => rfl, fun _ _ => rfl, ⟨choice_add i 1, fun k hk => ?_⟩, ?_, q4, trivial⟩
          · refine join_one rfl (fun _ _ => rfl) ?_ (len_one i) k hk
            show cv .u8 (bi .rem .i64 (bi .add .i64 (bi .add .i64 (K i) (cv .i64 (a (na (Int.ofNat i))))) (cv .i64 (b (na (Int.ofNat i))))) 256) = F la a lb b i
            rw [hv, hcv, hbi, hF]
            exact hb1
          · show bi .quo .i64 (bi .add .i64 (bi .add .i64 (K i) (cv .i64 (a (na (Int.ofNat i))))) (cv .i64 (b (na (Int.ofNat i))))) 256 = K (i + 1)
            rw [hv, hbi, quo_i64 (by omega) (by omega), st.2, hK]
        · cbv
          have g2 : lb ≤ i := by rw [hcm] at h2; have hh := lssF h2; simp only [Int.ofNat_eq_natCast] at hh; omega
          have hv : bi .add .i64 (K i) (cv .i64 (a (na (Int.ofNat i)))) = addX la a lb b i + addK la a lb b i := by
            rw [e1, hK, hbi, add_i64 (by omega)]
            unfold addX
            rw [if_pos g1, if_neg (by omega)]
            omega
          have hb1 := byte_of (st.1.symm) hpos
          refine ⟨room_one (by omega), ⟨i + 1, by omega⟩, ?_, by show M - (i + 1) < M - i; omega⟩
          cbv
          refine ⟨fun _ _ => rfl, fun _ _ => rfl, ⟨choice_add i 1, fun k hk => ?_⟩, ?_, q4, trivial⟩
          · refine join_one rfl (fun _ _ => rfl) ?_ (len_one i) k hk
            show cv .u8 (bi .rem .i64 (bi .add .i64 (K i) (cv .i64 (a (na (Int.ofNat i))))) 256) = F la a lb b i
            rw [hv, hcv, hbi, hF]
            exact hb1
          · show bi .quo .i64 (bi .add .i64 (K i) (cv .i64 (a (na (Int.ofNat i))))) 256 = K (i + 1)
            rw [hv, hbi, quo_i64 (by omega) (by omega), st.2, hK]
      · cbv
        have g1 : la ≤ i := by rw [hcm] at h1; have hh := lssF h1; simp only [Int.ofNat_eq_natCast] at hh; omega
        have g2 : i < lb := by omega
        have r2 := hb i g2
        have e2 : cv .i64 (b (na (Int.ofNat i))) = b i := by rw [qi, hcv]; exact wrap_i64 (by omega)
        refine ⟨fun h2 => ?_, fun h2 => ?_⟩
        · cbv
          refine ⟨(by constructor; (try dsimp only [SI.val, SO.val]); (try simp (disch := omega) only [hbi, hna, hcv, Int.ofNat_eq_natCast, add_i64, sub_i64, mul_i64, quo_i64, rem_i64, wrap_i64, wrap_u8, Int.toNat_natCast]); omega), ⟨by rw [qi]; show i + 1 ≤ lb * 1; omega⟩, ?_⟩
          have hv : bi .add .i64 (K i) (cv .i64 (b (na (Int.ofNat i)))) = addX la a lb b i + addK la a lb b i := by
            rw [e2, hK, hbi, add_i64 (by omega)]
            unfold addX
            rw [if_neg (by omega), if_pos g2]
            omega
          have hb1 := byte_of (st.1.symm) hpos
          refine ⟨room_one (by omega), ⟨i + 1, by omega⟩, ?_, by show M - (i + 1) < M - i; omega⟩
          cbv
          refine ⟨fun _ _ => rfl, fun _ _ => rfl, ⟨choice_add i 1, fun k hk => ?_⟩, ?_, q4, trivial⟩
          · refine join_one rfl (fun _ _ => rfl) ?_ (len_one i) k hk
            show cv .u8 (bi .rem .i64 (bi .add .i64 (K i) (cv .i64 (b (na (Int.ofNat i))))) 256) = F la a lb b i
            rw [hv, hcv, hbi, hF]
            exact hb1
          · show bi .quo .i64 (bi .add .i64 (K i) (cv .i64 (b (na (Int.ofNat i))))) 256 = K (i + 1)
            rw [hv, hbi, quo_i64 (by omega) (by omega), st.2, hK]
        · exfalso
          rw [hcm] at h2
          have hh := lssF h2
          simp only [Int.ofNat_eq_natCast] at hh
          omega
    · cbv
      have heqi : i = M := by
        have hnot : ¬ i < la ∧ ¬ i < lb := by
          rw [hcm] at h
          revert h
          try dsimp only [SI.val, SO.val, SB.val]
          cases h1 : realCmp .lss (Int.ofNat i) (Int.ofNat la) with
          | true => intro h3; cases h3
          | false =>
            intro h3
            have h2 := lssF h3
            have h4 := lssF h1
            simp only [Int.ofNat_eq_natCast] at h2 h4
            omega
        rw [hM] at hi ⊢
        omega
      subst heqi
      have hl := added_last ha hb
      have hc := addK_range ha hb i
      refine ⟨room_one (by omega), ?_, fun k hk => ?_⟩
      · exact (choice_add i 1).trans (by rw [hM]; exact hL.symm)
      · refine join_one rfl (fun _ _ => rfl) ?_ (len_one i) k hk
        show cv .u8 (K i) = F la a lb b i
        rw [hcv, hK, hF]
        show IntKind.wrap .u8 _ = _
        rw [← hM] at hl
        rw [← hl, wrap_u8]
        omega

theorem ok_added (G : Nat → AV) : Sound Tryd.prog G 29 (addedC addedF) := by
  refine sound_symx (n := 58) (rs := [.tmp 4]) (sc := sc_added.1) mixed Tryd.func29 rfl rfl rfl rfl sc_added.2 ?_
  intro vs cs r h
  unfold addedC at h
  split at h
  · rename_i la ca a lb cb b
    cases h
    exact ⟨by simp, fun hcs hwf => ⟨_, envOK tabOK ( .nil), rfl, walk_added realOps rfl G la.val ca a lb.val cb b (isX (hwf _ (List.mem_cons_self ..))) (isX (hwf _ (List.mem_cons_of_mem _ (List.mem_cons_self ..)))) (hcs _ (by simp)) (hcs _ (by simp)) _ rfl _ (maxSO_val 1 la lb) _ rfl _ rfl _ rfl⟩⟩
  · cases h
def sc_product : { c : SC // strip (body Tryd.f31) = c } := ⟨_, by cbv⟩
theorem walk_product (A : Ops) (hA : A = realOps) (G : Nat → AV) (la : Nat) (ca : SO) (a : Nat → Int) (lb : Nat) (cb : SO) (b : Nat → Int) (ha : IsBytes la a) (hb : IsBytes lb b) (hsa : Short la) (hsb : Short lb) (F : Nat → (Nat → Int) → Nat → (Nat → Int) → Nat → Int) (hF : F = productF) (L : SO) (hL : L.val = la + lb) (N : Nat) (hN : N = la + lb) (K : Nat → Int) (hK : K = colK la a lb b) (V : Nat → Nat → Int) (hV : V = fun k j => colP a lb b k j + colK la a lb b k)
    (I : { i : Nat // i ≤ N } → St) (hI : I = fun i => slots 61 [(0, .xsl .u8 1 (.sym la) ca a), (1, .xsl .u8 1 (.sym lb) cb b), (5, .osl .u8 1 (.sym i.1) (F la a lb b)), (6, .int .i64 (.sym (K i.1))), (7, .int .i64 (.sym (i.1 : Int)))])
    (J : St → { j : Nat // j ≤ la } → St) (hJ : J = fun s j => slots 61 (keepS s [0, 1, 5, 7] ++ [(8, .int .i64 (.sym (V (natIn s 7) j.1))), (9, .int .i64 (.sym (j.1 : Int)))])) :
    Walk (mkEnv A tab.1 G [] [(4, .inv { i : Nat // i ≤ N } I fun i => N - i.1), (8, .invd { j : Nat // j ≤ la } J fun j => la - j.1)]) sc_product.1 61 [.tmp 4] [.xsl .u8 1 (.sym la) ca a, .xsl .u8 1 (.sym lb) cb b] (.osl .u8 1 L (F la a lb b)) := by
  obtain ⟨bi, cm, un, cv, na, eq⟩ := A
  have hbi : bi = realBin := congrArg Ops.bin hA
  have hcm : cm = realCmp := congrArg Ops.cmp hA
  have hna : na = Int.toNat := congrArg Ops.nat hA
  have hcv : cv = fun k n => k.wrap n := congrArg Ops.cnv hA
  have heq : eq = realEqA := congrArg Ops.eqA hA
  clear hA
  have hsa4 := hsa.h
  have hsb4 := hsb.h
  have hN4 : N ≤ 8192 := by rw [hN]; omega
  refine ⟨?_⟩
  cbv
  refine ⟨⟨⟨0, Nat.zero_le _⟩, ?_⟩, fun k _ => ?_⟩
  · subst hI
    cbv
    refine ⟨fun _ _ => rfl, fun _ _ => rfl, ?_, rfl, trivial⟩
    show 0 = K 0
    rw [hK, colK_zero]
  · subst hI
    obtain ⟨k, hk⟩ := k
    cbv
    have qs : bi .add .i64 (Int.ofNat la) (Int.ofNat lb) = Int.ofNat N := by rw [hbi, add_i64 (by simp only [Int.ofNat_eq_natCast]; omega), hN]; rfl
    refine ⟨fun h => ?_, fun h => ?_⟩
    · cbv
      have hltk : k < N := by
        rw [hcm] at h
        have hh := lssT h
        rw [qs] at hh
        simp only [Int.ofNat_eq_natCast] at hh
        omega
      have hlk : k < la + lb := by rw [hN] at hltk; exact hltk
      have hc := colK_range hsa ha hb k
      have qk : na (Int.ofNat k) = k := by rw [hna]; rfl
      have q4 : bi .add .i64 (Int.ofNat k) 1 = Int.ofNat (k + 1) := by rw [hbi, add_i64 (by simp only [Int.ofNat_eq_natCast]; omega)]; rfl
      refine ⟨⟨⟨0, Nat.zero_le _⟩, ?_⟩, fun j hwf => ?_⟩
      · subst hJ
        cbv
        refine ⟨fun _ _ => rfl, fun _ _ => rfl, (by first | exact fun _ _ => rfl | exact ⟨rfl, fun _ _ => rfl⟩), ?_, rfl, trivial⟩
        show K k = V k 0
        rw [hK, hV]
        show _ = colP a lb b k 0 + _
        simp [colP]
      · subst hJ
        clear hwf
        obtain ⟨j, hj⟩ := j
        cbv
        have qj : na (Int.ofNat j) = j := by rw [hna]; rfl
        have q5 : bi .add .i64 (Int.ofNat j) 1 = Int.ofNat (j + 1) := by rw [hbi, add_i64 (by simp only [Int.ofNat_eq_natCast]; omega)]; rfl
        have hr := colP_bound hsa ha hb k hj
        have hVj : V k j = colP a lb b k j + colK la a lb b k := by rw [hV]
        refine ⟨fun h2 => ?_, fun h2 => ?_⟩
        · cbv
          have hand : j < la ∧ j ≤ k := by
            rw [hcm] at h2
            revert h2
            try dsimp only [SI.val, SO.val, SB.val]
            cases h1 : realCmp .lss (Int.ofNat j) (Int.ofNat la) with
            | false => intro h3; cases h3
            | true =>
              intro h3
              have h4 := lssT h1
              have h5 := leqT h3
              simp only [Int.ofNat_eq_natCast] at h4 h5
              omega
          obtain ⟨g1, g2⟩ := hand
          have e0 : bi .sub .i64 (Int.ofNat k) (Int.ofNat j) = Int.ofNat (k - j) := by rw [hbi, sub_i64 (by simp only [Int.ofNat_eq_natCast]; omega)]; simp only [Int.ofNat_eq_natCast]; omega
          have e3 : na (bi .sub .i64 (Int.ofNat k) (Int.ofNat j)) = k - j := by rw [e0, hna]; exact Int.toNat_natCast _
          have r1 := ha j g1
          have e1 : cv .i64 (a (na (Int.ofNat j))) = a j := by rw [qj, hcv]; exact wrap_i64 (by omega)
          refine ⟨fun h3 => ?_, fun h3 => ?_⟩
          · cbv
            have g3 : k - j < lb := by rw [hcm] at h3; have hh := lssT h3; rw [e0] at hh; simp only [Int.ofNat_eq_natCast] at hh; omega
            have r2 := hb (k - j) g3
            have e2 : cv .i64 (b (na (bi .sub .i64 (Int.ofNat k) (Int.ofNat j)))) = b (k - j) := by rw [e3, hcv]; exact wrap_i64 (by omega)
            have r3 := mul_range r1 r2
            refine ⟨(by constructor; (try dsimp only [SI.val, SO.val]); (try simp (disch := omega) only [hbi, hna, hcv, Int.ofNat_eq_natCast, add_i64, sub_i64, mul_i64, quo_i64, rem_i64, wrap_i64, wrap_u8, Int.toNat_natCast]); omega), ⟨by rw [qj]; show j + 1 ≤ la * 1; omega⟩, ⟨by rw [e0]; simp only [Int.ofNat_eq_natCast]; omega⟩, ⟨by rw [e3]; show k - j + 1 ≤ lb * 1; omega⟩, ⟨j + 1, by omega⟩, ?_, by show la - (j + 1) < la - j; omega⟩
            cbv
            refine ⟨fun _ _ => rfl, fun _ _ => rfl, (by first | exact fun _ _ => rfl | exact ⟨rfl, fun _ _ => rfl⟩), ?_, q5, trivial⟩
            show bi .add .i64 (V k j) (bi .mul .i64 (cv .i64 (a (na (Int.ofNat j)))) (cv .i64 (b (na (bi .sub .i64 (Int.ofNat k) (Int.ofNat j)))))) = V k (j + 1)
            rw [e1, e2, hVj, hbi, mul_i64 (by omega), add_i64 (by omega), hV]
            show _ = colP a lb b k j + a j * (if j ≤ k ∧ k - j < lb then b (k - j) else 0) + _
            rw [if_pos ⟨g2, g3⟩]
            omega
          · cbv
            have g3 : lb ≤ k - j := by rw [hcm] at h3; have hh := lssF h3; rw [e0] at hh; simp only [Int.ofNat_eq_natCast] at hh; omega
            refine ⟨⟨j + 1, by omega⟩, ?_, by show la - (j + 1) < la - j; omega⟩
            cbv
            refine ⟨fun _ _ => rfl, fun _ _ => rfl, (by first | exact fun _ _ => rfl | exact ⟨rfl, fun _ _ => rfl⟩), ?_, q5, trivial⟩
            show V k j = V k (j + 1)
            rw [hVj, hV]
            show _ = colP a lb b k j + a j * (if j ≤ k ∧ k - j < lb then b (k - j) else 0) + _
            rw [if_neg (by omega), Int.mul_zero, Int.add_zero]
        · cbv
          have hnot : la ≤ j ∨ k < j := by
            rw [hcm] at h2
            revert h2
            try dsimp only [SI.val, SO.val, SB.val]
            cases h1 : realCmp .lss (Int.ofNat j) (Int.ofNat la) with
            | false => intro _; have h4 := lssF h1; simp only [Int.ofNat_eq_natCast] at h4; omega
            | true => intro h3; have h4 := leqF h3; simp only [Int.ofNat_eq_natCast] at h4; omega
          have hfull : colP a lb b k j = colP a lb b k la := by
            rcases hnot with h3 | h3
            · have : j = la := by omega
              rw [this]
            · rw [colP_past (by omega : k + 1 ≤ j), colP_past (by omega : k + 1 ≤ la)]
          rw [hfull] at hVj hr
          have st := product_step (a := a) (b := b) hlk
          have hb1 := byte_of (st.1.symm) (by omega)
          refine ⟨room_one (by omega), ⟨k + 1, by omega⟩, ?_, by show N - (k + 1) < N - k; omega⟩
          cbv
          refine ⟨fun _ _ => rfl, fun _ _ => rfl, ⟨choice_add k 1, fun n hn => ?_⟩, ?_, q4, trivial⟩
          · refine join_one rfl (fun _ _ => rfl) ?_ (len_one k) n hn
            show cv .u8 (bi .rem .i64 (V k j) 256) = F la a lb b k
            rw [hVj, hcv, hbi, hF]
            exact hb1
          · show bi .quo .i64 (V k j) 256 = K (k + 1)
            rw [hVj, hbi, quo_i64 (by omega) (by omega), st.2, hK]
    · cbv
      have heqk : k = N := by
        rw [hcm] at h
        have hh := lssF h
        rw [qs] at hh
        simp only [Int.ofNat_eq_natCast] at hh
        omega
      subst heqk
      exact ⟨by show k = L.val; rw [hL]; exact hN, fun _ _ => rfl⟩

theorem ok_product (G : Nat → AV) : Sound Tryd.prog G 31 (productC productF) := by
  refine sound_symx (n := 61) (rs := [.tmp 4]) (sc := sc_product.1) mixed Tryd.func31 rfl rfl rfl rfl sc_product.2 ?_
  intro vs cs r h
  unfold productC at h
  split at h
  · rename_i la ca a lb cb b
    cases h
    exact ⟨by simp, fun hcs hwf => ⟨_, envOK tabOK ( .nil), rfl, walk_product realOps rfl G la.val ca a lb.val cb b (isX (hwf _ (List.mem_cons_self ..))) (isX (hwf _ (List.mem_cons_of_mem _ (List.mem_cons_self ..)))) (hcs _ (by simp)) (hcs _ (by simp)) _ rfl _ (sumSO_val la lb) _ rfl _ rfl _ rfl _ rfl _ rfl⟩⟩
  · cases h
end Go.Proofs.YtbiialpakchjgaaDoor
