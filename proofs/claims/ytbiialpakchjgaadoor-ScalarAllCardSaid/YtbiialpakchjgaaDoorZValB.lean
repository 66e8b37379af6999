/-
  The value of digits, as the document finds it.
-/
import Derived.Test.YtbiialpakchjgaaDoorZRefC
import Derived.Test.YtbiialpakchjgaaDoorZMA
namespace Go.Proofs.YtbiialpakchjgaaDoor
open Go Go.Proofs Sx
set_option maxRecDepth 100000
set_option maxHeartbeats 4000000
set_option linter.unusedVariables false
set_option linter.unusedSimpArgs false

def sc_heap : { c : SC // strip (body Tryd.f43) = c } := ⟨_, by cbv⟩
theorem walk_heap (A : Ops) (hA : A = realOps) (G : Nat → AV) (n : Nat) (ca : SO) (d : Nat → Int) (s : Int) (hd : IsDigs n d) (hn : Upto300 n) (hs : Sgn s) (HL : Nat → (Nat → Int) → Int → Nat) (hHL : HL = heapL) (HB : Nat → (Nat → Int) → Int → Nat → Int) (hHB : HB = heapB) (HS : Nat → Nat → Int) (hHS : HS = heapS d s) (PT : Nat → Nat → Int) (hPT : PT = fun i j => posF (s * d i) * 2 ^ min j (i % 8)) (KC : Nat → Int) (hKC : KC = heapK n d s) (CQ : Nat → Int) (hCQ : CQ = fun p => heapH n d s / 256 ^ p)
    (I : { i : Nat // i ≤ n } → St) (hI : I = fun i => slots 79 [(0, .xsl .i8 1 (.sym n) ca d), (1, .int .i64 (.sym s)), (5, .own (.arr .i64 40 (HS i.1))), (6, .int .i64 (.sym (i.1 : Int)))])
    (J : St → { j : Nat // j ≤ 7 } → St) (hJ : J = fun st j => slots 79 (keepS st [0, 1, 5, 6] ++ [(8, .int .i64 (.sym (PT (natIn st 6) j.1))), (9, .int .i64 (.sym (j.1 : Int)))]))
    (K : { k : Nat // k ≤ 40 } → St) (hK : K = fun k => slots 79 [(5, .own (.arr .i64 40 (HS n))), (10, .osl .u8 1 (.sym k.1) (HB n d s)), (11, .int .i64 (.sym (KC k.1))), (12, .int .i64 (.sym (k.1 : Int)))])
    (K2 : { p : Nat // 40 ≤ p ∧ p ≤ 42 ∧ ∀ q, 40 ≤ q → q < p → heapH n d s / 256 ^ q ≠ 0 } → St) (hK2 : K2 = fun p => slots 79 [(10, .osl .u8 1 (.sym p.1) (HB n d s)), (11, .int .i64 (.sym (CQ p.1)))]) :
    Walk (mkEnv A tab.1 G [] [(3, .inv { i : Nat // i ≤ n } I fun i => n - i.1), (9, .invd { j : Nat // j ≤ 7 } J fun j => 8 - j.1), (16, .inv { k : Nat // k ≤ 40 } K fun k => 40 - k.1), (21, .inv { p : Nat // 40 ≤ p ∧ p ≤ 42 ∧ ∀ q, 40 ≤ q → q < p → heapH n d s / 256 ^ q ≠ 0 } K2 fun p => 42 - p.1)]) sc_heap.1 79 [.tmp 4] [.xsl .i8 1 (.sym n) ca d, .int .i64 (.sym s)] (.osl .u8 1 (.sym (HL n d s)) (HB n d s)) := by
  obtain ⟨bi, cm, un, cv, na, eq⟩ := A
  have hbi : bi = realBin := congrArg Ops.bin hA
  have hcm : cm = realCmp := congrArg Ops.cmp hA
  have hna : na = Int.toNat := congrArg Ops.nat hA
  have hcv : cv = fun k n => k.wrap n := congrArg Ops.cnv hA
  have heq : eq = realEqA := congrArg Ops.eqA hA
  have hun : un = realUn := congrArg Ops.un hA
  clear hA
  have hn3 := hn.h
  refine ⟨?_⟩
  cbv
  refine ⟨⟨⟨0, Nat.zero_le _⟩, ?_⟩, fun i _ => ?_⟩
  · subst hI
    cbv
    refine ⟨fun _ _ => rfl, fun k _ => ?_, rfl, trivial⟩
    show 0 = HS 0 k
    rw [hHS]; rfl
  · subst hI
    obtain ⟨i, hi⟩ := i
    cbv
    refine ⟨fun h => ?_, fun h => ?_⟩
    · cbv
      have hlti : i < n := by
        rw [hcm] at h
        revert h
        try dsimp only [SI.val, SO.val, SB.val]
        cases h1 : realCmp .lss (Int.ofNat i) (Int.ofNat n) with
        | false => intro h3; cases h3
        | true => intro _; have h4 := lssT h1; simp only [Int.ofNat_eq_natCast] at h4; omega
      have qi : na (Int.ofNat i) = i := by rw [hna]; rfl
      have q4 : bi .add .i64 (Int.ofNat i) 1 = Int.ofNat (i + 1) := by rw [hbi, add_i64 (by simp only [Int.ofNat_eq_natCast]; omega)]; rfl
      have hdi := hd i hlti
      have hsr := sgn_range hs hdi
      have e0 : bi .mul .i64 s (cv .i64 (d (na (Int.ofNat i)))) = s * d i := by
        rw [qi, hcv, hbi]
        show realBin .mul .i64 s (IntKind.wrap .i64 (d i)) = s * d i
        rw [wrap_i64 (by omega), mul_i64 (by omega)]
      refine ⟨(by constructor; (try dsimp only [SI.val, SO.val]); (try simp (disch := omega) only [hbi, hna, hcv, Int.ofNat_eq_natCast, add_i64, sub_i64, mul_i64, quo_i64, rem_i64, wrap_i64, wrap_u8, Int.toNat_natCast]); omega), ⟨by rw [qi]; omega⟩, fun g => ?_, fun g => ?_⟩
      · cbv
        have hpos : 0 < s * d i := by rw [hcm] at g; have hh : 0 < bi .mul .i64 s (cv .i64 (d (na (Int.ofNat i)))) := gtrT g; rw [e0] at hh; exact hh
        have hpf : posF (s * d i) = s * d i := if_pos hpos
        have hi8 : i % 8 < 8 := Nat.mod_lt _ (by decide)
        have qm : bi .rem .i64 (Int.ofNat i) 8 = Int.ofNat (i % 8) := by rw [hbi, rem_i64 (by simp only [Int.ofNat_eq_natCast]; omega)]; rfl
        have qd : bi .quo .i64 (Int.ofNat i) 8 = Int.ofNat (i / 8) := by rw [hbi]; exact quo_i64 ⟨by simp only [Int.ofNat_eq_natCast]; omega, by simp only [Int.ofNat_eq_natCast]; omega⟩ (by decide)
        have qn : na (bi .quo .i64 (Int.ofNat i) 8) = i / 8 := by rw [qd, hna]; rfl
        have hpr := part_range hs hdi hi8
        have hrs := heapS_range hs hd (i / 8) i hi
        have hrs2 : 0 ≤ heapS d s i (i / 8) ∧ heapS d s i (i / 8) ≤ 4915200 := by omega
        clear hrs
        refine ⟨⟨⟨0, Nat.zero_le _⟩, ?_⟩, fun j _ => ?_⟩
        · subst hJ
          cbv
          refine ⟨fun _ _ => rfl, fun _ _ => rfl, ?_, rfl, trivial⟩
          show bi .mul .i64 s (cv .i64 (d (na (Int.ofNat i)))) = PT i 0
          rw [e0, hPT]
          show _ = posF (s * d i) * 2 ^ min 0 (i % 8)
          rw [hpf]; simp
        · subst hJ
          obtain ⟨j, hj⟩ := j
          cbv
          have q5 : bi .add .i64 (Int.ofNat j) 1 = Int.ofNat (j + 1) := by rw [hbi, add_i64 (by simp only [Int.ofNat_eq_natCast]; omega)]; rfl
          refine ⟨fun g1 => ?_, fun g1 => ?_⟩
          · cbv
            have hltj : j < i % 8 := by rw [hcm] at g1; have hh := lssT g1; rw [qm] at hh; simp only [Int.ofNat_eq_natCast] at hh; omega
            have hp := two_low (by omega : j < 8)
            have hpp := posF_range hsr
            have hpj := mul_small hpp hp
            refine ⟨⟨j + 1, by omega⟩, ?_, by show 8 - (j + 1) < 8 - j; omega⟩
            cbv
            refine ⟨fun _ _ => rfl, fun _ _ => rfl, ?_, q5, trivial⟩
            show bi .mul .i64 2 (PT i j) = PT i (j + 1)
            rw [hPT, hbi]
            show realBin .mul .i64 2 (posF (s * d i) * 2 ^ min j (i % 8)) = posF (s * d i) * 2 ^ min (j + 1) (i % 8)
            rw [Nat.min_eq_left (by omega : j ≤ i % 8), Nat.min_eq_left (by omega : j + 1 ≤ i % 8), mul_i64 (by omega), Int.pow_succ, Int.mul_comm ((2 : Int) ^ j) 2, Int.mul_left_comm]
          · cbv
            have heqj : i % 8 ≤ j := by rw [hcm] at g1; have hh := lssF g1; rw [qm] at hh; simp only [Int.ofNat_eq_natCast] at hh; omega
            have heqj2 : min j (i % 8) = i % 8 := Nat.min_eq_right heqj
            refine ⟨⟨by rw [qd]; simp only [Int.ofNat_eq_natCast]; omega⟩, ⟨by rw [qn]; omega⟩, ⟨by rw [qd]; simp only [Int.ofNat_eq_natCast]; omega⟩, ⟨by rw [qn]; omega⟩, ⟨i + 1, by omega⟩, ?_, by show n - (i + 1) < n - i; omega⟩
            cbv
            refine ⟨fun _ _ => rfl, fun k _ => ?_, q4, trivial⟩
            show (if k = na (bi .quo .i64 (Int.ofNat i) 8) then bi .add .i64 (HS i (na (bi .quo .i64 (Int.ofNat i) 8))) (PT i j) else HS i k) = HS (i + 1) k
            rw [qn, hHS, hPT, hbi]
            show (if k = i / 8 then realBin .add .i64 (heapS d s i (i / 8)) (posF (s * d i) * 2 ^ min j (i % 8)) else heapS d s i k) = heapS d s i k + (if k = i / 8 then posF (s * d i) * 2 ^ (i % 8) else 0)
            rw [heqj2]
            by_cases hk : k = i / 8
            · subst hk
              rw [if_pos rfl, if_pos rfl, add_i64 (by omega)]
            · rw [if_neg hk, if_neg hk, Int.add_zero]
      · cbv
        have hneg : s * d i ≤ 0 := by rw [hcm] at g; have hh : bi .mul .i64 s (cv .i64 (d (na (Int.ofNat i)))) ≤ 0 := gtrF g; rw [e0] at hh; exact hh
        have hpf : posF (s * d i) = 0 := if_neg (by omega)
        refine ⟨⟨i + 1, by omega⟩, ?_, by show n - (i + 1) < n - i; omega⟩
        cbv
        refine ⟨fun _ _ => rfl, fun k _ => ?_, q4, trivial⟩
        show HS i k = HS (i + 1) k
        rw [hHS]
        show _ = heapS d s i k + (if k = i / 8 then posF (s * d i) * 2 ^ (i % 8) else 0)
        rw [hpf]
        simp
    · cbv
      have heqi : i = n := by
        rw [hcm] at h
        revert h
        try dsimp only [SI.val, SO.val, SB.val]
        cases h1 : realCmp .lss (Int.ofNat i) (Int.ofNat n) with
        | false => intro _; have h4 := lssF h1; simp only [Int.ofNat_eq_natCast] at h4; omega
        | true => intro h3; have h4 := lssT h1; have h5 := lssF h3; simp only [Int.ofNat_eq_natCast] at h4 h5; omega
      subst heqi
      refine ⟨⟨⟨0, by decide⟩, ?_⟩, fun k _ => ?_⟩
      · subst hK
        cbv
        refine ⟨fun _ _ => rfl, ?_, rfl, trivial⟩
        show 0 = KC 0
        rw [hKC, heapK_zero]
      · subst hK
        obtain ⟨k, hk⟩ := k
        cbv
        have qk : na (Int.ofNat k) = k := by rw [hna]; rfl
        have q4 : bi .add .i64 (Int.ofNat k) 1 = Int.ofNat (k + 1) := by rw [hbi, add_i64 (by simp only [Int.ofNat_eq_natCast]; omega)]; rfl
        have hkr := heapK_range hn hs hd k
        refine ⟨fun h => ?_, fun h => ?_⟩
        · cbv
          have hltk : k < 40 := by rw [hcm] at h; have hh := lssT h; simp only [Int.ofNat_eq_natCast] at hh; omega
          have hrs := heapS_range hs hd k i (Nat.le_refl _)
          have hrs2 : 0 ≤ heapS d s i k ∧ heapS d s i k ≤ 4915200 := by omega
          clear hrs
          have st := heap_step (d := d) (s := s) hn hltk
          have hv : bi .add .i64 (HS i (na (Int.ofNat k))) (KC k) = heapS d s i k + heapK i d s k := by rw [qk, hHS, hKC, hbi, add_i64 (by omega)]
          have hb1 := byte_of st.1.symm (by omega)
          refine ⟨(by constructor; (try dsimp only [SI.val, SO.val]); (try simp (disch := omega) only [hbi, hna, hcv, Int.ofNat_eq_natCast, add_i64, sub_i64, mul_i64, quo_i64, rem_i64, wrap_i64, wrap_u8, Int.toNat_natCast]); omega), ⟨by rw [qk]; omega⟩, room_one (by omega), ⟨k + 1, by omega⟩, ?_, by show 40 - (k + 1) < 40 - k; omega⟩
          cbv
          refine ⟨fun _ _ => rfl, ⟨choice_add k 1, fun x hx => ?_⟩, ?_, q4, trivial⟩
          · refine join_one rfl (fun _ _ => rfl) ?_ (len_one k) x hx
            show cv .u8 (bi .rem .i64 (bi .add .i64 (HS i (na (Int.ofNat k))) (KC k)) 256) = HB i d s k
            rw [hv, hcv, hbi, hHB]
            exact hb1
          · show bi .quo .i64 (bi .add .i64 (HS i (na (Int.ofNat k))) (KC k)) 256 = KC (k + 1)
            rw [hv, hbi, quo_i64 (by omega) (by omega), st.2, hKC]
        · cbv
          have heqk : k = 40 := by rw [hcm] at h; have hh := lssF h; simp only [Int.ofNat_eq_natCast] at hh; omega
          subst heqk
          have hH := heapH_nonneg hn hs hd
          have hlast := heapK_last (d := d) (s := s) hn
          rw [hlast] at hkr
          refine ⟨⟨⟨40, by omega, by omega, fun q h1 h2 => by omega⟩, ?_⟩, fun p _ => ?_⟩
          · subst hK2
            cbv
            refine ⟨(by first | exact fun _ _ => rfl | exact ⟨rfl, fun _ _ => rfl⟩), ?_, trivial⟩
            show KC 40 = CQ 40
            rw [hKC, hCQ, hlast]
          · subst hK2
            obtain ⟨p, hp40, hp42, hpb⟩ := p
            have hcr : 0 ≤ heapH i d s / 256 ^ p ∧ heapH i d s / 256 ^ p ≤ 19400 := carry_down hH hkr hp40
            cbv
            refine ⟨fun h => ?_, fun h => ?_⟩
            · cbv
              have hpos : 0 < heapH i d s / 256 ^ p := by rw [hcm] at h; have hh : 0 < CQ p := gtrT h; rw [hCQ] at hh; exact hh
              have hp : p < 42 := carry_more hkr hpos hp40 hp42
              have hb1 : IntKind.wrap .u8 (realBin .rem .i64 (heapH i d s / 256 ^ p) 256) = byt (heapH i d s) p := byte_of rfl hcr.1
              have hnb : ∀ q, 40 ≤ q → q < p + 1 → heapH i d s / 256 ^ q ≠ 0 := by
                intro q h1 h2
                by_cases e : q = p
                · subst e; omega
                · exact hpb q h1 (by omega)
              refine ⟨room_one (by omega), ⟨p + 1, by omega, by omega, hnb⟩, ?_, by show 42 - (p + 1) < 42 - p; omega⟩
              cbv
              refine ⟨⟨choice_add p 1, fun x hx => ?_⟩, ?_, trivial⟩
              · refine join_one rfl (fun _ _ => rfl) ?_ (len_one p) x hx
                show cv .u8 (bi .rem .i64 (CQ p) 256) = HB i d s p
                rw [hCQ, hcv, hbi, hHB]
                exact hb1
              · show bi .quo .i64 (CQ p) 256 = CQ (p + 1)
                rw [hCQ, hbi]
                show realBin .quo .i64 (heapH i d s / 256 ^ p) 256 = heapH i d s / 256 ^ (p + 1)
                rw [quo_i64 (by omega) (by omega), Int.pow_succ, Int.ediv_ediv_of_nonneg (Int.le_of_lt (powB_pos p256 p))]
            · cbv
              have hz : heapH i d s / 256 ^ p = 0 := by
                rw [hcm] at h
                have hh : CQ p ≤ 0 := gtrF h
                rw [hCQ] at hh
                have hh2 : heapH i d s / 256 ^ p ≤ 0 := hh
                omega
              refine ⟨?_, fun _ _ => rfl⟩
              show p = HL i d s
              rw [hHL]
              exact heapL_at hp40 hp42 hpb hz

theorem ok_heap (G : Nat → AV) : Sound Tryd.prog G 43 (heapC heapL heapB) := by
  refine sound_symx (n := 79) (rs := [.tmp 4]) (sc := sc_heap.1) mixed Tryd.func43 rfl rfl rfl rfl sc_heap.2 ?_
  intro vs cs r h
  unfold heapC at h
  split at h
  · rename_i len ca d s
    cases h
    exact ⟨by simp, fun hcs hwf => ⟨_, envOK tabOK ( .nil), rfl, walk_heap realOps rfl G len.val ca d s.val (isX8 (hwf _ (List.mem_cons_self ..))) (hcs _ (by simp)) (hcs _ (by simp)) _ rfl _ rfl _ rfl _ rfl _ rfl _ rfl _ rfl _ rfl _ rfl _ rfl⟩⟩
  · cases h
def sc_rvalue : { c : SC // strip (body Tryd.f38) = c } := ⟨_, by cbv⟩
theorem walk_rvalue (A : Ops) (hA : A = realOps) (n : Nat) (ca : SO) (d : Nat → Int) (hd : IsDigs n d) (HB : Nat → (Nat → Int) → Int → Nat → Int) (hHB : HB = heapB) (RS : Nat → (Nat → Int) → Nat → Int) (hRS : RS = fun n b => sb (sn n b)) (NE : (Nat → Int) → Nat → Int) (hNE : NE = fun f => sb (- se f)) (AD : (Nat → Int) → (Nat → Int) → Nat → Int) (hAD : AD = fun f g => sb (se f + se g)) (HL : Nat → (Nat → Int) → Int → Nat) (hHL : HL = heapL) (VA : Nat → (Nat → Int) → Nat → Int) (hVA : VA = valA) (VE : Nat → Int) (hVE : VE = valErr 2)  :
    Walk (mkEnv A tab.1 Grord [(43, heapC HL HB), (25, restC RS), (15, un32C NE), (13, bin32C AD)] []) sc_rvalue.1 25 [.cell 2 24, .tmp 3] [.xsl .i8 1 (.sym n) ca d] (.tup [.arr .u8 32 (VA n d), .int .i64 (.sym (VE n))]) := by
  obtain ⟨bi, cm, un, cv, na, eq⟩ := A
  have hbi : bi = realBin := congrArg Ops.bin hA
  have hcm : cm = realCmp := congrArg Ops.cmp hA
  have hna : na = Int.toNat := congrArg Ops.nat hA
  have hcv : cv = fun k n => k.wrap n := congrArg Ops.cnv hA
  have heq : eq = realEqA := congrArg Ops.eqA hA
  have hun : un = realUn := congrArg Ops.un hA
  clear hA
  refine ⟨?_⟩
  cbv
  refine ⟨fun h => ?_, fun h => ?_⟩
  · cbv
    have hn : ¬ n ≤ 300 := by rw [hcm] at h; have hh := gtrT h; simp only [Int.ofNat_eq_natCast] at hh; omega
    refine ⟨fun k _ => ?_, ?_, trivial⟩
    · rw [hVA, valA, if_neg hn]
    · show 2 = VE n
      rw [hVE, valErr, if_neg hn]
  · cbv
    have hn : n ≤ 300 := by rw [hcm] at h; have hh := gtrF h; simp only [Int.ofNat_eq_natCast] at hh; omega
    have hu : Upto300 n := ⟨hn⟩
    clear h
    refine ⟨⟨Nat.le_refl _⟩, hu, ⟨.inl rfl⟩, ?_, ⟨Nat.le_refl _⟩, hu, ⟨.inr rfl⟩, ?_, fun k _ => ?_, ?_, trivial⟩
    · show Short (HL n (fun j => d (0 + j)) 1)
      rw [hHL]; exact heapL_short _ _ _
    · show Short (HL n (fun j => d (0 + j)) (-1))
      rw [hHL]; exact heapL_short _ _ _
    · show AD (RS (HL n (fun j => d (0 + j)) 1) (HB n (fun j => d (0 + j)) 1)) (NE (RS (HL n (fun j => d (0 + j)) (-1)) (HB n (fun j => d (0 + j)) (-1)))) k = VA n d k
      rw [zero_off, hHB, hHL, hAD, hRS, hNE, hVA, valA, if_pos hn]
      exact congrFun (value_ref hu hd) k
    · show 0 = VE n
      rw [hVE, valErr, if_pos hn]

theorem ok_rvalue : Sound Tryd.prog Grord 38 (valueC .i64 valA (valErr 2)) := by
  refine sound_symx (n := 25) (rs := [.cell 2 24, .tmp 3]) (sc := sc_rvalue.1) mixed Tryd.func38 rfl rfl rfl rfl sc_rvalue.2 ?_
  intro vs cs r h
  unfold valueC at h
  split at h
  · rename_i len ca d
    cases h
    exact ⟨by simp, fun hcs hwf => ⟨_, envOK tabOK ((.cons (ok_heap Grord) (.cons (ok_rest) (.cons (ok_refneg) (.cons (ok_refadd) .nil))))), rfl, walk_rvalue realOps rfl len.val ca d (isX8 (hwf _ (List.mem_cons_self ..))) _ rfl _ rfl _ rfl _ rfl _ rfl _ rfl _ rfl ⟩⟩
  · cases h
end Go.Proofs.YtbiialpakchjgaaDoor
