/-
  Each operation keeps what the slots' descriptions say.
-/
import Derived.Test.YtnfbjfbndnmhmaaSxC
namespace Sx
open Go Go.RowKit

/-- An operation carried out from here leads to T, whatever follows. -/
def Does (P : Program) (o : Oper) (a : Act) (w : World) (T : Act → World → Prop) : Prop :=
  ∀ (K : Act → World → Prop) (Q : Exit → Act → World → Prop), (∀ a' w', T a' w' → K a' w') → o.wp P a w K Q

theorem does_value {P : Program} {o : Oper} {a : Act} {w w' : World} {v : Value} {T : Act → World → Prop} (h : (execOp a.eval o).run P w = .ok (.value v) w') (hT : T (a.put o.dst v) w') : Does P o a w T := by
  intro K Q hK
  unfold Oper.wp
  rw [h]
  exact hK _ _ hT
theorem does_skip {P : Program} {o : Oper} {a : Act} {w w' : World} {T : Act → World → Prop} (h : (execOp a.eval o).run P w = .ok .skip w') (hT : T (a.put o.dst undef) w') : Does P o a w T := by
  intro K Q hK
  unfold Oper.wp
  rw [h]
  exact hK _ _ hT
theorem does_call {P : Program} {o : Oper} {a : Act} {w w' : World} {f : FuncId} {args : Array Value} {T : Act → World → Prop} {R : Ending → World → Prop}
    (h : (execOp a.eval o).run P w = .ok (.enter f args) w') (hc : Calls P f args w' R) (hT : ∀ e w'', R e w'' → ∃ v, e = .returned v ∧ T (a.put o.dst v) w'') : Does P o a w T := by
  intro K Q hK
  unfold Oper.wp
  rw [h]
  refine Calls.mono hc fun e w'' hR => ?_
  obtain ⟨v, rfl, ht⟩ := hT e w'' hR
  exact hK _ _ ht
theorem Does.mono {P : Program} {o : Oper} {a : Act} {w : World} {T T' : Act → World → Prop} (h : Does P o a w T) (hT : ∀ a' w', T a' w' → T' a' w') : Does P o a w T' :=
  fun K Q hK => h K Q fun a' w' ht => hK a' w' (hT a' w' ht)

def GdOK (S : St) (gd : Gd) : Prop :=
  match gd with
  | none => True
  | some (g, b) => ∃ c, get S g = .bool c ∧ c.val = b

def slotOf : Operand → Nat
  | .tmp t => t
  | _ => 0

theorem vals_get {w0 : World} {m : M} {S : St} {a : Act} {w : World} (R : Rel w0 m S a w) (i : Nat) : OKV S m i (get S i) (a.tmps.getD i undef) := by
  rcases Nat.lt_or_ge i S.length with h | h
  · exact R.vals i h
  · have : get S i = .junk := by simp [get, List.getElem?_eq_none h]
    rw [this]
    exact ⟨trivial, trivial⟩

theorem getG_ok {w0 : World} {m : M} {S : St} {a : Act} {w : World} (R : Rel w0 m S a w) {gd : Gd} (hg : GdOK S gd) (i : Nat) :
    VR m i (getG gd S i) (a.tmps.getD i undef) ∧ wfV (getG gd S i) ∧ (get S i = getG gd S i ∨ light (getG gd S i) = true ∨ getG gd S i = .junk) := by
  have h := vals_get R i
  unfold OKV at h
  unfold getG
  split at h
  · rename_i g b y he
    rw [he]
    simp only
    split
    · rename_i g' b'
      split
      · rename_i hh
        obtain ⟨rfl, rfl⟩ := hh
        obtain ⟨c, hc, hcv⟩ := hg
        obtain ⟨h1, h2, h3⟩ := h c hc hcv
        exact ⟨h1, h2, .inr (.inl h3)⟩
      · exact ⟨trivial, trivial, .inr (.inr rfl)⟩
    · exact ⟨trivial, trivial, .inr (.inr rfl)⟩
  · rename_i hne
    split
    · rename_i g b y he; exact absurd he (hne g b y)
    · exact ⟨h.1, h.2, .inl rfl⟩

theorem opg_ok {w0 : World} {m : M} {S : St} {a : Act} {w : World} (R : Rel w0 m S a w) {gd : Gd} (hg : GdOK S gd) (x : Operand) (hc : constOk x = true) :
    VR m (slotOf x) (opg gd S x) (a.eval x) ∧ wfV (opg gd S x) := by
  unfold opg
  split
  · rename_i t
    have := getG_ok R hg t
    exact ⟨this.1, this.2.1⟩
  · rename_i k n
    refine ⟨rfl, ?_⟩
    simpa [constOk, wfV, inR, SI.val] using hc
  · exact ⟨rfl, trivial⟩
  · exact ⟨rfl, trivial⟩
  · exact ⟨rfl, trivial⟩
  · exact ⟨rfl, trivial⟩

theorem opg_slot {w0 : World} {m : M} {S : St} {a : Act} {w : World} (R : Rel w0 m S a w) {gd : Gd} (hg : GdOK S gd) {x : Operand} {y : AV} (h : opg gd S x = y)
    (hl : light y = false) (hj : y ≠ .junk) : ∃ t, x = .tmp t ∧ get S t = y := by
  unfold opg at h
  split at h
  · rename_i t
    refine ⟨t, rfl, ?_⟩
    rcases (getG_ok R hg t).2.2 with h2 | h2 | h2
    · rw [h2, h]
    · rw [h, hl] at h2; cases h2
    · rw [h] at h2; exact absurd h2 hj
  all_goals (subst h; simp [light] at hl)

/-- What names no block of its own. -/
def free : AV → Bool
  | .own _ | .xsl .. | .when .. => false
  | _ => true

theorem VR_any {m : M} {i j : Nat} {x : AV} {v : Value} (hf : free x = true) (h : VR m i x v) : VR m j x v := by
  cases x <;> simp [free] at hf <;> exact h

theorem OKV_free {S : St} {m : M} {i : Nat} {x : AV} {v : Value} (hf : free x = true) (h : VR m i x v) (hw : wfV x) : OKV S m i x v := by
  cases x <;> simp [free] at hf <;> exact ⟨h, hw⟩

theorem ret1_ok {w0 : World} {m : M} {S : St} {a : Act} {w : World} (R : Rel w0 m S a w) {dst : Option Tmp} {x : AV} {v : Value} {cs cs' : List Prop} {us : List (Nat × AV)} {i : Nat}
    (h : ret1 dst cs x = some (cs', us)) (hf : free x = true) (hv : VR m i x v) (hw : wfV x) (hn : ∀ d ∈ us.map Prod.fst, noWhen d S) : Rel w0 m (app us S) (a.put dst v) w := by
  unfold ret1 at h
  split at h
  · rename_i d
    simp only [Option.some.injEq, Prod.mk.injEq] at h
    obtain ⟨rfl, rfl⟩ := h
    refine R.put d x v ?_ ?_ (fun _ => OKV_free hf (VR_any hf hv) hw) (hn d (by simp))
    · intro y e; subst e; simp [free] at hf
    · intro k es len cap f e; subst e; simp [free] at hf
  · simp only [Option.some.injEq, Prod.mk.injEq] at h
    obtain ⟨rfl, rfl⟩ := h
    exact R

theorem ret1_cs {dst : Option Tmp} {x : AV} {cs cs' : List Prop} {us : List (Nat × AV)} (h : ret1 dst cs x = some (cs', us)) : cs' = cs := by
  unfold ret1 at h
  split at h <;> simp at h <;> exact h.1.symm

section
variable {P : Program} {E : Env}

theorem fits_ok {off : SO} {n len : Nat} {cs : List Prop} (h : fits off n len = some cs) (hc : ∀ p ∈ cs, p) : off.val + n ≤ len := by
  unfold fits at h
  split at h
  · split at h
    · rename_i a hle; exact hle
    · cases h
  · cases h
    exact (hc _ (List.mem_singleton.2 rfl)).h

theorem plain_VR {m : M} {i : Nat} {x : AV} {v : Value} (hp : plain x = true) (h : VR m i x v) : v = pv x := by
  cases x <;> simp [plain] at hp <;> exact h
theorem VR_pv {m : M} {i : Nat} {x : AV} (hp : plain x = true) : VR m i x (pv x) := by
  cases x <;> simp [plain] at hp <;> rfl
theorem wfV_wfP {x : AV} (hp : plain x = true) (h : wfV x) : wfP x := by
  cases x <;> simp [plain] at hp <;> exact h
theorem wfP_wfV {x : AV} (hp : plain x = true) (h : wfP x) : wfV x := by
  cases x <;> simp [plain] at hp <;> exact h
theorem plain_free {x : AV} (hp : plain x = true) : free x = true := by
  cases x <;> simp [plain] at hp <;> rfl

/-- A part of a block, loaded. -/
theorem sub_ok (hP : EnvOK P E) {T : TypeId} {x : AV} {off : SO} {cs : List Prop} {r : AV} (h : sub E T x off = some (cs, r)) (hc : ∀ p ∈ cs, p) (hw : wfP x)
    {w : World} {b : Nat} {T0 : TypeId} {fz : Nat × Nat} (hg : w.heap[b]? = some (.cells (cellsOf x) T0 fz)) :
    (loadVar T ⟨b, off.val, none⟩).run P w = .ok (pv r) w ∧ plain r = true ∧ wfP r := by
  have ht := hP.ty T
  unfold sub at h
  split at h
  · rename_i k hd
    have h1 : P.underlying T = some (.int k) := by unfold TyOK at ht; rw [hd] at ht; exact ht.1
    split at h
    · rename_i k' n
      split at h
      · rename_i hk
        subst hk
        cases h
        refine ⟨run_load_one h1 rfl ?_, rfl, hw⟩
        rw [SO.val, cell_of_row w b _ _ T0 fz hg]; rfl
      · cases h
    · rename_i k' n f
      split at h
      · rename_i hk
        subst hk
        split at h
        · rename_i cs' hf
          cases h
          have hle := fits_ok hf hc
          refine ⟨run_load_one h1 rfl ?_, rfl, hw _ (by omega)⟩
          rw [cell_of_row w b _ _ T0 fz hg]
          exact cellsA_get _ _ _ _ (by omega)
        · cases h
      · cases h
    · cases h
  · rename_i hd
    have h1 : P.underlying T = some .bool := by unfold TyOK at ht; rw [hd] at ht; exact ht.1
    split at h
    · cases h
      refine ⟨run_load_one h1 rfl ?_, rfl, trivial⟩
      rw [SO.val, cell_of_row w b _ _ T0 fz hg]; rfl
    · cases h
  all_goals try (rename_i hd; cases h; done)
  all_goals
    rename_i hd
    have ha : isA (E.ty T).d = true := by rw [hd]; rfl
    split at h
    · rename_i k n f
      split at h
      · rename_i hk
        split at h
        · rename_i hn
          cases h
          refine ⟨?_, rfl, hw⟩
          have := run_load_agg (P := P) ht ha (off := 0) hg (by omega)
          simp only [Nat.zero_add] at this
          rw [hn] at this
          exact this
        · split at h
          · rename_i hn
            cases h
            refine ⟨?_, rfl, fun i hi => hw i (by omega)⟩
            have := run_load_agg (P := P) ht ha (off := 0) hg (by omega)
            simp only [Nat.zero_add] at this
            exact this
          · cases h
      · cases h
    · rename_i k n f _
      split at h
      · rename_i hk
        split at h
        · rename_i cs' hf
          cases h
          have hle := fits_ok hf hc
          exact ⟨run_load_agg (P := P) ht ha hg hle, rfl, fun i hi => hw _ (by omega)⟩
        · cases h
      · cases h
    · cases h

theorem TyOK.info {i : TI} {t : TypeId} (h : TyOK P i t) (ho : match i.d with | .slice _ | .other => False | _ => True) : ∃ inf, P.info? t = some inf ∧ inf.size = i.sz := by
  unfold TyOK at h
  cases hd : i.d <;> rw [hd] at h ho
  · obtain ⟨_, h1, inf, h2, h3, _⟩ := h; exact ⟨inf, h2, by omega⟩
  · obtain ⟨_, h1, inf, h2, h3, _⟩ := h; exact ⟨inf, h2, by omega⟩
  · obtain ⟨_, inf, h2, h3, _⟩ := h; exact ⟨inf, h2, h3⟩
  · obtain ⟨_, _, _, inf, h2, h3, _⟩ := h; exact ⟨inf, h2, h3⟩
  · exact ho.elim
  · exact ho.elim

/-- A value laid in a block. -/
theorem put_cells (hP : EnvOK P E) {T : TypeId} {x : AV} {off : SO} {cs : List Prop} {v x' : AV} (h : put E T x off v = some (cs, x')) (hc : ∀ p ∈ cs, p) (hw : wfP x) (hv : wfV v) :
    writeAt (cellsOf x) off.val (pv v).cells.toList = cellsOf x' ∧ (pv v).cells.size = (E.ty T).sz ∧ off.val + (pv v).cells.size ≤ (cellsOf x).size ∧ (∀ u ∈ (pv v).cells.toList, u.oneCell' = true) ∧
      (∃ inf, P.info? T = some inf ∧ inf.size = (E.ty T).sz) ∧ plain x' = true ∧ wfP x' ∧ plain v = true := by
  have ht := hP.ty T
  unfold put at h
  split at h
  · rename_i k a
    split at h
    · rename_i kt hd
      have hs : ∃ inf, P.info? T = some inf ∧ inf.size = (E.ty T).sz := ht.info (by rw [hd]; trivial)
      have hz : (E.ty T).sz = 1 := by unfold TyOK at ht; rw [hd] at ht; exact ht.2.1
      have ho : ∀ u ∈ (pv (.int k a)).cells.toList, u.oneCell' = true := by intro u hu; simp [pv, Value.cells] at hu; subst hu; rfl
      split at h
      · split at h
        · split at h
          · cases h
            exact ⟨rfl, hz.symm, by simp [SO.val, pv, Value.cells, cellsOf], ho, hs, rfl, hv, rfl⟩
          · cases h
        · rename_i k' n f
          split at h
          · rename_i hk
            subst hk
            split at h
            · rename_i cs' hf
              cases h
              have hle := fits_ok hf hc
              refine ⟨writeAt_upd _ _ _ _ _, hz.symm, by simp [pv, Value.cells, cellsOf]; omega, ho, hs, rfl, ?_, rfl⟩
              intro i hi
              simp only [upd]
              split
              · exact hv
              · exact hw i hi
            · cases h
          · cases h
        · cases h
      · cases h
    · cases h
  · rename_i bb
    split at h
    · rename_i hd
      have hs : ∃ inf, P.info? T = some inf ∧ inf.size = (E.ty T).sz := ht.info (by rw [hd]; trivial)
      have hz : (E.ty T).sz = 1 := by unfold TyOK at ht; rw [hd] at ht; exact ht.2.1
      split at h
      · cases h
        exact ⟨rfl, hz.symm, by simp [SO.val, pv, Value.cells, cellsOf], by intro u hu; simp [pv, Value.cells] at hu; subst hu; rfl, hs, rfl, trivial, rfl⟩
      · cases h
    · cases h
  · rename_i k mm g
    split at h
    all_goals try (cases h; done)
    all_goals
      rename_i hd
      have ha : isA (E.ty T).d = true := by rw [hd]; rfl
      have hs : ∃ inf, P.info? T = some inf ∧ inf.size = (E.ty T).sz := ht.info (by rw [hd]; trivial)
      split at h
      · rename_i hm
        split at h
        · rename_i k' n f
          split at h
          · rename_i hk
            subst hk
            split at h
            · rename_i hn
              subst hn
              cases h
              refine ⟨?_, by simp [pv, Value.cells, hm], by simp [SO.val, pv, Value.cells, cellsOf], cells_one _ _ _, hs, rfl, hv, rfl⟩
              simp only [SO.val, pv, cellsOf, Value.cells, writeAt_splice]
              apply cellsA_congr
              intro i hi
              simp [splice, hi]
            · split at h
              · rename_i hn
                cases h
                refine ⟨writeAt_splice _ _ _ _ _ _, by simp [pv, Value.cells, hm], by simp [SO.val, pv, Value.cells, cellsOf]; omega, cells_one _ _ _, hs, rfl, ?_, rfl⟩
                intro i hi
                simp only [splice]
                split
                · exact hw i hi
                · split
                  · exact hv _ (by omega)
                  · exact hw i hi
              · cases h
          · cases h
        · rename_i k' n f _
          split at h
          · rename_i hk
            subst hk
            split at h
            · rename_i cs' hf
              cases h
              have hle := fits_ok hf hc
              refine ⟨writeAt_splice _ _ _ _ _ _, by simp [pv, Value.cells, hm], by simp [pv, Value.cells, cellsOf]; omega, cells_one _ _ _, hs, rfl, ?_, rfl⟩
              intro i hi
              simp only [splice]
              split
              · exact hw i hi
              · split
                · exact hv _ (by omega)
                · exact hw i hi
            · cases h
          · cases h
        · cases h
      · cases h
  · cases h

theorem put_ok (hP : EnvOK P E) {T : TypeId} {x : AV} {off : SO} {cs : List Prop} {v x' : AV} (h : put E T x off v = some (cs, x')) (hc : ∀ p ∈ cs, p) (hw : wfP x) (hv : wfV v)
    {w : World} {b : Nat} {T0 : TypeId} (hg : w.heap[b]? = some (.cells (cellsOf x) T0 (0, 0))) :
    (storeVar T ⟨b, off.val, none⟩ (pv v)).run P w = .ok () (w.setRow b (cellsOf x')) ∧ plain x' = true ∧ wfP x' ∧ plain v = true := by
  obtain ⟨h1, h2, h3, h4, ⟨inf, h5, h6⟩, h7⟩ := put_cells hP h hc hw hv
  have := run_storeVar (P := P) h5 (off := off.val) hg (by rw [h2, h6]) h4 h3
  rw [h1] at this
  exact ⟨this, h7⟩

theorem wrap_in (k : IntKind) (n : Int) : inR k (k.wrap n) := by
  cases k <;> simp only [inR, IntKind.wrap, IntKind.min, IntKind.max, IntKind.signed, IntKind.bits] <;> (try split) <;> simp at * <;> omega

theorem min_nonpos (k : IntKind) : k.min ≤ 0 := by cases k <;> decide
theorem max_nonneg (k : IntKind) : 0 ≤ k.max := by cases k <;> decide

theorem tmod_in {k : IntKind} {a : Int} (b : Int) (h : inR k a) : inR k (a.tmod b) := by
  have h0 := min_nonpos k
  have h1 := max_nonneg k
  unfold inR at *
  rcases Int.le_total 0 a with ha | ha
  · have := Int.tmod_nonneg b ha
    have h2 : a.tmod b ≤ a := by
      rw [Int.tmod_def]
      rcases Int.le_total 0 (a.tdiv b * b) with h3 | h3
      · rw [Int.mul_comm]; omega
      · have : b * a.tdiv b = a - a.tmod b := by rw [Int.tmod_def]; omega
        rw [Int.mul_comm] at h3
        have h4 : a.tmod b = a - b * a.tdiv b := Int.tmod_def a b
        have h5 : (a.tmod b).natAbs ≤ a.natAbs := by
          rw [Int.natAbs_tmod]; exact Nat.mod_le _ _
        omega
    omega
  · have h5 : (a.tmod b).natAbs ≤ a.natAbs := by
      rw [Int.natAbs_tmod]; exact Nat.mod_le _ _
    have h6 : a.tmod b ≤ 0 := by
      have := Int.tmod_nonneg b (a := -a) (by omega)
      rw [Int.neg_tmod] at this
      omega
    omega

theorem fdiv_in {k : IntKind} {a : Int} (n : Nat) (h : inR k a) : inR k (a.fdiv (2 ^ n)) := by
  have h0 := min_nonpos k
  have h1 := max_nonneg k
  unfold inR at *
  have hp : (0 : Int) < 2 ^ n := Int.pow_pos (by decide)
  rw [Int.fdiv_eq_ediv_of_nonneg _ (by omega)]
  have e1 := Int.mul_ediv_add_emod a (2 ^ n)
  have e2 := Int.emod_nonneg a (b := 2 ^ n) (by omega)
  have e3 := Int.emod_lt_of_pos a hp
  constructor
  · rcases Int.le_total 0 a with ha | ha
    · have := Int.ediv_nonneg ha (by omega : (0 : Int) ≤ 2 ^ n); omega
    · have : a ≤ a / 2 ^ n := by
        apply (Int.le_ediv_iff_mul_le hp).2
        have : a * 2 ^ n ≤ a * 1 := Int.mul_le_mul_of_nonpos_left ha (by omega)
        omega
      omega
  · rcases Int.le_total 0 a with ha | ha
    · have := Int.ediv_le_self (2 ^ n) ha; omega
    · have : a / 2 ^ n ≤ 0 := by
        have := Int.ediv_le_ediv hp ha
        simpa using this
      omega

theorem realBin_in {o : BinOp} {k : IntKind} {a : Int} (b : Int) (h : inR k a) (ho : compares o = false) : inR k (realBin o k a b) := by
  cases o <;> simp [compares] at ho <;> simp only [realBin] <;> first | exact wrap_in _ _ | exact tmod_in b h | exact fdiv_in _ h

theorem bin_val (hP : EnvOK P E) (o : BinOp) (k : IntKind) (x y : SI) : (SI.bin E.A o k x y).val = realBin o k x.val y.val := by
  cases x <;> cases y <;> simp [SI.bin, SI.val, hP.A, realOps]
theorem cmp_val (hP : EnvOK P E) (o : BinOp) (x y : SI) : (SI.cmp E.A o x y).val = realCmp o x.val y.val := by
  cases x <;> cases y <;> simp [SI.cmp, SI.val, SB.val, hP.A, realOps]
theorem off_val (hP : EnvOK P E) (x : SI) : (x.off E.A).val = x.val.toNat := by
  cases x <;> simp [SI.off, SI.val, SO.val, hP.A, realOps]
theorem lit_val (n : Nat) : (SO.lit n).val = n := rfl
theorem add_val (x y : SO) : (x.add y).val = x.val + y.val := by
  unfold SO.add
  split <;> simp only [SO.val, nadd, choice_add, Nat.zero_add, Nat.add_zero]
theorem sub_val (x y : SO) : (x.sub y).val = x.val - y.val := by
  unfold SO.sub
  split <;> simp only [SO.val, nsub, choice_sub, Nat.sub_zero]
theorem mul_val (x : SO) (n : Nat) : (x.mul n).val = x.val * n := by
  unfold SO.mul
  split <;> simp only [SO.val, nmul, choice_mul, Nat.mul_one]
theorem within_ok {i : SI} {n : SO} {cs : List Prop} (h : within i n = some cs) (hc : ∀ p ∈ cs, p) : 0 ≤ i.val ∧ i.val < (n.val : Int) := by
  unfold within at h
  split at h
  · split at h
    · rename_i hh; exact hh
    · cases h
  all_goals
    cases h
    exact (hc _ (List.mem_singleton.2 rfl)).h
theorem upto_ok {i : SI} {n : SO} {cs : List Prop} (h : upto i n = some cs) (hc : ∀ p ∈ cs, p) : 0 ≤ i.val ∧ i.val ≤ (n.val : Int) := by
  unfold upto at h
  split at h
  · split at h
    · rename_i hh; exact hh
    · cases h
  all_goals
    cases h
    exact (hc _ (List.mem_singleton.2 rfl)).h
theorem leq_ok {i n : SO} {cs : List Prop} (h : i.leq n = some cs) (hc : ∀ p ∈ cs, p) : i.val ≤ n.val := by
  unfold SO.leq at h
  split at h
  · split at h
    · rename_i hh; exact hh
    · cases h
  all_goals
    cases h
    exact (hc _ (List.mem_singleton.2 rfl)).h

theorem guard_int (o : BinOp) (t : TypeId) (x y : Operand) (k k' : IntKind) (a b : Int) (w : World) : (eqGuard o t x y (.int k a) (.int k' b)).run P w = .ok () w := by
  unfold eqGuard
  cases o <;> rfl
theorem guard_bool (o : BinOp) (t : TypeId) (x y : Operand) (a b : Bool) (w : World) : (eqGuard o t x y (.bool a) (.bool b)).run P w = .ok () w := by
  unfold eqGuard
  cases o <;> rfl

theorem binop_int {o : BinOp} {k : IntKind} {t : TypeId} {a b : Int} (w : World) (hs : o ≠ .shl) (hs2 : o ≠ .shr) (hd : o = .quo ∨ o = .rem → b ≠ 0) (hc : compares o = false) :
    (binOp o t (.int k a) (.int k b)).run P w = .ok (.int k (realBin o k a b)) w := by
  cases o <;> simp [compares] at hc <;> simp at hs hs2 hd <;> simp [binOp, Op.intArith, Op.intDiv, Op.intBits, realBin, hd]

theorem binop_cmp {o : BinOp} {k : IntKind} {t : TypeId} {a b : Int} (w : World) (hc : compares o = true) :
    (binOp o t (.int k a) (.int k b)).run P w = .ok (.bool (realCmp o a b)) w := by
  cases o <;> simp [compares] at hc <;> simp [binOp, Op.intCmp, realCmp]

theorem binop_shift {o : BinOp} {k k' : IntKind} {t : TypeId} {a b : Int} (w : World) (ho : o = .shl ∨ o = .shr) (hb : 0 ≤ b) :
    (binOp o t (.int k a) (.int k' b)).run P w = .ok (.int k (realBin o k a b)) w := by
  rcases ho with rfl | rfl <;> simp [binOp, Op.shift, realBin, Int.not_lt.2 hb]

theorem equal_bool {T : TypeId} (h1 : P.underlying T = some .bool) (a b : Bool) (w : World) : (Op.equal T (.bool a) (.bool b)).run P w = .ok (a == b) w := by
  have key : ∀ d : Nat, (Op.equalIn (d + 1) T (.bool a) (.bool b)).run P w = .ok (a == b) w := by
    intro d
    unfold Op.equalIn
    rw [Sem.run_bind, run_underlying h1]
    rfl
  exact key 9999

theorem binEff_ok (hP : EnvOK P E) {o : BinOp} {T : TypeId} {x y : AV} {cs : List Prop} {r : AV} (h : binEff E o T x y = some (cs, r)) (hc : ∀ p ∈ cs, p)
    {m : M} {i j : Nat} {vx vy : Value} (hx : VR m i x vx) (hy : VR m j y vy) (hwx : wfV x) (w : World) (ox oy : Operand) :
    (eqGuard o T ox oy vx vy).run P w = .ok () w ∧ (binOp o T vx vy).run P w = .ok (pv r) w ∧ plain r = true ∧ wfP r := by
  unfold binEff at h
  split at h
  · rename_i k a k' b
    cases hx; cases hy
    refine ⟨guard_int _ _ _ _ _ _ _ _ _, ?_⟩
    split at h
    · split at h
      · rename_i n
        split at h
        · rename_i hn
          cases h
          refine ⟨?_, rfl, ?_⟩
          · rw [pv, bin_val hP]; exact binop_shift w (.inl rfl) hn
          · show inR _ _; rw [bin_val hP]; exact realBin_in _ hwx rfl
        · cases h
      · rename_i n
        cases h
        have hn : (0 : Int) ≤ n := (hc _ (List.mem_singleton.2 rfl)).h
        refine ⟨?_, rfl, ?_⟩
        · rw [pv, bin_val hP]; exact binop_shift w (.inl rfl) hn
        · show inR _ _; rw [bin_val hP]; exact realBin_in _ hwx rfl
    · split at h
      · rename_i n
        split at h
        · rename_i hn
          cases h
          refine ⟨?_, rfl, ?_⟩
          · rw [pv, bin_val hP]; exact binop_shift w (.inr rfl) hn
          · show inR _ _; rw [bin_val hP]; exact realBin_in _ hwx rfl
        · cases h
      · rename_i n
        cases h
        have hn : (0 : Int) ≤ n := (hc _ (List.mem_singleton.2 rfl)).h
        refine ⟨?_, rfl, ?_⟩
        · rw [pv, bin_val hP]; exact binop_shift w (.inr rfl) hn
        · show inR _ _; rw [bin_val hP]; exact realBin_in _ hwx rfl
    · rename_i hs1 hs2
      split at h
      · rename_i hk
        subst hk
        split at h
        · rename_i ha
          cases h
          have hcmp : compares o = false := by cases o <;> simp [arith] at ha <;> rfl
          refine ⟨?_, rfl, ?_⟩
          · rw [pv, bin_val hP]
            exact binop_int w (fun e => hs1 e) (fun e => hs2 e) (by intro e; rcases e with rfl | rfl <;> simp [arith] at ha) hcmp
          · show inR _ _; rw [bin_val hP]; exact realBin_in _ hwx hcmp
        · split at h
          · rename_i hcmp
            cases h
            refine ⟨?_, rfl, trivial⟩
            rw [pv, cmp_val hP]; exact binop_cmp w hcmp
          · rename_i hna hncmp
            have hcmp : compares o = false := by simpa using hncmp
            split at h
            · rename_i n
              split at h
              · cases h
              · rename_i hn
                cases h
                refine ⟨?_, rfl, ?_⟩
                · rw [pv, bin_val hP]; exact binop_int w (fun e => hs1 e) (fun e => hs2 e) (fun _ => hn) hcmp
                · show inR _ _; rw [bin_val hP]; exact realBin_in _ hwx hcmp
            · rename_i n
              cases h
              have hn : n ≠ 0 := (hc _ (List.mem_singleton.2 rfl)).h
              refine ⟨?_, rfl, ?_⟩
              · rw [pv, bin_val hP]; exact binop_int w (fun e => hs1 e) (fun e => hs2 e) (fun _ => hn) hcmp
              · show inR _ _; rw [bin_val hP]; exact realBin_in _ hwx hcmp
      · cases h
  · rename_i a b
    cases hx; cases hy
    refine ⟨guard_bool _ _ _ _ _ _ _, ?_⟩
    have ht := hP.ty T
    split at h
    · rename_i hd
      have h1 : P.underlying T = some .bool := by unfold TyOK at ht; rw [hd] at ht; exact ht.1
      cases h
      refine ⟨?_, rfl, trivial⟩
      have : (a.eqb b).val = (a.val == b.val) := by cases a <;> cases b <;> rfl
      rw [pv, this]
      simp only [binOp, Sem.run_bind, equal_bool h1, Result.andThen_ok, Sem.run_pure, SB.val]
    · rename_i hd
      have h1 : P.underlying T = some .bool := by unfold TyOK at ht; rw [hd] at ht; exact ht.1
      cases h
      refine ⟨?_, rfl, trivial⟩
      have : (a.eqb b).not.val = !(a.val == b.val) := by cases a <;> cases b <;> rfl
      rw [pv, this]
      simp only [binOp, Sem.run_bind, equal_bool h1, Result.andThen_ok, Sem.run_pure, SB.val]
    · cases h
  · rename_i k n f k' n' g
    cases hx; cases hy
    split at h
    · rename_i hh
      obtain ⟨he, rfl, rfl, rfl, rfl⟩ := hh
      obtain ⟨e1, e2⟩ := hP.eq T he f g w
      refine ⟨e1 _ _ _, ?_⟩
      split at h
      · cases h
        refine ⟨?_, rfl, trivial⟩
        simp [binOp, e2, pv, SB.val, hP.A, realOps]
      · cases h
        refine ⟨?_, rfl, trivial⟩
        simp [binOp, e2, pv, SB.val, hP.A, realOps]
      · cases h
    · cases h
  · cases h
end
end Sx
