/-
  Calls, and every operation at once.
-/
import Derived.Test.YtfpeolihnaeolaaSxF
namespace Sx
open Go Go.RowKit

section
variable {P : Program} {E : Env} {w0 : World} {m : M} {S : St} {a : Act} {w : World} {gd : Gd}

theorem argOf_ok (R : Rel w0 m S a w) (hg : GdOK S gd) {rd : List Nat} {x : Operand} (hk : constOk x = true) {cs : List Prop} {v : AV} (h : argOf rd gd S x = some (cs, v)) (hc : ∀ p ∈ cs, p) :
    ArgR w v (a.eval x) ∧ wfV v := by
  obtain ⟨hv, hw⟩ := opg_ok R hg x hk
  unfold argOf at h
  split at h
  · rename_i hx; cases h; rw [hx] at hv hw; exact ⟨hv, hw⟩
  · rename_i hx; cases h; rw [hx] at hv hw; exact ⟨hv, hw⟩
  · rename_i hx; cases h; rw [hx] at hv hw; exact ⟨hv, hw⟩
  · rename_i s es off len cap hx
    rw [hx] at hv
    obtain ⟨aa, cc, h1, h2, h3⟩ := hv
    split at h
    · split at h
      · rename_i k n f hs
        split at h
        · rename_i cs1 hle
          cases h
          have hle' := leq_ok hle hc
          rw [add_val, mul_val, lit_val] at hle'
          obtain ⟨h0, ⟨T, hb⟩, _, hwf⟩ := own_block R hs
          refine ⟨⟨aa, cc, h1, fun hp => ⟨(m s).1, off.val, by rw [h2 hp, h0, Nat.zero_add], fun j hj => ?_⟩, h3⟩, fun i hi => hwf _ (by omega)⟩
          rw [cell_of_row w _ _ _ T (0, 0) hb]
          exact cellsA_get _ _ _ _ (by omega)
        · cases h
      · rename_i k es' len' cap' f hs
        split at h
        · rename_i cs1 hle
          cases h
          have hle' := leq_ok hle hc
          rw [add_val, mul_val, mul_val] at hle'
          have hwx := vals_get R s
          rw [hs] at hwx
          refine ⟨⟨aa, cc, h1, fun hp => ⟨(m s).1, (m s).2 + off.val, h2 hp, fun j hj => ?_⟩, h3⟩, fun i hi => hwx.2 _ (by omega)⟩
          have := R.xsls s k es' len' cap' f hs (off.val + j) (by omega)
          rw [Nat.add_assoc, R.below.cell (World.block_lt_of_cell? w0 _ this)]
          exact this
        · cases h
      · split at h
        · rename_i k es' len' f hl
          split at h
          · rename_i hes
            subst hes
            split at h
            · rename_i cs1 hle
              cases h
              have hle' := leq_ok hle hc
              rw [add_val, mul_val, mul_val] at hle'
              have hwx := vals_get R s
              have hin : ∀ i, i < len'.val * es → inR k (f i) := by
                rcases lst_cases hl with ⟨_, _, _, _, h3, h4⟩ | ⟨_, _, _, _, _, h3, h4⟩
                · cases h4; rw [h3] at hwx; exact hwx.2
                · cases h4; rw [h3] at hwx; exact hwx.2.1
              refine ⟨⟨aa, cc, h1, fun hp => ⟨(m s).1, (m s).2 + off.val, h2 hp, fun j hj => ?_⟩, h3⟩, fun i hi => hin _ (by omega)⟩
              have hpos : 0 < len'.val := by
                rcases Nat.eq_zero_or_pos len'.val with h0 | h0
                · rw [h0] at hle'; simp at hle'; rw [hle'.2] at hj; simp at hj
                · exact h0
              obtain ⟨e, cap, cur, b1, _, b3, _, _, _, b7, _⟩ := lst_block R hl hpos
              rw [b1, Nat.zero_add, cell_of_row w _ _ _ e (0, 0) b3]
              exact row_cell b7 (by omega)
            · cases h
          · cases h
        · cases h
    · cases h
  · rename_i k es len f hx
    cases h
    rw [hx] at hv hw
    obtain ⟨aa, cc, h1, h2⟩ := hv
    obtain ⟨t, rfl, ht⟩ := opg_slot R hg hx rfl (by simp)
    refine ⟨⟨aa, cc, h1, fun hp => ⟨(m t).1, 0, ?_, fun j hj => ?_⟩, h2.2.2⟩, hw⟩
    · cases aa with
      | none => have := h2.2.1 rfl; omega
      | some q => rw [(h2.1 q rfl).1]; rfl
    · obtain ⟨e, cap, cur, b1, _, b3, _, _, _, b7, _⟩ := lst_block R (s := t) (by rw [ht]; rfl) hp
      rw [Nat.zero_add, cell_of_row w _ _ _ e (0, 0) b3]
      exact row_cell b7 hj
  · rename_i hx
    cases h
    rw [hx] at hv
    exact ⟨⟨none, 0, hv, (fun h => by simp [SO.val] at h), Nat.le_refl _, Nat.zero_le _⟩, fun i hi => by simp [SO.val] at hi⟩
  · cases h

theorem argsOf_ok (R : Rel w0 m S a w) (hg : GdOK S gd) {rd : List Nat} : ∀ (xs : List Operand) (cs : List Prop) (vs : List AV), (∀ x ∈ xs, constOk x = true) → argsOf rd gd S xs = some (cs, vs) → (∀ p ∈ cs, p) →
    All2 (ArgR w) vs (xs.map a.eval) ∧ ∀ v ∈ vs, wfV v
  | [], cs, vs, _, h, _ => by
    simp only [argsOf] at h
    cases h
    exact ⟨trivial, fun v hv => by simp at hv⟩
  | x :: xs, cs, vs, hk, h, hc => by
    simp only [argsOf] at h
    split at h
    · rename_i c1 v h1
      split at h
      · rename_i c2 vs' h2
        cases h
        obtain ⟨a1, a2⟩ := argOf_ok R hg (hk x (by simp)) h1 (fun p hp => hc p (List.mem_append_left _ hp))
        obtain ⟨b1, b2⟩ := argsOf_ok R hg xs c2 vs' (fun y hy => hk y (by simp [hy])) h2 (fun p hp => hc p (List.mem_append_right _ hp))
        refine ⟨⟨a1, b1⟩, fun u hu => ?_⟩
        rcases List.mem_cons.1 hu with rfl | hu
        · exact a2
        · exact b2 u hu
      · cases h
    · cases h

theorem ResR_ok {m : M} {B : Nat} {r : AV} {v : Value} (h : ResR B w r v) (hl : lst? r = none) : free r = true ∧ VR m 0 r v ∧ wfV r := by
  unfold ResR at h
  split at h
  · exact ⟨rfl, ⟨h.1, h.2.1⟩, h.2.2⟩
  · cases hl
  · cases hl
  · obtain ⟨h1, h2, h3⟩ := h
    subst h3
    exact ⟨plain_free h1, VR_pv h1, wfP_wfV h1 h2⟩

theorem owns_mono {B B' : Nat} {e : TypeId} {es : Nat} {v : Value} {n : Nat} {xs : List Value} (h : w.ownsRow B e es v n xs) (hB : B' ≤ B) : w.ownsRow B' e es v n xs := by
  refine ⟨h.1, ?_⟩
  rcases h.2 with h1 | ⟨g, cap, cur, h1, h2, h3⟩
  · exact .inl h1
  · exact .inr ⟨g, cap, cur, h1, by omega, h3⟩

/-- A list that was made comes into its slot. -/
theorem Rel.newL {w' : World} (R : Rel w0 m S a w) {x : AV} {k : IntKind} {es : Nat} {len : SO} {f : Nat → Int} {vx : Value} (hx : lst? x = some (k, es, len, f)) {e : TypeId} (ho : w'.ownsRow w0.heap.size e es (lv vx) len.val (lcells k (len.val * es) f))
    (hgr : w.grownBy w' none) (hb : ∀ b, (lv vx).ownBlock = some b → w.heap.size ≤ b) (hv : ∀ m', m' = blk (lv vx) → ∀ d, VR (mset m d m') d x vx) (hwf : wfV x) {dst : Option Tmp} {cs cs' : List Prop} {us : List (Nat × AV)}
    (h : ret1 dst cs x = some (cs', us)) (hn : ∀ d ∈ us.map Prod.fst, noWhen d S) (hr : ∀ d, dst = some d → noRef d S) : Led w0 S us (a.put dst vx) w' := by
  unfold ret1 at h
  split at h
  · rename_i d
    cases h
    exact ⟨_, R.made d x vx hx ho hgr (by intro b e; cases e) (fun b hbb => R.loose (hb b hbb)) (hv _ rfl d) hwf (hr d rfl) (hn d (by simp))⟩
  · cases h
    exact ⟨m, R.later ⟨hgr.os, hgr.tape, hgr.output, hgr.size, fun k hk => hgr.block k hk (by simp)⟩⟩

theorem VR_osl {k : IntKind} {es : Nat} {len : SO} {f : Nat → Int} {v : Value} {w' : World} {B : Nat} {e : TypeId} {xs : List Value} (ho : w'.ownsRow B e es v len.val xs) (hl : lv v = v) (m' : Nat × Nat) (hm : m' = blk (lv v)) (d : Nat) : VR (mset m d m') d (.osl k es len f) v := by
  subst hm
  obtain ⟨aa, c, h1, h2⟩ := owns_SL ho
  refine ⟨aa, c, h1, ?_⟩
  rw [mset_same, hl]
  exact h2

theorem owns_lv {B : Nat} {e : TypeId} {es : Nat} {v : Value} {n : Nat} {xs : List Value} (h : w.ownsRow B e es v n xs) : lv v = v := by
  rcases h.2 with ⟨rfl, _⟩ | ⟨g, cap, cur, rfl, _⟩ <;> rfl

/-- The zero of a list's elements. -/
theorem elem_zero (hP : EnvOK P E) {e : TypeId} {k : IntKind} (hk : elemK E e = some k) : ∃ inf z, P.info? e = some inf ∧ inf.size = (E.ty e).sz ∧ inf.zero = some z ∧ z.cells = cellsA k (E.ty e).sz (fun _ => 0) ∧ inf.bytes = (E.ty e).by_ := by
  have ht := hP.ty e
  unfold elemK at hk
  split at hk
  · rename_i k' hd
    cases hk
    unfold TyOK at ht
    rw [hd] at ht
    obtain ⟨_, h1, inf, h2, h3, h4, h5⟩ := ht
    refine ⟨inf, _, h2, by rw [h3, h1], h4, ?_, h5⟩
    rw [h1]
    exact Array.toList_inj.1 (by simp [cellsA, Value.cells, List.range_succ])
  · rename_i hd
    cases hk
    obtain ⟨_, inf, h2, h3, h4, h5⟩ := ht.agg (by rw [hd]; rfl)
    exact ⟨inf, _, h2, h3, h4, rfl, h5⟩
  · rename_i hd
    cases hk
    obtain ⟨_, inf, h2, h3, h4, h5⟩ := ht.agg (by rw [hd]; rfl)
    exact ⟨inf, _, h2, h3, h4, rfl, h5⟩
  · cases hk

theorem made_zero {k : IntKind} {sz n : Nat} (hsz : 0 < sz) : madeCells (cellsA k sz fun _ => 0) n = cellsA k n fun _ => 0 := by
  apply Array.ext_getElem?
  intro i
  by_cases hi : i < n
  · rw [cellsA_get k n _ i hi]
    have h1 : (cellsA k sz fun _ => (0 : Int))[i % sz]? = some (.int k 0) := cellsA_get k sz _ _ (Nat.mod_lt _ hsz)
    have hlt : i % sz < (cellsA k sz fun _ => (0 : Int)).size := by simpa using Nat.mod_lt i hsz
    have h2 : (cellsA k sz fun _ => (0 : Int))[i % sz]! = .int k 0 := by
      rw [Array.getElem?_eq_getElem hlt] at h1
      rw [getElem!_pos (cellsA k sz fun _ => (0 : Int)) (i % sz) hlt]
      exact Option.some.inj h1
    simp [madeCells, hi, h2]
  · rw [Array.getElem?_eq_none (by simp [size_madeCells]; omega), Array.getElem?_eq_none (by simp; omega)]

theorem cells_list (k : IntKind) (n : Nat) (f : Nat → Int) : (cellsA k n f).toList = lcells k n f := by
  simp [cellsA, lcells]

theorem take_lcells (k : IntKind) {n N : Nat} (f : Nat → Int) (h : n ≤ N) : (lcells k N f).take n = lcells k n f := by
  apply List.ext_getElem?
  intro j
  by_cases hj : j < n
  · rw [List.getElem?_take, if_pos hj, lcells_get k N f (by omega), lcells_get k n f hj]
  · rw [List.getElem?_eq_none (by simp [length_lcells] <;> omega), List.getElem?_eq_none (by rw [length_lcells]; omega)]

/-- A new row of numbers is a list. -/
theorem owns_new {e : TypeId} {k : IntKind} {es n c : Nat} {f : Nat → Int} (hB : w0.heap.size ≤ w.heap.size) (hnc : n ≤ c) (hc : c ≤ maxLen) : (w.alloc (.cells (cellsA k (c * es) f) e)).ownsRow w0.heap.size e es (.slice (some ⟨w.heap.size, 0, none⟩) n c) n (lcells k (n * es) f) :=
  ⟨length_lcells _ _ _, .inr ⟨w.heap.size, c, _, rfl, hB, heap_alloc_new w _, hnc, hc, by simp, by rw [cells_list]; exact take_lcells k f (Nat.mul_le_mul_right _ hnc)⟩⟩

theorem make_ok (hP : EnvOK P E) (R : Rel w0 m S a w) (hg : GdOK S gd) {o : Oper} {T : TypeId} {l c : Operand} (ho : o.op = .makeSlice T l c) (hkl : constOk l = true) (hkc : constOk c = true) {cs : List Prop} {us : List (Nat × AV)}
    (h : effMake E gd S o.dst T l c = some (cs, us)) (hc : ∀ p ∈ cs, p) (hn : ∀ d ∈ us.map Prod.fst, noWhen d S) (hr : ∀ d, o.dst = some d → noRef d S) : Does P o a w (Led w0 S us) := by
  obtain ⟨hvl, _⟩ := opg_ok R hg l hkl
  obtain ⟨hvc, _⟩ := opg_ok R hg c hkc
  unfold effMake at h
  split at h
  · rename_i e hd
    split at h
    · rename_i k ka la kc lb hse hk hl1 hc1
      split at h
      · cases h
      · rename_i hsz0
        split at h
        · rename_i c1 c2 hw1 hu1
          have := ret1_cs h
          subst this
          rw [hl1] at hvl
          rw [hc1] at hvc
          have h1 := within_ok hw1 (fun p hp => hc p (by simp [hp]))
          have h2 := upto_ok hu1 (fun p hp => hc p (by simp [hp]))
          have h3 : 0 ≤ lb.val := (hc (NonNeg lb.val) (by simp)).h
          have h4 := (hc (RoomFor (lb.off E.A).val (E.ty e).by_) (by simp)).h
          have h5 := (hc (LeqN (lb.off E.A).val capMax) (by simp)).h
          rw [off_val hP] at h2 h4 h5
          obtain ⟨inf, z, i1, i2, i3, i4, i5⟩ := elem_zero hP hk
          have hT := slice_ty hP hd
          have hrun := run_make (P := P) w T e inf z hT i1 i3 ka kc la.val lb.val h1.1 (by omega) (by
            rw [i5]
            have : (((E.ty e).by_ * lb.val.toNat : Nat) : Int) = ((E.ty e).by_ : Int) * lb.val := by
              rw [Int.natCast_mul, Int.toNat_of_nonneg h3]
            rw [← this, Nat.mul_comm]
            omega) (by unfold capMax at h5; omega)
          have hev1 : a.eval l = .int ka la.val := hvl
          have hev2 : a.eval c = .int kc lb.val := hvc
          have he : (execOp a.eval o).run P w = .ok (.value (.slice (some ⟨w.heap.size, 0, none⟩) la.val.toNat lb.val.toNat)) (w.alloc (.cells (cellsA k (lb.val.toNat * (E.ty e).sz) fun _ => 0) e)) := by
            simp only [execOp, ho, hev1, hev2, Sem.run_bind, hrun, Result.andThen_ok, Sem.run_pure, i4, i2, made_zero (Nat.pos_of_ne_zero hsz0)]
          have how : (w.alloc (.cells (cellsA k (lb.val.toNat * (E.ty e).sz) fun _ => 0) e)).ownsRow w0.heap.size e (E.ty e).sz (.slice (some ⟨w.heap.size, 0, none⟩) (la.off E.A).val lb.val.toNat) (la.off E.A).val (lcells k ((la.off E.A).val * (E.ty e).sz) fun _ => 0) := by
            rw [off_val hP]
            exact owns_new R.below.size (by omega) (by simp only [maxLen]; unfold capMax at h5; omega)
          have hvx : (Value.slice (some ⟨w.heap.size, 0, none⟩) la.val.toNat lb.val.toNat) = .slice (some ⟨w.heap.size, 0, none⟩) (la.off E.A).val lb.val.toNat := by rw [off_val hP]
          rw [hvx] at he
          exact does_value he (R.newL rfl how (World.grownBy_alloc w _ none) (by intro b hb; cases hb; exact Nat.le_refl _) (VR_osl how rfl) (fun _ _ => ⟨min_nonpos k, max_nonneg k⟩) h hn hr)
        · cases h
    · cases h
  · cases h

theorem buildSlice_ok (hP : EnvOK P E) (R : Rel w0 m S a w) (hg : GdOK S gd) {o : Oper} {T : TypeId} {n : Nat} {ps : Array (Nat × Operand)} (ho : o.op = .buildSlice T n ps) (hk : ∀ p ∈ ps.toList, constOk p.2 = true) {cs : List Prop} {us : List (Nat × AV)}
    (h : effBuildSlice E gd S o.dst T n ps = some (cs, us)) (hn : ∀ d ∈ us.map Prod.fst, noWhen d S) (hr : ∀ d, o.dst = some d → noRef d S) : Does P o a w (Led w0 S us) := by
  have hmap : (ps.map fun (x : Nat × Operand) => match x with | (i, x) => (i, a.eval x)).toList = ps.toList.map fun p => (p.1, a.eval p.2) := by simp
  unfold effBuildSlice at h
  split at h
  · rename_i e hd
    split at h
    · rename_i k hse hke
      split at h
      · rename_i hb
        obtain ⟨hb1, hb2, hb3, hb4⟩ := hb
        split at h
        · rename_i kk nn f hl
          obtain ⟨inf, z, i1, i2, i3, i4, i5⟩ := elem_zero hP hke
          have hT := slice_ty hP hd
          obtain ⟨l1, l2, l3⟩ := lay_ok hP R hg (fun i => if i < n then some (i * (E.ty e).sz, e) else none) (fun i => some (i * (E.ty e).sz, (E.ty e).sz)) (by
            intro i off T' hp
            try simp only at hp
            split at hp
            · cases hp; rfl
            · cases hp) ps.toList _ _ hk (zero_wf k _) rfl hl
          have hkn : kk = k ∧ nn = n * (E.ty e).sz := lay_kn ps.toList _ hl rfl
          obtain ⟨rfl, rfl⟩ := hkn
          have hsize : ¬ (2 ^ 24 < n * (E.ty e).sz) := by omega
          have he : (execOp a.eval o).run P w = .ok (.value (.slice (some ⟨w.heap.size, 0, none⟩) n n)) (w.alloc (.cells (cellsA kk (n * (E.ty e).sz) f) e)) := by
            have hz : madeCells z.cells (n * (E.ty e).sz) = cellsA kk (n * (E.ty e).sz) fun _ => 0 := by rw [i4, made_zero hb3]
            unfold madeCells at hz
            have hn0 : ¬ n * (E.ty e).sz = 0 := Nat.ne_of_gt (Nat.mul_pos hb4 hb3)
            simp only [cellsOf] at l1
            simp only [execOp, ho, Instr.buildSlice, Sem.run_bind, run_underlying hT, Result.andThen_ok, run_size i1, i2, Sem.run_pure]
            simp [hz, l1, newRow, hn0, hsize, run_zero i1 i3]
          have how : (w.alloc (.cells (cellsA kk (n * (E.ty e).sz) f) e)).ownsRow w0.heap.size e (E.ty e).sz (.slice (some ⟨w.heap.size, 0, none⟩) n n) n (lcells kk (n * (E.ty e).sz) f) :=
            owns_new R.below.size (Nat.le_refl _) (by simp only [maxLen]; omega)
          exact does_value he (R.newL (len := .lit n) rfl how (World.grownBy_alloc w _ none) (by intro b hb; cases hb; exact Nat.le_refl _) (VR_osl (len := .lit n) how rfl) l2 h hn hr)
        · cases h
      · cases h
    · cases h
  · cases h

theorem drew_eq (w : World) : w.drew = { w with drawn := w.drawn + 1 } := rfl

/-- append, precisely: what it leaves, and where. -/
theorem app_run {t ty e : TypeId} {inf : TypeInfo} {z : Value} (ht : P.underlying t = some (.slice e)) (hi : P.info? e = some inf) (hz : inf.zero = some z) (hzs : z.cells.size = inf.size) (hby : 0 < inf.bytes)
    {B : Nat} {e0 : TypeId} {v : Value} {n : Nat} {xs : List Value} (hown : w.ownsRow B e0 inf.size v n xs) (hB : B ≤ w.heap.size) {x : Value} {m : Nat} {news : List Value} (hlen : (Builtin.lenOf x).run P w = .ok m w)
    (hf : ∀ k, (Builtin.firstCells inf.size m x).run P { w with drawn := k } = .ok news.toArray { w with drawn := k }) (hl : news.length = m * inf.size) (h1 : ∀ u ∈ news, u.oneCell' = true)
    (hbytes : (n + m) * inf.bytes ≤ 140737488355328) :
    ∃ v' w' e', (Builtin.append_ #[t, t] ty #[v, x]).run P w = .ok v' w' ∧ w'.ownsRow B e' inf.size v' (n + m) (xs ++ news) ∧ w.grownBy w' v.ownBlock ∧ (v'.ownBlock = v.ownBlock ∨ ∀ b, v'.ownBlock = some b → w.heap.size ≤ b) := by
  have hsmall : n + m ≤ 140737488355328 := Nat.le_trans (Nat.le_mul_of_pos_right _ hby) hbytes
  have h63 : n + m ≤ maxLen := by simp only [maxLen]; omega
  have hlen2 : (xs ++ news).length = (n + m) * inf.size := by rw [List.length_append, hown.1, hl, Nat.add_mul]
  have hfw : (Builtin.firstCells inf.size m x).run P w = .ok news.toArray w := hf w.drawn
  have hfd : (Builtin.firstCells inf.size m x).run P w.drew = .ok news.toArray w.drew := hf (w.drawn + 1)
  have grown : ∀ (old : Nat), old < n + m → ∀ (row : Option Nat),
      (w.drew.alloc (.cells (xs.toArray ++ news.toArray ++ Builtin.zeroCells z.cells (grownCap w (n + m) old e - (n + m))) e)).ownsRow B e inf.size
        (.slice (some ⟨w.heap.size, 0, none⟩) (n + m) (grownCap w (n + m) old e)) (n + m) (xs ++ news) ∧
      w.grownBy (w.drew.alloc (.cells (xs.toArray ++ news.toArray ++ Builtin.zeroCells z.cells (grownCap w (n + m) old e - (n + m))) e)) row := by
    intro old ho row
    have hge := grownCap_ge w (n + m) old e
    have hcm : grownCap w (n + m) old e ≤ maxLen := grownCap_le_maxLen w (n + m) old e h63
    refine ⟨⟨hlen2, .inr ⟨w.heap.size, _, _, rfl, hB, heap_alloc_new w.drew _, hge, hcm, ?_, ?_⟩⟩, ⟨rfl, rfl, rfl, by simp, fun k hk _ => heap_alloc_old w.drew _ k hk⟩⟩
    · simp only [Array.size_append, List.size_toArray, size_zeroCells, hzs, hown.1, hl, ← Nat.add_mul]
      congr 1
      omega
    · simp only [Array.toList_append, List.append_assoc]
      rw [← List.append_assoc, ← hlen2]
      exact List.take_left
  have fresh : ∀ (c : Nat) b, (Value.slice (some ⟨w.heap.size, 0, none⟩) (n + m) c).ownBlock = some b → w.heap.size ≤ b := by
    intro c b hb
    cases hb
    exact Nat.le_refl _
  have n63 : ¬ (9223372036854775807 < ((n : Int) + (m : Int))) := by omega
  rcases hown.2 with ⟨rfl, rfl⟩ | ⟨g, cap, cur, rfl, hbg, hg, hnc, hcm, hcs, htake⟩
  · have hxn : xs = [] := List.eq_nil_of_length_eq_zero (by simpa using hown.1)
    subst hxn
    by_cases hm : m = 0
    · subst hm
      have hn : news = [] := List.eq_nil_of_length_eq_zero (by simpa using hl)
      subst hn
      refine ⟨.slice none 0 0, w, e, ?_, World.ownsRow_nil w B e inf.size, ⟨rfl, rfl, rfl, Nat.le_refl _, fun _ _ _ => rfl⟩, .inl rfl⟩
      simp [Builtin.append_, run_underlying ht, Go.sizeOf, typeInfo, hi, hlen, hfw]
    · have hgr := grown 0 (by omega) (Value.ownBlock (.slice none 0 0))
      have h48 : ¬ (281474976710656 < Builtin.nextslicecap m 0 * inf.bytes) := by rw [nextslicecap_zero (by omega)]; rw [Nat.zero_add] at hbytes; omega
      have n63' : ¬ (9223372036854775807 < (m : Int)) := by omega
      simp only [Nat.zero_add, List.nil_append] at hgr ⊢
      refine ⟨_, _, e, ?_, hgr.1, hgr.2, .inr (by simpa using fresh (grownCap w m 0 e))⟩
      simp [Builtin.append_, run_underlying ht, Go.sizeOf, typeInfo, zeroValue, hi, hz, hlen, hm, n63', h48, Question.forced, run_firstCells_none, hfd, newRow, grownCap]
  · by_cases hroom : n + m ≤ cap
    · have hfit : n * inf.size + news.length ≤ cur.size := by rw [hl, hcs, ← Nat.add_mul]; exact Nat.mul_le_mul_right _ hroom
      have hst := run_storeCells_at P g (n * inf.size) e0 news 0 cur w hg (by simpa using hfit) h1
      simp only [Nat.add_zero] at hst
      refine ⟨.slice (some ⟨g, 0, none⟩) (n + m) cap, w.setRow g (cur.toList.take (n * inf.size) ++ news ++ cur.toList.drop (n * inf.size + news.length)).toArray, e0, ?_, ⟨hlen2, .inr ⟨g, cap, _, rfl, hbg, setRow_heap w g cur _ e0 _ hg, hroom, hcm, ?_, ?_⟩⟩, ⟨rfl, rfl, rfl, by simp, fun k _ hk => setRow_other w g k _ (fun e => hk (by simp [Value.ownBlock, e]))⟩, .inl rfl⟩
      · simp [Builtin.append_, run_underlying ht, Go.sizeOf, typeInfo, hi, hlen, hroom, hfw, Addr.add_lit, hst]
      · simp only [List.size_toArray, List.length_append, List.length_take, List.length_drop, Array.length_toList]
        omega
      · rw [htake, ← hlen2]
        exact List.take_left
    · have holds : ∀ j u, xs[j]? = some u → w.cell? ((⟨g, 0, none⟩ : Addr).add j) = some u := hown.cells (g := g) rfl
      have hfo := run_firstCells_some (P := P) w.drew inf.size n ⟨g, 0, none⟩ n cap xs hown.1 (by simpa using holds)
      have h48 : ¬ (281474976710656 < Builtin.nextslicecap (n + m) cap * inf.bytes) := by
        have := growslice_fits (need := n + m) (old := cap) (by omega) hbytes
        omega
      have hgr := grown cap (by omega) (Value.ownBlock (.slice (some ⟨g, 0, none⟩) n cap))
      refine ⟨_, _, e, ?_, hgr.1, hgr.2, .inr (fresh _)⟩
      simp [Builtin.append_, run_underlying ht, Go.sizeOf, typeInfo, zeroValue, hi, hz, hlen, hroom, n63, h48, Question.forced, hfd, hfo, newRow, grownCap]
      congr 2
      apply Array.ext'
      simp [List.append_assoc]

/-- A source of an append or a copy, as its cells. -/
theorem src_ok {k : IntKind} {es : Nat} {len cap : SO} {g : Nat → Int} {v : Value} (h : ArgR w (.xsl k es len cap g) v) : (Builtin.lenOf v).run P w = .ok len.val w ∧
    ∀ n, n ≤ len.val → ∀ d, (Builtin.firstCells es n v).run P { w with drawn := d } = .ok (lcells k (n * es) g).toArray { w with drawn := d } := by
  obtain ⟨aa, c, h1, h2, _⟩ := h
  subst h1
  refine ⟨rfl, fun n hn d => ?_⟩
  rcases Nat.eq_zero_or_pos n with h0 | h0
  · subst h0
    have he : lcells k (0 * es) g = [] := by rw [Nat.zero_mul]; rfl
    rw [he]
    cases aa with
    | none => rfl
    | some q => exact run_firstCells_some (P := P) _ es 0 q len.val c [] (by simp) (fun j v hj => by simp at hj)
  · obtain ⟨b, off, h3, h4⟩ := h2 (by omega)
    subst h3
    refine run_firstCells_some (P := P) _ es n _ len.val c _ (length_lcells _ _ _) (fun j v hj => ?_)
    have hlt : j < n * es := by
      rcases Nat.lt_or_ge j (n * es) with h5 | h5
      · exact h5
      · rw [List.getElem?_eq_none (by rw [length_lcells]; exact h5)] at hj; cases hj
    rw [lcells_get k _ g hlt] at hj
    cases hj
    rw [addr_add]
    exact h4 j (Nat.lt_of_lt_of_le hlt (Nat.mul_le_mul_right _ hn))

theorem lcells_one (k : IntKind) (n : Nat) (f : Nat → Int) : ∀ u ∈ lcells k n f, u.oneCell' = true := by
  intro u hu
  obtain ⟨j, _, rfl⟩ := List.mem_map.1 hu
  rfl

theorem lcells_join (k : IntKind) (a b : Nat) (f g : Nat → Int) : lcells k a f ++ lcells k b g = lcells k (a + b) (joinF a f g) := by
  apply List.ext_getElem?
  intro j
  by_cases h1 : j < a
  · rw [List.getElem?_append_left (by rw [length_lcells]; exact h1), lcells_get k a f h1, lcells_get k _ _ (by omega)]
    simp [joinF, h1]
  · rw [List.getElem?_append_right (by rw [length_lcells]; omega), length_lcells]
    by_cases h2 : j < a + b
    · rw [lcells_get k b g (by omega), lcells_get k _ _ h2]
      simp [joinF, h1]
    · rw [List.getElem?_eq_none (by rw [length_lcells]; omega), List.getElem?_eq_none (by rw [length_lcells]; omega)]

theorem append_ok (hP : EnvOK P E) (R : Rel w0 m S a w) (hg : GdOK S gd) {rd ks : List Nat} {o : Oper} {c : Go.Call} (ho : o.op = .call c) (hcal : c.callee = .builtin .append) {x y : Operand} {t e : TypeId} (hargs : c.args.toList = [x, y]) (htys : c.argTypes.toList = [t, t]) (hT : P.underlying t = some (.slice e))
    (hkx : constOk x = true) (hky : constOk y = true) {cs : List Prop} {us : List (Nat × AV)} (h : effAppend E rd ks gd S o.dst e x y = some (cs, us)) (hc : ∀ p ∈ cs, p) (hn : ∀ d ∈ us.map Prod.fst, noWhen d S) (hr : ∀ d, o.dst = some d → noRef d S) : Does P o a w (Led w0 S us) := by
  have h1a : c.args = #[x, y] := Array.toList_inj.1 (by simp [hargs])
  have h2a : c.argTypes = #[t, t] := Array.toList_inj.1 (by simp [htys])
  have hex : ∀ v' w', (Builtin.append_ #[t, t] o.type #[a.eval x, a.eval y]).run P w = .ok v' w' → (execOp a.eval o).run P w = .ok (.value v') w' := by
    intro v' w' hrun
    simp only [execOp, ho, Sem.run_bind, resolve, hcal, h1a, h2a, Sem.run_pure, Result.andThen_ok, invoke, builtin, List.map_toArray, List.map_cons, List.map_nil, hrun]
  obtain ⟨hvx, hwx⟩ := opg_ok R hg x hkx
  unfold effAppend at h
  split at h
  · rename_i d ke cs1 k' es' len' cap' g hd hke harg
    split at h
    · rename_i hcond
      obtain ⟨rfl, rfl, hsz, hbyp⟩ := hcond
      obtain ⟨inf, z, i1, i2, i3, i4, i5⟩ := elem_zero hP hke
      have hcs1 : ∀ p ∈ cs1, p := by
        intro p hp
        split at h
        · split at h
          · cases h; exact hc p (by simp [hp])
          · cases h
        · cases h; exact hc p (by simp [hp])
        · cases h
      obtain ⟨harg1, harg2⟩ := argOf_ok R hg hky harg hcs1
      obtain ⟨hlen, hfc⟩ := src_ok (P := P) harg1
      have key : ∀ {v : Value} {n : Nat} {xs : List Value} {e0 : TypeId}, a.eval x = v → w.ownsRow w0.heap.size e0 (E.ty e).sz v n xs → (n + len'.val) * (E.ty e).by_ ≤ 140737488355328 →
          ∃ v' w' e', (execOp a.eval o).run P w = .ok (.value v') w' ∧ w'.ownsRow w0.heap.size e' (E.ty e).sz v' (n + len'.val) (xs ++ lcells k' (len'.val * (E.ty e).sz) g) ∧ w.grownBy w' v.ownBlock ∧ (v'.ownBlock = v.ownBlock ∨ ∀ b, v'.ownBlock = some b → w.heap.size ≤ b) := by
        intro v n xs e0 hv ho' hb
        rw [← i2] at ho' ⊢
        obtain ⟨v', w', e', r1, r2, r3, r4⟩ := app_run (P := P) (w := w) (ty := o.type) hT i1 i3 (by rw [i4, i2]; simp) (by rw [i5]; exact hbyp) ho' R.below.size hlen (by rw [i2]; exact hfc len'.val (Nat.le_refl _)) (by rw [length_lcells, i2]) (lcells_one _ _ _) (by rw [i5]; exact hb)
        exact ⟨v', w', e', hex v' w' (by rw [hv]; exact r1), by rw [← i2] at r2; exact r2, r3, r4⟩
      split at h
      · rename_i k es len f tx hx hxt
        split at h
        · rename_i hcond2
          obtain ⟨rfl, rfl, hdt, _⟩ := hcond2
          cases h
          obtain ⟨t', ht', hst⟩ := opg_slot R hg hx rfl (by simp)
          subst ht'
          cases hxt
          have hl0 : lst? (get S tx) = some (k, (E.ty e).sz, len, f) := by rw [hst]; rfl
          obtain ⟨e0, hown⟩ := R.lsts tx _ _ _ _ hl0
          have hv0 := vals_get R tx
          rw [hst] at hv0
          have hlv : lv (a.tmps.getD tx undef) = a.tmps.getD tx undef := by
            obtain ⟨aa, cc, h5, _⟩ := hv0.1
            rw [h5]; rfl
          rw [hlv] at hown
          have hroom := (hc (RoomFor (len.add len').val (E.ty e).by_) (by simp)).h
          rw [add_val] at hroom
          obtain ⟨v', w', e', r1, r2, r3, r4⟩ := key (v := a.tmps.getD tx undef) rfl hown hroom
          rw [lcells_join, ← Nat.add_mul, ← add_val, ← mul_val len] at r2
          have htl : tx < S.length := get_lt (by rw [hst]; simp)
          have hlv' := owns_lv r2
          have loose : ∀ b, (a.tmps.getD tx undef).ownBlock = some b → Loose m (S.set tx .junk) a b := by
            intro b hb
            refine ⟨fun i u hi => ?_, fun i u hi => ?_⟩
            · by_cases hix : i = tx
              · subst hix; rw [get_set_same htl] at hi; cases hi
              · rw [get_set_ne (fun e => hix e.symm)] at hi
                exact R.inj1 i tx u _ b hi hl0 (by rw [hlv]; exact hb)
            · by_cases hix : i = tx
              · subst hix; rw [get_set_same htl] at hi; cases hi
              · rw [get_set_ne (fun e => hix e.symm)] at hi
                exact R.inj2 tx i _ u b (fun e => hix e.symm) hl0 hi (by rw [hlv]; exact hb)
          refine does_value r1 ⟨mset m d (blk (lv v')), ?_⟩
          rw [hd]
          refine (R.forget tx).made d (.osl k (E.ty e).sz (len.add len') (joinF (len.mul (E.ty e).sz).val f g)) v' rfl (by rw [hlv']; exact r2) r3 ?_ ?_ (VR_osl r2 hlv' _ rfl d) ?_ ?_ ?_
          · intro b hb
            refine ⟨?_, loose b hb⟩
            exact (hown.lt b hb).1
          · intro b hb
            rw [hlv'] at hb
            rcases r4 with h6 | h6
            · rw [h6] at hb; exact loose b hb
            · exact (R.forget tx).loose (h6 b hb)
          · intro i hi
            rw [add_val, Nat.add_mul] at hi
            simp only [joinF, mul_val]
            split
            · exact hv0.2 i (by assumption)
            · exact harg2 _ (by omega)
          · intro i
            by_cases hix : i = tx
            · subst hix; rw [get_set_same htl]; trivial
            · rw [get_set_ne (fun e => hix e.symm)]
              exact hr d hd i
          · intro i gg b z hi
            by_cases hix : i = tx
            · subst hix; rw [get_set_same htl] at hi; cases hi
            · rw [get_set_ne (fun e => hix e.symm)] at hi
              exact hn d (by simp) i gg b z hi
        · cases h
      · rename_i hx
        cases h
        rw [hx] at hvx
        have hroom := (hc (RoomFor len'.val (E.ty e).by_) (by simp)).h
        have hev : a.eval x = .slice none 0 0 := hvx
        obtain ⟨v', w', e', r1, r2, r3, r4⟩ := key (n := 0) (xs := []) (e0 := e) hev (World.ownsRow_nil w _ _ _) (by rw [Nat.zero_add]; exact hroom)
        rw [Nat.zero_add, List.nil_append] at r2
        have hlv' := owns_lv r2
        refine does_value r1 ⟨mset m d (blk (lv v')), ?_⟩
        rw [hd]
        refine R.made d (.osl k' (E.ty e).sz len' g) v' rfl (by rw [hlv']; exact r2) (row := none) r3 (by intro b e; cases e) ?_ (VR_osl r2 hlv' _ rfl d) harg2 (hr d hd) (hn d (by simp))
        intro b hb
        rw [hlv'] at hb
        rcases r4 with h6 | h6
        · rw [h6] at hb; cases hb
        · exact R.loose (h6 b hb)
      · cases h
    · cases h
  · cases h

theorem splice_take {k : IntKind} {N off n : Nat} {f g : Nat → Int} (h : off + n ≤ N) : ((cellsA k N f).toList.take off ++ lcells k n g ++ (cellsA k N f).toList.drop (off + n)).toArray = cellsA k N (splice f off n g) := by
  apply Array.ext_getElem?
  intro i
  rw [cells_list]
  simp only [List.getElem?_toArray]
  by_cases h1 : i < off
  · rw [List.getElem?_append_left (by simp [length_lcells] <;> omega), List.getElem?_append_left (by simp [length_lcells] <;> omega), List.getElem?_take, if_pos h1, lcells_get k N f (by omega), cellsA_get k N _ i (by omega)]
    simp [splice, h1]
  · by_cases h2 : i < off + n
    · rw [List.getElem?_append_left (by simp [length_lcells] <;> omega), List.getElem?_append_right (by simp [length_lcells] <;> omega)]
      simp only [List.length_take, length_lcells]
      rw [Nat.min_eq_left (by omega), lcells_get k n g (by omega), cellsA_get k N _ i (by omega)]
      simp [splice, h1, h2]
    · rw [List.getElem?_append_right (by simp [length_lcells] <;> omega)]
      simp only [List.length_append, List.length_take, length_lcells, List.getElem?_drop]
      rw [Nat.min_eq_left (by omega)]
      have e : off + n + (i - (off + n)) = i := by omega
      rw [e]
      by_cases h3 : i < N
      · rw [lcells_get k N f h3, cellsA_get k N _ i h3]
        simp [splice, h1, h2]
      · rw [List.getElem?_eq_none (by rw [length_lcells]; omega), Array.getElem?_eq_none (by simp; omega)]

theorem copy_ok (hP : EnvOK P E) (R : Rel w0 m S a w) (hg : GdOK S gd) {rd ks : List Nat} {o : Oper} {c : Go.Call} (ho : o.op = .call c) (hcal : c.callee = .builtin .copy) {x y : Operand} {t e : TypeId} (hargs : c.args.toList = [x, y]) (htys : c.argTypes.toList = [t, t]) (hT : P.underlying t = some (.slice e)) (hse : sized E e = true)
    (hkx : constOk x = true) (hky : constOk y = true) {cs : List Prop} {us : List (Nat × AV)} (h : effCopy E rd ks gd S o.dst e x y = some (cs, us)) (hc : ∀ p ∈ cs, p) (hn : ∀ d ∈ us.map Prod.fst, noWhen d S) : Does P o a w (Led w0 S us) := by
  have h1a : c.args = #[x, y] := Array.toList_inj.1 (by simp [hargs])
  have h2a : c.argTypes = #[t, t] := Array.toList_inj.1 (by simp [htys])
  have hex : ∀ v' w', (Builtin.copy_ #[t, t] o.type #[a.eval x, a.eval y]).run P w = .ok v' w' → (execOp a.eval o).run P w = .ok (.value v') w' := by
    intro v' w' hrun
    simp only [execOp, ho, Sem.run_bind, resolve, hcal, h1a, h2a, Sem.run_pure, Result.andThen_ok, invoke, builtin, List.map_toArray, List.map_cons, List.map_nil, hrun]
  obtain ⟨hvx, _⟩ := opg_ok R hg x hkx
  unfold effCopy at h
  split at h
  · rename_i d s es off n cp cs1 k' es' n' cap' g hd hx harg
    split at h
    · rename_i hcond
      obtain ⟨rfl, rfl, _, _, hds⟩ := hcond
      split at h
      · rename_i k N f hs
        split at h
        · rename_i hk
          subst hk
          split at h
          · rename_i cs2 hfit
            cases h
            obtain ⟨harg1, harg2⟩ := argOf_ok R hg hky harg (fun p hp => hc p (by simp [hp]))
            obtain ⟨hlen, hfc⟩ := src_ok (P := P) harg1
            have hfit' := fits_ok hfit (fun p hp => hc p (by simp [hp]))
            rw [hx] at hvx
            obtain ⟨aa, cc, h1, h2, h3⟩ := hvx
            obtain ⟨b0, ⟨T0, hb⟩, hp, hwf⟩ := own_block R hs
            obtain ⟨inf, hinf, hsz⟩ := sized_info hP hse
            have hmin : min n n' ≤ n' := Nat.min_le_right _ _
            have hcells := hfc (min n n') (by simpa [SO.val] using hmin) w.drawn
            have hle : off.val + min n n' * (E.ty e).sz ≤ N := by
              have : min n n' * (E.ty e).sz ≤ n * (E.ty e).sz := Nat.mul_le_mul_right _ (Nat.min_le_left _ _)
              omega
            have hlen' : (Builtin.lenOf (a.eval y)).run P w = .ok n' w := hlen
            have hmc : n'.min n = min n n' := Nat.min_comm _ _
            have hrun : (Builtin.copy_ #[t, t] o.type #[a.eval x, a.eval y]).run P w = .ok (goInt ((min n n' : Nat) : Int)) (w.setRow (m s).1 (cellsA k N (splice f off.val (min n n' * (E.ty e).sz) g))) := by
              have h1' : a.eval x = .slice aa n cc := h1
              rw [h1']
              rcases Nat.eq_zero_or_pos (min n n' * (E.ty e).sz) with hz | hz
              · have hf0 : splice f off.val (min n n' * (E.ty e).sz) g = f := by
                  funext j
                  simp only [splice, hz]
                  split
                  · rfl
                  · rw [if_neg (by omega)]
                have hl0 : lcells k (min n n' * (E.ty e).sz) g = [] := by rw [hz]; rfl
                rw [hl0] at hcells
                have hcells' : (Builtin.firstCells (E.ty e).sz (min n n') (a.eval y)).run P w = .ok #[] w := hcells
                have hsr : w.setRow (m s).1 (cellsA k N f) = w := setRow_self w _ _ _ _ hb
                rw [hf0, hsr]
                cases aa with
                | none =>
                  simp [Builtin.copy_, run_underlying hT, Go.sizeOf, typeInfo, hinf, hsz, hlen', hmc, hcells']
                | some q =>
                  simp [Builtin.copy_, run_underlying hT, Go.sizeOf, typeInfo, hinf, hsz, hlen', hmc, hcells', storeCells]
              · have hn0 : 0 < n := by
                  rcases Nat.eq_zero_or_pos n with h0 | h0
                  · subst h0; simp at hz
                  · exact h0
                have haa := h2 hn0
                rw [b0, Nat.zero_add] at haa
                subst haa
                have hst := run_storeCells_at P (m s).1 off.val T0 (lcells k (min n n' * (E.ty e).sz) g) 0 (cellsA k N f) w hb (by simp [length_lcells] <;> omega) (lcells_one _ _ _)
                simp only [Nat.add_zero, length_lcells] at hst
                rw [splice_take hle] at hst
                have hcells' : (Builtin.firstCells (E.ty e).sz (min n n') (a.eval y)).run P w = .ok (lcells k (min n n' * (E.ty e).sz) g).toArray w := hcells
                simp [Builtin.copy_, run_underlying hT, Go.sizeOf, typeInfo, hinf, hsz, hlen', hmc, hcells', hst]
            have hwf' : wfP (.arr k N (splice f off.val (min n n' * (E.ty e).sz) g)) := by
              intro i hi
              simp only [splice]
              split
              · exact hwf i hi
              · split
                · refine harg2 _ ?_
                  have : min n n' * (E.ty e).sz ≤ n' * (E.ty e).sz := Nat.mul_le_mul_right _ (Nat.min_le_right _ _)
                  show _ < n' * _
                  omega
                · exact hwf i hi
            have R1 := R.store s _ (.arr k N (splice f off.val (min n n' * (E.ty e).sz) g)) hs rfl hwf'
            have hsl : s < S.length := get_lt (by rw [hs]; simp)
            refine does_value (hex _ _ hrun) ⟨m, ?_⟩
            rw [hd]
            have hle63 : (min n n' : Nat) ≤ capMax := by
              have : n ≤ capMax := Nat.le_trans h3.1 h3.2
              exact Nat.le_trans (Nat.min_le_left _ _) this
            refine R1.put d (.int .i64 (.lit (min n n' : Nat))) (goInt ((min n n' : Nat) : Int)) (by simp) (by simp) rfl (fun _ => ⟨rfl, ?_⟩) ?_
            · show inR _ _
              unfold capMax at hle63
              simp [SI.val, inR, IntKind.min, IntKind.max, IntKind.signed, IntKind.bits]
              omega
            · intro i gg b z hi
              by_cases his : i = s
              · subst his; rw [get_set_same hsl] at hi; cases hi
              · rw [get_set_ne (fun e => his e.symm)] at hi
                exact hn d (by simp) i gg b z hi
          · cases h
        · cases h
      · cases h
    · cases h
  · cases h

theorem call_ok (hP : EnvOK P E) (G : GlobOK E.glob w0) (R : Rel w0 m S a w) (hg : GdOK S gd) {rd ks : List Nat} {o : Oper} {c : Go.Call} (ho : o.op = .call c) (hk : ∀ x ∈ c.args.toList, constOk x = true) {cs : List Prop} {us : List (Nat × AV)}
    (h : effCall E rd ks gd S o.dst c = some (cs, us)) (hc : ∀ p ∈ cs, p) (hn : ∀ d ∈ us.map Prod.fst, noWhen d S) (hr : ∀ d, o.dst = some d → noRef d S) : Does P o a w (Led w0 S us) := by
  unfold effCall at h
  split at h
  · rename_i hcal
    split at h
    · rename_i x y t t' hargs htys
      split at h
      · rename_i e hd
        split at h
        · rename_i htt
          obtain ⟨rfl, hse⟩ := htt
          exact append_ok hP R hg ho hcal hargs htys (slice_ty hP hd) (hk x (by rw [hargs]; simp)) (hk y (by rw [hargs]; simp)) h hc hn hr
        · cases h
      · cases h
    · cases h
  · rename_i hcal
    split at h
    · rename_i x y t t' hargs htys
      split at h
      · rename_i e hd
        split at h
        · rename_i htt
          obtain ⟨rfl, hse⟩ := htt
          exact copy_ok hP R hg ho hcal hargs htys (slice_ty hP hd) hse (hk x (by rw [hargs]; simp)) (hk y (by rw [hargs]; simp)) h hc hn
        · cases h
      · cases h
    · cases h
  · rename_i f hcal
    split at h
    · rename_i c1 vs hargs
      split at h
      · rename_i c2 r hcon
        split at h
        case isFalse => cases h
        have := ret1_cs h
        subst this
        obtain ⟨ha, hwf⟩ := argsOf_ok R hg _ _ _ hk hargs (fun p hp => hc p (List.mem_append_left _ hp))
        have hs := hP.call f vs c2 r hcon (fun p hp => hc p (List.mem_append_right _ hp)) hwf w (G.later R.below) _ ha
        have hex : execOp a.eval o = (do let d ← resolve a.eval c o.type; invoke d.target d.args) := by simp only [execOp, ho]
        have hres : (resolve a.eval c o.type).run P w = .ok { target := .fn (.func f) #[], args := c.args.map a.eval } w := by
          simp only [resolve, hcal, Act.eval, Deferred.ofValue]
          simp
        have hrun : (execOp a.eval o).run P w = (callFunc f (c.args.map a.eval)).run P w := by
          rw [hex, Sem.run_bind, hres]
          simp [invoke]
        have hto : (c.args.toList.map a.eval).toArray = c.args.map a.eval := by
          apply Array.ext'
          simp
        rw [hto] at hs
        rcases hs with ⟨fn, hf, hbody, hname, hcalls⟩ | ⟨v, hnl, hr0, hdir⟩
        · refine does_call (f := f) (args := c.args.map a.eval) (w' := w) ?_ hcalls ?_
          · rw [hrun]
            simp only [callFunc, Sem.run_bind, run_program, Result.andThen_ok, hf, hname, hbody, Bool.false_eq_true, if_false, Sem.run_pure]
          · intro e w'' ⟨v, he, hr1, hb⟩
            refine ⟨v, he, ?_⟩
            by_cases hnl : lst? r = none
            · obtain ⟨q1, q2, q3⟩ := ResR_ok (m := m) hr1 hnl
              exact ⟨m, ret1_ok (R.later hb) h q1 q2 q3 hn⟩
            · have hgr := grownBy_below hb
              obtain ⟨y, hy⟩ : ∃ y, lst? r = some y := by
                cases hh : lst? r with
                | none => exact absurd hh hnl
                | some y => exact ⟨y, rfl⟩
              rcases lst_cases hy with ⟨k, es, len, f', rfl, _⟩ | ⟨k, es, len, f', ps, rfl, _⟩
              · obtain ⟨⟨e', ho'⟩, hin⟩ := hr1
                have hlv := owns_lv ho'
                have ho2 := owns_mono ho' R.below.size
                exact R.newL (x := .osl k es len f') rfl (by rw [hlv]; exact ho2) hgr (by rw [hlv]; exact fun b hb => (ho'.lt b hb).1) (VR_osl ho2 hlv) hin h hn hr
              · obtain ⟨u, hu, ⟨⟨e', ho'⟩, hin⟩, hpl, hwp⟩ := hr1
                have hlv : lv v = u := by rw [hu]; simp [lv]
                have ho2 := owns_mono ho' R.below.size
                refine R.newL (x := .otup k es len f' ps) rfl (by rw [hlv]; exact ho2) hgr (by rw [hlv]; exact fun b hb => (ho'.lt b hb).1) ?_ ⟨hin, hwp⟩ h hn hr
                intro m' hm d
                subst hm
                rw [hlv]
                obtain ⟨aa, cc, h5, h6⟩ := owns_SL ho2
                refine ⟨aa, cc, ?_, ?_, hpl⟩
                · rw [hu, h5]
                · rw [mset_same]; exact h6
        · obtain ⟨q1, q2, q3⟩ := ResR_ok (m := m) hr0 hnl
          exact led_value (i := 0) R rfl (by rw [hrun]; exact hdir) h q1 q2 q3 hn
      · cases h
    · cases h
  · rename_i hcal
    split at h
    · rename_i x t hargs htys
      split at h
      · rename_i e hd
        have hT := slice_ty hP hd
        obtain ⟨hv, hw⟩ := opg_ok R hg x (hk x (by rw [hargs]; simp))
        have hlen : ∀ (aa : Option Addr) (l cp : Nat), a.eval x = .slice aa l cp → (execOp a.eval o).run P w = .ok (.value (.int .i64 l)) w := by
          intro aa l cp hev
          have h1 : c.args = #[x] := Array.toList_inj.1 (by simp [hargs])
          have h2 : c.argTypes = #[t] := Array.toList_inj.1 (by simp [htys])
          simp only [execOp, ho, Sem.run_bind, resolve, hcal, h1, h2, Sem.run_pure, Result.andThen_ok, invoke, builtin, Builtin.len_, List.map_toArray, List.map_cons, List.map_nil, hev]
          simp only [List.getElem?_toArray, List.getElem?_cons_zero, Sem.run_bind, run_underlying hT, Result.andThen_ok, Sem.run_pure, goInt]
        have fin : ∀ (l : SO) (cp : Nat) (aa : Option Addr), a.eval x = .slice aa l.val cp → ret1 o.dst [] (.int .i64 (lenSI l)) = some (cs, us) → l.val ≤ 9223372036854775807 → Does P o a w (Led w0 S us) := by
          intro l cp aa hev hret hle
          refine led_value (i := 0) R rfl (hlen _ _ _ hev) hret rfl ?_ ?_ hn
          · cases l <;> rfl
          · show inR _ _
            cases l <;> simp [lenSI, SI.val, inR, IntKind.min, IntKind.max, IntKind.signed, IntKind.bits, SO.val] at hle ⊢ <;> omega
        split at h
        · rename_i hx
          rw [hx] at hv
          obtain ⟨aa, cc, h1, h2, h3, h4⟩ := hv
          unfold capMax at h4
          exact fin _ _ _ h1 h (by omega)
        · rename_i hx
          rw [hx] at hv
          obtain ⟨aa, cc, h1, h2, h3, h4⟩ := hv
          unfold capMax at h4
          exact fin _ _ _ h1 h (by omega)
        · rename_i hx
          rw [hx] at hv
          obtain ⟨aa, cc, h1, h2, h3, h4, h5⟩ := hv
          unfold capMax at h5
          exact fin _ _ _ h1 h (by omega)
        · cases h
      · cases h
    · cases h
  · cases h
end
end Sx
