/-
  Each operation, one by one.
-/
import Derived.Test.YtnfbjfbndnmhmaaSxD
namespace Sx
open Go Go.RowKit

section
variable {P : Program} {E : Env} {w0 : World} {m : M} {S : St} {a : Act} {w : World} {gd : Gd}

/-- What an operation leads to. -/
def Led (w0 : World) (S : St) (us : List (Nat × AV)) (a' : Act) (w' : World) : Prop := ∃ m', Rel w0 m' (app us S) a' w'

theorem led_value {o : Oper} {dst : Option Tmp} {x : AV} {v : Value} {cs cs' : List Prop} {us : List (Nat × AV)} {i : Nat} (R : Rel w0 m S a w) (hd : dst = o.dst)
    (he : (execOp a.eval o).run P w = .ok (.value v) w) (h : ret1 dst cs x = some (cs', us)) (hf : free x = true) (hv : VR m i x v) (hw : wfV x) (hn : ∀ d ∈ us.map Prod.fst, noWhen d S) :
    Does P o a w (Led w0 S us) := by
  subst hd
  exact does_value he ⟨m, ret1_ok R h hf hv hw hn⟩

theorem move_ok (R : Rel w0 m S a w) (hg : GdOK S gd) {o : Oper} {x : Operand} (ho : o.op = .move x ∨ o.op = .assign x) (hk : constOk x = true) {cs : List Prop} {us : List (Nat × AV)}
    (h : effMove gd S o.dst x = some (cs, us)) (hn : ∀ d ∈ us.map Prod.fst, noWhen d S) : Does P o a w (Led w0 S us) := by
  have he : (execOp a.eval o).run P w = .ok (.value (a.eval x)) w := by
    rcases ho with ho | ho <;> simp only [execOp, ho] <;> rfl
  obtain ⟨hv, hwf⟩ := opg_ok R hg x hk
  unfold effMove at h
  split at h
  all_goals try (cases h; done)
  all_goals try (rename_i hx; rw [hx] at hv hwf; exact led_value R rfl he h rfl hv hwf hn)
  · rename_i kk es len cap f hx
    split at h
    · rename_i t
      rw [hx] at hv
      obtain ⟨aa, h1, h2, h3⟩ := hv
      refine led_value (i := 0) R rfl he h rfl ?_ trivial hn
      exact ⟨aa, h1, fun hp => by rw [h2 hp]; rfl, h3⟩
    · cases h

theorem alloc_ok (hP : EnvOK P E) (R : Rel w0 m S a w) {o : Oper} {T : TypeId} (ho : o.op = .alloc T) {v : AV} {cs : List Prop} {us : List (Nat × AV)} (hz : zero E T = some v)
    (h : ret1 o.dst [] (.own v) = some (cs, us)) (hn : ∀ d ∈ us.map Prod.fst, noWhen d S) (hr : ∀ d ∈ us.map Prod.fst, noRef d S) : Does P o a w (Led w0 S us) := by
  have ht := hP.ty T
  have key : ∃ inf, P.info? T = some inf ∧ inf.zero = some (pv v) ∧ plain v = true ∧ wfP v ∧ (pv v).cells = cellsOf v := by
    unfold zero at hz
    split at hz
    · rename_i k hd
      cases hz
      unfold TyOK at ht; rw [hd] at ht
      obtain ⟨_, _, inf, h2, _, h3⟩ := ht
      exact ⟨inf, h2, h3, rfl, ⟨min_nonpos k, max_nonneg k⟩, rfl⟩
    · rename_i hd
      cases hz
      unfold TyOK at ht; rw [hd] at ht
      obtain ⟨_, _, inf, h2, _, h3⟩ := ht
      exact ⟨inf, h2, h3, rfl, trivial, rfl⟩
    · rename_i hd
      cases hz
      obtain ⟨_, inf, h2, _, h3⟩ := ht.agg (by rw [hd]; rfl)
      exact ⟨inf, h2, h3, rfl, fun _ _ => ⟨min_nonpos _, max_nonneg _⟩, rfl⟩
    · rename_i hd
      cases hz
      obtain ⟨_, inf, h2, _, h3⟩ := ht.agg (by rw [hd]; rfl)
      exact ⟨inf, h2, h3, rfl, fun _ _ => ⟨min_nonpos _, max_nonneg _⟩, rfl⟩
    · cases hz
  obtain ⟨inf, hi, hzv, hp, hwf, hc⟩ := key
  have he : (execOp a.eval o).run P w = .ok (.value (.pointer (some ⟨w.heap.size, 0, none⟩))) (w.alloc (.cells (cellsOf v) T)) := by
    simp only [execOp, ho, Instr.alloc, Sem.run_bind, run_zero hi hzv, Result.andThen_ok, newVar, newRow, run_newObj, Sem.run_pure, hc, World.alloc]
  unfold ret1 at h
  split at h
  · rename_i d hd
    cases h
    refine does_value he ⟨mset m d (w.heap.size, 0), ?_⟩
    rw [hd]
    exact R.alloc d v T hp hwf (hr d (by simp)) (hn d (by simp))
  · rename_i hd
    cases h
    refine does_value he ⟨m, ?_⟩
    rw [hd]
    have h2 : Below w.heap.size w (w.alloc (.cells (cellsOf v) T)) := (Below.refl _ _).alloc (Nat.le_refl _) _
    exact R.later h2

theorem box_ok (R : Rel w0 m S a w) (hg : GdOK S gd) {o : Oper} {T : TypeId} {x : Operand} (ho : o.op = .box T x) (hk : constOk x = true) {cs : List Prop} {us : List (Nat × AV)} (hb : boxable E T (opg gd S x) = true)
    (h : ret1 o.dst [] (.own (opg gd S x)) = some (cs, us)) (hn : ∀ d ∈ us.map Prod.fst, noWhen d S) (hr : ∀ d ∈ us.map Prod.fst, noRef d S) : Does P o a w (Led w0 S us) := by
  obtain ⟨hv, hwf⟩ := opg_ok R hg x hk
  have hp : plain (opg gd S x) = true := by
    revert hb
    unfold boxable
    cases opg gd S x <;> cases (E.ty T).d <;> simp [plain]
  have hev := plain_VR hp hv
  have hc : (a.eval x).cells = cellsOf (opg gd S x) := by
    rw [hev]
    revert hb
    unfold boxable
    cases opg gd S x <;> cases (E.ty T).d <;> simp [pv, cellsOf, Value.cells]
  have he : (execOp a.eval o).run P w = .ok (.value (.pointer (some ⟨w.heap.size, 0, none⟩))) (w.alloc (.cells (cellsOf (opg gd S x)) T)) := by
    simp only [execOp, ho, Instr.box, Sem.run_bind, Result.andThen_ok, newVar, newRow, run_newObj, Sem.run_pure, hc, World.alloc]
  unfold ret1 at h
  split at h
  · rename_i d hd
    cases h
    refine does_value he ⟨mset m d (w.heap.size, 0), ?_⟩
    rw [hd]
    exact R.alloc d _ T hp (wfV_wfP hp hwf) (hr d (by simp)) (hn d (by simp))
  · rename_i hd
    cases h
    refine does_value he ⟨m, ?_⟩
    rw [hd]
    have h2 : Below w.heap.size w (w.alloc (.cells (cellsOf (opg gd S x)) T)) := (Below.refl _ _).alloc (Nat.le_refl _) _
    exact R.later h2

theorem pick_ok (R : Rel w0 m S a w) {o : Oper} {c x y : Operand} (ho : o.op = .pick c x y) (hkx : constOk x = true) (hky : constOk y = true) {cs : List Prop} {us : List (Nat × AV)}
    (h : effPick S o.dst c x y = some (cs, us)) (hn : ∀ d ∈ us.map Prod.fst, noWhen d S) : Does P o a w (Led w0 S us) := by
  unfold effPick at h
  split at h
  · rename_i t
    have hc := getG_ok R (gd := none) trivial t
    have hget : ∀ b, get S t = .bool b → a.eval (.tmp t) = .bool b.val := by
      intro b hb
      have := vals_get R t
      rw [hb] at this
      exact this.1
    have he : ∀ b, get S t = .bool b → (execOp a.eval o).run P w = .ok (.value (if b.val then a.eval x else a.eval y)) w := by
      intro b hb
      simp only [execOp, ho, hget b hb, asBool, Sem.run_bind, Sem.run_pure, Result.andThen_ok]
    split at h
    · rename_i hb
      have e1 := he _ hb
      have hg : GdOK S (some (t, true)) := ⟨_, hb, rfl⟩
      obtain ⟨hv, hwf⟩ := opg_ok R hg x hkx
      simp only [SB.val, if_true] at e1
      unfold effMove at h
      split at h
      all_goals try (cases h; done)
      all_goals try (rename_i hx; rw [hx] at hv hwf; exact led_value R rfl e1 h rfl hv hwf hn)
      · rename_i kk es len cap f hx
        split at h
        · rename_i t
          rw [hx] at hv
          obtain ⟨aa, h1, h2, h3⟩ := hv
          exact led_value (i := 0) R rfl e1 h rfl ⟨aa, h1, fun hp => by rw [h2 hp]; rfl, h3⟩ trivial hn
        · cases h
    · rename_i hb
      have e1 := he _ hb
      have hg : GdOK S (some (t, false)) := ⟨_, hb, rfl⟩
      obtain ⟨hv, hwf⟩ := opg_ok R hg y hky
      simp only [SB.val, Bool.false_eq_true, if_false] at e1
      unfold effMove at h
      split at h
      all_goals try (cases h; done)
      all_goals try (rename_i hx; rw [hx] at hv hwf; exact led_value R rfl e1 h rfl hv hwf hn)
      · rename_i kk es len cap f hx
        split at h
        · rename_i t
          rw [hx] at hv
          obtain ⟨aa, h1, h2, h3⟩ := hv
          exact led_value (i := 0) R rfl e1 h rfl ⟨aa, h1, fun hp => by rw [h2 hp]; rfl, h3⟩ trivial hn
        · cases h
    · rename_i p hb
      have e1 := he _ hb
      have hg : GdOK S (some (t, p)) := ⟨_, hb, rfl⟩
      simp only [SB.val] at e1
      split at h
      · rename_i b1 b2 hx hy
        refine led_value (i := 0) R rfl e1 h rfl ?_ trivial hn
        cases p
        · obtain ⟨hv, _⟩ := opg_ok R hg y hky
          rw [hy] at hv
          simp only [Bool.false_eq_true, if_false, cond_false]
          exact hv
        · obtain ⟨hv, _⟩ := opg_ok R hg x hkx
          rw [hx] at hv
          simp only [if_true, cond_true]
          exact hv
      · rename_i k n1 k' n2 hx hy
        split at h
        · rename_i hk
          subst hk
          cases p
          · obtain ⟨hv, hwf⟩ := opg_ok R hg y hky
            rw [hy] at hv hwf
            refine led_value (i := 0) R rfl e1 h rfl ?_ ?_ hn
            · simp only [Bool.false_eq_true, if_false, cond_false]; exact hv
            · exact hwf
          · obtain ⟨hv, hwf⟩ := opg_ok R hg x hkx
            rw [hx] at hv hwf
            refine led_value (i := 0) R rfl e1 h rfl ?_ ?_ hn
            · simp only [if_true, cond_true]; exact hv
            · exact hwf
        · cases h
      · cases h
    · cases h
  · cases h

theorem sure (b off : Nat) (w : World) : (Instr.sureAddr (.pointer (some ⟨b, off, none⟩))).run P w = .ok ⟨b, off, none⟩ w := rfl

/-- The block of a slot that holds one. -/
theorem own_block (R : Rel w0 m S a w) {s : Nat} {x : AV} (hs : get S s = .own x) : (m s).2 = 0 ∧ (∃ T, w.heap[(m s).1]? = some (.cells (cellsOf x) T (0, 0))) ∧ plain x = true ∧ wfP x := by
  obtain ⟨_, b2, b3⟩ := R.blks s x hs
  have := vals_get R s
  rw [hs] at this
  exact ⟨b2, b3, this.1.2, this.2⟩

theorem load_ok (hP : EnvOK P E) (G : GlobOK E.glob w0) (R : Rel w0 m S a w) (hg : GdOK S gd) {rd : List Nat} {o : Oper} {T : TypeId} {x : Operand} (ho : o.op = .load T x) (hk : constOk x = true) {cs : List Prop} {us : List (Nat × AV)}
    (h : effLoad E rd gd S o.dst T x = some (cs, us)) (hc : ∀ p ∈ cs, p) (hn : ∀ d ∈ us.map Prod.fst, noWhen d S) : Does P o a w (Led w0 S us) := by
  obtain ⟨hv, _⟩ := opg_ok R hg x hk
  have fin : ∀ (b off : Nat) (r : AV) (cs' : List Prop), a.eval x = .pointer (some ⟨b, off, none⟩) → (loadVar T ⟨b, off, none⟩).run P w = .ok (pv r) w → plain r = true → wfP r →
      ret1 o.dst cs' r = some (cs, us) → Does P o a w (Led w0 S us) := by
    intro b off r cs' he hl hp hw hret
    refine led_value (i := 0) R rfl ?_ hret (plain_free hp) (VR_pv hp) (wfP_wfV hp hw) hn
    simp only [execOp, ho, Instr.loadAt, he, Sem.run_bind, sure, Result.andThen_ok, hl, Sem.run_pure]
  unfold effLoad at h
  split at h
  · rename_i v hx
    obtain ⟨t, rfl, ht⟩ := opg_slot R hg hx rfl (by simp)
    rw [hx] at hv
    obtain ⟨h0, ⟨T0, hb⟩, hp, hw⟩ := own_block R ht
    split at h
    · rename_i cs' r hs
      have := ret1_cs h
      subst this
      obtain ⟨l1, l2, l3⟩ := sub_ok hP hs hc hw hb
      have hev : a.eval (.tmp t) = .pointer (some ⟨(m t).1, 0, none⟩) := by
        have := hv.1
        simp only [slotOf] at this
        rw [this, h0]
      exact fin _ _ _ _ hev l1 l2 l3 h
    · cases h
  · rename_i s off hx
    rw [hx] at hv
    split at h
    · split at h
      · rename_i v hs
        obtain ⟨h0, ⟨T0, hb⟩, hp, hw⟩ := own_block R hs
        split at h
        · rename_i cs' r hsub
          have := ret1_cs h
          subst this
          obtain ⟨l1, l2, l3⟩ := sub_ok hP hsub hc hw hb
          have hev : a.eval x = .pointer (some ⟨(m s).1, off.val, none⟩) := by
            have := hv
            simp only [VR, h0, Nat.zero_add] at this
            exact this
          exact fin _ _ _ _ hev l1 l2 l3 h
        · cases h
      · cases h
    · cases h
  · rename_i g off hx
    rw [hx] at hv
    split at h
    · rename_i cs' r hsub
      have := ret1_cs h
      subst this
      have hgl := (G.later R.below) g
      have hne : ∃ T fz, plain (E.glob g) = true ∧ wfP (E.glob g) ∧ w.heap[g]? = some (.cells (cellsOf (E.glob g)) T fz) := by
        revert hgl hsub
        cases E.glob g <;> intro hsub hgl
        · unfold sub at hsub; split at hsub <;> simp at hsub
        all_goals exact ⟨hgl.2.2.choose, hgl.2.2.choose_spec.choose, hgl.1, hgl.2.1, hgl.2.2.choose_spec.choose_spec⟩
      obtain ⟨T0, fz, _, hw, hb⟩ := hne
      obtain ⟨l1, l2, l3⟩ := sub_ok hP hsub hc hw hb
      exact fin _ _ _ _ hv l1 l2 l3 h
    · cases h
  · rename_i s off hx
    rw [hx] at hv
    split at h
    · split at h
      · rename_i k es len cap f hs
        have hwx := (vals_get R s)
        rw [hs] at hwx
        have hcells := R.xsls s k es len cap f hs
        have hcw : ∀ j, j < len.val * es → w.cell? ⟨(m s).1, (m s).2 + j, none⟩ = some (.int k (f j)) := by
          intro j hj
          have := hcells j hj
          rw [R.below.cell (World.block_lt_of_cell? w0 _ this)]
          exact this
        split at h
        · rename_i k' hd
          split at h
          · rename_i hkk
            subst hkk
            have := ret1_cs h
            subst this
            have hle : off.val + 1 ≤ len.val * es := (hc _ (List.mem_singleton.2 rfl)).h
            have h1 : P.underlying T = some (.int k) := by have := hP.ty T; unfold TyOK at this; rw [hd] at this; exact this.1
            exact fin _ _ (.int k (.sym (f off.val))) _ hv (run_load_one h1 rfl (hcw _ (by omega))) rfl (show inR k (f off.val) from hwx.2 _ (by omega)) h
          · cases h
        all_goals try (cases h; done)
        all_goals
          rename_i hd
          split at h
          · rename_i hkk
            have := ret1_cs h
            subst this
            have hle : off.val + (E.ty T).sz ≤ len.val * es := (hc _ (List.mem_singleton.2 rfl)).h
            have ha : isA (E.ty T).d = true := by rw [hd]; rfl
            refine fin _ _ (.arr k (E.ty T).sz (fun j => f (off.val + j))) _ hv (run_load_cells (hP.ty T) ha (k := k) (f := fun j => f (off.val + j)) ?_) rfl (fun i (hi : i < (E.ty T).sz) => hwx.2 (off.val + i) (by omega)) h
            intro j hj
            rw [Nat.add_assoc]
            exact hcw _ (by omega)
          · cases h
      · cases h
    · cases h
  · cases h

theorem store_ok (hP : EnvOK P E) (R : Rel w0 m S a w) (hg : GdOK S gd) {rd ks : List Nat} {o : Oper} {T : TypeId} {x y : Operand} (ho : o.op = .store T x y) (hk : constOk x = true) (hk2 : constOk y = true) {cs : List Prop} {us : List (Nat × AV)}
    (h : effStore E rd ks gd S o.dst T x y = some (cs, us)) (hc : ∀ p ∈ cs, p) : Does P o a w (Led w0 S us) := by
  obtain ⟨hv, _⟩ := opg_ok R hg x hk
  obtain ⟨hv2, hw2⟩ := opg_ok R hg y hk2
  have fin : ∀ (s : Nat) (off : SO) (v v' : AV) (cs' : List Prop), get S s = .own v → a.eval x = .pointer (some ⟨(m s).1, off.val, none⟩) → put E T v off (opg gd S y) = some (cs', v') → (∀ p ∈ cs', p) → o.dst = none →
      Does P o a w (Led w0 S [(s, .own v')]) := by
    intro s off v v' cs' hs he hput hcs hd
    obtain ⟨h0, ⟨T0, hb⟩, hp, hw⟩ := own_block R hs
    obtain ⟨s1, s2, s3, s4⟩ := put_ok hP hput hcs hw hw2 hb
    rw [← plain_VR s4 hv2] at s1
    refine does_skip (w' := w.setRow (m s).1 (cellsOf v')) ?_ ⟨m, ?_⟩
    · simp only [execOp, ho, Instr.storeAt, he, Sem.run_bind, sure, Result.andThen_ok, s1, Sem.run_pure]
    · rw [hd]
      exact R.store s v v' hs s2 s3
  unfold effStore at h
  split at h
  · cases h
  · rename_i hd
    split at h
    · rename_i v hx
      split at h
      · rename_i t hxt
        split at h
        · split at h
          · rename_i cs' v' hput
            cases h
            obtain ⟨t', ht', hs⟩ := opg_slot R hg hx rfl (by simp)
            subst ht'
            cases hxt
            rw [hx] at hv
            obtain ⟨h0, _⟩ := own_block R hs
            refine fin _ (.lit 0) v v' cs hs ?_ hput hc hd
            have := hv.1
            simp only [slotOf] at this
            rw [this, h0]
            rfl
          · cases h
        · cases h
      · cases h
    · rename_i s off hx
      split at h
      · split at h
        · rename_i v hs
          split at h
          · rename_i cs' v' hput
            cases h
            rw [hx] at hv
            obtain ⟨h0, _⟩ := own_block R hs
            refine fin s off v v' cs hs ?_ hput hc hd
            simp only [VR, h0, Nat.zero_add] at hv
            exact hv
          · cases h
        · cases h
      · cases h
    · cases h

theorem asInt_run (k : IntKind) (n : Int) (w : World) : (asIntOf (.int k n)).run P w = .ok (k, n) w := rfl

theorem indexAt_arr {T e : TypeId} {n : Nat} {inf : TypeInfo} (hT : P.underlying T = some (.array n e)) (hi : P.info? e = some inf) {b off : Nat} {k : IntKind} {i : Int} (h0 : 0 ≤ i) (h1 : i < (n : Int)) (w : World) :
    (Instr.indexAt T (.pointer (some ⟨b, off, none⟩)) (.int k i)).run P w = .ok (.pointer (some ⟨b, off + i.toNat * inf.size, none⟩)) w := by
  simp only [Instr.indexAt, Sem.run_bind, asInt_run, Result.andThen_ok, run_underlying hT, sure, Sem.run_pure, Sem.run_ite, run_size hi, addr_add]
  rw [if_pos ⟨h0, h1⟩]

theorem indexAt_slice {T e : TypeId} {inf : TypeInfo} (hT : P.underlying T = some (.slice e)) (hi : P.info? e = some inf) {b off len cap : Nat} {k : IntKind} {i : Int} (h0 : 0 ≤ i) (h1 : i < (len : Int)) (w : World) :
    (Instr.indexAt T (.slice (some ⟨b, off, none⟩) len cap) (.int k i)).run P w = .ok (.pointer (some ⟨b, off + i.toNat * inf.size, none⟩)) w := by
  simp only [Instr.indexAt, Sem.run_bind, asInt_run, Result.andThen_ok, run_underlying hT, Sem.run_pure, Sem.run_ite, run_size hi, addr_add]
  rw [if_pos ⟨h0, h1⟩]

theorem sized_info (hP : EnvOK P E) {e : TypeId} (h : sized E e = true) : ∃ inf, P.info? e = some inf ∧ inf.size = (E.ty e).sz := by
  apply (hP.ty e).info
  unfold sized at h
  revert h
  cases (E.ty e).d <;> simp

theorem indexAddr_ok (hP : EnvOK P E) (R : Rel w0 m S a w) (hg : GdOK S gd) {rd : List Nat} {o : Oper} {T : TypeId} {x i : Operand} (ho : o.op = .indexAddr T x i) (hk : constOk x = true) (hk2 : constOk i = true) {cs : List Prop} {us : List (Nat × AV)}
    (h : effIndexAddr E rd gd S o.dst T x i = some (cs, us)) (hc : ∀ p ∈ cs, p) (hn : ∀ d ∈ us.map Prod.fst, noWhen d S) : Does P o a w (Led w0 S us) := by
  obtain ⟨hv, _⟩ := opg_ok R hg x hk
  obtain ⟨hvi, _⟩ := opg_ok R hg i hk2
  unfold effIndexAddr at h
  split at h
  · rename_i ki iv hi
    rw [hi] at hvi
    split at h
    · rename_i n e hd
      have hT : P.underlying T = some (.array n e) := by have := hP.ty T; unfold TyOK at this; rw [hd] at this; exact this.1
      split at h
      · rename_i hse
        obtain ⟨inf, hinf, hsz⟩ := sized_info hP hse
        split at h
        · rename_i cs1 hw1
          have fin : ∀ (b off : Nat) (r : AV), a.eval x = .pointer (some ⟨b, off, none⟩) → ret1 o.dst cs1 r = some (cs, us) → free r = true → VR m 0 r (.pointer (some ⟨b, off + (iv.off E.A).val * (E.ty e).sz, none⟩)) → wfV r → Does P o a w (Led w0 S us) := by
            intro b off r he hret hf hvr hwr
            have := ret1_cs hret
            subst this
            obtain ⟨h0, h1⟩ := within_ok hw1 hc
            refine led_value (i := 0) R rfl ?_ hret hf hvr hwr hn
            have hvi' : a.eval i = .int ki iv.val := hvi
            simp only [execOp, ho, he, hvi', Sem.run_bind, indexAt_arr hT hinf h0 h1, Result.andThen_ok, Sem.run_pure, off_val hP, hsz]
          split at h
          · rename_i v hx
            split at h
            · rename_i t hxt
              obtain ⟨t', ht', hs⟩ := opg_slot R hg hx rfl (by simp)
              subst ht'
              cases hxt
              rw [hx] at hv
              refine fin _ _ _ hv.1 h rfl ?_ trivial
              simp only [VR, slotOf, mul_val]
            · cases h
          · rename_i s off hx
            rw [hx] at hv
            refine fin _ _ _ hv h rfl ?_ trivial
            simp only [VR, add_val, mul_val, Nat.add_assoc]
          · rename_i g off hx
            rw [hx] at hv
            refine fin _ _ _ hv h rfl ?_ trivial
            simp only [VR, add_val, mul_val]
          · cases h
        · cases h
      · cases h
    · rename_i e hd
      have hT : P.underlying T = some (.slice e) := by have := hP.ty T; unfold TyOK at this; rw [hd] at this; exact this
      have fin : ∀ (b off len cap : Nat) (cs1 : List Prop) (r : AV), sized E e = true → a.eval x = .slice (some ⟨b, off, none⟩) len cap → (0 ≤ iv.val ∧ iv.val < (len : Int)) → ret1 o.dst cs1 r = some (cs, us) → free r = true →
          VR m 0 r (.pointer (some ⟨b, off + (iv.off E.A).val * (E.ty e).sz, none⟩)) → wfV r → Does P o a w (Led w0 S us) := by
        intro b off len cap cs1 r hse he hb hret hf hvr hwr
        obtain ⟨inf, hinf, hsz⟩ := sized_info hP hse
        refine led_value (i := 0) R rfl ?_ hret hf hvr hwr hn
        have hvi' : a.eval i = .int ki iv.val := hvi
        simp only [execOp, ho, he, hvi', Sem.run_bind, indexAt_slice hT hinf hb.1 hb.2, Result.andThen_ok, Sem.run_pure, off_val hP, hsz]
      split at h
      · rename_i s es off len cap hx
        rw [hx] at hv
        obtain ⟨aa, h1, h2, _⟩ := hv
        split at h
        · rename_i hh
          obtain ⟨hes, _, hse⟩ := hh
          split at h
          · rename_i cs1 hw1
            split at h
            · have := ret1_cs h
              subst this
              have hb := within_ok hw1 hc
              refine fin _ _ _ _ _ _ hse (by rw [h1, h2 (by omega)]) hb h rfl ?_ trivial
              simp only [VR, add_val, mul_val, Nat.add_assoc, hes]
            · have := ret1_cs h
              subst this
              have hb := within_ok hw1 hc
              refine fin _ _ _ _ _ _ hse (by rw [h1, h2 (by omega)]) hb h rfl ?_ trivial
              simp only [VR, add_val, mul_val, Nat.add_assoc, hes]
            · cases h
          · cases h
        · cases h
      · rename_i kk es len cap f hx
        rw [hx] at hv
        obtain ⟨aa, h1, h2, _⟩ := hv
        split at h
        · rename_i hh
          obtain ⟨hes, hse⟩ := hh
          split at h
          · rename_i t cs1 hxt hw1
            have := ret1_cs h
            subst this
            obtain ⟨t', ht', hs⟩ := opg_slot R hg hx rfl (by simp)
            subst ht'
            cases hxt
            have hb := within_ok hw1 hc
            refine fin _ _ _ _ _ _ hse (by rw [h1, h2 (by omega)]) hb h rfl ?_ trivial
            simp only [VR, slotOf, mul_val, hes]
          · cases h
        · cases h
      · cases h
    · cases h
  · cases h

theorem fields_get {fs : Array Field} {l : List (Nat × TypeId)} (h : fs.toList.map (fun f => (f.offset, f.type)) = l) {i o : Nat} {t : TypeId} (hi : l[i]? = some (o, t)) : ∃ f, fs[i]? = some f ∧ f.offset = o ∧ f.type = t := by
  subst h
  simp only [List.getElem?_map, Option.map_eq_some_iff, Array.getElem?_toList, Prod.mk.injEq] at hi
  exact hi

theorem struct_ty (hP : EnvOK P E) {T : TypeId} {fs : List (Nat × TypeId)} (hd : (E.ty T).d = .struct fs) : ∃ fields, P.underlying T = some (.struct fields) ∧ fields.toList.map (fun f => (f.offset, f.type)) = fs := by
  have := hP.ty T
  unfold TyOK at this
  rw [hd] at this
  obtain ⟨fields, h1, h2, _⟩ := this
  exact ⟨fields, h1, h2⟩

theorem fieldAddr_ok (hP : EnvOK P E) (R : Rel w0 m S a w) (hg : GdOK S gd) {o : Oper} {T : TypeId} {x : Operand} {fi : Nat} (ho : o.op = .fieldAddr T x fi) (hk : constOk x = true) {cs : List Prop} {us : List (Nat × AV)}
    (h : effFieldAddr E gd S o.dst T x fi = some (cs, us)) (hn : ∀ d ∈ us.map Prod.fst, noWhen d S) : Does P o a w (Led w0 S us) := by
  obtain ⟨hv, _⟩ := opg_ok R hg x hk
  unfold effFieldAddr at h
  split at h
  · rename_i fs hd
    obtain ⟨fields, hT, hfs⟩ := struct_ty hP hd
    split at h
    · rename_i oo ft hf
      obtain ⟨f, hf1, hf2, hf3⟩ := fields_get hfs hf
      split at h
      · cases h
      · rename_i hz
        have hz1 : (E.ty ft).sz ≠ 0 := fun e => hz (.inl e)
        have hz2 : sized E ft = true := by
          cases hh : sized E ft
          · exact absurd (.inr (by simp [hh])) hz
          · rfl
        obtain ⟨inf, hinf, hsz⟩ := sized_info hP hz2
        have fin : ∀ (b off : Nat) (r : AV), a.eval x = .pointer (some ⟨b, off, none⟩) → ret1 o.dst [] r = some (cs, us) → free r = true → VR m 0 r (.pointer (some ⟨b, off + oo, none⟩)) → wfV r → Does P o a w (Led w0 S us) := by
          intro b off r he hret hfr hvr hwr
          refine led_value (i := 0) R rfl ?_ hret hfr hvr hwr hn
          simp only [execOp, ho, he, Instr.fieldAt, Sem.run_bind, run_underlying hT, Result.andThen_ok, hf1, sure, fieldPlace, hf3, run_size hinf, Sem.run_ite, hsz, if_neg hz1, Sem.run_pure, addr_add, hf2]
        split at h
        · rename_i v hx
          split at h
          · rename_i t hxt
            obtain ⟨t', ht', hs⟩ := opg_slot R hg hx rfl (by simp)
            subst ht'
            cases hxt
            rw [hx] at hv
            exact fin _ _ _ hv.1 h rfl rfl trivial
          · cases h
        · rename_i s off hx
          rw [hx] at hv
          refine fin _ _ _ hv h rfl ?_ trivial
          simp only [VR, add_val, lit_val, Nat.add_assoc]
        · rename_i g off hx
          rw [hx] at hv
          refine fin _ _ _ hv h rfl ?_ trivial
          simp only [VR, add_val, lit_val]
        · cases h
    · cases h
  · cases h

/-- A part of a value. -/
theorem part_ok (hP : EnvOK P E) {T : TypeId} {x : AV} {off : SO} {cs : List Prop} {r : AV} (h : sub E T x off = some (cs, r)) (hc : ∀ p ∈ cs, p) {k : IntKind} {n : Nat} {f : Nat → Int} (hx : x = .arr k n f) (hw : wfP (.arr k n f)) (w : World) :
    (part T (cellsA k n f) off.val).run P w = .ok (pv r) w ∧ plain r = true ∧ wfP r := by
  have ht := hP.ty T
  have agg : ∀ (ha : isA (E.ty T).d = true) (o : Nat), o + (E.ty T).sz ≤ n → (part T (cellsA k n f) o).run P w = .ok (.agg (cellsA k (E.ty T).sz (fun j => f (o + j)))) w := by
    intro ha o hle
    obtain ⟨⟨d, hd, hag⟩, inf, hi, hs, _⟩ := ht.agg ha
    have : (cellsA k n f).extract o (o + (E.ty T).sz) = cellsA k (E.ty T).sz (fun j => f (o + j)) := by
      apply Array.ext
      · simp; omega
      · intro i h1 h2
        simp [cellsA]
    simp only [part, Sem.run_bind, run_agg hd, hag, Result.andThen_ok, if_true, run_size hi, hs, this, Sem.run_pure]
  unfold sub at h
  split at h
  · rename_i k' hd
    have h1 : P.underlying T = some (.int k') := by unfold TyOK at ht; rw [hd] at ht; exact ht.1
    split at h
    · cases hx
    · rename_i k2 n2 f2
      cases hx
      split at h
      · rename_i hkk
        subst hkk
        split at h
        · rename_i cs' hf
          cases h
          have hle := fits_ok hf hc
          refine ⟨?_, rfl, hw _ (by omega)⟩
          have hcell := cellsA_get k' n f off.val (by omega)
          simp only [part, Sem.run_bind, run_agg h1, isG, Result.andThen_ok, Bool.false_eq_true, if_false, hcell]
          rfl
        · cases h
      · cases h
    · cases h
  · split at h
    · cases hx
    · cases h
  all_goals try (rename_i hd; cases h; done)
  all_goals
    rename_i hd
    have ha : isA (E.ty T).d = true := by rw [hd]; rfl
    split at h
    · rename_i k2 n2 f2
      cases hx
      split at h
      · rename_i hkk
        split at h
        · rename_i hnn
          cases h
          refine ⟨?_, rfl, hw⟩
          have := agg ha 0 (by omega)
          simp only [Nat.zero_add] at this
          rw [hnn] at this
          exact this
        · split at h
          · rename_i hnn
            cases h
            refine ⟨?_, rfl, fun i hi => hw i (by omega)⟩
            have := agg ha 0 (by omega)
            simp only [Nat.zero_add] at this
            exact this
          · cases h
      · cases h
    · rename_i k2 n2 f2 _
      cases hx
      split at h
      · rename_i hkk
        split at h
        · rename_i cs' hf
          cases h
          have hle := fits_ok hf hc
          exact ⟨agg ha off.val hle, rfl, fun i (hi : i < (E.ty T).sz) => hw (off.val + i) (by omega)⟩
        · cases h
      · cases h
    · cases h

theorem field_ok (hP : EnvOK P E) (R : Rel w0 m S a w) (hg : GdOK S gd) {o : Oper} {T : TypeId} {x : Operand} {fi : Nat} (ho : o.op = .field T x fi) (hk : constOk x = true) {cs : List Prop} {us : List (Nat × AV)}
    (h : effField E gd S o.dst T x fi = some (cs, us)) (hc : ∀ p ∈ cs, p) (hn : ∀ d ∈ us.map Prod.fst, noWhen d S) : Does P o a w (Led w0 S us) := by
  obtain ⟨hv, hwf⟩ := opg_ok R hg x hk
  unfold effField at h
  split at h
  · rename_i fs hd
    obtain ⟨fields, hT, hfs⟩ := struct_ty hP hd
    split at h
    · rename_i oo ft hf
      obtain ⟨f, hf1, hf2, hf3⟩ := fields_get hfs hf
      split at h
      · rename_i k n g hx
        rw [hx] at hv hwf
        split at h
        · rename_i cs1 r hsub
          have := ret1_cs h
          subst this
          obtain ⟨p1, p2, p3⟩ := part_ok hP hsub hc rfl hwf w
          refine led_value (i := 0) R rfl ?_ h (plain_free p2) (VR_pv p2) (wfP_wfV p2 p3) hn
          have hv' : a.eval x = .agg (cellsA k n g) := hv
          simp only [SO.val] at p1
          simp only [execOp, ho, hv', Instr.field, Sem.run_bind, run_underlying hT, Result.andThen_ok, hf1, asAgg, Sem.run_pure, hf2, hf3, p1]
        · cases h
      · cases h
    · cases h
  · cases h

theorem index_ok (hP : EnvOK P E) (R : Rel w0 m S a w) (hg : GdOK S gd) {o : Oper} {T : TypeId} {x i : Operand} (ho : o.op = .index T x i) (hk : constOk x = true) (hk2 : constOk i = true) {cs : List Prop} {us : List (Nat × AV)}
    (h : effIndex E gd S o.dst T x i = some (cs, us)) (hc : ∀ p ∈ cs, p) (hn : ∀ d ∈ us.map Prod.fst, noWhen d S) : Does P o a w (Led w0 S us) := by
  obtain ⟨hv, hwf⟩ := opg_ok R hg x hk
  obtain ⟨hvi, _⟩ := opg_ok R hg i hk2
  unfold effIndex at h
  split at h
  · rename_i n e k mm f ki iv hd hx hi
    have hT : P.underlying T = some (.array n e) := by have := hP.ty T; unfold TyOK at this; rw [hd] at this; exact this.1
    rw [hx] at hv hwf
    rw [hi] at hvi
    split at h
    · rename_i hse
      obtain ⟨inf, hinf, hsz⟩ := sized_info hP hse
      split at h
      · rename_i cs1 cs2 r hw1 hsub
        have := ret1_cs h
        subst this
        obtain ⟨h0, h1⟩ := within_ok hw1 (fun p hp => hc p (List.mem_append_left _ hp))
        obtain ⟨p1, p2, p3⟩ := part_ok hP hsub (fun p hp => hc p (List.mem_append_right _ hp)) rfl hwf w
        refine led_value (i := 0) R rfl ?_ h (plain_free p2) (VR_pv p2) (wfP_wfV p2 p3) hn
        have hv' : a.eval x = .agg (cellsA k mm f) := hv
        have hvi' : a.eval i = .int ki iv.val := hvi
        simp only [mul_val, off_val hP] at p1
        simp only [SO.val] at h1
        simp only [execOp, ho, hv', hvi', Instr.index, Sem.run_bind, asInt_run, run_underlying hT, Result.andThen_ok, Sem.run_ite, run_size hinf, hsz, p1, Sem.run_pure]
        rw [if_pos ⟨h0, h1⟩]
        rfl
      · cases h
    · cases h
  · cases h
end
end Sx
