/-
  The rest of the operations, and all of them together.
-/
import Derived.Test.YtnfbjfbndnmhmaaSxE
namespace Sx
open Go Go.RowKit

section
variable {P : Program} {E : Env} {w0 : World} {m : M} {S : St} {a : Act} {w : World} {gd : Gd}

def BR (l : Option SI) (v : Option Value) : Prop :=
  match l with
  | none => v = none
  | some i => ∃ k, v = some (.int k i.val)

theorem bound_run (R : Rel w0 m S a w) (hg : GdOK S gd) {x : Option Operand} (hk : ∀ y, x = some y → constOk y = true) {l : Option SI} (h : bound gd S x = some l) : BR l (x.map a.eval) := by
  cases x with
  | none => cases h; rfl
  | some y =>
    simp only [bound] at h
    split at h
    · rename_i k n hx
      cases h
      obtain ⟨hv, _⟩ := opg_ok R hg y (hk y rfl)
      rw [hx] at hv
      exact ⟨k, by simp only [Option.map_some]; rw [hv]⟩
    · cases h

theorem bounds_run (hP : EnvOK P E) (isS : Bool) (len cap : Nat) (l h : Option SI) (lv hv : Option Value) (el : BR l lv) (eh : BR h hv)
    (n : SO) (hn : n.val = len) (ch : ∀ i, h = some i → 0 ≤ i.val ∧ i.val ≤ (cap : Int)) (cl : ∀ i, l = some i → 0 ≤ i.val ∧ i.val ≤ ((orElse E h n).val : Int)) (w : World) :
    (Instr.sliceBounds isS len cap lv hv none).run P w = .ok ((orElse E l (.lit 0)).val, (orElse E h n).val, cap) w := by
  have hi : ∀ i : SI, (i.off E.A).val = i.val.toNat := off_val hP
  have sb : ∀ (k : IntKind) (x : Int) (y : Nat) (cd : BoundsCode), 0 ≤ x ∧ x ≤ (y : Int) → (Instr.sliceBound (.int k x) y cd).run P w = .ok x.toNat w := by
    intro k x y cd hxy
    simp only [Instr.sliceBound, Sem.run_bind, asInt_run, Result.andThen_ok, Sem.run_ite, Sem.run_pure]
    rw [if_pos hxy]
  cases h with
  | none =>
    have eh : hv = none := eh
    subst eh
    cases l with
    | none =>
      have el : lv = none := el
      subst el
      simp only [Instr.sliceBounds, Sem.run_bind, Sem.run_pure, Result.andThen_ok, orElse, lit_val, hn]
    | some i =>
      obtain ⟨k, rfl⟩ := el
      have := cl i rfl
      simp only [orElse, hn] at this
      simp only [Instr.sliceBounds, Sem.run_bind, Sem.run_pure, Result.andThen_ok, orElse, sb _ _ _ _ this, hi, hn]
  | some j =>
    obtain ⟨k2, rfl⟩ := eh
    have h1 := ch j rfl
    cases l with
    | none =>
      have el : lv = none := el
      subst el
      simp only [Instr.sliceBounds, Sem.run_bind, Sem.run_pure, Result.andThen_ok, orElse, lit_val, sb _ _ _ _ h1, hi]
    | some i =>
      obtain ⟨k, rfl⟩ := el
      have h2 := cl i rfl
      simp only [orElse, hi] at h2
      simp only [Instr.sliceBounds, Sem.run_bind, Sem.run_pure, Result.andThen_ok, orElse, sb _ _ _ _ h1, sb _ _ _ _ h2, hi]

theorem upto?_ok {i : Option SI} {n : SO} {cs : List Prop} (h : upto? i n = some cs) (hc : ∀ p ∈ cs, p) : ∀ j, i = some j → 0 ≤ j.val ∧ j.val ≤ (n.val : Int) := by
  intro j hj
  subst hj
  exact upto_ok h hc

theorem slice_ok (hP : EnvOK P E) (R : Rel w0 m S a w) (hg : GdOK S gd) {o : Oper} {T : TypeId} {x : Operand} {lo hi mx : Option Operand} (ho : o.op = .slice T x lo hi mx) (hk : constOk x = true)
    (hkl : ∀ y, lo = some y → constOk y = true) (hkh : ∀ y, hi = some y → constOk y = true) {cs : List Prop} {us : List (Nat × AV)}
    (h : effSlice E gd S o.dst T x lo hi mx = some (cs, us)) (hc : ∀ p ∈ cs, p) (hn : ∀ d ∈ us.map Prod.fst, noWhen d S) : Does P o a w (Led w0 S us) := by
  obtain ⟨hv, _⟩ := opg_ok R hg x hk
  unfold effSlice at h
  split at h
  · cases h
  split at h
  · rename_i l hh hl1 hh1
    have el := bound_run R hg hkl hl1
    have eh := bound_run R hg hkh hh1
    split at h
    · rename_i n e hd
      have hT : P.underlying T = some (.array n e) := by have := hP.ty T; unfold TyOK at this; rw [hd] at this; exact this.1
      split at h
      · rename_i hse0
        obtain ⟨hse, hcap⟩ := hse0
        obtain ⟨inf, hinf, hsz⟩ := sized_info hP hse
        split at h
        · rename_i v t c1 c2 hx hxt hu1 hu2
          have := ret1_cs h
          subst this
          obtain ⟨t', ht', hs⟩ := opg_slot R hg hx rfl (by simp)
          subst ht'
          cases hxt
          rw [hx] at hv
          have ch := upto?_ok hu1 (fun p hp => hc p (List.mem_append_left _ hp))
          have cl := upto?_ok hu2 (fun p hp => hc p (List.mem_append_right _ hp))
          have hb := bounds_run (P := P) hP false n n l hh (lo.map a.eval) (hi.map a.eval) el eh (.lit n) rfl ch cl w
          have hle2 : (orElse E hh (.lit n)).val ≤ n := by
            cases hh with
            | none => exact Nat.le_refl _
            | some j => have := ch j rfl; simp only [orElse, off_val hP]; simp only [SO.val] at this; omega
          have hle1 : (orElse E l (.lit 0)).val ≤ (orElse E hh (.lit n)).val := by
            cases l with
            | none => simp [orElse, SO.val]
            | some j => have := cl j rfl; simp only [orElse, off_val hP]; simp only [orElse] at this; omega
          obtain ⟨h0, _⟩ := own_block R hs
          have hev : a.eval (.tmp t) = .pointer (some ⟨(m t).1, 0, none⟩) := by
            have := hv.1
            simp only [slotOf] at this
            rw [this, h0]
          refine led_value (i := 0) R rfl (v := .slice (some (if n = (orElse E l (.lit 0)).val then ⟨(m t).1, 0, none⟩ else ⟨(m t).1, 0 + (orElse E l (.lit 0)).val * (E.ty e).sz, none⟩)) ((orElse E hh (.lit n)).val - (orElse E l (.lit 0)).val) (n - (orElse E l (.lit 0)).val)) ?_ h rfl ?_ trivial hn
          · simp only [execOp, ho, hev, Instr.sliceAt, Sem.run_bind, run_underlying hT, Result.andThen_ok, sure, Option.map_none, hb, run_size hinf, hsz, Sem.run_pure, addr_add]
          · refine ⟨some (if n = (orElse E l (.lit 0)).val then ⟨(m t).1, 0, none⟩ else ⟨(m t).1, 0 + (orElse E l (.lit 0)).val * (E.ty e).sz, none⟩), by simp only [sub_val, lit_val], ?_, ?_⟩
            · intro hp
              simp only [sub_val] at hp
              rw [if_neg (by omega), h0]
              simp only [mul_val]
            · simp only [sub_val, lit_val]; exact ⟨by omega, by omega⟩
        · cases h
      · cases h
    · rename_i e hd
      have hT : P.underlying T = some (.slice e) := by have := hP.ty T; unfold TyOK at this; rw [hd] at this; exact this
      split at h
      · rename_i s es off len cap hx
        rw [hx] at hv
        obtain ⟨aa, hv1, hv2, hv3, hv4⟩ := hv
        split at h
        · rename_i hcond
          obtain ⟨hes, hse⟩ := hcond
          obtain ⟨inf, hinf, hsz⟩ := sized_info hP hse
          split at h
          · rename_i c1 c2 hu1 hu2
            have := ret1_cs h
            subst this
            have ch := upto?_ok hu1 (fun p hp => hc p (List.mem_append_left _ hp))
            have cl := upto?_ok hu2 (fun p hp => hc p (List.mem_append_right _ hp))
            have hb := bounds_run (P := P) hP true len.val cap.val l hh (lo.map a.eval) (hi.map a.eval) el eh len rfl (fun i hi => by have := ch i hi; omega) cl w
            have hle2 : (orElse E hh len).val ≤ len.val := by
              cases hh with
              | none => exact Nat.le_refl _
              | some j => have := ch j rfl; simp only [orElse, off_val hP]; omega
            have hle1 : (orElse E l (.lit 0)).val ≤ (orElse E hh len).val := by
              cases l with
              | none => simp [orElse, SO.val]
              | some j => have := cl j rfl; simp only [orElse, off_val hP]; simp only [orElse] at this; omega
            refine led_value (i := 0) R rfl (v := .slice (if cap.val = (orElse E l (.lit 0)).val then aa else aa.map (·.add ((orElse E l (.lit 0)).val * (E.ty e).sz))) ((orElse E hh len).val - (orElse E l (.lit 0)).val) (cap.val - (orElse E l (.lit 0)).val)) ?_ h rfl ?_ trivial hn
            · simp only [execOp, ho, hv1, Instr.sliceAt, Instr.slice, Sem.run_bind, run_underlying hT, Result.andThen_ok, Option.map_none, hb, run_size hinf, hsz, Sem.run_pure]
            · refine ⟨if cap.val = (orElse E l (.lit 0)).val then aa else aa.map (·.add ((orElse E l (.lit 0)).val * (E.ty e).sz)), by simp only [sub_val], ?_, ?_⟩
              · intro hp
                simp only [sub_val] at hp
                rw [if_neg (by omega)]
                rw [hv2 (by omega)]
                simp only [Option.map_some, addr_add, add_val, mul_val, hes, Nat.add_assoc]
              · simp only [sub_val]; exact ⟨by omega, by omega⟩
          · cases h
        · cases h
      · cases h
    · cases h
  · cases h

theorem int_ty (hP : EnvOK P E) {T : TypeId} {k : IntKind} (hd : (E.ty T).d = .int k) : P.underlying T = some (.int k) := by
  have := hP.ty T
  unfold TyOK at this
  rw [hd] at this
  exact this.1
theorem slice_ty (hP : EnvOK P E) {T e : TypeId} (hd : (E.ty T).d = .slice e) : P.underlying T = some (.slice e) := by
  have := hP.ty T
  unfold TyOK at this
  rw [hd] at this
  exact this

theorem convert_ok (hP : EnvOK P E) (R : Rel w0 m S a w) (hg : GdOK S gd) {o : Oper} {s d : TypeId} {x : Operand} (ho : o.op = .convert s d x) (hk : constOk x = true) {cs : List Prop} {us : List (Nat × AV)}
    (h : effConvert E gd S o.dst s d x = some (cs, us)) (hn : ∀ d ∈ us.map Prod.fst, noWhen d S) : Does P o a w (Led w0 S us) := by
  obtain ⟨hv, _⟩ := opg_ok R hg x hk
  unfold effConvert at h
  split at h
  · rename_i ks kd kx n hs hd hx
    rw [hx] at hv
    have hv' : a.eval x = .int kx n.val := hv
    refine led_value (i := 0) R rfl (v := .int kd (kd.wrap n.val)) ?_ h rfl ?_ ?_ hn
    · simp only [execOp, ho, hv', convert, Sem.run_bind, run_underlying (int_ty hP hs), run_underlying (int_ty hP hd), Result.andThen_ok, Conv.intToInt, Sem.run_pure]
    · cases n <;> simp [VR, SI.cnv, SI.val, hP.A, realOps]
    · show inR _ _
      cases n <;> simp only [SI.cnv, SI.val, hP.A, realOps] <;> exact wrap_in _ _
  · cases h

theorem un_ok (hP : EnvOK P E) (R : Rel w0 m S a w) (hg : GdOK S gd) {o : Oper} {op : UnOp} {t : TypeId} {x : Operand} (ho : o.op = .unOp op t x) (hk : constOk x = true) {cs : List Prop} {us : List (Nat × AV)}
    (h : effUn E gd S o.dst op x = some (cs, us)) (hn : ∀ d ∈ us.map Prod.fst, noWhen d S) : Does P o a w (Led w0 S us) := by
  obtain ⟨hv, _⟩ := opg_ok R hg x hk
  unfold effUn at h
  split at h
  · rename_i k n hx
    rw [hx] at hv
    have hv' : a.eval x = .int k n.val := hv
    refine led_value (i := 0) R rfl (v := .int k (realUn .neg k n.val)) ?_ h rfl ?_ ?_ hn
    · simp only [execOp, ho, hv', Op.unary, Op.intArith, Sem.run_bind, Result.andThen_ok, Sem.run_pure, realUn]
    · cases n <;> simp [VR, SI.un, SI.val, hP.A, realOps]
    · show inR _ _
      cases n <;> simp only [SI.un, SI.val, hP.A, realOps, realUn] <;> exact wrap_in _ _
  · rename_i k n hx
    rw [hx] at hv
    have hv' : a.eval x = .int k n.val := hv
    refine led_value (i := 0) R rfl (v := .int k (realUn .xor k n.val)) ?_ h rfl ?_ ?_ hn
    · simp only [execOp, ho, hv', Op.unary, Op.intBits, Sem.run_bind, Result.andThen_ok, Sem.run_pure, realUn]
    · cases n <;> simp [VR, SI.un, SI.val, hP.A, realOps]
    · show inR _ _
      cases n <;> simp only [SI.un, SI.val, hP.A, realOps, realUn] <;> exact wrap_in _ _
  · rename_i b hx
    rw [hx] at hv
    have hv' : a.eval x = .bool b.val := hv
    refine led_value (i := 0) R rfl (v := .bool (!b.val)) ?_ h rfl ?_ trivial hn
    · simp only [execOp, ho, hv', Op.unary, Sem.run_bind, Result.andThen_ok, Sem.run_pure]
    · cases b <;> rfl
  · cases h

theorem binop_ok (hP : EnvOK P E) (R : Rel w0 m S a w) (hg : GdOK S gd) {o : Oper} {op : BinOp} {t t2 : TypeId} {x y : Operand} (ho : o.op = .binOp op t x y t2) (hk : constOk x = true) (hk2 : constOk y = true) {cs cs' : List Prop} {r : AV} {us : List (Nat × AV)}
    (hb : binEff E op t (opg gd S x) (opg gd S y) = some (cs', r)) (h : ret1 o.dst cs' r = some (cs, us)) (hc : ∀ p ∈ cs, p) (hn : ∀ d ∈ us.map Prod.fst, noWhen d S) : Does P o a w (Led w0 S us) := by
  obtain ⟨hv, hw⟩ := opg_ok R hg x hk
  obtain ⟨hv2, _⟩ := opg_ok R hg y hk2
  have := ret1_cs h
  subst this
  obtain ⟨e1, e2, e3, e4⟩ := binEff_ok hP hb hc hv hv2 hw w x y
  refine led_value (i := 0) R rfl ?_ h (plain_free e3) (VR_pv e3) (wfP_wfV e3 e4) hn
  simp only [execOp, ho, Sem.run_bind, e1, e2, Result.andThen_ok, Sem.run_pure]

theorem extract_ok (R : Rel w0 m S a w) (hg : GdOK S gd) {o : Oper} {x : Operand} {i : Nat} (ho : o.op = .extract x i) (hk : constOk x = true) {ps : List AV} {r : AV} {cs : List Prop} {us : List (Nat × AV)}
    (hx : opg gd S x = .tup ps) (hr : ps[i]? = some r) (h : ret1 o.dst [] r = some (cs, us)) (hn : ∀ d ∈ us.map Prod.fst, noWhen d S) : Does P o a w (Led w0 S us) := by
  obtain ⟨hv, hw⟩ := opg_ok R hg x hk
  rw [hx] at hv hw
  obtain ⟨h1, h2⟩ := hv
  have hmem : r ∈ ps := List.mem_of_getElem? hr
  have hp : plain r = true := List.all_eq_true.1 h2 r hmem
  refine led_value (i := 0) R rfl (v := pv r) ?_ h (plain_free hp) (VR_pv hp) (wfP_wfV hp (hw r hmem)) hn
  simp only [execOp, ho, h1, Instr.extract, Sem.run_bind]
  have : (ps.map pv).toArray[i]? = some (pv r) := by simp [hr]
  rw [this]
  rfl

/-- The parts of a composite, laid one by one. -/
theorem fill_writeAt (cells : Array Value) (off : Nat) (v : Value) : (v.cells.zipIdx.foldl (fun cs (c, j) => cs.setIfInBounds (off + j) c) cells) = writeAt cells off v.cells.toList := by
  have key : ∀ (l : List Value) (k : Nat) (cells : Array Value), (l.zipIdx k).foldl (fun cs (p : Value × Nat) => cs.setIfInBounds (off + p.2) p.1) cells = writeAt cells (off + k) l := by
    intro l
    induction l with
    | nil => intro k cells; rfl
    | cons x l ih =>
      intro k cells
      simp only [List.zipIdx_cons, List.foldl_cons, writeAt, ih, Nat.add_assoc]
  have := key v.cells.toList 0 cells
  simp only [Nat.add_zero] at this
  rw [← this, ← Array.foldl_toList]
  simp

theorem lay_ok (hP : EnvOK P E) (R : Rel w0 m S a w) (hg : GdOK S gd) (place : Nat → Option (Nat × TypeId)) (size : Nat → Option (Nat × Nat)) (hsize : ∀ i off T, place i = some (off, T) → size i = some (off, (E.ty T).sz)) :
    ∀ (ps : List (Nat × Operand)) (x x' : AV), (∀ p ∈ ps, constOk p.2 = true) → wfP x → plain x = true → lay E gd S place x ps = some x' →
      Instr.fill size (cellsOf x) (ps.map fun p => (p.1, a.eval p.2)) = some (cellsOf x') ∧ wfP x' ∧ plain x' = true
  | [], x, x', _, hw, hp, h => by
    simp only [lay] at h
    cases h
    exact ⟨rfl, hw, hp⟩
  | (i, o) :: ps, x, x', hk, hw, hp, h => by
    simp only [lay] at h
    split at h
    · rename_i off T hpl
      split at h
      · rename_i x1 hput
        obtain ⟨hv, hwo⟩ := opg_ok R hg o (hk (i, o) (by simp))
        obtain ⟨c1, c2, c3, c4, _, c6, c7, c8⟩ := put_cells hP hput (fun p hp => by simp at hp) hw hwo
        obtain ⟨r1, r2, r3⟩ := lay_ok hP R hg place size hsize ps x1 x' (fun p hp => hk p (by simp [hp])) c7 c6 h
        refine ⟨?_, r2, r3⟩
        have hev := plain_VR c8 hv
        simp only [List.map_cons, Instr.fill, hsize i off T hpl, hev]
        simp only [lit_val] at c1 c3
        rw [if_neg (by simp [c2]; rw [← c2]; exact c3), fill_writeAt, c1]
        exact r1
      · cases h
    · cases h

theorem mapM_places (hP : EnvOK P E) (fields : Array Field) (w : World) (h : ∀ f ∈ fields.toList, sized E f.type = true) :
    (fields.mapM (m := Sem) fun f => do pure (f.offset, ← Go.sizeOf f.type)).run P w = .ok (fields.map fun f => (f.offset, (E.ty f.type).sz)) w := by
  rw [Array.mapM_eq_mapM_toList]
  have key : ∀ l : List Field, (∀ f ∈ l, sized E f.type = true) → (l.mapM (m := Sem) fun f => do pure (f.offset, ← Go.sizeOf f.type)).run P w = .ok (l.map fun f => (f.offset, (E.ty f.type).sz)) w := by
    intro l
    induction l with
    | nil => intro _; rfl
    | cons f l ih =>
      intro hl
      obtain ⟨inf, hi, hs⟩ := sized_info hP (hl f (by simp))
      simp only [List.mapM_cons, Sem.run_bind, run_size hi, Result.andThen_ok, Sem.run_pure, ih (fun g hg => hl g (by simp [hg])), hs, List.map_cons]
  rw [Sem.run_map, key _ h]
  simp only [Result.andThen_ok]
  congr 1
  apply Array.ext'
  simp

theorem put_arr {T : TypeId} {x v x' : AV} {off : SO} {cs : List Prop} (h : put E T x off v = some (cs, x')) (hx : ∃ k n f, x = .arr k n f) : ∃ k n f, x' = .arr k n f := by
  unfold put at h
  repeat' split at h
  all_goals try (obtain ⟨_, _, _, e⟩ := hx; cases e; done)
  all_goals first | (cases h; done) | (cases h; exact ⟨_, _, _, rfl⟩)

theorem lay_arr {place : Nat → Option (Nat × TypeId)} : ∀ (ps : List (Nat × Operand)) (x x' : AV), lay E gd S place x ps = some x' → (∃ k n f, x = .arr k n f) → ∃ k n f, x' = .arr k n f
  | [], x, x', h, hx => by simp only [lay] at h; cases h; exact hx
  | (i, o) :: ps, x, x', h, hx => by
    simp only [lay] at h
    split at h
    · split at h
      · rename_i x1 hput
        exact lay_arr ps x1 x' h (put_arr hput hx)
      · cases h
    · cases h

theorem zero_wf (k : IntKind) (n : Nat) : wfP (.arr k n (fun _ => 0)) := fun _ _ => ⟨min_nonpos k, max_nonneg k⟩

theorem build_ok (hP : EnvOK P E) (R : Rel w0 m S a w) (hg : GdOK S gd) {o : Oper} {T : TypeId} {ps : Array (Nat × Operand)} (ho : o.op = .build T ps) (hk : ∀ p ∈ ps.toList, constOk p.2 = true) {cs : List Prop} {us : List (Nat × AV)}
    (h : effBuild E gd S o.dst T ps = some (cs, us)) (hn : ∀ d ∈ us.map Prod.fst, noWhen d S) : Does P o a w (Led w0 S us) := by
  have ht := hP.ty T
  have zz : ∀ z, isA (E.ty T).d = true → zero E T = some z → z = .arr (E.ty T).k (E.ty T).sz (fun _ => 0) := by
    intro z ha hz
    unfold zero at hz
    split at hz
    · rename_i hd; rw [hd] at ha; cases ha
    · rename_i hd; rw [hd] at ha; cases ha
    · cases hz; rfl
    · cases hz; rfl
    · cases hz
  have hmap : (ps.map fun (x : Nat × Operand) => match x with | (i, x) => (i, a.eval x)).toList = ps.toList.map fun p => (p.1, a.eval p.2) := by simp
  unfold effBuild at h
  split at h
  · rename_i n e hd
    have ha : isA (E.ty T).d = true := by rw [hd]; rfl
    obtain ⟨_, inf, hi, hs, hz0⟩ := ht.agg ha
    have hT : P.underlying T = some (.array n e) := by unfold TyOK at ht; rw [hd] at ht; exact ht.1
    split at h
    · rename_i hse
      obtain ⟨inf2, hi2, hs2⟩ := sized_info hP hse
      split at h
      · rename_i z hz
        have := zz z ha hz
        subst this
        split at h
        · rename_i v hl
          obtain ⟨l1, l2, l3⟩ := lay_ok hP R hg _ (fun i => some (i * (E.ty e).sz, (E.ty e).sz)) (fun i off T' hpl => by cases hpl; rfl) ps.toList _ v hk (zero_wf _ _) rfl hl
          obtain ⟨k, nn, f, rfl⟩ := lay_arr _ _ _ hl ⟨_, _, _, rfl⟩
          refine led_value (i := 0) R rfl (v := .agg (cellsA k nn f)) ?_ h rfl rfl l2 hn
          simp only [execOp, ho, Instr.build, Sem.run_bind, run_zero hi hz0, Result.andThen_ok, run_underlying hT, run_size hi2, hs2, hmap, Value.cells]
          simp only [cellsOf] at l1
          rw [l1]
          rfl
        · cases h
      · cases h
    · cases h
  · rename_i fs hd
    have ha : isA (E.ty T).d = true := by rw [hd]; rfl
    obtain ⟨_, inf, hi, hs, hz0⟩ := ht.agg ha
    obtain ⟨fields, hT, hfs⟩ := struct_ty hP hd
    split at h
    · rename_i hse
      split at h
      · rename_i z hz
        have := zz z ha hz
        subst this
        split at h
        · rename_i v hl
          have hsz : ∀ f ∈ fields.toList, sized E f.type = true := by
            intro f hf
            have : (f.offset, f.type) ∈ fs := by rw [← hfs]; exact List.mem_map.2 ⟨f, hf, rfl⟩
            exact List.all_eq_true.1 hse _ this
          obtain ⟨l1, l2, l3⟩ := lay_ok hP R hg _ (fun i => (fields.map fun f => (f.offset, (E.ty f.type).sz))[i]?) (fun i off T' hpl => by
            obtain ⟨f, g1, g2, g3⟩ := fields_get hfs hpl
            simp only [Array.getElem?_map, g1, Option.map_some, g2, g3]) ps.toList _ v hk (zero_wf _ _) rfl hl
          obtain ⟨k, nn, f, rfl⟩ := lay_arr _ _ _ hl ⟨_, _, _, rfl⟩
          refine led_value (i := 0) R rfl (v := .agg (cellsA k nn f)) ?_ h rfl rfl l2 hn
          simp only [execOp, ho, Instr.build, Sem.run_bind, run_zero hi hz0, Result.andThen_ok, run_underlying hT, mapM_places hP fields w hsz, hmap, Value.cells]
          simp only [cellsOf] at l1
          rw [l1]
          rfl
        · cases h
      · cases h
    · cases h
  · cases h
end
end Sx
