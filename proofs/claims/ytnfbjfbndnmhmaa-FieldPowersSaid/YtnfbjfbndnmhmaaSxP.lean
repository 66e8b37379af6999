/-
  From a contract to a given row: what a law's call leaves, the arguments opened, the laid variables.
-/
import Derived.Test.YtnfbjfbndnmhmaaSxN
import Derived.WalkKit
import Derived.ProofKit
import Derived.OpenShut
import Derived.JoinedCond
import Derived.Deep.DeepHandedRow
import Derived.Lib.LaidTab
import Derived.Carry
import Derived.WideKeyArgs
namespace Sx
open Go Go.ChangeShapes Go.WideShapes Go.ChangeAt Go.RowKit

section
variable {H : Type} {enc : TypeId × Value → H} {P : Program}

theorem stays_all (hl : laidOutB P = true) {W W' : World} {base : Nat} {sp' : Nat → Bool} :
    ∀ {ts : List TypeId} {vs : List Value} {ds : List (DataW H)} {ps : List MemPlace}, (ts.all fun t => P.readableRec t && decide (t < P.types.size)) = true →
      DataW.TrodAll enc P W base (fun _ => true) true ts vs ds ps → (∀ p ∈ ps, W.sameAt W' p) → (∀ p ∈ ps, sp' p.block = true) → DataW.TrodAll enc P W' base sp' true ts vs ds ps
  | [], [], [], _, _, h, _, _ => h
  | t :: ts, v :: vs, d :: ds, _, ht, h, hs, hp => by
    obtain ⟨p, q, h1, h2, rfl⟩ := h
    simp only [List.all_cons, Bool.and_eq_true, decide_eq_true_eq] at ht
    exact ⟨p, q, WideElems.Trod_stays hl ht.1.1 ht.1.2 h1 (fun x hx => hs x (List.mem_append_left _ hx)) (fun x hx => hp x (List.mem_append_left _ hx)),
      stays_all hl ht.2 h2 (fun x hx => hs x (List.mem_append_right _ hx)) (fun x hx => hp x (List.mem_append_right _ hx)), rfl⟩
  | [], [], _ :: _, _, _, h, _, _ => h.elim
  | [], _ :: _, _, _, _, h, _, _ => by cases ‹List (DataW H)› <;> exact h.elim
  | _ :: _, [], _, _, _, h, _, _ => by cases ‹List (DataW H)› <;> exact h.elim
  | _ :: _, _ :: _, [], _, _, h, _, _ => h.elim

theorem trodAll_len {W : World} {base : Nat} {sp : Nat → Bool} {hd : Bool} : ∀ {ts : List TypeId} {vs : List Value} {ds : List (DataW H)} {ps : List MemPlace},
    DataW.TrodAll enc P W base sp hd ts vs ds ps → vs.length = ts.length ∧ ds.length = ts.length
  | [], [], [], _, _ => ⟨rfl, rfl⟩
  | _ :: _, _ :: _, _ :: _, _, ⟨_, _, _, h, _⟩ => by
    obtain ⟨a, b⟩ := trodAll_len h
    simp [a, b]
  | [], [], _ :: _, _, h => h.elim
  | [], _ :: _, ds, _, h => by cases ds <;> exact h.elim
  | _ :: _, [], ds, _, h => by cases ds <;> exact h.elim
  | _ :: _, _ :: _, [], _, h => h.elim

/-- WHAT A LAW LEAVES that answers true and turned nothing that was there. -/
theorem law_post (hl : laidOutB P = true) {f : FuncId} {fn : Func} {s : ChangeSpec} {fresh handsOn again apart : Bool} (htys : (fn.params.toList.all fun t => P.readableRec t && decide (t < P.types.size)) = true)
    {tb : TypeId} (hres : fn.resultTypes = #[tb]) (htb : P.underlying tb = some .bool) (hv : s.vars = [])
    (hs : ∀ ds : List (DataW H), ds.length = fn.params.toList.length → s.fn H ds = { results := [.lit (.bool true)], args := ds })
    {W : World} {args : Array Value} {ds gs : List (DataW H)} {before : List MemPlace} (hW : DataW.Whole enc P fn.params.toList s.vars apart W args.toList ds gs before)
    (hC : Calls P f args W fun e w' => ∃ v, e = .returned v ∧ v = .bool true ∧ Below W.heap.size W w') :
    Calls P f args W fun e W' => ∃ v, e = .returned v ∧ s.post enc P fn apart fresh handsOn again W args v W' := by
  have hW' := hW
  obtain ⟨p, q, hA, hV, rfl, hfz, hnd⟩ := hW
  rw [hv] at hV
  have hgs : gs = [] ∧ q = [] := by
    cases gs with
    | nil => exact ⟨rfl, hV⟩
    | cons _ _ => exact hV.elim
  obtain ⟨rfl, rfl⟩ := hgs
  have hlen := (trodAll_len hA).2
  have hlt := hW'.lt
  refine hC.mono fun e W' ⟨v, he, hv', hb⟩ => ?_
  subst hv'
  have hargs : ∀ sp : Nat → Bool, (∀ x ∈ p, sp x.block = true) → DataW.TrodAll enc P W' 0 sp true fn.params.toList args.toList ds p := fun sp hsp =>
    stays_all hl htys hA (fun x hx => hb.same (hlt x (by simpa using hx))) hsp
  have hrs : ∀ (b : Nat) (sp : Nat → Bool) (hd : Bool), DataW.TrodAll enc P W' b sp hd fn.resultTypes.toList ((Value.bool true).resultList fn.resultTypes.size) [.lit (.bool true)] [] := by
    intro b sp hd
    rw [hres]
    exact trodAll_cons_mk (p := []) (p' := []) (shut_bool htb _) trodAll_mk0
  have hvs : ∀ sp : Nat → Bool, DataW.TrodVars enc P W' sp s.vars ([] : List (DataW H)) [] := by
    intro sp
    rw [hv]
    exact rfl
  have hf := hs ds hlen
  refine ⟨_, he, ds, [], p ++ [], [], p, [], hW', ?_, ?_, ?_, hb.frame _, fun _ => ⟨ok_one hres rfl (okWide_bool_mk htb _), .lit (.bool true) :: ds, [], p ++ [], ⟨p, [], ?_, hvs _, rfl, ?_, ?_⟩, fun x hx _ => hx⟩⟩
  · rw [List.append_nil, hf]; exact hrs _ _ _
  · rw [List.append_nil, hf]; exact hargs _ (fun x hx => by simpa using hlt x (by simpa using hx))
  · rw [List.append_nil, hf]; exact hvs _
  · exact trodAll_append (hargs _ (fun _ _ => rfl)) (hrs _ _ _)
  · intro b off hx
    have h1 := hlt _ hx
    have h2 := hb.frozen (p := ⟨b, off, none⟩) h1
    rw [h2]
    exact hfz b off hx
  · exact hnd
end

/-! The arguments, opened. -/
section
variable {P : Program}

def arrChk (P : Program) (t : TypeId) (n : Nat) (k : IntKind) : Bool :=
  (match P.underlying t with | some (.struct _) | some (.array _ _) => true | _ => false) &&
  (match P.cellTypes P.depth t with
    | some ts => ts.length == n && ts.all fun e => match P.underlying e with | some (.int k') => decide (k' = k) | _ => false
    | none => false) && P.cellsOf t == n

theorem cell_int {W : World} {r : Reach} {b : Nat} {t : TypeId} {k : IntKind} {v : Value} (ht : P.underlying t = some (.int k)) (h : Cell.okWide P W r b t v) : ∃ n, v = .int k n ∧ inR k n := by
  unfold Cell.okWide at h
  rw [ht] at h
  simp only at h
  unfold Cell.ok at h
  rw [ht] at h
  cases v <;> simp only at h <;> try (exact h.elim)
  rename_i k' n
  obtain ⟨rfl, h⟩ := h
  exact ⟨n, rfl, h⟩

theorem open_arr {t : TypeId} {n : Nat} {k : IntKind} (hc : arrChk P t n k = true) {W : World} {r : Reach} {b : Nat} {v : Value} (h : Value.okWide P W r b t v) :
    ∃ f, v = .agg (cellsA k n f) ∧ ∀ i, i < n → inR k (f i) := by
  unfold arrChk at hc
  simp only [Bool.and_eq_true, beq_iff_eq] at hc
  obtain ⟨⟨h1, h2⟩, h3⟩ := hc
  have hv : ∃ cs, v = .agg cs ∧ cs.size = P.cellsOf t ∧ Row.okWide P W r b t cs := by
    unfold Value.okWide at h
    split at h1
    · rename_i hu; rw [hu] at h; exact h
    · rename_i hu; rw [hu] at h; exact h
    · cases h1
  obtain ⟨cs, rfl, hsz, ts, hts, _, hcell⟩ := hv
  rw [hts] at h2
  simp only [Bool.and_eq_true, beq_iff_eq, List.all_eq_true] at h2
  obtain ⟨hl, hall⟩ := h2
  have key : ∀ i, i < n → ∃ z, cs[i]? = some (.int k z) ∧ inR k z := by
    intro i hi
    have hlt : i < cs.size := by omega
    obtain ⟨u, hu1, hu2⟩ := hcell i cs[i] (by simp [hlt])
    have hm := hall u (List.mem_of_getElem? hu1)
    split at hm
    · rename_i k' hk
      have := of_decide_eq_true hm
      subst this
      obtain ⟨z, e, hz⟩ := cell_int hk hu2
      exact ⟨z, by simp [hlt, e], hz⟩
    · cases hm
  refine ⟨fun i => match cs[i]? with | some (.int _ z) => z | _ => 0, ?_, ?_⟩
  · congr 1
    apply Array.ext
    · simp; omega
    · intro i hi1 hi2
      obtain ⟨z, e, _⟩ := key i (by omega)
      have e1 : cs[i] = .int k z := by
        have := Array.getElem?_eq_getElem hi1
        rw [this] at e
        exact Option.some.inj e
      have e2 := cellsA_get k n (fun i => match cs[i]? with | some (.int _ z) => z | _ => 0) i (by omega)
      rw [Array.getElem?_eq_getElem hi2] at e2
      have e3 := Option.some.inj e2
      rw [e1, e3]
      simp only [e]
  · intro i hi
    obtain ⟨z, e, hz⟩ := key i hi
    simp only [e]
    exact hz

/-! The variables that a row lists. -/

mutual
def flatT (P : Program) (k : IntKind) : Nat → TypeId → Bool
  | 0, _ => false
  | d + 1, t => match P.underlying t with
    | some (.int k') => decide (k' = k)
    | some (.array n e) => flatT P k d e && P.cellsOf t == n * P.cellsOf e
    | some (.struct fs) => flatF P k d 0 (P.cellsOf t) fs.toList
    | _ => false
def flatF (P : Program) (k : IntKind) : Nat → Nat → Nat → List Field → Bool
  | 0, _, _, _ => false
  | _ + 1, o, n, [] => o == n
  | d + 1, o, n, f :: fs => f.offset == o && flatT P k d f.type && flatF P k d (o + P.cellsOf f.type) n fs
end

mutual
def dflat {H : Type} : DataW H → List Int
  | .lit (.int _ n) => [n]
  | .agg xs => dflats xs
  | _ => []
def dflats {H : Type} : List (DataW H) → List Int
  | [] => []
  | x :: xs => dflat x ++ dflats xs
end

theorem dflats_map {H α : Type} (g : α → DataW H) : ∀ (l : List α), dflats (l.map g) = l.flatMap fun a => dflat (g a)
  | [] => rfl
  | a :: l => by simp [dflats, dflats_map g l]

section
variable {H : Type} {enc : TypeId × Value → H} {w : World} {base : Nat} {sp : Nat → Bool} {hd : Bool}

theorem flat_range {k : IntKind} {c : Nat} {cs : List Value} {h : Nat → Option (DataW H × List MemPlace)} (ih : ∀ i x, h i = some x → (cs.drop (i * c)).take c = (dflat x.1).map (Value.int k)) :
    ∀ (m s : Nat) (xs : List (DataW H × List MemPlace)), (List.range' s m).mapM h = some xs → cs.length = (s + m) * c → cs.drop (s * c) = (dflats (xs.map (·.1))).map (Value.int k)
  | 0, s, xs, hm, hl => by
    simp only [List.range'_zero, List.mapM_nil, Option.pure_def, Option.some.injEq] at hm
    subst hm
    rw [List.drop_eq_nil_of_le (by rw [hl]; simp)]
    rfl
  | m + 1, s, xs, hm, hl => by
    rw [List.range'_succ] at hm
    simp only [List.mapM_cons, Option.bind_eq_bind, Option.bind_eq_some_iff, Option.pure_def, Option.some.injEq] at hm
    obtain ⟨x, hx, r, hr, rfl⟩ := hm
    have h1 := ih s x hx
    have h2 := flat_range ih m (s + 1) r hr (by rw [hl]; congr 1; omega)
    simp only [List.map_cons, dflats, List.map_append]
    rw [← h1, ← h2]
    have e : (s + 1) * c = s * c + c := by rw [Nat.succ_mul]
    rw [e, ← List.drop_drop, List.take_append_drop]

mutual
theorem flat_cells {k : IntKind} : ∀ (d : Nat) (t : TypeId), flatT P k d t = true → ∀ (fuel : Nat) (cs : List Value) (x : DataW H × List MemPlace), DataW.trod enc P w base sp hd fuel t cs = some x → cs = (dflat x.1).map (Value.int k)
  | 0, _, h, _, _, _, _ => by simp [flatT] at h
  | d + 1, t, h, 0, cs, x, hx => by simp [DataW.trod] at hx
  | d + 1, t, h, fuel + 1, cs, x, hx => by
    simp only [flatT] at h
    split at h
    · rename_i k' hu
      have := of_decide_eq_true h
      subst this
      obtain ⟨z, e1, rfl, _⟩ := DataW.trod_int hu hx
      rw [e1]
      rfl
    · rename_i n e hu
      simp only [Bool.and_eq_true, beq_iff_eq] at h
      simp only [DataW.trod, hu] at hx
      split at hx
      · rename_i hl
        obtain ⟨xs, hm, rfl⟩ := Option.map_eq_some_iff.1 hx
        rw [List.range_eq_range'] at hm
        have := flat_range (c := P.cellsOf e) (cs := cs) (k := k) (fun i y hy => flat_cells d e h.1 fuel _ y hy) n 0 xs hm (by rw [hl, h.2]; simp)
        simpa [dflat] using this
      · cases hx
    · rename_i fs hu
      simp only [DataW.trod, hu] at hx
      split at hx
      · rename_i hl
        obtain ⟨xs, hm, rfl⟩ := Option.map_eq_some_iff.1 hx
        have := flat_fields d 0 (P.cellsOf t) fs.toList h fuel cs xs hm hl
        simpa [dflat] using this
      · cases hx
    · cases h
theorem flat_fields {k : IntKind} : ∀ (d o n : Nat) (fs : List Field), flatF P k d o n fs = true → ∀ (fuel : Nat) (cs : List Value) (xs : List (DataW H × List MemPlace)),
    (fs.mapM fun f => DataW.trod enc P w base sp hd fuel f.type ((cs.drop f.offset).take (P.cellsOf f.type))) = some xs → cs.length = n → cs.drop o = (dflats (xs.map (·.1))).map (Value.int k)
  | 0, _, _, _, h, _, _, _, _, _ => by simp [flatF] at h
  | d + 1, o, n, [], h, fuel, cs, xs, hm, hl => by
    simp only [flatF, beq_iff_eq] at h
    simp only [List.mapM_nil, Option.pure_def, Option.some.injEq] at hm
    subst hm
    rw [List.drop_eq_nil_of_le (by omega)]
    rfl
  | d + 1, o, n, f :: fs, h, fuel, cs, xs, hm, hl => by
    simp only [flatF, Bool.and_eq_true, beq_iff_eq] at h
    obtain ⟨⟨ho, ht⟩, hf⟩ := h
    simp only [List.mapM_cons, Option.bind_eq_bind, Option.bind_eq_some_iff, Option.pure_def, Option.some.injEq] at hm
    obtain ⟨x, hx, r, hr, rfl⟩ := hm
    have h1 := flat_cells d f.type ht fuel _ x hx
    have h2 := flat_fields d (o + P.cellsOf f.type) n fs hf fuel cs r hr hl
    simp only [List.map_cons, dflats, List.map_append]
    rw [← h1, ← h2, ho, ← List.drop_drop, List.take_append_drop]
end
end

/-- Variables given by their numbers. -/
abbrev GL := List (Nat × IntKind × List Int)
def globAV (k : IntKind) (zs : List Int) : AV := .arr k zs.length fun i => zs.getD i 0
def lookGL : GL → Nat → AV
  | [], _ => .junk
  | (u, k, zs) :: l, g => if g = u then globAV k zs else lookGL l g

def globChk (P : Program) (laid : List (String × DataW Unit)) (l : GL) : Bool := l.all fun x =>
  (laid.any fun y => (P.globalNamed y.1 == some x.1) && (match (P.globals[x.1]?).map (·.type) with | some t => flatT P x.2.1 20 t | none => false) && (dflat y.2 == x.2.2)) &&
    x.2.2.all fun z => decide (x.2.1.min ≤ z) && decide (z ≤ x.2.1.max)

theorem laid_var {W : World} : ∀ {laid : List (String × DataW Unit)} {ps : List MemPlace}, DataW.LaidVars P W laid ps → ∀ y ∈ laid,
    ∃ g t cs fuel p, P.globalNamed y.1 = some g ∧ (P.globals[g]?).map (·.type) = some t ∧ W.var? P y.1 = some cs ∧ DataW.trod (fun _ => ()) P W 0 (fun _ => true) false fuel t cs.toList = some (y.2, p)
  | [], _, _, y, hy => by simp at hy
  | (n, d) :: r, _, h, y, hy => by
    obtain ⟨g, t, cs, fuel, p, q, h1, h2, h3, h4, h5, rfl⟩ := h
    rcases List.mem_cons.1 hy with rfl | hy
    · exact ⟨g, t, cs, fuel, p, h1, h2, h3, h4⟩
    · exact laid_var h5 y hy

theorem globOK_of {W : World} {laid : List (String × DataW Unit)} (hL : laidMet P laid W) {l : GL} (hc : globChk P laid l = true) : GlobOK (lookGL l) W := by
  obtain ⟨ps, hv, _, _⟩ := hL
  induction l with
  | nil => intro g; trivial
  | cons x l ih =>
    obtain ⟨u, k, zs⟩ := x
    simp only [globChk, List.all_cons, Bool.and_eq_true] at hc
    obtain ⟨⟨h1, h2⟩, h3⟩ := hc
    intro g
    simp only [lookGL]
    by_cases hg : g = u
    · subst hg
      rw [if_pos rfl]
      simp only [globAV]
      rw [List.any_eq_true] at h1
      obtain ⟨y, hy, hc⟩ := h1
      simp only [Bool.and_eq_true, beq_iff_eq] at hc
      obtain ⟨⟨c1, c2⟩, c3⟩ := hc
      obtain ⟨g', t, cs, fuel, p, e1, e2, e3, e4⟩ := laid_var hv y hy
      obtain rfl := Option.some.inj (c1.symm.trans e1)
      rw [e2] at c2
      have hcs := flat_cells 20 t c2 fuel _ _ e4
      rw [c3] at hcs
      refine ⟨rfl, fun i hi => ?_, ?_⟩
      · rw [List.all_eq_true] at h2
        have := h2 (zs.getD i 0) (by rw [List.getD_eq_getElem?_getD, List.getElem?_eq_getElem hi]; simp)
        simp only [Bool.and_eq_true, decide_eq_true_eq] at this
        exact this
      · unfold World.var? at e3
        rw [e1] at e3
        simp only [Option.bind_some] at e3
        split at e3
        · rename_i cs' T fz hh
          cases e3
          refine ⟨T, fz, ?_⟩
          rw [hh]
          congr 2
          apply Array.toList_inj.1
          rw [hcs]
          simp only [cellsOf, cellsA]
          apply List.ext_getElem
          · simp
          · intro i h1 h2
            simp at h1 h2 ⊢
            rw [List.getElem?_eq_getElem h1]
            rfl
        · cases e3
    · rw [if_neg hg]
      exact ih h3 g
end

/-! A table of types, made by the kit's own description of them. -/
def flatK (P : Program) : Nat → TypeId → Option IntKind
  | 0, _ => none
  | d + 1, t => match P.underlying t with
    | some (.int k) => some k
    | some (.array _ e) => flatK P d e
    | some (.struct fs) => match fs.toList with
      | f :: _ => flatK P d f.type
      | [] => none
    | _ => none
def tiOf (P : Program) (t : TypeId) : TI := match P.underlying t with
  | some (.int k) => ⟨.int k, 1, k, false⟩
  | some .bool => ⟨.bool, 1, .u8, false⟩
  | some (.slice e) => ⟨.slice e, 1, .u8, false⟩
  | some (.array n e) => match flatK P 20 t with
    | some k => ⟨.arr n e, P.cellsOf t, k, eqChk P 20 t k (P.cellsOf t) && !isIntTy P t && !P.eqGuardType P.depth t⟩
    | none => ⟨.other, 0, .u8, false⟩
  | some (.struct fs) => match flatK P 20 t with
    | some k => ⟨.struct (fs.toList.map fun f => (f.offset, f.type)), P.cellsOf t, k, eqChk P 20 t k (P.cellsOf t) && !isIntTy P t && !P.eqGuardType P.depth t⟩
    | none => ⟨.other, 0, .u8, false⟩
  | _ => ⟨.other, 0, .u8, false⟩
def autoTab (P : Program) (ts : List TypeId) : List (TypeId × TI) := ts.map fun t => (t, tiOf P t)
end Sx
