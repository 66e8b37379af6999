/-
  The model's own operations on descriptions: what each yields.
-/
import Derived.Test.YtnfbjfbndnmhmaaSxB
import Derived.Laws.Entries
import Derived.Laws.CopyRow
namespace Sx
open Go Go.RowKit

def TyOK (P : Program) (i : TI) (t : TypeId) : Prop :=
  match i.d with
  | .int k => P.underlying t = some (.int k) ∧ i.sz = 1 ∧ ∃ inf, P.info? t = some inf ∧ inf.size = 1 ∧ inf.zero = some (.int k 0)
  | .bool => P.underlying t = some .bool ∧ i.sz = 1 ∧ ∃ inf, P.info? t = some inf ∧ inf.size = 1 ∧ inf.zero = some (.bool false)
  | .arr n e => P.underlying t = some (.array n e) ∧ ∃ inf, P.info? t = some inf ∧ inf.size = i.sz ∧ inf.zero = some (.agg (cellsA i.k i.sz fun _ => 0))
  | .struct fs => ∃ fields, P.underlying t = some (.struct fields) ∧ fields.toList.map (fun f => (f.offset, f.type)) = fs ∧ ∃ inf, P.info? t = some inf ∧ inf.size = i.sz ∧ inf.zero = some (.agg (cellsA i.k i.sz fun _ => 0))
  | .slice e => P.underlying t = some (.slice e)
  | .other => True

/-- '==' on two values of this type asks all their cells. -/
def EqOK (P : Program) (i : TI) (t : TypeId) : Prop :=
  ∀ f g w, (∀ x y o, (eqGuard o t x y (.agg (cellsA i.k i.sz f)) (.agg (cellsA i.k i.sz g))).run P w = .ok () w) ∧
    (Op.equal t (.agg (cellsA i.k i.sz f)) (.agg (cellsA i.k i.sz g))).run P w = .ok (realEqA i.sz f g) w

/-- Two lists, place by place. -/
def All2 {α β : Type} (r : α → β → Prop) : List α → List β → Prop
  | [], [] => True
  | a :: as, b :: bs => r a b ∧ All2 r as bs
  | _, _ => False

def ArgR (w : World) : AV → Value → Prop
  | .int k n, v => v = .int k n.val
  | .bool b, v => v = .bool b.val
  | .arr k n f, v => v = .agg (cellsA k n f)
  | .xsl k es len cap f, v => ∃ a, v = .slice a len.val cap.val ∧ (0 < len.val → ∃ b off, a = some ⟨b, off, none⟩ ∧ ∀ j, j < len.val * es → w.cell? ⟨b, off + j, none⟩ = some (.int k (f j))) ∧ len.val ≤ cap.val ∧ cap.val ≤ capMax
  | _, _ => False

def GlobOK (glob : Nat → AV) (w : World) : Prop := ∀ g, match glob g with
  | .junk => True
  | x => plain x = true ∧ wfP x ∧ ∃ T fz, w.heap[g]? = some (.cells (cellsOf x) T fz)

/-- A plain answer, or a tuple of such. -/
def ResR : AV → Value → Prop
  | .tup ps, v => v = .tuple (ps.map pv).toArray ∧ ps.all plain = true ∧ ∀ x ∈ ps, wfP x
  | x, v => plain x = true ∧ wfP x ∧ v = pv x

def Sound (P : Program) (glob : Nat → AV) (f : FuncId) (c : Contract) : Prop :=
  ∀ vs cs r, c vs = some (cs, r) → (∀ p ∈ cs, p) → (∀ x ∈ vs, wfV x) → ∀ w, GlobOK glob w → ∀ args : List Value, All2 (ArgR w) vs args →
    (∃ fn, P.funcs[f]? = some fn ∧ fn.body.isNone = false ∧ (fn.name == "runtime.NumGoroutine") = false ∧ Calls P f args.toArray w fun e w' => ∃ v, e = .returned v ∧ ResR r v ∧ Below w.heap.size w w') ∨
    (∃ v, ResR r v ∧ (callFunc f args.toArray).run P w = .ok (.value v) w)

structure EnvOK (P : Program) (E : Env) : Prop where
  A : E.A = realOps
  ty : ∀ t, TyOK P (E.ty t) t
  eq : ∀ t, (E.ty t).eq = true → EqOK P (E.ty t) t
  call : ∀ f, Sound P E.glob f (E.call f)

section
variable {P : Program} {E : Env}

theorem GlobOK.later {glob : Nat → AV} {w w' : World} (h : GlobOK glob w) (hb : Below w.heap.size w w') : GlobOK glob w' := by
  intro g
  have h0 := h g
  revert h0
  cases glob g <;> intro h0 <;> first | trivial | (obtain ⟨h1, h2, T, fz, h3⟩ := h0; exact ⟨h1, h2, T, fz, by rw [hb.block _ (Array.getElem?_eq_some_iff.1 h3).1]; exact h3⟩)

theorem run_size {t : TypeId} {inf : TypeInfo} (h : P.info? t = some inf) (w : World) : (Go.sizeOf t).run P w = .ok inf.size w := by
  simp [Go.sizeOf, typeInfo, h]
theorem run_zero {t : TypeId} {inf : TypeInfo} {z : Value} (h : P.info? t = some inf) (hz : inf.zero = some z) (w : World) : (zeroValue t).run P w = .ok z w := by
  simp [zeroValue, typeInfo, h, hz]
def isG (d : TypeDesc) : Bool :=
  match d with
  | .struct _ | .array _ _ => true
  | _ => false

theorem run_agg {t : TypeId} {d : TypeDesc} (h : P.underlying t = some d) (w : World) :
    (isAgg t).run P w = .ok (isG d) w := by
  unfold isAgg
  rw [Sem.run_bind, run_underlying h w]
  cases d <;> rfl

/-- A type whose values are aggregates of numbers. -/
def isA : Ty → Bool
  | .arr .. | .struct .. => true
  | _ => false

theorem TyOK.agg {i : TI} {t : TypeId} (h : TyOK P i t) (ha : isA i.d = true) :
    (∃ d, P.underlying t = some d ∧ (isG d) = true) ∧ ∃ inf, P.info? t = some inf ∧ inf.size = i.sz ∧ inf.zero = some (.agg (cellsA i.k i.sz fun _ => 0)) := by
  unfold TyOK at h
  cases hd : i.d <;> rw [hd] at h ha <;> simp [isA] at ha
  · exact ⟨⟨_, h.1, rfl⟩, h.2⟩
  · obtain ⟨fields, h1, _, h3⟩ := h
    exact ⟨⟨_, h1, rfl⟩, h3⟩

theorem addr_add (b off n : Nat) : (⟨b, off, none⟩ : Addr).add n = ⟨b, off + n, none⟩ := by
  unfold Addr.add; split <;> simp_all

theorem range_map_cells (k : IntKind) (n : Nat) (f : Nat → Int) : ((List.range n).map fun j => Value.int k (f j)).toArray = cellsA k n f := by
  apply Array.ext
  · simp
  · intro i h1 h2
    simp [cellsA]

/-- Loading an aggregate out of a row of numbers. -/
theorem run_load_agg {t : TypeId} {i : TI} (ht : TyOK P i t) (ha : isA i.d = true) {w : World} {b off N : Nat} {k : IntKind} {f : Nat → Int} {T : TypeId} {fz : Nat × Nat}
    (hg : w.heap[b]? = some (.cells (cellsA k N f) T fz)) (hN : off + i.sz ≤ N) :
    (loadVar t ⟨b, off, none⟩).run P w = .ok (.agg (cellsA k i.sz fun j => f (off + j))) w := by
  obtain ⟨⟨d, hd, hagg⟩, inf, hi, hs, _⟩ := ht.agg ha
  have hl : (loadCells ⟨b, off, none⟩ i.sz).run P w = .ok ((List.range i.sz).map fun j => Value.int k (f (off + j))).toArray w :=
    run_loadCells (P := P) w ⟨b, off, none⟩ i.sz _ (fun j hj => by
      rw [addr_add, cell_of_row w b _ _ T fz hg, cellsA_get _ _ _ _ (by omega)])
  rw [range_map_cells] at hl
  simp only [loadVar, Sem.run_bind, run_agg hd, hagg, Result.andThen_ok, if_true, run_size hi, hs, hl, Sem.run_pure]

theorem run_load_cells {t : TypeId} {i : TI} (ht : TyOK P i t) (ha : isA i.d = true) {w : World} {b off : Nat} {k : IntKind} {f : Nat → Int}
    (hc : ∀ j, j < i.sz → w.cell? ⟨b, off + j, none⟩ = some (.int k (f j))) :
    (loadVar t ⟨b, off, none⟩).run P w = .ok (.agg (cellsA k i.sz f)) w := by
  obtain ⟨⟨d, hd, hagg⟩, inf, hi, hs, _⟩ := ht.agg ha
  have hl : (loadCells ⟨b, off, none⟩ i.sz).run P w = .ok ((List.range i.sz).map fun j => Value.int k (f j)).toArray w :=
    run_loadCells (P := P) w ⟨b, off, none⟩ i.sz _ (fun j hj => by rw [addr_add]; exact hc j hj)
  rw [range_map_cells] at hl
  simp only [loadVar, Sem.run_bind, run_agg hd, hagg, Result.andThen_ok, if_true, run_size hi, hs, hl, Sem.run_pure]

theorem run_load_one {t : TypeId} {d : TypeDesc} (hd : P.underlying t = some d) (hn : (isG d) = false) {w : World} {a : Addr} {v : Value}
    (hc : w.cell? a = some v) : (loadVar t a).run P w = .ok v w := by
  simp [loadVar, Sem.run_bind, run_agg hd, hn, hc]

/-- Values laid one by one from place o on. -/
def writeAt (cs : Array Value) (o : Nat) : List Value → Array Value
  | [] => cs
  | v :: vs => writeAt (cs.setIfInBounds o v) (o + 1) vs

@[simp] theorem size_writeAt : ∀ (vs : List Value) (cs : Array Value) (o : Nat), (writeAt cs o vs).size = cs.size
  | [], _, _ => rfl
  | v :: vs, cs, o => by simp [writeAt, size_writeAt vs]

theorem writeAt_get : ∀ (vs : List Value) (cs : Array Value) (o : Nat) (i : Nat), i < cs.size → (writeAt cs o vs)[i]? = if o ≤ i ∧ i < o + vs.length then vs[i - o]? else cs[i]?
  | [], cs, o, i, _ => by rw [writeAt, if_neg (by simp)]
  | v :: vs, cs, o, i, hi => by
    rw [writeAt, writeAt_get vs _ _ i (by simpa using hi)]
    simp only [List.length_cons]
    by_cases h : o = i
    · subst h
      rw [if_neg (by omega), if_pos (by omega)]
      simp [hi]
    · by_cases h2 : o + 1 ≤ i ∧ i < o + 1 + vs.length
      · rw [if_pos h2, if_pos (by omega)]
        have : i - o = (i - (o + 1)) + 1 := by omega
        rw [this, List.getElem?_cons_succ]
      · rw [if_neg h2, if_neg (by omega), Array.getElem?_setIfInBounds_ne h]

theorem run_storeCells : ∀ (vs : List Value) (w : World) (b off i : Nat) (cs : Array Value) (T : TypeId), w.heap[b]? = some (.cells cs T (0, 0)) → (∀ v ∈ vs, v.oneCell' = true) →
    off + i + vs.length ≤ cs.size → (storeCells ⟨b, off, none⟩ vs i).run P w = .ok () (w.setRow b (writeAt cs (off + i) vs))
  | [], w, b, off, i, cs, T, hg, _, _ => by
    simp only [storeCells, writeAt, Sem.run_pure]
    rw [setRow_self w b cs T (0, 0) hg]
  | v :: vs, w, b, off, i, cs, T, hg, hv, hle => by
    simp only [List.length_cons] at hle
    have hcell : w.cell? ⟨b, off + i, none⟩ = some (cs[off + i]'(by omega)) := by
      rw [cell_of_row w b _ cs T (0, 0) hg]; simp
    have hfz : w.frozen? ⟨b, off + i, none⟩ = false := frozen_of_row w b _ cs T hg
    have h1 : v.oneCell' = true := hv v (by simp)
    have ih := run_storeCells vs (w.setRow b (cs.setIfInBounds (off + i) v)) b off (i + 1) (cs.setIfInBounds (off + i) v) T (setRow_heap w b cs _ T _ hg) (fun u hu => hv u (by simp [hu])) (by simp; omega)
    simp only [storeCells, Sem.run_bind, addr_add, run_store P w _ v _ h1, hcell, hfz, Bool.false_eq_true, if_false, Result.andThen_ok, setCell_eq_setRow w b (off + i) cs T (0, 0) v hg, ih, setRow_setRow, writeAt, Nat.add_assoc]

/-- A store of a whole value. -/
theorem run_storeVar {t : TypeId} {inf : TypeInfo} (hi : P.info? t = some inf) {w : World} {b off : Nat} {cs : Array Value} {T : TypeId} {v : Value}
    (hg : w.heap[b]? = some (.cells cs T (0, 0))) (hs : v.cells.size = inf.size) (hv : ∀ u ∈ v.cells.toList, u.oneCell' = true) (hle : off + v.cells.size ≤ cs.size) :
    (storeVar t ⟨b, off, none⟩ v).run P w = .ok () (w.setRow b (writeAt cs off v.cells.toList)) := by
  have h := run_storeCells (P := P) v.cells.toList w b off 0 cs T hg hv (by simpa using hle)
  simp only [Nat.add_zero] at h
  simp [storeVar, Sem.run_bind, run_size hi, hs, h]

theorem cells_one (k : IntKind) (n : Nat) (f : Nat → Int) : ∀ u ∈ (cellsA k n f).toList, u.oneCell' = true := by
  intro u hu
  simp [cellsA] at hu
  obtain ⟨j, _, rfl⟩ := hu
  rfl

theorem writeAt_splice (k : IntKind) (n off m : Nat) (f g : Nat → Int) : writeAt (cellsA k n f) off (cellsA k m g).toList = cellsA k n (splice f off m g) := by
  apply Array.ext_getElem?
  intro i
  by_cases hi : i < n
  · rw [writeAt_get _ _ _ _ (by simpa using hi), cellsA_get k n (splice f off m g) i hi]
    simp only [Array.length_toList, size_cellsA, splice]
    by_cases h : off ≤ i ∧ i < off + m
    · rw [if_pos h, if_neg (by omega), if_pos h.2]
      have := cellsA_get k m g (i - off) (by omega)
      simpa using this
    · rw [if_neg h, cellsA_get k n f i hi]
      by_cases h2 : i < off
      · rw [if_pos h2]
      · rw [if_neg h2, if_neg (by omega)]
  · rw [Array.getElem?_eq_none (by simp; omega), Array.getElem?_eq_none (by simp; omega)]

theorem writeAt_upd (k : IntKind) (n off : Nat) (f : Nat → Int) (x : Int) : writeAt (cellsA k n f) off [.int k x] = cellsA k n (upd f off x) := by
  apply Array.ext_getElem?
  intro i
  by_cases hi : i < n
  · rw [writeAt_get _ _ _ _ (by simpa using hi), cellsA_get k n (upd f off x) i hi]
    simp only [List.length_cons, List.length_nil, upd]
    by_cases h : i = off
    · subst h; simp
    · rw [if_neg (by omega), if_neg h, cellsA_get k n f i hi]
  · rw [Array.getElem?_eq_none (by simp; omega), Array.getElem?_eq_none (by simp; omega)]
end
end Sx
