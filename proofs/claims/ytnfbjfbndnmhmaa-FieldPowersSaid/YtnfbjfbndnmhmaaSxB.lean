/-
  What the slots' descriptions say of a run, and that each operation keeps it.
-/
import Derived.Test.YtnfbjfbndnmhmaaSxA
import Derived.Laws.Tables
import Derived.Laws.Cells
import Derived.Laws.Rows
namespace Sx
open Go Go.RowKit

def cellsA (k : IntKind) (n : Nat) (f : Nat → Int) : Array Value := (Array.range n).map fun i => .int k (f i)

@[simp] theorem size_cellsA (k : IntKind) (n : Nat) (f : Nat → Int) : (cellsA k n f).size = n := by simp [cellsA]
theorem cellsA_get (k : IntKind) (n : Nat) (f : Nat → Int) (i : Nat) (h : i < n) : (cellsA k n f)[i]? = some (.int k (f i)) := by
  simp [cellsA, h]
theorem cellsA_congr {k : IntKind} {n : Nat} {f g : Nat → Int} (h : ∀ i, i < n → f i = g i) : cellsA k n f = cellsA k n g := by
  apply Array.ext
  · simp
  · intro i h1 h2
    simp at h1
    simp [cellsA, h i h1]

/-- The value that a plain description names. -/
def pv : AV → Value
  | .int k n => .int k n.val
  | .bool b => .bool b.val
  | .arr k n f => .agg (cellsA k n f)
  | .val v => v
  | _ => undef

/-- The cells of a block that holds x. -/
def cellsOf : AV → Array Value
  | .int k n => #[.int k n.val]
  | .bool b => #[.bool b.val]
  | .arr k n f => cellsA k n f
  | _ => #[]

abbrev M := Nat → Nat × Nat

def VR (m : M) (i : Nat) : AV → Value → Prop
  | .junk, _ => True
  | .int k n, v => v = .int k n.val
  | .bool b, v => v = .bool b.val
  | .arr k n f, v => v = .agg (cellsA k n f)
  | .val u, v => v = u
  | .tup ps, v => v = .tuple (ps.map pv).toArray ∧ ps.all plain = true
  | .own x, v => v = .pointer (some ⟨(m i).1, (m i).2, none⟩) ∧ plain x = true
  | .ref s off, v => v = .pointer (some ⟨(m s).1, (m s).2 + off.val, none⟩)
  | .gref g off, v => v = .pointer (some ⟨g, off.val, none⟩)
  | .sref s _ off len cap, v => ∃ a, v = .slice a len.val cap.val ∧ (0 < len.val → a = some ⟨(m s).1, (m s).2 + off.val, none⟩) ∧ len.val ≤ cap.val ∧ cap.val ≤ capMax
  | .xsl _ _ len cap _, v => ∃ a, v = .slice a len.val cap.val ∧ (0 < len.val → a = some ⟨(m i).1, (m i).2, none⟩) ∧ len.val ≤ cap.val ∧ cap.val ≤ capMax
  | .xref s off, v => v = .pointer (some ⟨(m s).1, (m s).2 + off.val, none⟩)
  | .when .., _ => True

/-- A plain value's numbers are of their kinds. -/
def wfP : AV → Prop
  | .int k n => inR k n.val
  | .arr k n f => ∀ i, i < n → inR k (f i)
  | _ => True

def wfV : AV → Prop
  | .int k n => inR k n.val
  | .arr k n f => ∀ i, i < n → inR k (f i)
  | .own x => wfP x
  | .tup ps => ∀ x ∈ ps, wfP x
  | .xsl k es len _ f => ∀ i, i < len.val * es → inR k (f i)
  | _ => True

def OKV (S : St) (m : M) (i : Nat) (x : AV) (v : Value) : Prop :=
  match x with
  | .when g b y => ∀ c, get S g = .bool c → c.val = b → VR m i y v ∧ wfV y ∧ light y = true
  | x => VR m i x v ∧ wfV x

structure Rel (w0 : World) (m : M) (S : St) (a : Act) (w : World) : Prop where
  defers : a.defers = []
  size : a.tmps.size = S.length
  below : Below w0.heap.size w0 w
  vals : ∀ i, i < S.length → OKV S m i (get S i) (a.tmps.getD i undef)
  blks : ∀ i x, get S i = .own x → w0.heap.size ≤ (m i).1 ∧ (m i).2 = 0 ∧ ∃ T, w.heap[(m i).1]? = some (.cells (cellsOf x) T (0, 0))
  inj : ∀ i j x y, get S i = .own x → get S j = .own y → (m i).1 = (m j).1 → i = j
  xsls : ∀ i k es len cap f, get S i = .xsl k es len cap f → ∀ j, j < len.val * es → w0.cell? ⟨(m i).1, (m i).2 + j, none⟩ = some (.int k (f j))

theorem get_lt {S : St} {i : Nat} (h : get S i ≠ .junk) : i < S.length := by
  rcases Nat.lt_or_ge i S.length with h' | h'
  · exact h'
  · exact absurd (by simp [get, List.getElem?_eq_none h']) h

theorem get_set_same {S : St} {i : Nat} {x : AV} (h : i < S.length) : get (S.set i x) i = x := by
  simp [get, h]
theorem get_set_ne {S : St} {i j : Nat} {x : AV} (h : i ≠ j) : get (S.set i x) j = get S j := by
  simp [get, List.getElem?_set_ne h]

/-- No slot but i leans on slot i. -/
def nr (d : Nat) : AV → Prop
  | .ref s _ => s ≠ d
  | .sref s _ _ _ _ => s ≠ d
  | .xref s _ => s ≠ d
  | .when _ _ v => nr d v
  | _ => True
def noRef (d : Nat) (S : St) : Prop := ∀ i, nr d (get S i)

/-- No slot is guarded by slot d. -/
def noWhen (d : Nat) (S : St) : Prop := ∀ i g b y, get S i = .when g b y → g ≠ d

theorem tmps_put (a : Act) (d : Nat) (v : Value) (i : Nat) : (a.put (some d) v).tmps.getD i undef = if i = d ∧ i < a.tmps.size then v else a.tmps.getD i undef := by
  simp only [Act.put, Array.getD_eq_getD_getElem?, Array.getElem?_setIfInBounds]
  by_cases h : i = d
  · subst h
    by_cases h2 : i < a.tmps.size
    · simp [h2]
    · simp [h2]
  · rw [if_neg (fun e => h e.symm), if_neg (fun e => h e.1)]

/-- A value that names no block of its own is laid in a slot. -/
theorem Rel.put {w0 : World} {m : M} {S : St} {a : Act} {w : World} (R : Rel w0 m S a w) (d : Nat) (x : AV) (v : Value)
    (hx : ∀ y, x ≠ .own y) (hx2 : ∀ k es len cap f, x ≠ .xsl k es len cap f) (hv : d < S.length → OKV (S.set d x) m d x v) (hw : noWhen d S) :
    Rel w0 m (S.set d x) (a.put (some d) v) w := by
  have hget : ∀ i, get (S.set d x) i = if i = d ∧ i < S.length then x else get S i := by
    intro i
    by_cases h : i = d
    · subst h
      by_cases h2 : i < S.length
      · rw [get_set_same h2, if_pos ⟨rfl, h2⟩]
      · rw [if_neg (fun e => h2 e.2)]; simp [get, h2]
    · rw [get_set_ne (fun e => h e.symm), if_neg (fun e => h e.1)]
  refine ⟨R.defers, by simpa [Act.put] using R.size, R.below, ?_, ?_, ?_, ?_⟩
  · intro i hi
    simp only [List.length_set] at hi
    rw [tmps_put, R.size]
    by_cases h : i = d
    · subst h
      rw [get_set_same hi, if_pos ⟨rfl, hi⟩]
      exact hv hi
    · rw [get_set_ne (fun e => h e.symm), if_neg (fun e => h e.1)]
      have h0 := R.vals i hi
      unfold OKV at h0 ⊢
      split
      · rename_i g b y he
        rw [he] at h0
        intro c hc
        have hg : g ≠ d := hw i g b y he
        rw [get_set_ne (fun e => hg e.symm)] at hc
        exact h0 c hc
      · rename_i hne
        revert h0
        split
        · rename_i g b y he; exact absurd he (hne g b y)
        · exact id
  · intro i y hi
    rw [hget] at hi
    split at hi
    · exact absurd hi (hx y)
    · exact R.blks i y hi
  · intro i j y z hi hj
    rw [hget] at hi hj
    split at hi
    · exact absurd hi (hx y)
    · split at hj
      · exact absurd hj (hx z)
      · exact R.inj i j y z hi hj
  · intro i k es len cap f hi
    rw [hget] at hi
    split at hi
    · exact absurd hi (hx2 k es len cap f)
    · exact R.xsls i k es len cap f hi

theorem get_set {S : St} {d : Nat} {x : AV} (i : Nat) : get (S.set d x) i = if i = d ∧ i < S.length then x else get S i := by
  by_cases h : i = d
  · subst h
    by_cases h2 : i < S.length
    · rw [get_set_same h2, if_pos ⟨rfl, h2⟩]
    · rw [if_neg (fun e => h2 e.2)]; simp [get, h2]
  · rw [get_set_ne (fun e => h e.symm), if_neg (fun e => h e.1)]

def mset (m : M) (d : Nat) (p : Nat × Nat) : M := fun i => if i = d then p else m i
theorem mset_same (m : M) (d : Nat) (p : Nat × Nat) : mset m d p d = p := by simp [mset]
theorem mset_ne (m : M) {d i : Nat} (p : Nat × Nat) (h : i ≠ d) : mset m d p i = m i := by simp [mset, h]

theorem VR_mset {m : M} {d : Nat} {p : Nat × Nat} {i : Nat} {x : AV} {v : Value} (hi : i ≠ d)
    (hr : match x with
      | .ref s _ => s ≠ d
      | .sref s _ _ _ _ => s ≠ d
      | .xref s _ => s ≠ d
      | _ => True) (h : VR m i x v) : VR (mset m d p) i x v := by
  cases x <;> simp only [VR] at h ⊢ <;> first | exact h | (rw [mset_ne m p hi]; exact h) | (rw [mset_ne m p hr]; exact h)

/-- A new block. -/
theorem Rel.alloc {w0 : World} {m : M} {S : St} {a : Act} {w : World} (R : Rel w0 m S a w) (d : Nat) (x : AV) (T : TypeId)
    (hx : plain x = true) (hwf : wfP x) (hr : noRef d S) (hw : noWhen d S) :
    Rel w0 (mset m d (w.heap.size, 0)) (S.set d (.own x)) (a.put (some d) (.pointer (some ⟨w.heap.size, 0, none⟩))) (w.alloc (.cells (cellsOf x) T)) := by
  have hN : w0.heap.size ≤ w.heap.size := R.below.size
  refine ⟨R.defers, by simpa [Act.put] using R.size, R.below.alloc hN _, ?_, ?_, ?_, ?_⟩
  · intro i hi
    simp only [List.length_set] at hi
    rw [tmps_put, R.size]
    by_cases h : i = d
    · subst h
      rw [get_set_same hi, if_pos ⟨rfl, hi⟩]
      simp only [OKV, VR, mset_same, wfV]
      exact ⟨⟨trivial, hx⟩, hwf⟩
    · rw [get_set_ne (fun e => h e.symm), if_neg (fun e => h e.1)]
      have h0 := R.vals i hi
      have hri := hr i
      unfold OKV at h0 ⊢
      split
      · rename_i g b y he
        rw [he] at h0 hri
        simp only [nr] at hri
        intro c hc hcv
        have hg : g ≠ d := hw i g b y he
        rw [get_set_ne (fun e => hg e.symm)] at hc
        obtain ⟨h1, h2, h3⟩ := h0 c hc hcv
        refine ⟨VR_mset h ?_ h1, h2, h3⟩
        cases y <;> first | exact hri | trivial
      · rename_i hne
        revert h0
        split
        · rename_i g b y he; exact absurd he (hne g b y)
        · intro h0
          refine ⟨VR_mset h ?_ h0.1, h0.2⟩
          revert hri
          cases get S i <;> intro hri <;> first | exact hri | trivial
  · intro i y hi
    rw [get_set] at hi
    split at hi
    · rename_i he
      obtain ⟨rfl, _⟩ := he
      cases hi
      simp only [mset_same]
      exact ⟨hN, trivial, T, heap_alloc_new w _⟩
    · rename_i he
      have hid : i ≠ d ∨ ¬ i < S.length := by
        by_cases h : i = d
        · exact .inr (fun h2 => he ⟨h, h2⟩)
        · exact .inl h
      have hlt : i < S.length := get_lt (by rw [hi]; simp)
      have hne : i ≠ d := hid.resolve_right (fun h => h hlt)
      rw [mset_ne m _ hne]
      obtain ⟨b1, b2, T', b3⟩ := R.blks i y hi
      refine ⟨b1, b2, T', ?_⟩
      rw [heap_alloc_old w _ _ ?_]
      · exact b3
      · exact (Array.getElem?_eq_some_iff.1 b3).1
  · intro i j y z hi hj
    have key : ∀ i y, get (S.set d (.own x)) i = .own y → (i = d ∧ i < S.length) ∨ (i ≠ d ∧ get S i = .own y) := by
      intro i y hi
      rw [get_set] at hi
      split at hi
      · rename_i he; exact .inl he
      · rename_i he
        have hlt : i < S.length := get_lt (by rw [hi]; simp)
        exact .inr ⟨fun h => he ⟨h, hlt⟩, hi⟩
    have old : ∀ i y, get S i = .own y → (m i).1 < w.heap.size := by
      intro i y hi
      obtain ⟨_, _, T', b3⟩ := R.blks i y hi
      exact (Array.getElem?_eq_some_iff.1 b3).1
    rcases key i y hi with ⟨rfl, _⟩ | ⟨hi1, hi2⟩
    · rcases key j z hj with ⟨rfl, _⟩ | ⟨hj1, hj2⟩
      · intro _; rfl
      · rw [mset_same, mset_ne m _ hj1]
        intro he
        have := old j z hj2
        simp at he
        omega
    · rcases key j z hj with ⟨rfl, _⟩ | ⟨hj1, hj2⟩
      · rw [mset_same, mset_ne m _ hi1]
        intro he
        have := old i y hi2
        simp at he
        omega
      · rw [mset_ne m _ hi1, mset_ne m _ hj1]
        exact R.inj i j y z hi2 hj2
  · intro i k es len cap f hi
    rw [get_set] at hi
    split at hi
    · cases hi
    · rename_i he
      have hlt : i < S.length := get_lt (by rw [hi]; simp)
      rw [mset_ne m _ (fun h => he ⟨h, hlt⟩)]
      exact R.xsls i k es len cap f hi

/-- A store into a block of the call's own. -/
theorem Rel.store {w0 : World} {m : M} {S : St} {a : Act} {w : World} (R : Rel w0 m S a w) (s : Nat) (x x' : AV) (hs : get S s = .own x)
    (hx : plain x' = true) (hwf : wfP x') : Rel w0 m (S.set s (.own x')) a (w.setRow (m s).1 (cellsOf x')) := by
  obtain ⟨b1, b2, T, b3⟩ := R.blks s x hs
  have hlt : s < S.length := get_lt (by rw [hs]; simp)
  refine ⟨R.defers, by simpa using R.size, ?_, ?_, ?_, ?_, ?_⟩
  · refine R.below.trans ⟨rfl, rfl, rfl, by simp, fun k hk => ?_⟩
    exact setRow_other _ _ _ _ (by omega)
  · intro i hi
    simp only [List.length_set] at hi
    have h0 := R.vals i hi
    by_cases h : i = s
    · subst h
      rw [get_set_same hi]
      rw [hs] at h0
      simp only [OKV, VR, wfV] at h0 ⊢
      exact ⟨⟨h0.1.1, hx⟩, hwf⟩
    · rw [get_set_ne (fun e => h e.symm)]
      unfold OKV at h0 ⊢
      split
      · rename_i g b y he
        rw [he] at h0
        intro c hc
        by_cases hg : s = g
        · subst hg
          rw [get_set_same hlt] at hc
          cases hc
        · rw [get_set_ne hg] at hc
          exact h0 c hc
      · rename_i hne
        revert h0
        split
        · rename_i g b y he; exact absurd he (hne g b y)
        · exact id
  · intro i y hi
    rw [get_set] at hi
    split at hi
    · rename_i he
      obtain ⟨rfl, _⟩ := he
      cases hi
      exact ⟨b1, b2, T, setRow_heap w _ _ _ _ _ b3⟩
    · rename_i he
      have hne : i ≠ s := by
        intro h; subst h
        exact he ⟨rfl, hlt⟩
      obtain ⟨c1, c2, T', c3⟩ := R.blks i y hi
      refine ⟨c1, c2, T', ?_⟩
      rw [setRow_other]
      · exact c3
      · intro h
        exact hne (R.inj i s y x hi hs h)
  · intro i j y z hi hj
    have key : ∀ i y, get (S.set s (.own x')) i = .own y → ∃ y', get S i = .own y' := by
      intro i y hi
      rw [get_set] at hi
      split at hi
      · rename_i he; obtain ⟨rfl, _⟩ := he; exact ⟨_, hs⟩
      · exact ⟨_, hi⟩
    obtain ⟨y', hy⟩ := key i y hi
    obtain ⟨z', hz⟩ := key j z hj
    exact R.inj i j y' z' hy hz
  · intro i k es len cap f hi
    rw [get_set] at hi
    split at hi
    · cases hi
    · exact R.xsls i k es len cap f hi

/-- The world behind a call that leaves what was there as it was. -/
theorem Rel.later {w0 : World} {m : M} {S : St} {a : Act} {w w' : World} (R : Rel w0 m S a w) (h : Below w.heap.size w w') : Rel w0 m S a w' := by
  refine ⟨R.defers, R.size, R.below.trans (h.mono R.below.size), R.vals, ?_, R.inj, R.xsls⟩
  intro i x hi
  obtain ⟨b1, b2, T, b3⟩ := R.blks i x hi
  refine ⟨b1, b2, T, ?_⟩
  rw [h.block _ (Array.getElem?_eq_some_iff.1 b3).1]
  exact b3

theorem Rel.put_none {w0 : World} {m : M} {S : St} {a : Act} {w : World} (R : Rel w0 m S a w) (v : Value) : Rel w0 m S (a.put none v) w := R
end Sx
