/-
  What the slots' descriptions say of a run, and that each operation keeps it.
-/
import Derived.Test.YtfpeolihnaeolaaSxA
import Derived.Laws.Tables
import Derived.Laws.Cells
import Derived.Laws.Rows
import Derived.Laws.AppendOwn
import Derived.Laws.MakeOwn
import Derived.Below
namespace Sx
open Go Go.RowKit

def cellsA (k : IntKind) (n : Nat) (f : Nat → Int) : Array Value := (Array.range n).map fun i => .int k (f i)

@[simp] theorem size_cellsA (k : IntKind) (n : Nat) (f : Nat → Int) : (cellsA k n f).size = n := by simp [cellsA]
theorem cellsA_get (k : IntKind) (n : Nat) (f : Nat → Int) (i : Nat) (h : i < n) : (cellsA k n f)[i]? = some (.int k (f i)) := by
  simp [cellsA, h]
theorem cellsA_congr {k : IntKind} {n : Nat} {f g : Nat → Int} (h : ∀ i, i < n → f i = g i) : cellsA k n f = cellsA k n g := by
  apply Array.ext
  · simp
  · intro i h1 h2
    simp at h1
    simp [cellsA, h i h1]

/-- The value that a plain description names. -/
def pv : AV → Value
  | .int k n => .int k n.val
  | .bool b => .bool b.val
  | .arr k n f => .agg (cellsA k n f)
  | .val v => v
  | _ => undef

/-- The cells of a block that holds x. -/
def cellsOf : AV → Array Value
  | .int k n => #[.int k n.val]
  | .bool b => #[.bool b.val]
  | .arr k n f => cellsA k n f
  | _ => #[]

abbrev M := Nat → Nat × Nat

/-- A list's address: the head of its block. -/
def SL (p : Nat × Nat) (len : Nat) (a : Option Addr) (c : Nat) : Prop := (∀ aa, a = some aa → aa = ⟨p.1, 0, none⟩ ∧ p.2 = 0) ∧ (a = none → len = 0) ∧ len ≤ c ∧ c ≤ capMax
/-- The list in a value: itself, or the first part. -/
def lv : Value → Value
  | .tuple vs => vs.getD 0 undef
  | v => v
/-- A list's cells. -/
def lcells (k : IntKind) (n : Nat) (f : Nat → Int) : List Value := (List.range n).map fun j => .int k (f j)

def VR (m : M) (i : Nat) : AV → Value → Prop
  | .junk, _ => True
  | .int k n, v => v = .int k n.val
  | .bool b, v => v = .bool b.val
  | .arr k n f, v => v = .agg (cellsA k n f)
  | .val u, v => v = u
  | .tup ps, v => v = .tuple (ps.map pv).toArray ∧ ps.all plain = true
  | .own x, v => v = .pointer (some ⟨(m i).1, (m i).2, none⟩) ∧ plain x = true
  | .ref s off, v => v = .pointer (some ⟨(m s).1, (m s).2 + off.val, none⟩)
  | .gref g off, v => v = .pointer (some ⟨g, off.val, none⟩)
  | .sref s _ off len _, v => ∃ a c, v = .slice a len.val c ∧ (0 < len.val → a = some ⟨(m s).1, (m s).2 + off.val, none⟩) ∧ len.val ≤ c ∧ c ≤ capMax
  | .xsl _ _ len _ _, v => ∃ a c, v = .slice a len.val c ∧ (0 < len.val → a = some ⟨(m i).1, (m i).2, none⟩) ∧ len.val ≤ c ∧ c ≤ capMax
  | .osl _ _ len _, v => ∃ a c, v = .slice a len.val c ∧ SL (m i) len.val a c
  | .otup _ _ len _ ps, v => ∃ a c, v = .tuple (.slice a len.val c :: ps.map pv).toArray ∧ SL (m i) len.val a c ∧ ps.all plain = true
  | .xref s off, v => v = .pointer (some ⟨(m s).1, (m s).2 + off.val, none⟩)
  | .when .., _ => True

/-- A plain value's numbers are of their kinds. -/
def wfP : AV → Prop
  | .int k n => inR k n.val
  | .arr k n f => ∀ i, i < n → inR k (f i)
  | _ => True

def wfV : AV → Prop
  | .int k n => inR k n.val
  | .arr k n f => ∀ i, i < n → inR k (f i)
  | .own x => wfP x
  | .tup ps => ∀ x ∈ ps, wfP x
  | .xsl k es len _ f => ∀ i, i < len.val * es → inR k (f i)
  | .osl k es len f => ∀ i, i < len.val * es → inR k (f i)
  | .otup k es len f ps => (∀ i, i < len.val * es → inR k (f i)) ∧ ∀ x ∈ ps, wfP x
  | _ => True

def OKV (S : St) (m : M) (i : Nat) (x : AV) (v : Value) : Prop :=
  match x with
  | .when g b y => ∀ c, get S g = .bool c → c.val = b → VR m i y v ∧ wfV y ∧ light y = true
  | x => VR m i x v ∧ wfV x

structure Rel (w0 : World) (m : M) (S : St) (a : Act) (w : World) : Prop where
  defers : a.defers = []
  size : a.tmps.size = S.length
  below : Below w0.heap.size w0 w
  vals : ∀ i, i < S.length → OKV S m i (get S i) (a.tmps.getD i undef)
  blks : ∀ i x, get S i = .own x → w0.heap.size ≤ (m i).1 ∧ (m i).2 = 0 ∧ ∃ T, w.heap[(m i).1]? = some (.cells (cellsOf x) T (0, 0))
  inj : ∀ i j x y, get S i = .own x → get S j = .own y → (m i).1 = (m j).1 → i = j
  xsls : ∀ i k es len cap f, get S i = .xsl k es len cap f → ∀ j, j < len.val * es → w0.cell? ⟨(m i).1, (m i).2 + j, none⟩ = some (.int k (f j))
  lsts : ∀ i k es len f, lst? (get S i) = some (k, es, len, f) → ∃ e, w.ownsRow w0.heap.size e es (lv (a.tmps.getD i undef)) len.val (lcells k (len.val * es) f)
  inj1 : ∀ i j x y b, get S i = .own x → lst? (get S j) = some y → (lv (a.tmps.getD j undef)).ownBlock = some b → (m i).1 ≠ b
  inj2 : ∀ i j x y b, i ≠ j → lst? (get S i) = some x → lst? (get S j) = some y → (lv (a.tmps.getD i undef)).ownBlock = some b → (lv (a.tmps.getD j undef)).ownBlock ≠ some b

theorem grownBy_setRow (w : World) (g : Nat) (cs : Array Value) : w.grownBy (w.setRow g cs) (some g) :=
  ⟨rfl, rfl, rfl, by simp, fun k _ hk => setRow_other w g k cs (fun e => hk (by rw [e]))⟩
theorem grownBy_below {w w' : World} (h : Below w.heap.size w w') : w.grownBy w' none := ⟨h.os, h.tape, h.output, h.size, fun k hk _ => h.block k hk⟩

theorem get_lt {S : St} {i : Nat} (h : get S i ≠ .junk) : i < S.length := by
  rcases Nat.lt_or_ge i S.length with h' | h'
  · exact h'
  · exact absurd (by simp [get, List.getElem?_eq_none h']) h

theorem get_set_same {S : St} {i : Nat} {x : AV} (h : i < S.length) : get (S.set i x) i = x := by
  simp [get, h]
theorem get_set_ne {S : St} {i j : Nat} {x : AV} (h : i ≠ j) : get (S.set i x) j = get S j := by
  simp [get, List.getElem?_set_ne h]

/-- No slot but i leans on slot i. -/
def nr (d : Nat) : AV → Prop
  | .ref s _ => s ≠ d
  | .sref s _ _ _ _ => s ≠ d
  | .xref s _ => s ≠ d
  | .when _ _ v => nr d v
  | _ => True
def noRef (d : Nat) (S : St) : Prop := ∀ i, nr d (get S i)

/-- No slot is guarded by slot d. -/
def noWhen (d : Nat) (S : St) : Prop := ∀ i g b y, get S i = .when g b y → g ≠ d

theorem tmps_put (a : Act) (d : Nat) (v : Value) (i : Nat) : (a.put (some d) v).tmps.getD i undef = if i = d ∧ i < a.tmps.size then v else a.tmps.getD i undef := by
  simp only [Act.put, Array.getD_eq_getD_getElem?, Array.getElem?_setIfInBounds]
  by_cases h : i = d
  · subst h
    by_cases h2 : i < a.tmps.size
    · simp [h2]
    · simp [h2]
  · rw [if_neg (fun e => h e.symm), if_neg (fun e => h e.1)]

/-- A value that names no block of its own is laid in a slot. -/
theorem Rel.put {w0 : World} {m : M} {S : St} {a : Act} {w : World} (R : Rel w0 m S a w) (d : Nat) (x : AV) (v : Value)
    (hx : ∀ y, x ≠ .own y) (hx2 : ∀ k es len cap f, x ≠ .xsl k es len cap f) (hx3 : lst? x = none) (hv : d < S.length → OKV (S.set d x) m d x v) (hw : noWhen d S) :
    Rel w0 m (S.set d x) (a.put (some d) v) w := by
  have hget : ∀ i, get (S.set d x) i = if i = d ∧ i < S.length then x else get S i := by
    intro i
    by_cases h : i = d
    · subst h
      by_cases h2 : i < S.length
      · rw [get_set_same h2, if_pos ⟨rfl, h2⟩]
      · rw [if_neg (fun e => h2 e.2)]; simp [get, h2]
    · rw [get_set_ne (fun e => h e.symm), if_neg (fun e => h e.1)]
  have hl : ∀ i y, lst? (get (S.set d x) i) = some y → lst? (get S i) = some y ∧ (a.put (some d) v).tmps.getD i undef = a.tmps.getD i undef := by
    intro i y hi
    rw [hget] at hi
    split at hi
    · rw [hx3] at hi; cases hi
    · rename_i hne
      exact ⟨hi, by rw [tmps_put, if_neg (by rw [R.size]; exact hne)]⟩
  refine ⟨R.defers, by simpa [Act.put] using R.size, R.below, ?_, ?_, ?_, ?_, ?_, ?_, ?_⟩
  · intro i hi
    simp only [List.length_set] at hi
    rw [tmps_put, R.size]
    by_cases h : i = d
    · subst h
      rw [get_set_same hi, if_pos ⟨rfl, hi⟩]
      exact hv hi
    · rw [get_set_ne (fun e => h e.symm), if_neg (fun e => h e.1)]
      have h0 := R.vals i hi
      unfold OKV at h0 ⊢
      split
      · rename_i g b y he
        rw [he] at h0
        intro c hc
        have hg : g ≠ d := hw i g b y he
        rw [get_set_ne (fun e => hg e.symm)] at hc
        exact h0 c hc
      · rename_i hne
        revert h0
        split
        · rename_i g b y he; exact absurd he (hne g b y)
        · exact id
  · intro i y hi
    rw [hget] at hi
    split at hi
    · exact absurd hi (hx y)
    · exact R.blks i y hi
  · intro i j y z hi hj
    rw [hget] at hi hj
    split at hi
    · exact absurd hi (hx y)
    · split at hj
      · exact absurd hj (hx z)
      · exact R.inj i j y z hi hj
  · intro i k es len cap f hi
    rw [hget] at hi
    split at hi
    · exact absurd hi (hx2 k es len cap f)
    · exact R.xsls i k es len cap f hi
  · intro i k es len f hi
    obtain ⟨h1, h2⟩ := hl i _ hi
    rw [h2]
    exact R.lsts i k es len f h1
  · intro i j y z b hi hj hb
    obtain ⟨h1, h2⟩ := hl j _ hj
    rw [h2] at hb
    rw [hget] at hi
    split at hi
    · exact absurd hi (hx y)
    · exact R.inj1 i j y z b hi h1 hb
  · intro i j y z b hij hi hj hb
    obtain ⟨h1, h2⟩ := hl i _ hi
    obtain ⟨h3, h4⟩ := hl j _ hj
    rw [h2] at hb
    rw [h4]
    exact R.inj2 i j y z b hij h1 h3 hb

theorem get_set {S : St} {d : Nat} {x : AV} (i : Nat) : get (S.set d x) i = if i = d ∧ i < S.length then x else get S i := by
  by_cases h : i = d
  · subst h
    by_cases h2 : i < S.length
    · rw [get_set_same h2, if_pos ⟨rfl, h2⟩]
    · rw [if_neg (fun e => h2 e.2)]; simp [get, h2]
  · rw [get_set_ne (fun e => h e.symm), if_neg (fun e => h e.1)]

def mset (m : M) (d : Nat) (p : Nat × Nat) : M := fun i => if i = d then p else m i
theorem mset_same (m : M) (d : Nat) (p : Nat × Nat) : mset m d p d = p := by simp [mset]
theorem mset_ne (m : M) {d i : Nat} (p : Nat × Nat) (h : i ≠ d) : mset m d p i = m i := by simp [mset, h]

theorem VR_mset {m : M} {d : Nat} {p : Nat × Nat} {i : Nat} {x : AV} {v : Value} (hi : i ≠ d)
    (hr : match x with
      | .ref s _ => s ≠ d
      | .sref s _ _ _ _ => s ≠ d
      | .xref s _ => s ≠ d
      | _ => True) (h : VR m i x v) : VR (mset m d p) i x v := by
  cases x <;> simp only [VR] at h ⊢ <;> first | exact h | (rw [mset_ne m p hi]; exact h) | (rw [mset_ne m p hr]; exact h)

/-- A new block. -/
theorem Rel.alloc {w0 : World} {m : M} {S : St} {a : Act} {w : World} (R : Rel w0 m S a w) (d : Nat) (x : AV) (T : TypeId)
    (hx : plain x = true) (hwf : wfP x) (hr : noRef d S) (hw : noWhen d S) :
    Rel w0 (mset m d (w.heap.size, 0)) (S.set d (.own x)) (a.put (some d) (.pointer (some ⟨w.heap.size, 0, none⟩))) (w.alloc (.cells (cellsOf x) T)) := by
  have hN : w0.heap.size ≤ w.heap.size := R.below.size
  have hl : ∀ i y, lst? (get (S.set d (.own x)) i) = some y → i ≠ d ∧ lst? (get S i) = some y ∧ (a.put (some d) (.pointer (some ⟨w.heap.size, 0, none⟩))).tmps.getD i undef = a.tmps.getD i undef := by
    intro i y hi
    rw [get_set] at hi
    split at hi
    · cases hi
    · rename_i hne
      have hlt : i < S.length := get_lt (by intro e; rw [e] at hi; cases hi)
      have hid : i ≠ d := fun e => hne ⟨e, hlt⟩
      exact ⟨hid, hi, by rw [tmps_put, if_neg (fun e => hid e.1)]⟩
  refine ⟨R.defers, by simpa [Act.put] using R.size, R.below.alloc hN _, ?_, ?_, ?_, ?_, ?_, ?_, ?_⟩
  · intro i hi
    simp only [List.length_set] at hi
    rw [tmps_put, R.size]
    by_cases h : i = d
    · subst h
      rw [get_set_same hi, if_pos ⟨rfl, hi⟩]
      simp only [OKV, VR, mset_same, wfV]
      exact ⟨⟨trivial, hx⟩, hwf⟩
    · rw [get_set_ne (fun e => h e.symm), if_neg (fun e => h e.1)]
      have h0 := R.vals i hi
      have hri := hr i
      unfold OKV at h0 ⊢
      split
      · rename_i g b y he
        rw [he] at h0 hri
        simp only [nr] at hri
        intro c hc hcv
        have hg : g ≠ d := hw i g b y he
        rw [get_set_ne (fun e => hg e.symm)] at hc
        obtain ⟨h1, h2, h3⟩ := h0 c hc hcv
        refine ⟨VR_mset h ?_ h1, h2, h3⟩
        cases y <;> first | exact hri | trivial
      · rename_i hne
        revert h0
        split
        · rename_i g b y he; exact absurd he (hne g b y)
        · intro h0
          refine ⟨VR_mset h ?_ h0.1, h0.2⟩
          revert hri
          cases get S i <;> intro hri <;> first | exact hri | trivial
  · intro i y hi
    rw [get_set] at hi
    split at hi
    · rename_i he
      obtain ⟨rfl, _⟩ := he
      cases hi
      simp only [mset_same]
      exact ⟨hN, trivial, T, heap_alloc_new w _⟩
    · rename_i he
      have hid : i ≠ d ∨ ¬ i < S.length := by
        by_cases h : i = d
        · exact .inr (fun h2 => he ⟨h, h2⟩)
        · exact .inl h
      have hlt : i < S.length := get_lt (by rw [hi]; simp)
      have hne : i ≠ d := hid.resolve_right (fun h => h hlt)
      rw [mset_ne m _ hne]
      obtain ⟨b1, b2, T', b3⟩ := R.blks i y hi
      refine ⟨b1, b2, T', ?_⟩
      rw [heap_alloc_old w _ _ ?_]
      · exact b3
      · exact (Array.getElem?_eq_some_iff.1 b3).1
  · intro i j y z hi hj
    have key : ∀ i y, get (S.set d (.own x)) i = .own y → (i = d ∧ i < S.length) ∨ (i ≠ d ∧ get S i = .own y) := by
      intro i y hi
      rw [get_set] at hi
      split at hi
      · rename_i he; exact .inl he
      · rename_i he
        have hlt : i < S.length := get_lt (by rw [hi]; simp)
        exact .inr ⟨fun h => he ⟨h, hlt⟩, hi⟩
    have old : ∀ i y, get S i = .own y → (m i).1 < w.heap.size := by
      intro i y hi
      obtain ⟨_, _, T', b3⟩ := R.blks i y hi
      exact (Array.getElem?_eq_some_iff.1 b3).1
    rcases key i y hi with ⟨rfl, _⟩ | ⟨hi1, hi2⟩
    · rcases key j z hj with ⟨rfl, _⟩ | ⟨hj1, hj2⟩
      · intro _; rfl
      · rw [mset_same, mset_ne m _ hj1]
        intro he
        have := old j z hj2
        simp at he
        omega
    · rcases key j z hj with ⟨rfl, _⟩ | ⟨hj1, hj2⟩
      · rw [mset_same, mset_ne m _ hi1]
        intro he
        have := old i y hi2
        simp at he
        omega
      · rw [mset_ne m _ hi1, mset_ne m _ hj1]
        exact R.inj i j y z hi2 hj2
  · intro i k es len cap f hi
    rw [get_set] at hi
    split at hi
    · cases hi
    · rename_i he
      have hlt : i < S.length := get_lt (by rw [hi]; simp)
      rw [mset_ne m _ (fun h => he ⟨h, hlt⟩)]
      exact R.xsls i k es len cap f hi
  · intro i k es len f hi
    obtain ⟨_, h1, h2⟩ := hl i _ hi
    rw [h2]
    obtain ⟨e, h3⟩ := R.lsts i k es len f h1
    exact ⟨e, h3.alloc _⟩
  · intro i j y z b hi hj hb
    obtain ⟨hjd, h1, h2⟩ := hl j _ hj
    rw [h2] at hb
    obtain ⟨zk, ze, zl, zf⟩ := z
    obtain ⟨e, h3⟩ := R.lsts j zk ze zl zf h1
    have hlt := h3.lt b hb
    rw [get_set] at hi
    split at hi
    · rename_i he
      obtain ⟨rfl, _⟩ := he
      rw [mset_same]
      intro h
      simp only at h
      omega
    · rename_i he
      have hi' : i < S.length := get_lt (by rw [hi]; simp)
      rw [mset_ne m _ (fun h => he ⟨h, hi'⟩)]
      exact R.inj1 i j y _ b hi h1 hb
  · intro i j y z b hij hi hj hb
    obtain ⟨_, h1, h2⟩ := hl i _ hi
    obtain ⟨_, h3, h4⟩ := hl j _ hj
    rw [h2] at hb
    rw [h4]
    exact R.inj2 i j y z b hij h1 h3 hb

/-- A store into a block of the call's own. -/
theorem Rel.store {w0 : World} {m : M} {S : St} {a : Act} {w : World} (R : Rel w0 m S a w) (s : Nat) (x x' : AV) (hs : get S s = .own x)
    (hx : plain x' = true) (hwf : wfP x') : Rel w0 m (S.set s (.own x')) a (w.setRow (m s).1 (cellsOf x')) := by
  obtain ⟨b1, b2, T, b3⟩ := R.blks s x hs
  have hlt : s < S.length := get_lt (by rw [hs]; simp)
  have hl : ∀ i y, lst? (get (S.set s (.own x')) i) = some y → lst? (get S i) = some y := by
    intro i y hi
    rw [get_set] at hi
    split at hi
    · cases hi
    · exact hi
  refine ⟨R.defers, by simpa using R.size, ?_, ?_, ?_, ?_, ?_, ?_, ?_, ?_⟩
  · refine R.below.trans ⟨rfl, rfl, rfl, by simp, fun k hk => ?_⟩
    exact setRow_other _ _ _ _ (by omega)
  · intro i hi
    simp only [List.length_set] at hi
    have h0 := R.vals i hi
    by_cases h : i = s
    · subst h
      rw [get_set_same hi]
      rw [hs] at h0
      simp only [OKV, VR, wfV] at h0 ⊢
      exact ⟨⟨h0.1.1, hx⟩, hwf⟩
    · rw [get_set_ne (fun e => h e.symm)]
      unfold OKV at h0 ⊢
      split
      · rename_i g b y he
        rw [he] at h0
        intro c hc
        by_cases hg : s = g
        · subst hg
          rw [get_set_same hlt] at hc
          cases hc
        · rw [get_set_ne hg] at hc
          exact h0 c hc
      · rename_i hne
        revert h0
        split
        · rename_i g b y he; exact absurd he (hne g b y)
        · exact id
  · intro i y hi
    rw [get_set] at hi
    split at hi
    · rename_i he
      obtain ⟨rfl, _⟩ := he
      cases hi
      exact ⟨b1, b2, T, setRow_heap w _ _ _ _ _ b3⟩
    · rename_i he
      have hne : i ≠ s := by
        intro h; subst h
        exact he ⟨rfl, hlt⟩
      obtain ⟨c1, c2, T', c3⟩ := R.blks i y hi
      refine ⟨c1, c2, T', ?_⟩
      rw [setRow_other]
      · exact c3
      · intro h
        exact hne (R.inj i s y x hi hs h)
  · intro i j y z hi hj
    have key : ∀ i y, get (S.set s (.own x')) i = .own y → ∃ y', get S i = .own y' := by
      intro i y hi
      rw [get_set] at hi
      split at hi
      · rename_i he; obtain ⟨rfl, _⟩ := he; exact ⟨_, hs⟩
      · exact ⟨_, hi⟩
    obtain ⟨y', hy⟩ := key i y hi
    obtain ⟨z', hz⟩ := key j z hj
    exact R.inj i j y' z' hy hz
  · intro i k es len cap f hi
    rw [get_set] at hi
    split at hi
    · cases hi
    · exact R.xsls i k es len cap f hi
  · intro i k es len f hi
    obtain ⟨e, h3⟩ := R.lsts i k es len f (hl i _ hi)
    refine ⟨e, h3.kept (grownBy_setRow w (m s).1 _) ?_⟩
    cases hb : (lv (a.tmps.getD i undef)).ownBlock with
    | none => exact .inl rfl
    | some b => exact .inr (fun e => R.inj1 s i x _ b hs (hl i _ hi) hb (by simpa using e.symm))
  · intro i j y z b hi hj hb
    have key : ∃ y', get S i = .own y' := by
      rw [get_set] at hi
      split at hi
      · rename_i he; obtain ⟨rfl, _⟩ := he; exact ⟨_, hs⟩
      · exact ⟨_, hi⟩
    obtain ⟨y', hy⟩ := key
    exact R.inj1 i j y' z b hy (hl j _ hj) hb
  · intro i j y z b hij hi hj hb
    exact R.inj2 i j y z b hij (hl i _ hi) (hl j _ hj) hb

/-- The world behind a call that leaves what was there as it was. -/
theorem Rel.later {w0 : World} {m : M} {S : St} {a : Act} {w w' : World} (R : Rel w0 m S a w) (h : Below w.heap.size w w') : Rel w0 m S a w' := by
  refine ⟨R.defers, R.size, R.below.trans (h.mono R.below.size), R.vals, ?_, R.inj, R.xsls, ?_, R.inj1, R.inj2⟩
  · intro i x hi
    obtain ⟨b1, b2, T, b3⟩ := R.blks i x hi
    refine ⟨b1, b2, T, ?_⟩
    rw [h.block _ (Array.getElem?_eq_some_iff.1 b3).1]
    exact b3
  · intro i k es len f hi
    obtain ⟨e, h3⟩ := R.lsts i k es len f hi
    exact ⟨e, h3.kept (grownBy_below h) (by cases (lv (a.tmps.getD i undef)).ownBlock <;> simp)⟩

theorem Rel.put_none {w0 : World} {m : M} {S : St} {a : Act} {w : World} (R : Rel w0 m S a w) (v : Value) : Rel w0 m S (a.put none v) w := R

theorem lst_cases {x : AV} {y : IntKind × Nat × SO × (Nat → Int)} (h : lst? x = some y) : (∃ k es len f, x = .osl k es len f ∧ y = (k, es, len, f)) ∨ ∃ k es len f ps, x = .otup k es len f ps ∧ y = (k, es, len, f) := by
  cases x <;> simp [lst?] at h <;> subst h
  · exact .inl ⟨_, _, _, _, rfl, rfl⟩
  · exact .inr ⟨_, _, _, _, _, rfl, rfl⟩

/-- Of a slot nothing more is said. -/
theorem Rel.forget {w0 : World} {m : M} {S : St} {a : Act} {w : World} (R : Rel w0 m S a w) (t : Nat) : Rel w0 m (S.set t .junk) a w := by
  have hg : ∀ i x, get (S.set t .junk) i = x → x ≠ .junk → get S i = x := by
    intro i x hi hx
    rw [get_set] at hi
    split at hi
    · exact absurd hi.symm hx
    · exact hi
  have hl : ∀ i y, lst? (get (S.set t .junk) i) = some y → lst? (get S i) = some y := by
    intro i y hi
    rw [get_set] at hi
    split at hi
    · cases hi
    · exact hi
  refine ⟨R.defers, by simpa using R.size, R.below, ?_, ?_, ?_, ?_, ?_, ?_, ?_⟩
  · intro i hi
    simp only [List.length_set] at hi
    have h0 := R.vals i hi
    rw [get_set]
    split
    · exact ⟨trivial, trivial⟩
    · unfold OKV at h0 ⊢
      split
      · rename_i g b y he
        rw [he] at h0
        intro c hc
        exact h0 c (hg g _ hc (by simp))
      · rename_i hne
        revert h0
        split
        · rename_i g b y he; exact absurd he (hne g b y)
        · exact id
  · exact fun i x hi => R.blks i x (hg i _ hi (by simp))
  · exact fun i j x y hi hj => R.inj i j x y (hg i _ hi (by simp)) (hg j _ hj (by simp))
  · exact fun i k es len cap f hi => R.xsls i k es len cap f (hg i _ hi (by simp))
  · exact fun i k es len f hi => R.lsts i k es len f (hl i _ hi)
  · exact fun i j x y b hi hj hb => R.inj1 i j x y b (hg i _ hi (by simp)) (hl j _ hj) hb
  · exact fun i j x y b hij hi hj hb => R.inj2 i j x y b hij (hl i _ hi) (hl j _ hj) hb

/-- Block b belongs to no slot. -/
structure Loose (m : M) (S : St) (a : Act) (b : Nat) : Prop where
  own : ∀ i x, get S i = .own x → (m i).1 ≠ b
  lst : ∀ i y, lst? (get S i) = some y → (lv (a.tmps.getD i undef)).ownBlock ≠ some b

theorem Rel.loose {w0 : World} {m : M} {S : St} {a : Act} {w : World} (R : Rel w0 m S a w) {b : Nat} (hb : w.heap.size ≤ b) : Loose m S a b := by
  refine ⟨fun i x hi he => ?_, fun i y hi he => ?_⟩
  · obtain ⟨_, _, T, h⟩ := R.blks i x hi
    have := (Array.getElem?_eq_some_iff.1 h).1
    omega
  · obtain ⟨k, es, len, f⟩ := y
    obtain ⟨e, h⟩ := R.lsts i k es len f hi
    have := h.lt b he
    omega

/-- Where a list lies. -/
def blk (v : Value) : Nat × Nat := match v.ownBlock with | some b => (b, 0) | none => (0, 0)

theorem owns_SL {w : World} {B : Nat} {e : TypeId} {es : Nat} {v : Value} {n : Nat} {xs : List Value} (h : w.ownsRow B e es v n xs) : ∃ a c, v = .slice a n c ∧ SL (blk v) n a c := by
  rcases h.2 with ⟨rfl, rfl⟩ | ⟨g, cap, cur, rfl, _, _, h1, h2, _⟩
  · refine ⟨none, 0, rfl, ?_⟩
    unfold SL
    exact ⟨(fun aa e => by cases e), fun _ => rfl, Nat.le_refl _, Nat.zero_le _⟩
  · refine ⟨_, cap, rfl, ?_⟩
    unfold SL
    refine ⟨fun aa e => ?_, (fun e => by cases e), h1, by simpa [maxLen, capMax] using h2⟩
    cases e
    exact ⟨rfl, rfl⟩

/-- A list that was made is laid in a slot. -/
theorem Rel.made {w0 : World} {m : M} {S : St} {a : Act} {w w' : World} (R : Rel w0 m S a w) (d : Nat) (x : AV) {k : IntKind} {es : Nat} {len : SO} {f : Nat → Int} (vx : Value)
    (hx : lst? x = some (k, es, len, f)) {e : TypeId} (ho : w'.ownsRow w0.heap.size e es (lv vx) len.val (lcells k (len.val * es) f))
    {row : Option Nat} (hgr : w.grownBy w' row) (hrow : ∀ b, row = some b → w0.heap.size ≤ b ∧ Loose m S a b) (hb : ∀ b, (lv vx).ownBlock = some b → Loose m S a b)
    (hv : VR (mset m d (blk (lv vx))) d x vx) (hwf : wfV x) (hr : noRef d S) (hw : noWhen d S) :
    Rel w0 (mset m d (blk (lv vx))) (S.set d x) (a.put (some d) vx) w' := by
  have hxo : ∀ y, x ≠ .own y := by intro y e; subst e; cases hx
  have hxs : ∀ k es len cap f, x ≠ .xsl k es len cap f := by intro k es len cap f e; subst e; cases hx
  have hxw : ∀ g b y, x ≠ .when g b y := by intro g b y e; subst e; cases hx
  have hxj : x ≠ .junk := by intro e; subst e; cases hx
  have other : ∀ i y, get (S.set d x) i = y → i ≠ d → get S i = y := by
    intro i y hi hne
    rw [get_set_ne (fun e => hne e.symm)] at hi
    exact hi
  have tmp : ∀ i, i ≠ d → (a.put (some d) vx).tmps.getD i undef = a.tmps.getD i undef := fun i hi => by rw [tmps_put, if_neg (fun e => hi e.1)]
  have tmpd : d < S.length → (a.put (some d) vx).tmps.getD d undef = vx := fun hd => by rw [tmps_put, R.size, if_pos ⟨rfl, hd⟩]
  have hbel : Below w0.heap.size w0 w' := by
    refine R.below.trans ⟨hgr.os, hgr.tape, hgr.output, hgr.size, fun k hk => hgr.block k (by have := R.below.size; omega) ?_⟩
    intro e
    have := (hrow k e.symm).1
    omega
  have ownd : ∀ i y, get (S.set d x) i = .own y → i ≠ d ∧ get S i = .own y := by
    intro i y hi
    by_cases h : i = d
    · subst h
      rw [get_set] at hi
      split at hi
      · exact absurd hi (hxo y)
      · rename_i hne
        exact absurd ⟨rfl, get_lt (by rw [hi]; simp)⟩ hne
    · exact ⟨h, other i _ hi h⟩
  have lstd : ∀ i y, lst? (get (S.set d x) i) = some y → (i = d ∧ d < S.length ∧ y = (k, es, len, f)) ∨ (i ≠ d ∧ lst? (get S i) = some y) := by
    intro i y hi
    by_cases h : i = d
    · subst h
      rw [get_set] at hi
      split at hi
      · rename_i hh
        rw [hx] at hi
        cases hi
        exact .inl ⟨rfl, hh.2, rfl⟩
      · rename_i hne
        exact absurd ⟨rfl, get_lt (by intro e; rw [e] at hi; cases hi)⟩ hne
    · rw [get_set_ne (fun e => h e.symm)] at hi
      exact .inr ⟨h, hi⟩
  refine ⟨R.defers, by simpa [Act.put] using R.size, hbel, ?_, ?_, ?_, ?_, ?_, ?_, ?_⟩
  · intro i hi
    simp only [List.length_set] at hi
    by_cases h : i = d
    · subst h
      rw [get_set_same hi, tmpd hi]
      unfold OKV
      split
      · exact absurd rfl (hxw _ _ _)
      · exact ⟨hv, hwf⟩
    · rw [get_set_ne (fun e => h e.symm), tmp i h]
      have h0 := R.vals i hi
      have hri := hr i
      unfold OKV at h0 ⊢
      split
      · rename_i g b y he
        rw [he] at h0 hri
        simp only [nr] at hri
        intro c hc hcv
        have hg : g ≠ d := hw i g b y he
        rw [get_set_ne (fun e => hg e.symm)] at hc
        obtain ⟨h1, h2, h3⟩ := h0 c hc hcv
        refine ⟨VR_mset h ?_ h1, h2, h3⟩
        cases y <;> first | exact hri | trivial
      · rename_i hne
        revert h0
        split
        · rename_i g b y he; exact absurd he (hne g b y)
        · intro h0
          refine ⟨VR_mset h ?_ h0.1, h0.2⟩
          revert hri
          cases get S i <;> intro hri <;> first | exact hri | trivial
  · intro i y hi
    obtain ⟨hid, hi'⟩ := ownd i y hi
    obtain ⟨b1, b2, T, b3⟩ := R.blks i y hi'
    rw [mset_ne m _ hid]
    refine ⟨b1, b2, T, ?_⟩
    rw [hgr.block _ (Array.getElem?_eq_some_iff.1 b3).1]
    · exact b3
    · intro e
      exact (hrow _ e.symm).2.own i y hi' rfl
  · intro i j y z hi hj
    obtain ⟨hid, hi'⟩ := ownd i y hi
    obtain ⟨hjd, hj'⟩ := ownd j z hj
    rw [mset_ne m _ hid, mset_ne m _ hjd]
    exact R.inj i j y z hi' hj'
  · intro i k es len cap f hi
    have hid : i ≠ d := by
      intro h; subst h
      rw [get_set] at hi
      split at hi
      · exact absurd hi (hxs _ _ _ _ _)
      · rename_i hne
        exact absurd ⟨rfl, get_lt (by rw [hi]; simp)⟩ hne
    rw [mset_ne m _ hid]
    exact R.xsls i k es len cap f (other i _ hi hid)
  · intro i k' es' len' f' hi
    rcases lstd i _ hi with ⟨rfl, hlt, he⟩ | ⟨hid, hi'⟩
    · cases he
      rw [tmpd hlt]
      exact ⟨e, ho⟩
    · rw [tmp i hid]
      obtain ⟨e', h3⟩ := R.lsts i k' es' len' f' hi'
      refine ⟨e', h3.kept hgr ?_⟩
      cases hbb : (lv (a.tmps.getD i undef)).ownBlock with
      | none => exact .inl rfl
      | some b => exact .inr (fun e => (hrow b e.symm).2.lst i _ hi' hbb)
  · intro i j y z b hi hj hbb
    obtain ⟨hid, hi'⟩ := ownd i y hi
    rw [mset_ne m _ hid]
    rcases lstd j _ hj with ⟨rfl, hlt, he⟩ | ⟨hjd, hj'⟩
    · rw [tmpd hlt] at hbb
      exact (hb b hbb).own i y hi'
    · rw [tmp j hjd] at hbb
      exact R.inj1 i j y z b hi' hj' hbb
  · intro i j y z b hij hi hj hbb
    rcases lstd i _ hi with ⟨rfl, hlt, he⟩ | ⟨hid, hi'⟩
    · rw [tmpd hlt] at hbb
      rcases lstd j _ hj with ⟨rfl, _, _⟩ | ⟨hjd, hj'⟩
      · exact absurd rfl hij
      · rw [tmp j hjd]
        exact (hb b hbb).lst j z hj'
    · rw [tmp i hid] at hbb
      rcases lstd j _ hj with ⟨rfl, hlt, he⟩ | ⟨hjd, hj'⟩
      · rw [tmpd hlt]
        intro hbb2
        exact (hb b hbb2).lst i y hi' hbb
      · rw [tmp j hjd]
        exact R.inj2 i j y z b hij hi' hj' hbb

/-- A list is handed from slot t to slot d. -/
theorem Rel.hand {w0 : World} {m : M} {S : St} {a : Act} {w : World} (R : Rel w0 m S a w) {d t : Nat} {y : IntKind × Nat × SO × (Nat → Int)} (hy : lst? (get S t) = some y) (hdt : d ≠ t) (hr : noRef d S) (hw : noWhen d S) :
    Rel w0 (mset m d (blk (lv (a.tmps.getD t undef)))) ((S.set t .junk).set d (get S t)) (a.put (some d) (a.tmps.getD t undef)) w := by
  obtain ⟨k, es, len, f⟩ := y
  obtain ⟨e, ho⟩ := R.lsts t k es len f hy
  have htl : t < S.length := get_lt (by intro e; rw [e] at hy; cases hy)
  have h0 := R.vals t htl
  have hok : VR m t (get S t) (a.tmps.getD t undef) ∧ wfV (get S t) := by
    revert h0
    unfold OKV
    split
    · rename_i g b z he; rw [he] at hy; cases hy
    · exact id
  have hgt : ∀ i x, get (S.set t .junk) i = x → x ≠ .junk → i ≠ t ∧ get S i = x := by
    intro i x hi hx
    by_cases h : i = t
    · subst h
      rw [get_set_same htl] at hi
      exact absurd hi.symm hx
    · rw [get_set_ne (fun e => h e.symm)] at hi
      exact ⟨h, hi⟩
  have hlt : ∀ i z, lst? (get (S.set t .junk) i) = some z → i ≠ t ∧ lst? (get S i) = some z := by
    intro i z hi
    by_cases h : i = t
    · subst h
      rw [get_set_same htl] at hi
      cases hi
    · rw [get_set_ne (fun e => h e.symm)] at hi
      exact ⟨h, hi⟩
  have hloose : ∀ b, (lv (a.tmps.getD t undef)).ownBlock = some b → Loose m (S.set t .junk) a b := by
    intro b hb
    refine ⟨fun i x hi => ?_, fun i z hi => ?_⟩
    · exact R.inj1 i t x _ b (hgt i _ hi (by simp)).2 hy hb
    · obtain ⟨h1, h2⟩ := hlt i z hi
      exact R.inj2 t i _ z b (fun e => h1 e.symm) hy h2 hb
  refine (R.forget t).made d (get S t) (a.tmps.getD t undef) hy ho (row := none) ⟨rfl, rfl, rfl, Nat.le_refl _, fun _ _ _ => rfl⟩ (by intro b e; cases e) hloose ?_ hok.2 ?_ ?_
  · obtain ⟨aa, c, h1, h2⟩ := owns_SL ho
    rcases lst_cases hy with ⟨k', es', len', f', h3, h4⟩ | ⟨k', es', len', f', ps, h3, h4⟩
    · cases h4
      rw [h3] at hok ⊢
      obtain ⟨a1, c1, h5, _⟩ := hok.1
      simp only [VR, mset_same]
      rw [h5] at h1 ⊢
      simp only [lv] at h1
      cases h1
      exact ⟨_, _, rfl, by rw [h5] at h2; exact h2⟩
    · cases h4
      rw [h3] at hok ⊢
      obtain ⟨a1, c1, h5, _, h6⟩ := hok.1
      simp only [VR, mset_same]
      rw [h5] at h1 ⊢
      simp [lv] at h1
      obtain ⟨rfl, rfl⟩ := h1
      refine ⟨_, _, rfl, ?_, h6⟩
      rw [h5] at h2
      exact h2
  · intro i
    by_cases h : i = t
    · subst h
      rw [get_set_same htl]
      trivial
    · rw [get_set_ne (fun e => h e.symm)]
      exact hr i
  · intro i g b z hi
    exact hw i g b z (hgt i _ hi (by simp)).2

theorem length_lcells (k : IntKind) (n : Nat) (f : Nat → Int) : (lcells k n f).length = n := by simp [lcells]
theorem lcells_get (k : IntKind) (n : Nat) (f : Nat → Int) {j : Nat} (h : j < n) : (lcells k n f)[j]? = some (.int k (f j)) := by
  simp [lcells, h]

/-- The block of a list that isn't empty. -/
theorem lst_block {w0 : World} {m : M} {S : St} {a : Act} {w : World} (R : Rel w0 m S a w) {s : Nat} {k : IntKind} {es : Nat} {len : SO} {f : Nat → Int} (hs : lst? (get S s) = some (k, es, len, f)) (hp : 0 < len.val) :
    ∃ e cap cur, (m s).2 = 0 ∧ w0.heap.size ≤ (m s).1 ∧ w.heap[(m s).1]? = some (.cells cur e (0, 0)) ∧ len.val ≤ cap ∧ cap ≤ maxLen ∧ cur.size = cap * es ∧ cur.toList.take (len.val * es) = lcells k (len.val * es) f ∧
      lv (a.tmps.getD s undef) = .slice (some ⟨(m s).1, 0, none⟩) len.val cap := by
  have hlt : s < S.length := get_lt (by intro e; rw [e] at hs; cases hs)
  have h0 := R.vals s hlt
  obtain ⟨e, ho⟩ := R.lsts s k es len f hs
  have hsl : ∃ aa c, lv (a.tmps.getD s undef) = .slice aa len.val c ∧ SL (m s) len.val aa c := by
    rcases lst_cases hs with ⟨k', es', len', f', h3, h4⟩ | ⟨k', es', len', f', ps, h3, h4⟩
    · cases h4
      rw [h3] at h0
      obtain ⟨aa, c, h5, h6⟩ := h0.1
      exact ⟨aa, c, by rw [h5]; rfl, h6⟩
    · cases h4
      rw [h3] at h0
      obtain ⟨aa, c, h5, h6, _⟩ := h0.1
      exact ⟨aa, c, by rw [h5]; simp [lv], h6⟩
  obtain ⟨aa, c, h5, h6⟩ := hsl
  rcases ho.2 with ⟨h7, h8⟩ | ⟨g, cap, cur, h7, h8, h9, h10, h11, h12, h13⟩
  · omega
  · have h5' := h7.symm.trans h5
    simp only [Value.slice.injEq] at h5'
    obtain ⟨h5a, _, _⟩ := h5'
    obtain ⟨h14, h15⟩ := h6.1 _ h5a.symm
    have hgm : g = (m s).1 := congrArg Addr.block h14
    rw [hgm] at h8 h9 h7
    exact ⟨e, cap, cur, h15, h8, h9, h10, h11, h12, h13, h7⟩

theorem row_cell {cur : Array Value} {n : Nat} {k : IntKind} {f : Nat → Int} (h : cur.toList.take n = lcells k n f) {j : Nat} (hj : j < n) : cur[j]? = some (.int k (f j)) := by
  have h1 := lcells_get k n f hj
  rw [← h, List.getElem?_take, if_pos hj] at h1
  simpa using h1

/-- A store into a list of the call's own. -/
theorem Rel.storeL {w0 : World} {m : M} {S : St} {a : Act} {w : World} (R : Rel w0 m S a w) {s : Nat} {k : IntKind} {es : Nat} {len : SO} {f f' : Nat → Int} {cur cur' : Array Value} {T : TypeId} (hs : get S s = .osl k es len f) (hp : 0 < len.val)
    (hg : w.heap[(m s).1]? = some (.cells cur T (0, 0))) (hsz : cur'.size = cur.size) (ht : cur'.toList.take (len.val * es) = lcells k (len.val * es) f') (hwf : ∀ i, i < len.val * es → inR k (f' i)) :
    Rel w0 m (S.set s (.osl k es len f')) a (w.setRow (m s).1 cur') := by
  have hl0 : lst? (get S s) = some (k, es, len, f) := by rw [hs]; rfl
  obtain ⟨e, cap, cur0, b1, b2, b3, b4, b5, b6, b7, b8⟩ := lst_block R hl0 hp
  rw [b3] at hg
  cases hg
  have hlt : s < S.length := get_lt (by rw [hs]; simp)
  have hob : (lv (a.tmps.getD s undef)).ownBlock = some (m s).1 := by rw [b8]; rfl
  have own : ∀ i y, get (S.set s (.osl k es len f')) i = .own y → get S i = .own y := by
    intro i y hi
    rw [get_set] at hi
    split at hi
    · cases hi
    · exact hi
  have lst : ∀ i y, lst? (get (S.set s (.osl k es len f')) i) = some y → ∃ y', lst? (get S i) = some y' := by
    intro i y hi
    rw [get_set] at hi
    split at hi
    · rename_i h; rw [h.1]; exact ⟨_, hl0⟩
    · exact ⟨_, hi⟩
  refine ⟨R.defers, by simpa using R.size, ?_, ?_, ?_, ?_, ?_, ?_, ?_, ?_⟩
  · refine R.below.trans ⟨rfl, rfl, rfl, by simp, fun k hk => ?_⟩
    exact setRow_other _ _ _ _ (by omega)
  · intro i hi
    simp only [List.length_set] at hi
    have h0 := R.vals i hi
    by_cases h : i = s
    · subst h
      rw [get_set_same hi]
      rw [hs] at h0
      exact ⟨h0.1, hwf⟩
    · rw [get_set_ne (fun e => h e.symm)]
      unfold OKV at h0 ⊢
      split
      · rename_i g b y he
        rw [he] at h0
        intro c hc
        by_cases hg : s = g
        · subst hg
          rw [get_set_same hlt] at hc
          cases hc
        · rw [get_set_ne hg] at hc
          exact h0 c hc
      · rename_i hne
        revert h0
        split
        · rename_i g b y he; exact absurd he (hne g b y)
        · exact id
  · intro i y hi
    have hi' := own i y hi
    obtain ⟨c1, c2, T', c3⟩ := R.blks i y hi'
    refine ⟨c1, c2, T', ?_⟩
    rw [setRow_other]
    · exact c3
    · exact R.inj1 i s y _ _ hi' hl0 hob
  · exact fun i j x y hi hj => R.inj i j x y (own i _ hi) (own j _ hj)
  · intro i k es len cap f hi
    rw [get_set] at hi
    split at hi
    · cases hi
    · exact R.xsls i k es len cap f hi
  · intro i k1 es1 len1 f1 hi
    rw [get_set] at hi
    split at hi
    · rename_i h
      have hii : i = s := h.1
      subst hii
      simp only [lst?, Option.some.injEq, Prod.mk.injEq] at hi
      obtain ⟨h1, h2, h3, h4⟩ := hi
      subst h1 h2 h3 h4
      refine ⟨T, ?_⟩
      rw [b8]
      exact ⟨length_lcells _ _ _, .inr ⟨_, cap, cur', rfl, b2, setRow_heap w _ _ _ _ _ b3, b4, b5, by rw [hsz, b6], ht⟩⟩
    · rename_i hne
      have his : i ≠ s := fun h => hne ⟨h, by subst h; exact hlt⟩
      obtain ⟨e1, h3⟩ := R.lsts i k1 es1 len1 f1 hi
      refine ⟨e1, h3.kept (grownBy_setRow w (m s).1 _) ?_⟩
      cases hb : (lv (a.tmps.getD i undef)).ownBlock with
      | none => exact .inl rfl
      | some b => exact .inr (fun e => R.inj2 i s _ _ b his hi hl0 hb (by rw [hob]; exact e.symm))
  · intro i j x y b hi hj hb
    obtain ⟨y', hy⟩ := lst j y hj
    exact R.inj1 i j x y' b (own i _ hi) hy hb
  · intro i j x y b hij hi hj hb
    obtain ⟨x', hx⟩ := lst i x hi
    obtain ⟨y', hy⟩ := lst j y hj
    exact R.inj2 i j x' y' b hij hx hy hb
end Sx
