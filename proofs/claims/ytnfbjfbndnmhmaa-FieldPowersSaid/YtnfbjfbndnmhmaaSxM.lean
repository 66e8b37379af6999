/-
  A function: from its code's walk to its contract. The types' table, by one look.
-/
import Derived.Test.YtnfbjfbndnmhmaaSxL
import Derived.ChangeKeysEq
import Derived.KernelRfl
namespace Sx
open Go Go.RowKit

/-! The types. -/

def zeros (k : IntKind) : List Value → Bool
  | [] => true
  | .int k' n :: l => decide (k' = k) && n == 0 && zeros k l
  | _ :: _ => false

def zeroIs (k : IntKind) (n : Nat) (v : Option Value) : Bool :=
  match v with
  | some (.agg cs) => cs.size == n && zeros k cs.toList
  | _ => false

def sameFields : List Field → List (Nat × TypeId) → Bool
  | [], [] => true
  | f :: fs, (o, t) :: l => f.offset == o && f.type == t && sameFields fs l
  | _, _ => false

def tyChk (P : Program) (i : TI) (t : TypeId) : Bool :=
  match i.d, P.underlying t, P.info? t with
  | .int k, some (.int k'), some inf => decide (k = k') && i.sz == 1 && inf.size == 1 && (match inf.zero with | some (.int k2 n) => decide (k2 = k) && n == 0 | _ => false)
  | .bool, some .bool, some inf => i.sz == 1 && inf.size == 1 && (match inf.zero with | some (.bool b) => !b | _ => false)
  | .arr n e, some (.array n' e'), some inf => n == n' && e == e' && inf.size == i.sz && zeroIs i.k i.sz inf.zero
  | .struct fs, some (.struct fields), some inf => sameFields fields.toList fs && inf.size == i.sz && zeroIs i.k i.sz inf.zero
  | .slice e, some (.slice e'), _ => e == e'
  | .other, _, _ => true
  | _, _, _ => false

theorem zeros_ok (k : IntKind) : ∀ (l : List Value), zeros k l = true → l = (List.range l.length).map fun _ => Value.int k 0
  | [], _ => rfl
  | v :: l, h => by
    cases v <;> simp [zeros] at h
    obtain ⟨⟨rfl, rfl⟩, h⟩ := h
    have := zeros_ok _ l h
    rw [List.length_cons, List.range_succ_eq_map, List.map_cons, List.map_map]
    congr 1

theorem zeroIs_ok {k : IntKind} {n : Nat} {v : Option Value} (h : zeroIs k n v = true) : v = some (.agg (cellsA k n fun _ => 0)) := by
  unfold zeroIs at h
  split at h
  · rename_i cs
    simp only [Bool.and_eq_true, beq_iff_eq] at h
    obtain ⟨h1, h2⟩ := h
    have := zeros_ok k _ h2
    congr 2
    apply Array.ext'
    rw [this]
    simp [cellsA, h1]
  · cases h

theorem sameFields_ok : ∀ (fs : List Field) (l : List (Nat × TypeId)), sameFields fs l = true → fs.map (fun f => (f.offset, f.type)) = l
  | [], [], _ => rfl
  | f :: fs, (o, t) :: l, h => by
    simp only [sameFields, Bool.and_eq_true, beq_iff_eq] at h
    obtain ⟨⟨rfl, rfl⟩, h⟩ := h
    simp [sameFields_ok fs l h]
  | [], _ :: _, h => by cases h
  | _ :: _, [], h => by cases h

theorem tyChk_ok {P : Program} {i : TI} {t : TypeId} (h : tyChk P i t = true) : TyOK P i t := by
  unfold tyChk at h
  unfold TyOK
  split at h
  · rename_i k k' inf hd hu hi
    rw [hd]
    simp only [Bool.and_eq_true, decide_eq_true_eq, beq_iff_eq] at h
    obtain ⟨⟨⟨rfl, h1⟩, h2⟩, h3⟩ := h
    refine ⟨hu, h1, inf, hi, h2, ?_⟩
    split at h3
    · rename_i hz
      simp only [Bool.and_eq_true, decide_eq_true_eq, beq_iff_eq] at h3
      obtain ⟨rfl, rfl⟩ := h3
      exact hz
    · cases h3
  · rename_i inf hd hu hi
    rw [hd]
    simp only [Bool.and_eq_true, beq_iff_eq] at h
    obtain ⟨⟨h1, h2⟩, h3⟩ := h
    refine ⟨hu, h1, inf, hi, h2, ?_⟩
    split at h3
    · rename_i b hz
      rw [hz]
      cases b
      · rfl
      · cases h3
    · cases h3
  · rename_i n e n' e' inf hd hu hi
    rw [hd]
    simp only [Bool.and_eq_true, beq_iff_eq] at h
    obtain ⟨⟨⟨rfl, rfl⟩, h2⟩, h3⟩ := h
    exact ⟨hu, inf, hi, h2, zeroIs_ok h3⟩
  · rename_i fs fields inf hd hu hi
    rw [hd]
    simp only [Bool.and_eq_true, beq_iff_eq] at h
    obtain ⟨⟨h1, h2⟩, h3⟩ := h
    exact ⟨fields, hu, sameFields_ok _ _ h1, inf, hi, h2, zeroIs_ok h3⟩
  · rename_i e e' hd hu
    rw [hd]
    simp only [beq_iff_eq] at h
    subst h
    exact hu
  · rename_i hd
    rw [hd]
    trivial
  · cases h

/-! '=='. -/

def isIntTy (P : Program) (t : TypeId) : Bool :=
  match P.underlying t with
  | some (.int _) => true
  | _ => false

def vOf (P : Program) (t : TypeId) (k : IntKind) (n : Nat) (f : Nat → Int) : Value := if isIntTy P t then .int k (f 0) else .agg (cellsA k n f)

mutual
def eqChk (P : Program) : Nat → TypeId → IntKind → Nat → Bool
  | 0, _, _, _ => false
  | d + 1, t, k, n =>
    match P.underlying t with
    | some (.int k') => decide (k' = k) && n == 1
    | some (.array len e) => (P.info? e).isSome && (len * P.cellsOf e == n) && eqChk P d e k (P.cellsOf e)
    | some (.struct fs) => !P.stoodInHeld t && eqChkF P d k 0 n fs.toList
    | _ => false
def eqChkF (P : Program) : Nat → IntKind → Nat → Nat → List Field → Bool
  | 0, _, _, _, _ => false
  | _ + 1, _, off, n, [] => off == n
  | d + 1, k, off, n, f :: fs => f.name != "_" && f.offset == off && (P.info? f.type).isSome && eqChk P d f.type k (P.cellsOf f.type) && eqChkF P d k (off + P.cellsOf f.type) n fs
end

def eqFrom (off n : Nat) (f g : Nat → Int) : Bool := (List.range n).all fun i => decide (i < off) || f i == g i
theorem eqFrom_iff {off n : Nat} {f g : Nat → Int} : eqFrom off n f g = true ↔ ∀ i, off ≤ i → i < n → f i = g i := by
  simp only [eqFrom, List.all_eq_true, List.mem_range, Bool.or_eq_true, decide_eq_true_eq, beq_iff_eq]
  constructor
  · intro h i h1 h2
    rcases h i h2 with h3 | h3
    · omega
    · exact h3
  · intro h i h2
    by_cases h1 : off ≤ i
    · exact .inr (h i h1 h2)
    · exact .inl (by omega)
theorem realEqA_iff {n : Nat} {f g : Nat → Int} : realEqA n f g = true ↔ ∀ i, i < n → f i = g i := by
  simp [realEqA]

section
variable {P : Program}

theorem part_vOf {e : TypeId} {k : IntKind} {N off : Nat} {f : Nat → Int} {d : Nat} (h : eqChk P d e k (P.cellsOf e) = true) (hi : (P.info? e).isSome = true) (hle : off + P.cellsOf e ≤ N) (w : World) :
    (part e (cellsA k N f) off).run P w = .ok (vOf P e k (P.cellsOf e) fun j => f (off + j)) w := by
  obtain ⟨inf, hinf⟩ := Option.isSome_iff_exists.1 hi
  have hsz : inf.size = P.cellsOf e := by simp [Program.cellsOf, hinf]
  have agg : ∀ dd, P.underlying e = some dd → isG dd = true → (part e (cellsA k N f) off).run P w = .ok (.agg (cellsA k (P.cellsOf e) fun j => f (off + j))) w := by
    intro dd hd hg
    have : (cellsA k N f).extract off (off + P.cellsOf e) = cellsA k (P.cellsOf e) (fun j => f (off + j)) := by
      apply Array.ext
      · simp; omega
      · intro i h1 h2
        simp [cellsA]
    simp only [part, Sem.run_bind, run_agg hd, hg, Result.andThen_ok, if_true, run_size hinf, hsz, this, Sem.run_pure]
  cases d with
  | zero => simp [eqChk] at h
  | succ d =>
    simp only [eqChk] at h
    split at h
    · rename_i k' hu
      simp only [Bool.and_eq_true, decide_eq_true_eq, beq_iff_eq] at h
      obtain ⟨rfl, h1⟩ := h
      have hv : isIntTy P e = true := by simp [isIntTy, hu]
      have hcell := cellsA_get k' N f off (by omega)
      simp only [part, Sem.run_bind, run_agg hu, isG, Result.andThen_ok, Bool.false_eq_true, if_false, hcell, vOf, hv, if_true, Nat.add_zero]
      rfl
    · rename_i len e' hu
      have hv : isIntTy P e = false := by simp [isIntTy, hu]
      rw [agg _ hu rfl, vOf, hv]
      rfl
    · rename_i fs hu
      have hv : isIntTy P e = false := by simp [isIntTy, hu]
      rw [agg _ hu rfl, vOf, hv]
      rfl
    · cases h

theorem eqItems_ok {e : TypeId} {k : IntKind} {len N dd : Nat} {f g : Nat → Int} (he : eqChk P dd e k (P.cellsOf e) = true) (hi : (P.info? e).isSome = true) (hN : len * P.cellsOf e = N) (d : Nat)
    (ih : ∀ (f g : Nat → Int) (w : World), (Op.equalIn d e (vOf P e k (P.cellsOf e) f) (vOf P e k (P.cellsOf e) g)).run P w = .ok (realEqA (P.cellsOf e) f g) w) (w : World) :
    ∀ is : List Nat, (∀ i ∈ is, i < len) → (Op.eqItems d e (P.cellsOf e) (cellsA k N f) (cellsA k N g) is).run P w = .ok (is.all fun i => realEqA (P.cellsOf e) (fun j => f (i * P.cellsOf e + j)) (fun j => g (i * P.cellsOf e + j))) w
  | [], _ => rfl
  | i :: is, hlt => by
    have hl := hlt i (by simp)
    have hle : i * P.cellsOf e + P.cellsOf e ≤ N := by
      rw [← hN, ← Nat.succ_mul]
      exact Nat.mul_le_mul_right _ hl
    simp only [Op.eqItems, Sem.run_bind, part_vOf he hi hle, Result.andThen_ok, ih, List.all_cons]
    cases hr : realEqA (P.cellsOf e) (fun j => f (i * P.cellsOf e + j)) (fun j => g (i * P.cellsOf e + j))
    · simp
    · simp only [Bool.not_true, Bool.false_eq_true, if_false, Bool.true_and]
      exact eqItems_ok he hi hN d ih w is (fun j hj => hlt j (by simp [hj]))

theorem all_items {c len : Nat} {f g : Nat → Int} : ((List.range len).all fun i => realEqA c (fun j => f (i * c + j)) (fun j => g (i * c + j))) = realEqA (len * c) f g := by
  rw [Bool.eq_iff_iff]
  simp only [List.all_eq_true, List.mem_range, realEqA_iff]
  constructor
  · intro h i hi
    have hc : 0 < c := by
      rcases Nat.eq_zero_or_pos c with h0 | h0
      · subst h0; simp at hi
      · exact h0
    have h1 : i / c < len := (Nat.div_lt_iff_lt_mul hc).2 hi
    have := h (i / c) h1 (i % c) (Nat.mod_lt _ hc)
    rw [Nat.div_add_mod'] at this
    exact this
  · intro h i hi j hj
    refine h _ ?_
    have : (i + 1) * c ≤ len * c := Nat.mul_le_mul_right _ hi
    rw [Nat.succ_mul] at this
    omega

mutual
theorem eqChk_ok : ∀ (d : Nat) (t : TypeId) (k : IntKind) (n : Nat), eqChk P d t k n = true → ∀ (x : Nat) (f g : Nat → Int) (w : World), (Op.equalIn (d + x) t (vOf P t k n f) (vOf P t k n g)).run P w = .ok (realEqA n f g) w
  | 0, t, k, n, h => by simp [eqChk] at h
  | d + 1, t, k, n, h => by
    intro x f g w
    have e1 : d + 1 + x = (d + x) + 1 := by omega
    rw [e1]
    simp only [eqChk] at h
    split at h
    · rename_i k' hu
      simp only [Bool.and_eq_true, decide_eq_true_eq, beq_iff_eq] at h
      obtain ⟨rfl, rfl⟩ := h
      have hv : isIntTy P t = true := by simp [isIntTy, hu]
      simp only [vOf, hv, if_true]
      rw [run_equalIn_int w _ t k' k' _ _ hu]
      congr 1
      simp [realEqA]
    · rename_i len e hu
      simp only [Bool.and_eq_true, beq_iff_eq] at h
      obtain ⟨⟨hi, hn⟩, he⟩ := h
      obtain ⟨inf, hinf⟩ := Option.isSome_iff_exists.1 hi
      have hv : isIntTy P t = false := by simp [isIntTy, hu]
      simp only [vOf, hv, Bool.false_eq_true, if_false]
      rw [run_equalIn_array w _ _ _ hu hinf, eqItems_ok he hi hn (d + x) (fun f g w => eqChk_ok d e k _ he x f g w) w _ (fun i hi => List.mem_range.1 hi), all_items, hn]
    · rename_i fs hu
      simp only [Bool.and_eq_true, Bool.not_eq_true'] at h
      obtain ⟨hs, hf⟩ := h
      have hv : isIntTy P t = false := by simp [isIntTy, hu]
      simp only [vOf, hv, Bool.false_eq_true, if_false]
      have hfo : P.fieldsOf t = fs := by simp [Program.fieldsOf, hu]
      rw [run_equalIn_struct w _ t _ _ (by rw [hfo]; exact hu) hs, hfo, eqChkF_ok d k 0 n fs.toList hf x f g w]
      congr 1
    · cases h
theorem eqChkF_ok : ∀ (d : Nat) (k : IntKind) (off n : Nat) (fs : List Field), eqChkF P d k off n fs = true → ∀ (x : Nat) (f g : Nat → Int) (w : World),
    (Op.eqFields (d + x) (cellsA k n f) (cellsA k n g) fs).run P w = .ok (eqFrom off n f g) w
  | 0, k, off, n, fs, h => by simp [eqChkF] at h
  | d + 1, k, off, n, [], h => by
    intro x f g w
    simp only [eqChkF, beq_iff_eq] at h
    subst h
    simp only [Op.eqFields, Sem.run_pure]
    congr 1
    refine Eq.symm ?_
    exact eqFrom_iff.2 (fun i h1 h2 => by omega)
  | d + 1, k, off, n, fl :: fs, h => by
    intro x f g w
    simp only [eqChkF, Bool.and_eq_true, beq_iff_eq, bne_iff_ne] at h
    obtain ⟨⟨⟨⟨hn, ho⟩, hi⟩, he⟩, hf⟩ := h
    have bound : ∀ (d : Nat) (fs : List Field) (off : Nat), eqChkF P d k off n fs = true → off ≤ n := by
      intro d
      induction d with
      | zero => intro fs off h; simp [eqChkF] at h
      | succ d ihd =>
        intro fs off h
        cases fs with
        | nil => simp only [eqChkF, beq_iff_eq] at h; omega
        | cons f fs =>
          simp only [eqChkF, Bool.and_eq_true] at h
          have := ihd _ _ h.2
          omega
    have hle := bound d fs _ hf
    have h1 := eqChk_ok d fl.type k (P.cellsOf fl.type) he (x + 1) (fun j => f (off + j)) (fun j => g (off + j)) w
    have e1 : d + (x + 1) = d + 1 + x := by omega
    rw [e1] at h1
    have h2 := eqChkF_ok d k _ n fs hf (x + 1) f g w
    rw [e1] at h2
    simp only [Op.eqFields, if_pos hn, Sem.run_bind, ho, part_vOf he hi hle, Result.andThen_ok, h1]
    cases hr : realEqA (P.cellsOf fl.type) (fun j => f (off + j)) (fun j => g (off + j))
    · simp only [Bool.not_false, if_true, Sem.run_pure]
      congr 1
      symm
      rw [Bool.eq_false_iff]
      intro hall0
      have hall := eqFrom_iff.1 hall0
      have : realEqA (P.cellsOf fl.type) (fun j => f (off + j)) (fun j => g (off + j)) = true := realEqA_iff.2 fun i hi => hall _ (by omega) (by omega)
      rw [hr] at this
      cases this
    · simp only [Bool.not_true, Bool.false_eq_true, if_false, h2]
      congr 1
      rw [Bool.eq_iff_iff, eqFrom_iff, eqFrom_iff]
      constructor
      · intro h i h3 h4
        by_cases h5 : i < off + P.cellsOf fl.type
        · have := realEqA_iff.1 hr (i - off) (by omega)
          have e2 : off + (i - off) = i := by omega
          rw [e2] at this
          exact this
        · exact h i (by omega) h4
      · intro h i h3 h4
        exact h i (by omega) h4
end

theorem eqOK_of {i : TI} {t : TypeId} (h : eqChk P 20 t i.k i.sz = true) (hv : isIntTy P t = false) (hg : P.eqGuardType P.depth t = false) : EqOK P i t := by
  intro f g w
  refine ⟨fun x y o => run_eqGuard_agg w o t x y _ _ hg, ?_⟩
  have := eqChk_ok 20 t i.k i.sz h 9980 f g w
  simp only [vOf, hv, Bool.false_eq_true, if_false] at this
  exact this
end
end Sx
