/-
  A function's contract, out of its code's walk.
-/
import Derived.Test.YtnfbjfbndnmhmaaSxM
namespace Sx
open Go Go.RowKit

/-- What a function answers, off its slots. -/
def resOf (E : Env) (S : St) : ResultVar → Option AV
  | .tmp t => if plain (get S t) then some (get S t) else none
  | .cell t T =>
    match get S t with
    | .own x =>
      match sub E T x (.lit 0) with
      | some ([], r) => some r
      | _ => none
    | _ => none

def resAll (E : Env) (S : St) : List ResultVar → Option (List AV)
  | [] => some []
  | r :: rs =>
    match resOf E S r with
    | some v =>
      (match resAll E S rs with
      | some vs => some (v :: vs)
      | none => none)
    | none => none

def answerOf : List AV → AV
  | [x] => x
  | l => .tup l

/-- The same plain answer. -/
def sameP : AV → AV → Prop
  | .int k n, .int k' n' => k = k' ∧ n.val = n'.val
  | .bool b, .bool b' => b.val = b'.val
  | .arr k n f, .arr k' n' g => k = k' ∧ n = n' ∧ ∀ i, i < n → f i = g i
  | .val v, .val v' => v = v'
  | _, _ => False

def sameL : List AV → List AV → Prop
  | [], [] => True
  | x :: xs, y :: ys => sameP x y ∧ sameL xs ys
  | _, _ => False

def sameA : AV → AV → Prop
  | .tup l, .tup l' => sameL l l'
  | x, y => sameP x y

def start (n : Nat) (vs : List AV) : St := vs ++ List.replicate (n - vs.length) .junk

/-- A function called with these arguments comes to an end, and Q holds of its answer. -/
def fnS (E : Env) (c : SC) (n : Nat) (rs : List ResultVar) (vs : List AV) (Q : AV → Prop) : Prop :=
  wpS E c (start n vs) (fun e S => match e with
    | .exit _ => False
    | .normal => (match resAll E S rs with
      | some l => Q (answerOf l)
      | none => False)
    | .ret => (match resAll E S rs with
      | some l => Q (answerOf l)
      | none => False))

section
variable {P : Program} {E : Env}

theorem All2_get {α β : Type} {r : α → β → Prop} : ∀ {as : List α} {bs : List β}, All2 r as bs → as.length = bs.length ∧ ∀ (i : Nat) (a : α) (b : β), as[i]? = some a → bs[i]? = some b → r a b
  | [], [], _ => ⟨rfl, fun i a b h => by simp at h⟩
  | a :: as, b :: bs, h => by
    obtain ⟨h1, h2⟩ := h
    obtain ⟨h3, h4⟩ := All2_get h2
    refine ⟨by simp [h3], fun i x y hx hy => ?_⟩
    cases i with
    | zero =>
      simp only [List.getElem?_cons_zero, Option.some.injEq] at hx hy
      subst hx; subst hy; exact h1
    | succ i => exact h4 i x y (by simpa using hx) (by simpa using hy)
  | [], _ :: _, h => h.elim
  | _ :: _, [], h => h.elim

/-- Where a slice that came in lies. -/
noncomputable def placeOf (v : Value) : Nat × Nat :=
  match v with
  | .slice (some a) _ _ => (a.block, a.off)
  | _ => (0, 0)

theorem start_rel {vs : List AV} {args : List Value} {w : World} {n : Nat} (h : All2 (ArgR w) vs args) (hw : ∀ x ∈ vs, wfV x) (hn : vs.length ≤ n) :
    Rel w (fun i => placeOf (args.getD i undef)) (start n vs) { tmps := args.toArray ++ Array.replicate (n - args.toArray.size) undef, defers := [] } w := by
  obtain ⟨hlen, hget⟩ := All2_get h
  have hg : ∀ i, get (start n vs) i = vs.getD i .junk := by
    intro i
    simp only [get, start, List.getD_eq_getElem?_getD]
    rcases Nat.lt_or_ge i vs.length with h1 | h1
    · rw [List.getElem?_append_left h1]
    · rw [List.getElem?_append_right h1, List.getElem?_eq_none h1]
      simp only [List.getElem?_replicate]
      split <;> rfl
  have hin : ∀ i x, get (start n vs) i = x → x ≠ .junk → i < vs.length ∧ ∃ v, args[i]? = some v ∧ ArgR w x v ∧ wfV x := by
    intro i x hi hx
    rw [hg] at hi
    rcases Nat.lt_or_ge i vs.length with h1 | h1
    · have e1 : vs[i]? = some x := by
        simp only [List.getD_eq_getElem?_getD, List.getElem?_eq_getElem h1, Option.getD_some] at hi ⊢
        rw [hi]
      have e2 : args[i]? = some (args[i]'(by omega)) := List.getElem?_eq_getElem (by omega)
      exact ⟨h1, _, e2, hget i x _ e1 e2, hw x (List.mem_of_getElem? e1)⟩
    · simp [List.getD_eq_getElem?_getD, List.getElem?_eq_none h1] at hi
      exact absurd hi.symm hx
  have htmp : ∀ i v, args[i]? = some v → (args.toArray ++ Array.replicate (n - args.toArray.size) undef).getD i undef = v := by
    intro i v hv
    have hlt : i < args.length := by
      rcases Nat.lt_or_ge i args.length with h1 | h1
      · exact h1
      · rw [List.getElem?_eq_none h1] at hv; cases hv
    simp only [Array.getD_eq_getD_getElem?]
    rw [Array.getElem?_append_left (by simpa using hlt)]
    simp [hv]
  refine ⟨rfl, ?_, Below.refl _ _, ?_, ?_, ?_, ?_⟩
  · simp [start]
    omega
  · intro i _
    by_cases hj : get (start n vs) i = .junk
    · rw [hj]; exact ⟨trivial, trivial⟩
    · obtain ⟨_, v, e2, ha, hwf⟩ := hin i _ rfl hj
      simp only
      rw [htmp i v e2]
      have hpl : args.getD i undef = v := by simp [List.getD_eq_getElem?_getD, e2]
      generalize get (start n vs) i = x at ha hwf hj
      cases x <;> simp only [ArgR] at ha <;> try (exact ha.elim)
      · exact ⟨ha, hwf⟩
      · exact ⟨ha, hwf⟩
      · exact ⟨ha, hwf⟩
      · obtain ⟨aa, h1, h2, h3⟩ := ha
        refine ⟨⟨aa, h1, fun hp => ?_, h3⟩, hwf⟩
        obtain ⟨b, off, hb, _⟩ := h2 hp
        subst hb
        simp only [hpl, h1, placeOf]
  · intro i x hi
    obtain ⟨_, v, _, ha, _⟩ := hin i _ hi (by simp)
    exact ha.elim
  · intro i j x y hi
    obtain ⟨_, v, _, ha, _⟩ := hin i _ hi (by simp)
    exact ha.elim
  · intro i k es len cap f hi j hj
    obtain ⟨_, v, e2, ha, _⟩ := hin i _ hi (by simp)
    obtain ⟨aa, h1, h2, h3⟩ := ha
    have hp : 0 < len.val := by
      rcases Nat.eq_zero_or_pos len.val with h0 | h0
      · rw [h0] at hj; simp at hj
      · exact h0
    obtain ⟨b, off, hb, hc⟩ := h2 hp
    subst hb
    have hpl : args.getD i undef = v := by simp [List.getD_eq_getElem?_getD, e2]
    simp only [hpl, h1, placeOf]
    exact hc j hj

theorem resOf_ok (hP : EnvOK P E) {w0 : World} {m : M} {S : St} {a : Act} {w : World} (R : Rel w0 m S a w) {rv : ResultVar} {x : AV} (h : resOf E S rv = some x) :
    (match rv with
      | .tmp t => (pure (a.tmps.getD t undef) : Sem Value)
      | .cell b t => do loadVar t (← asAddr (a.tmps.getD b undef))).run P w = .ok (pv x) w ∧ plain x = true ∧ wfP x := by
  cases rv with
  | tmp t =>
    simp only [resOf] at h
    split at h
    · rename_i hp
      simp only [Option.some.injEq] at h
      subst h
      have h0 := vals_get R t
      unfold OKV at h0
      split at h0
      · rename_i g b y he; rw [he] at hp; cases hp
      · refine ⟨?_, hp, wfV_wfP hp h0.2⟩
        show (pure (a.tmps.getD t undef) : Sem Value).run P w = _
        rw [plain_VR hp h0.1]
        rfl
    · cases h
  | cell t T =>
    simp only [resOf] at h
    split at h
    · rename_i y hs
      split at h
      · rename_i r hsub
        simp only [Option.some.injEq] at h
        subst h
        obtain ⟨h0, ⟨T0, hb⟩, hp, hw⟩ := own_block R hs
        obtain ⟨l1, l2, l3⟩ := sub_ok hP hsub (fun p hp => by simp at hp) hw hb
        refine ⟨?_, l2, l3⟩
        have hv := vals_get R t
        rw [hs] at hv
        have hv1 := hv.1.1
        rw [h0] at hv1
        simp only [hv1, asAddr, Sem.run_bind, Sem.run_pure, Result.andThen_ok]
        exact l1
      · cases h
    · cases h

theorem results_ok (hP : EnvOK P E) {w0 : World} {m : M} {S : St} {a : Act} {w : World} (R : Rel w0 m S a w) {fn : Func} {l : List AV} (h : resAll E S fn.results.toList = some l) :
    ∃ v, (results fn a.tmps).run P w = .ok v w ∧ ResR (answerOf l) v := by
  have key : ∀ (rs : List ResultVar) (l : List AV), resAll E S rs = some l → (rs.mapM (m := Sem) fun
      | .tmp t => pure (a.tmps.getD t undef)
      | .cell b t => do loadVar t (← asAddr (a.tmps.getD b undef))).run P w = .ok (l.map pv) w ∧ (∀ x ∈ l, plain x = true ∧ wfP x) := by
    intro rs
    induction rs with
    | nil =>
      intro l h
      simp only [resAll] at h
      cases h
      exact ⟨rfl, fun x hx => by simp at hx⟩
    | cons r rs ih =>
      intro l h
      simp only [resAll] at h
      split at h
      · rename_i x hx
        split at h
        · rename_i vs hvs
          cases h
          obtain ⟨r1, r2, r3⟩ := resOf_ok hP R hx
          obtain ⟨i1, i2⟩ := ih vs hvs
          refine ⟨?_, fun y hy => ?_⟩
          · rw [List.mapM_cons, Sem.run_bind]
            cases r <;> simp only at r1 <;> simp only [r1, Result.andThen_ok, Sem.run_bind, i1, Sem.run_pure, List.map_cons]
          · rcases List.mem_cons.1 hy with rfl | hy
            · exact ⟨r2, r3⟩
            · exact i2 y hy
        · cases h
      · cases h
  obtain ⟨k1, k2⟩ := key _ _ h
  have harr : (fn.results.mapM (m := Sem) fun
      | .tmp t => pure (a.tmps.getD t undef)
      | .cell b t => do loadVar t (← asAddr (a.tmps.getD b undef))).run P w = .ok (l.map pv).toArray w := by
    rw [Array.mapM_eq_mapM_toList, Sem.run_map, k1]
    rfl
  have hrun : (results fn a.tmps).run P w = .ok (if h : (l.map pv).toArray.size = 1 then (l.map pv).toArray[0] else .tuple (l.map pv).toArray) w := by
    unfold results
    rw [Sem.run_bind]
    exact (congrArg (fun r => Result.andThen r _) harr).trans rfl
  refine ⟨_, hrun, ?_⟩
  match l, k2 with
  | [], _ => exact ⟨rfl, rfl, fun x hx => by simp at hx⟩
  | [x], k2 =>
    obtain ⟨p1, p2⟩ := k2 x (by simp)
    simp only [answerOf]
    cases x <;> simp [plain] at p1 <;> exact ⟨rfl, p2, rfl⟩
  | x :: y :: l, k2 =>
    simp only [answerOf, ResR]
    refine ⟨?_, ?_, fun z hz => (k2 z hz).2⟩
    · rw [dif_neg (by simp)]
    · rw [List.all_eq_true]
      exact fun z hz => (k2 z hz).1

theorem sameP_ok {x y : AV} (h : sameP x y) : pv x = pv y ∧ (plain x = true ∧ plain y = true) ∧ (wfP x → wfP y) := by
  unfold sameP at h
  split at h
  · obtain ⟨rfl, hn⟩ := h
    exact ⟨by simp [pv, hn], ⟨rfl, rfl⟩, fun h => by simpa [wfP, hn] using h⟩
  · exact ⟨by simp [pv, h], ⟨rfl, rfl⟩, fun _ => trivial⟩
  · obtain ⟨rfl, rfl, hfg⟩ := h
    exact ⟨by simp only [pv]; rw [cellsA_congr hfg], ⟨rfl, rfl⟩, fun h i hi => by rw [← hfg i hi]; exact h i hi⟩
  · subst h; exact ⟨rfl, ⟨rfl, rfl⟩, id⟩
  · exact h.elim

theorem sameL_ok : ∀ {xs ys : List AV}, sameL xs ys → xs.map pv = ys.map pv ∧ ys.all plain = true ∧ ((∀ x ∈ xs, wfP x) → ∀ y ∈ ys, wfP y)
  | [], [], _ => ⟨rfl, rfl, fun _ y hy => by simp at hy⟩
  | x :: xs, y :: ys, h => by
    obtain ⟨h1, h2⟩ := h
    obtain ⟨a1, a2, a3⟩ := sameP_ok h1
    obtain ⟨b1, b2, b3⟩ := sameL_ok h2
    refine ⟨by simp [a1, b1], by simp [a2.2]; simpa using b2, fun hw z hz => ?_⟩
    rcases List.mem_cons.1 hz with rfl | hz
    · exact a3 (hw x (by simp))
    · exact b3 (fun u hu => hw u (by simp [hu])) z hz
  | [], _ :: _, h => h.elim
  | _ :: _, [], h => h.elim

theorem sameA_ok {x y : AV} {v : Value} (h : sameA x y) (hv : ResR x v) : ResR y v := by
  unfold sameA at h
  split at h
  · rename_i l l'
    obtain ⟨h1, h2, h3⟩ := sameL_ok h
    obtain ⟨v1, v2, v3⟩ := hv
    exact ⟨by rw [v1, h1], h2, h3 v3⟩
  · rename_i hnt
    obtain ⟨p1, p2, p3⟩ := sameP_ok h
    have hx : plain x = true ∧ wfP x ∧ v = pv x := by
      unfold ResR at hv
      split at hv
      · rename_i l; cases p2.1
      · exact hv
    have : ResR y v := by
      unfold ResR
      split
      · rename_i l; cases p2.2
      · exact ⟨p2.2, p3 hx.2.1, by rw [hx.2.2, p1]⟩
    exact this

/-- **A function's contract.** -/
theorem sound_of (hP : EnvOK P E) (hmix : P.follows .mixedOrders = true) {f : FuncId} {fn : Func} (hf : P.funcs[f]? = some fn) (hb : fn.body.isNone = false) (hname : (fn.name == "runtime.NumGoroutine") = false) {c : Contract}
    (hlen : ∀ vs cs r, c vs = some (cs, r) → vs.length ≤ fn.ntmps)
    (h : ∀ vs cs r, c vs = some (cs, r) → (∀ p ∈ cs, p) → (∀ x ∈ vs, wfV x) → fnS E (strip (body fn)) fn.ntmps fn.results.toList vs (fun r' => sameA r' r)) : Sound P E.glob f c := by
  intro vs cs r hc hcs hwf w G args hargs
  refine .inl ⟨fn, hf, hb, hname, ?_⟩
  have hw := h vs cs r hc hcs hwf
  obtain ⟨cc, hcc⟩ : ∃ cc, fn.body = some cc := by
    cases hbb : fn.body with
    | none => rw [hbb] at hb; cases hb
    | some cc => exact ⟨cc, rfl⟩
  have hbd : body fn = cc := by simp [body, hcc]
  refine calls_of_wp hf hcc ?_
  rw [hbd] at hw
  have R := start_rel (n := fn.ntmps) hargs hwf (hlen vs cs r hc)
  refine wp_mono (wpS_ok hP hmix G cc _ _ _ _ w hw R) ?_
  have fin : ∀ a' w', (∃ S m, (match resAll E S fn.results.toList with | some l => sameA (answerOf l) r | none => False) ∧ Rel w m S a' w') →
      a'.defers = [] ∧ ∃ v, (results fn a'.tmps).run P w' = .ok v w' ∧ ∃ v', Ending.returned v = .returned v' ∧ ResR r v' ∧ Below w.heap.size w w' := by
    rintro a' w' ⟨S, m, h1, h2⟩
    split at h1
    · rename_i l hl
      obtain ⟨v, v1, v2⟩ := results_ok hP h2 hl
      exact ⟨h2.defers, v, v1, v, rfl, sameA_ok h1 v2, h2.below⟩
    · exact h1.elim
  intro e a' w' hl
  cases e with
  | normal => exact fin a' w' hl
  | ret => exact fin a' w' hl
  | exit id => obtain ⟨S, m, h1, _⟩ := hl; exact h1.elim
  | goto l => exact hl.elim
  | panic ch => exact hl.elim
  | outgrown => exact hl.elim

/-- The same, sealed. -/
structure Walk (E : Env) (sc : SC) (n : Nat) (rs : List ResultVar) (vs : List AV) (r : AV) : Prop where
  run : fnS E sc n rs vs (fun r' => sameA r' r)

theorem sound_by {E : Env} (hP : EnvOK P E) (hmix : P.follows .mixedOrders = true) {f : FuncId} {fn : Func} (hf : P.funcs[f]? = some fn) {n : Nat} {rs : List ResultVar} {sc : SC} (hn : fn.ntmps = n) (hrs : fn.results.toList = rs) (hb : fn.body.isNone = false)
    (hname : (fn.name == "runtime.NumGoroutine") = false) (hsc : strip (body fn) = sc) {c : Contract}
    (h : ∀ vs cs r, c vs = some (cs, r) → vs.length ≤ n ∧ ((∀ p ∈ cs, p) → (∀ x ∈ vs, wfV x) → Walk E sc n rs vs r)) : Sound P E.glob f c := by
  subst hn; subst hrs; subst hsc
  exact sound_of hP hmix hf hb hname (fun vs cs r hc => (h vs cs r hc).1) (fun vs cs r hc h1 h2 => ((h vs cs r hc).2 h1 h2).run)

/-- The same, where what the walk knows hangs on the arguments. -/
theorem sound_each {G : Nat → AV} (hmix : P.follows .mixedOrders = true) {f : FuncId} {fn : Func} (hf : P.funcs[f]? = some fn) {n : Nat} {rs : List ResultVar} {sc : SC} (hn : fn.ntmps = n) (hrs : fn.results.toList = rs) (hb : fn.body.isNone = false)
    (hname : (fn.name == "runtime.NumGoroutine") = false) (hsc : strip (body fn) = sc) {c : Contract}
    (h : ∀ vs cs r, c vs = some (cs, r) → vs.length ≤ n ∧ ((∀ p ∈ cs, p) → (∀ x ∈ vs, wfV x) → ∃ E : Env, EnvOK P E ∧ E.glob = G ∧ Walk E sc n rs vs r)) : Sound P G f c := by
  intro vs cs r hc hcs hwf w hG args hargs
  obtain ⟨hl, hw⟩ := h vs cs r hc
  obtain ⟨E, hE, hg, hW⟩ := hw hcs hwf
  subst hg
  subst hn; subst hrs; subst hsc
  classical
  have key : Sound P E.glob f (fun vs' => if vs' = vs then some (cs, r) else none) := by
    refine sound_of hE hmix hf hb hname (fun vs' cs' r' hc' => ?_) (fun vs' cs' r' hc' _ _ => ?_)
    · split at hc'
      · rename_i e; subst e; exact hl
      · cases hc'
    · split at hc'
      · rename_i e; subst e; cases hc'; exact hW.run
      · cases hc'
  exact key vs cs r (if_pos rfl) hcs hwf w hG args hargs

/-- An argument of which nothing but its value is known. -/
def symV : AV → AV
  | .int k n => .int k (.sym n.val)
  | .bool b => .bool (.sym b.val)
  | x => x
theorem symV_arg {w : World} {x : AV} {v : Value} (h : ArgR w x v) : ArgR w (symV x) v := by
  cases x <;> exact h
theorem symV_wf {x : AV} (h : wfV x) : wfV (symV x) := by
  cases x <;> exact h
theorem symV_all {w : World} : ∀ {vs : List AV} {args : List Value}, All2 (ArgR w) vs args → All2 (ArgR w) (vs.map symV) args
  | [], [], _ => trivial
  | _ :: _, _ :: _, h => ⟨symV_arg h.1, symV_all h.2⟩
  | [], _ :: _, h => h.elim
  | _ :: _, [], h => h.elim

/-- The same, where of the arguments nothing but their values is known. -/
theorem sound_sym {G : Nat → AV} (hmix : P.follows .mixedOrders = true) {f : FuncId} {fn : Func} (hf : P.funcs[f]? = some fn) {n : Nat} {rs : List ResultVar} {sc : SC} (hn : fn.ntmps = n) (hrs : fn.results.toList = rs) (hb : fn.body.isNone = false)
    (hname : (fn.name == "runtime.NumGoroutine") = false) (hsc : strip (body fn) = sc) {c : Contract}
    (h : ∀ vs cs r, c vs = some (cs, r) → vs.length ≤ n ∧ ((∀ p ∈ cs, p) → (∀ x ∈ vs, wfV x) → ∃ E : Env, EnvOK P E ∧ E.glob = G ∧ Walk E sc n rs (vs.map symV) r)) : Sound P G f c := by
  intro vs cs r hc hcs hwf w hG args hargs
  obtain ⟨hl, hw⟩ := h vs cs r hc
  obtain ⟨E, hE, hg, hW⟩ := hw hcs hwf
  subst hg
  subst hn; subst hrs; subst hsc
  classical
  have key : Sound P E.glob f (fun vs' => if vs' = vs.map symV then some (cs, r) else none) := by
    refine sound_of hE hmix hf hb hname (fun vs' cs' r' hc' => ?_) (fun vs' cs' r' hc' _ _ => ?_)
    · split at hc'
      · rename_i e; subst e; simpa using hl
      · cases hc'
    · split at hc'
      · rename_i e; subst e; cases hc'; exact hW.run
      · cases hc'
  refine key (vs.map symV) cs r (if_pos rfl) hcs (fun x hx => ?_) w hG args (symV_all hargs)
  obtain ⟨y, hy, rfl⟩ := List.mem_map.1 hx
  exact symV_wf (hwf y hy)

/-! An environment out of lists. -/

def lookT : List (TypeId × TI) → TypeId → TI
  | [], _ => ⟨.other, 0, .u8, false⟩
  | (u, i) :: l, t => if t = u then i else lookT l t
def lookC : List (FuncId × Contract) → FuncId → Contract
  | [], _ => fun _ => none
  | (u, i) :: l, t => if t = u then i else lookC l t
def lookL : List (Nat × Ann) → Nat → Ann
  | [], _ => .unroll 300
  | (u, i) :: l, t => if t = u then i else lookL l t

def mkEnv (A : Ops) (T : List (TypeId × TI)) (G : Nat → AV) (C : List (FuncId × Contract)) (L : List (Nat × Ann)) : Env :=
  { A := A, ty := lookT T, glob := G, call := lookC C, loops := lookL L }

/-- Each contract of a list holds. -/
inductive AllSound (P : Program) (glob : Nat → AV) : List (FuncId × Contract) → Prop
  | nil : AllSound P glob []
  | cons {f : FuncId} {c : Contract} {l : List (FuncId × Contract)} (h : Sound P glob f c) (hl : AllSound P glob l) : AllSound P glob ((f, c) :: l)

structure TabOK (P : Program) (T : List (TypeId × TI)) : Prop where
  ty : ∀ p ∈ T, TyOK P p.2 p.1
  eq : ∀ p ∈ T, p.2.eq = true → EqOK P p.2 p.1

theorem envOK {T : List (TypeId × TI)} {G : Nat → AV} {C : List (FuncId × Contract)} {L : List (Nat × Ann)} (hT : TabOK P T) (hC : AllSound P G C) : EnvOK P (mkEnv realOps T G C L) := by
  refine ⟨rfl, fun t => ?_, fun t => ?_, fun f => ?_⟩
  · have : ∀ l : List (TypeId × TI), (∀ p ∈ l, TyOK P p.2 p.1) → TyOK P (lookT l t) t := by
      intro l
      induction l with
      | nil => intro _; trivial
      | cons p l ih =>
        intro h
        obtain ⟨u, i⟩ := p
        simp only [lookT]
        split
        · rename_i e; subst e; exact h (t, i) (by simp)
        · exact ih fun q hq => h q (by simp [hq])
    exact this T hT.ty
  · have : ∀ l : List (TypeId × TI), (∀ p ∈ l, p.2.eq = true → EqOK P p.2 p.1) → (lookT l t).eq = true → EqOK P (lookT l t) t := by
      intro l
      induction l with
      | nil => intro _ h; cases h
      | cons p l ih =>
        intro h
        obtain ⟨u, i⟩ := p
        simp only [lookT]
        split
        · rename_i e; subst e; exact h (t, i) (by simp)
        · exact ih fun q hq => h q (by simp [hq])
    exact this T hT.eq
  · show Sound P G f (lookC C f)
    induction hC with
    | nil => intro vs cs r h; cases h
    | cons h _ ih =>
      simp only [lookC]
      split
      · rename_i e; subst e; exact h
      · exact ih

/-- The table's look at the program. -/
def tabChk (P : Program) (T : List (TypeId × TI)) : Bool := T.all fun p => tyChk P p.2 p.1 && (!p.2.eq || (eqChk P 20 p.1 p.2.k p.2.sz && !isIntTy P p.1 && !P.eqGuardType P.depth p.1))

theorem tabOK_of {T : List (TypeId × TI)} (h : tabChk P T = true) : TabOK P T := by
  simp only [tabChk, List.all_eq_true, Bool.and_eq_true, Bool.or_eq_true, Bool.not_eq_true'] at h
  refine ⟨fun p hp => tyChk_ok (h p hp).1, fun p hp he => ?_⟩
  rcases (h p hp).2 with h1 | ⟨⟨h1, h2⟩, h3⟩
  · rw [he] at h1; cases h1
  · exact eqOK_of h1 h2 h3
end
end Sx
