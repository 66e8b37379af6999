/-
  Whole statements, in whatever order their operations come.
-/
import Derived.Test.YtnfbjfbndnmhmaaSxI
namespace Sx
open Go Go.RowKit

section
variable {E : Env} {S S' : St}

/-- What the statement's own look at its text says of an operation. -/
structure Fit (o : SOp) : Prop where
  see : ∀ x ∈ o.op.operands.toList, Sees o.rd x
  gd : ∀ g ∈ gslots o.gd, g ∈ o.rd
  dst : ∀ d, o.dst = some d → d ∈ o.ks

theorem exec_keys {o : SOp} (hf : Fit o) {cs : List Prop} {us : List (Nat × AV)} (h : exec E S o = some (cs, us)) : ∀ p ∈ us, p.1 ∈ o.ks := by
  unfold exec at h
  split at h
  · exact eff_keys hf.dst h
  · split at h
    · split at h
      · exact eff_keys hf.dst h
      · split at h
        · rename_i d hd
          cases h; intro p hp; simp at hp; subst hp; exact hf.dst _ hd
        · cases h; intro p hp; simp at hp
    · split at h
      · rename_i d cs1 x v hd _
        split at h
        · cases h; intro p hp; simp at hp; subst hp; exact hf.dst _ hd
        · cases h
      · cases h
    · cases h

theorem exec_nr {d : Nat} {o : SOp} (hf : Fit o) (H : noRef d S) (hd : d ∉ o.rd) {cs : List Prop} {us : List (Nat × AV)} (h : exec E S o = some (cs, us)) : ∀ p ∈ us, nr d p.2 := by
  unfold exec at h
  split at h
  · exact eff_nr H hd hf.see h
  · split at h
    · split at h
      · exact eff_nr H hd hf.see h
      · split at h
        · cases h; intro p hp; simp at hp; subst hp; trivial
        · cases h; intro p hp; simp at hp
    · split at h
      · rename_i d' cs1 x v _ he
        split at h
        · cases h; intro p hp; simp at hp; subst hp
          have := eff_nr H hd hf.see he (x, v) (by simp)
          exact this
        · cases h
      · cases h
    · cases h

/-- What is laid behind a guard is laid behind this operation's own. -/
theorem exec_when {o : SOp} {cs : List Prop} {us : List (Nat × AV)} (h : exec E S o = some (cs, us)) : ∀ p ∈ us, ∀ g b v, p.2 = .when g b v → g ∈ gslots o.gd := by
  have hb : ∀ {gd : Gd} {cs : List Prop} {us : List (Nat × AV)}, eff E gd S o = some (cs, us) → ∀ p ∈ us, ∀ g b v, p.2 = .when g b v → g ∈ gslots o.gd := by
    intro gd cs us h p hp g b v e
    have := eff_bare h p hp
    rw [e] at this
    cases this
  unfold exec at h
  split at h
  · exact hb h
  · rename_i g0 want hgd
    split at h
    · split at h
      · exact hb h
      · split at h
        · cases h; intro p hp g b v e; simp at hp; subst hp; cases e
        · cases h; intro p hp; simp at hp
    · split at h
      · rename_i d' cs1 x v _ he
        split at h
        · cases h; intro p hp g b v' e; simp at hp; subst hp; cases e; rw [hgd]; simp [gslots]
        · cases h
      · cases h
    · cases h

theorem get_app_ne : ∀ (us : List (Nat × AV)) (S : St) (i : Nat), i ∉ us.map Prod.fst → get (app us S) i = get S i
  | [], _, _, _ => rfl
  | (k, v) :: us, S, i, h => by
    simp only [List.map_cons, List.mem_cons, not_or] at h
    rw [app, get_app_ne us _ i h.2, get_set_ne (fun e => h.1 e.symm)]

theorem get_app : ∀ (us : List (Nat × AV)) (S : St) (i : Nat), get (app us S) i = get S i ∨ ∃ p ∈ us, p.1 = i ∧ get (app us S) i = p.2
  | [], _, _ => .inl rfl
  | (k, v) :: us, S, i => by
    rw [app]
    rcases get_app us (S.set k v) i with h | ⟨p, hp, h1, h2⟩
    · by_cases hk : i = k ∧ i < S.length
      · rw [get_set, if_pos hk] at h
        exact .inr ⟨(k, v), by simp, hk.1.symm, h⟩
      · rw [get_set, if_neg hk] at h
        exact .inl h
    · exact .inr ⟨p, by simp [hp], h1, h2⟩

theorem app_set : ∀ (us : List (Nat × AV)) (S : St) (k : Nat) (v : AV), k ∉ us.map Prod.fst → app us (S.set k v) = (app us S).set k v
  | [], _, _, _, _ => rfl
  | (j, u) :: us, S, k, v, h => by
    simp only [List.map_cons, List.mem_cons, not_or] at h
    rw [app, app, List.set_comm _ _ h.1, app_set us _ k v h.2]

theorem app_comm : ∀ (us vs : List (Nat × AV)) (S : St), (∀ x ∈ us.map Prod.fst, x ∉ vs.map Prod.fst) → app us (app vs S) = app vs (app us S)
  | [], _, _, _ => rfl
  | (j, u) :: us, vs, S, h => by
    rw [app, app, ← app_set vs S j u (h j (by simp)), app_comm us vs _ (fun x hx => h x (by simp at hx ⊢; exact .inr hx))]

/-- A schedule carried out on the descriptions. -/
noncomputable def runI (E : Env) (l : List SOp) : List Nat → St → Option (List Prop × St)
  | [], S => some ([], S)
  | i :: L, S =>
    match l[i]? with
    | none => none
    | some o =>
      match exec E S o with
      | some (cs, us) =>
        (match runI E l L (app us S) with
        | some (cs', S') => some (cs ++ cs', S')
        | none => none)
      | none => none

theorem run_runI (l : List SOp) : ∀ (k : Nat) (S : St), k ≤ l.length → run E (l.drop k) S = runI E l ((List.range l.length).drop k) S := by
  intro k
  generalize hn : l.length - k = n
  induction n generalizing k with
  | zero =>
    intro S hk
    rw [List.drop_eq_nil_of_le (by omega), List.drop_eq_nil_of_le (by simp; omega)]
    rfl
  | succ n ih =>
    intro S hk
    have hlt : k < l.length := by omega
    have e1 : (List.range l.length).drop k = k :: (List.range l.length).drop (k + 1) := by
      rw [List.drop_eq_getElem_cons (by simpa using hlt)]; simp
    rw [List.drop_eq_getElem_cons hlt, e1]
    simp only [run, runI, List.getElem?_eq_getElem hlt]
    cases he : exec E S l[k] with
    | none => rfl
    | some r =>
      obtain ⟨cs, us⟩ := r
      simp only
      rw [ih (k + 1) (by omega) _ (by omega)]
      cases runI E l ((List.range l.length).drop (k + 1)) (app us S) <;> rfl

theorem disj_iff {a b : List Nat} : disj a b = true ↔ ∀ x ∈ a, x ∉ b := by
  simp [disj]

/-- Two operations that are apart: either may come first. -/
theorem swap {l : List SOp} {i j : Nat} {oi oj : SOp} (hi : l[i]? = some oi) (hj : l[j]? = some oj) (fi : Fit oi) (fj : Fit oj) (ha : apart oj oi = true) {L : List Nat} {cs : List Prop} {Sf : St}
    (h : runI E l (j :: i :: L) S = some (cs, Sf)) : ∃ cs', runI E l (i :: j :: L) S = some (cs', Sf) ∧ ∀ p, p ∈ cs' ↔ p ∈ cs := by
  simp only [apart, Bool.and_eq_true, disj_iff] at ha
  obtain ⟨ha1, ha2⟩ := ha
  simp only [runI, hi, hj] at h ⊢
  split at h
  · rename_i cj uj ej
    split at h
    · rename_i c2 S2 e2
      split at e2
      · rename_i ci ui ei
        split at e2
        · rename_i c3 S3 e3
          simp only [Option.some.injEq, Prod.mk.injEq] at e2 h
          obtain ⟨rfl, rfl⟩ := e2
          obtain ⟨rfl, rfl⟩ := h
          have kj := exec_keys fj ej
          have ei' : exec E S oi = some (ci, ui) := by
            rw [← ei]
            refine exec_local (fun x hx => ?_) fi.see fi.gd
            rw [get_app_ne]
            intro hm
            obtain ⟨p, hp, rfl⟩ := List.mem_map.1 hm
            exact ha1 _ (kj p hp) (List.mem_append_left _ hx)
          have ki := exec_keys fi ei'
          have ej' : exec E (app ui S) oj = some (cj, uj) := by
            rw [← ej]
            refine exec_local (fun x hx => ?_) fj.see fj.gd
            rw [get_app_ne]
            intro hm
            obtain ⟨p, hp, rfl⟩ := List.mem_map.1 hm
            exact ha2 _ (ki p hp) hx
          have hc : app uj (app ui S) = app ui (app uj S) := by
            refine app_comm uj ui S (fun x hx hx2 => ?_)
            obtain ⟨p, hp, rfl⟩ := List.mem_map.1 hx
            obtain ⟨q, hq, hq2⟩ := List.mem_map.1 hx2
            have h1 := kj p hp
            have h2 := ki q hq
            rw [hq2] at h2
            exact ha1 _ h1 (List.mem_append_right _ h2)
          refine ⟨ci ++ (cj ++ c3), ?_, fun p => ?_⟩
          · rw [ei']
            simp only
            rw [ej']
            simp only
            rw [hc, e3]
          · simp only [List.mem_append]
            constructor <;> (intro h; rcases h with h | h | h <;> simp [h])
        · cases e2
      · cases e2
    · cases h
  · cases h

theorem runI_cons {l : List SOp} {i : Nat} {L : List Nat} {cs : List Prop} {Sf : St} (h : runI E l (i :: L) S = some (cs, Sf)) :
    ∃ o c us c', l[i]? = some o ∧ exec E S o = some (c, us) ∧ runI E l L (app us S) = some (c', Sf) ∧ cs = c ++ c' := by
  simp only [runI] at h
  split at h
  · cases h
  · rename_i o ho
    split at h
    · rename_i c us he
      split at h
      · rename_i c' S2 e2
        cases h
        exact ⟨o, c, us, c', ho, he, e2, rfl⟩
      · cases h
    · cases h

/-- The first of a schedule may be any that is apart from those ahead of it. -/
theorem pull {l : List SOp} (fit : ∀ (i : Nat) (o : SOp), l[i]? = some o → Fit o) {i : Nat} {L2 : List Nat} : ∀ (L1 : List Nat) (S : St) (cs : List Prop) (Sf : St),
    (∀ j ∈ L1, ∀ (oj oi : SOp), l[j]? = some oj → l[i]? = some oi → apart oj oi = true) → runI E l (L1 ++ i :: L2) S = some (cs, Sf) →
    ∃ cs', runI E l (i :: (L1 ++ L2)) S = some (cs', Sf) ∧ ∀ p, p ∈ cs' ↔ p ∈ cs
  | [], S, cs, Sf, _, h => ⟨cs, h, fun _ => Iff.rfl⟩
  | j :: L1, S, cs, Sf, ha, h => by
    obtain ⟨oj, c, us, c', hj, he, hr, rfl⟩ := runI_cons h
    obtain ⟨c2, h2, hp2⟩ := pull fit L1 _ _ _ (fun k hk => ha k (by simp [hk])) hr
    have h3 : runI E l (j :: i :: (L1 ++ L2)) S = some (c ++ c2, Sf) := by
      rw [runI, hj]
      simp only [he, h2]
    obtain ⟨oi, _, _, _, hi, _, _, _⟩ := runI_cons h2
    obtain ⟨c4, h4, hp4⟩ := swap hi hj (fit i oi hi) (fit j oj hj) (ha j (by simp) oj oi hj hi) h3
    refine ⟨c4, h4, fun p => ?_⟩
    rw [hp4, List.mem_append, List.mem_append, hp2]

theorem freshOk_get : ∀ {l : List SOp}, freshOk l = true → ∀ (i j : Nat) (oi oj : SOp), i < j → l[i]? = some oi → l[j]? = some oj →
    (makes oj.op = true → ∀ d ∈ oj.ks, d ∉ oi.rd ++ oi.ks) ∧ ∀ g ∈ gslots oi.gd, g ∉ oj.ks
  | [], _, i, j, oi, oj, _, hi, _ => by simp at hi
  | r :: l, h, i, j, oi, oj, hij, hi, hj => by
    simp only [freshOk, Bool.and_eq_true, List.all_eq_true, Bool.or_eq_true, Bool.not_eq_true', disj_iff] at h
    cases i with
    | zero =>
      simp only [List.getElem?_cons_zero, Option.some.injEq] at hi
      subst hi
      obtain ⟨k, rfl⟩ : ∃ k, j = k + 1 := ⟨j - 1, by omega⟩
      simp only [List.getElem?_cons_succ] at hj
      have hm := h.1.1 oj (List.mem_of_getElem? hj)
      refine ⟨fun hmk => ?_, hm.2⟩
      rcases hm.1 with h1 | h1
      · rw [hmk] at h1; cases h1
      · exact h1
    | succ i =>
      obtain ⟨k, rfl⟩ : ∃ k, j = k + 1 := ⟨j - 1, by omega⟩
      simp only [List.getElem?_cons_succ] at hi hj
      exact freshOk_get h.2 i k oi oj (by omega) hi hj

theorem freshOk_own : ∀ {l : List SOp}, freshOk l = true → ∀ (i : Nat) (o : SOp), l[i]? = some o → ∀ g ∈ gslots o.gd, g ∉ o.ks
  | [], _, i, o, hi => by simp at hi
  | r :: l, h, i, o, hi => by
    simp only [freshOk, Bool.and_eq_true, disj_iff] at h
    cases i with
    | zero =>
      simp only [List.getElem?_cons_zero, Option.some.injEq] at hi
      subst hi
      exact h.1.2
    | succ i =>
      simp only [List.getElem?_cons_succ] at hi
      exact freshOk_own h.2 i o hi

/-- What must hold of the slots while the operations L are still to come. -/
structure Inv (l : List SOp) (L : List Nat) (S : St) : Prop where
  ref : ∀ j ∈ L, ∀ (o : SOp), l[j]? = some o → makes o.op = true → ∀ d ∈ o.ks, noRef d S
  when : ∀ j ∈ L, ∀ (o : SOp), l[j]? = some o → ∀ d ∈ o.ks, noWhen d S

theorem Inv.step {l : List SOp} {L : List Nat} (I : Inv l L S) (hfresh : freshOk l = true) {i : Nat} {oi : SOp} (hi : l[i]? = some oi) (fi : Fit oi) {L' : List Nat} (hsub : ∀ j ∈ L', j ∈ L ∧ j ≠ i)
    (hord : ∀ j ∈ L', j < i → ∀ (oj : SOp), l[j]? = some oj → apart oj oi = true) {cs : List Prop} {us : List (Nat × AV)} (he : exec E S oi = some (cs, us)) : Inv l L' (app us S) := by
  refine ⟨fun j hj o ho hm d hd => ?_, fun j hj o ho d hd => ?_⟩
  · obtain ⟨hj1, hj2⟩ := hsub j hj
    have hnd : d ∉ oi.rd := by
      rcases Nat.lt_or_gt_of_ne hj2 with h | h
      · have := hord j hj h o ho
        simp only [apart, Bool.and_eq_true, disj_iff] at this
        intro hx
        exact this.1 d hd (List.mem_append_left _ hx)
      · have := (freshOk_get hfresh i j oi o h hi ho).1 hm d hd
        exact fun hx => this (List.mem_append_left _ hx)
    have h0 := I.ref j hj1 o ho hm d hd
    intro k
    rcases get_app us S k with h | ⟨p, hp, _, h2⟩
    · rw [h]; exact h0 k
    · rw [h2]; exact exec_nr fi h0 hnd he p hp
  · obtain ⟨hj1, hj2⟩ := hsub j hj
    have h0 := I.when j hj1 o ho d hd
    intro k g b v hk
    rcases get_app us S k with h | ⟨p, hp, _, h2⟩
    · rw [h] at hk; exact h0 k g b v hk
    · rw [h2] at hk
      have hg := exec_when he p hp g b v hk
      intro e
      subst e
      rcases Nat.lt_or_gt_of_ne hj2 with h | h
      · have := hord j hj h o ho
        simp only [apart, Bool.and_eq_true, disj_iff] at this
        exact this.1 g hd (List.mem_append_left _ (fi.gd g hg))
      · exact (freshOk_get hfresh i j oi o h hi ho).2 g hg hd

theorem pairsOk_get (i : Nat) (r : SOp) (mm : Nat) : ∀ (l : List SOp) (j0 : Nat), pairsOk i r mm j0 l = true → ∀ (k : Nat) (o : SOp), l[k]? = some o → j0 + k < i → mm.testBit (j0 + k) = true ∨ apart o r = true
  | [], _, _, k, o, hk, _ => by simp at hk
  | r' :: l, j0, h, k, o, hk, hlt => by
    simp only [pairsOk, Bool.and_eq_true] at h
    cases k with
    | zero =>
      simp only [List.getElem?_cons_zero, Option.some.injEq] at hk
      subst hk
      simp only [Nat.add_zero] at hlt ⊢
      have := h.1
      rw [if_pos hlt] at this
      simpa using this
    | succ k =>
      simp only [List.getElem?_cons_succ] at hk
      have := pairsOk_get i r mm l (j0 + 1) h.2 k o hk (by omega)
      have e : j0 + 1 + k = j0 + (k + 1) := by omega
      rwa [e] at this

theorem drawOk_get (ops : List Oper) (ms : List Nat) (all : List SOp) : ∀ (l : List SOp) (i0 : Nat), drawOk ops ms all i0 l = true → ∀ (k : Nat) (o : SOp), l[k]? = some o →
    (∀ (j : Nat) (oj : SOp), all[j]? = some oj → j < i0 + k → (ms.getD (i0 + k) 0).testBit j = true ∨ apart oj o = true) ∧ ∀ j ∈ preds (ops.getD (i0 + k) default), j < i0 + k
  | [], _, _, k, o, hk => by simp at hk
  | r :: l, i0, h, k, o, hk => by
    simp only [drawOk, Bool.and_eq_true, List.all_eq_true, decide_eq_true_eq] at h
    cases k with
    | zero =>
      simp only [List.getElem?_cons_zero, Option.some.injEq] at hk
      subst hk
      refine ⟨fun j oj hj hlt => ?_, h.1.2⟩
      have := pairsOk_get _ _ _ all 0 h.1.1 j oj hj (by omega)
      simpa using this
    | succ k =>
      simp only [List.getElem?_cons_succ] at hk
      have := drawOk_get ops ms all l (i0 + 1) h.2 k o hk
      have e : i0 + 1 + k = i0 + (k + 1) := by omega
      rwa [e] at this

theorem fold_bits (acc : List Nat) : ∀ (ps : List Nat) (s k : Nat), (ps.foldl (fun s j => s ||| ((1 <<< j) ||| acc.getD j 0)) s).testBit k = true → s.testBit k = true ∨ ∃ j ∈ ps, k = j ∨ (acc.getD j 0).testBit k = true
  | [], s, k, h => .inl h
  | j :: ps, s, k, h => by
    simp only [List.foldl_cons] at h
    rcases fold_bits acc ps _ k h with h1 | ⟨e, he, h1⟩
    · simp only [Nat.testBit_or, Bool.or_eq_true, Nat.one_shiftLeft, Nat.testBit_two_pow, decide_eq_true_eq] at h1
      rcases h1 with h1 | h1 | h1
      · exact .inl h1
      · exact .inr ⟨j, by simp, .inl h1.symm⟩
      · exact .inr ⟨j, by simp, .inr h1⟩
    · exact .inr ⟨e, by simp [he], h1⟩

/-- A bit of the closure: an operation asked for, or one that such a one asks for. -/
theorem closure_get : ∀ (l : List Oper) (acc : List Nat) (i : Nat), acc.length ≤ i → i < acc.length + l.length → ∀ k, ((closure acc l).getD i 0).testBit k = true →
    ∃ j ∈ preds (l.getD (i - acc.length) default), k = j ∨ (((closure acc l).getD j 0).testBit k = true ∧ j < i)
  | [], acc, i, h1, h2, _, _ => by simp at h2; omega
  | o :: l, acc, i, h1, h2, k, hk => by
    have pre : ∀ (l : List Oper) (acc : List Nat) (j : Nat), j < acc.length → (closure acc l).getD j 0 = acc.getD j 0 := by
      intro l
      induction l with
      | nil => intro acc j _; rfl
      | cons o l ih =>
        intro acc j hj
        rw [closure, ih _ j (by simp; omega)]
        simp [List.getElem?_append_left hj]
    rw [closure] at hk ⊢
    rcases Nat.lt_or_ge acc.length i with h | h
    · have := closure_get l (acc ++ [(preds o).foldl (fun s j => s ||| ((1 <<< j) ||| acc.getD j 0)) 0]) i (by simp; omega) (by simp at h2 ⊢; omega) k hk
      simp only [List.length_append, List.length_cons, List.length_nil] at this
      have e : i - acc.length = (i - (acc.length + (0 + 1))) + 1 := by omega
      rw [e]
      simpa using this
    · have hia : i = acc.length := by omega
      subst hia
      rw [pre l _ _ (by simp)] at hk
      simp only [List.getD_eq_getElem?_getD, List.getElem?_append_right (Nat.le_refl _), Nat.sub_self, List.getElem?_cons_zero, Option.getD_some] at hk
      simp only [Nat.sub_self, List.getD_eq_getElem?_getD, List.getElem?_cons_zero, Option.getD_some]
      rcases fold_bits acc (preds o) 0 k hk with h3 | ⟨j, hj, h3⟩
      · simp at h3
      · refine ⟨j, hj, ?_⟩
        rcases h3 with h3 | h3
        · exact .inl h3
        · have hjl : j < acc.length := by
            rcases Nat.lt_or_ge j acc.length with h4 | h4
            · exact h4
            · simp [List.getElem?_eq_none h4] at h3
          refine .inr ⟨?_, hjl⟩
          have := pre l (acc ++ [(preds o).foldl (fun s j => s ||| ((1 <<< j) ||| acc.getD j 0)) 0]) j (by simp; omega)
          simp only [List.getD_eq_getElem?_getD] at this h3 ⊢
          rw [this, List.getElem?_append_left hjl]
          exact h3

/-! The look at the text of a statement. -/

theorem foot_get (ops : List Oper) : ∀ (l : List Oper) (rm : RM) (r : List SOp), foot ops rm l = some r → r.length = l.length ∧ ∀ (i : Nat) (o : Oper) (so : SOp), l[i]? = some o → r[i]? = some so →
    so.op = o.op ∧ so.dst = o.dst ∧ gslot ops o = some so.gd ∧ (∀ g ∈ gslots so.gd, g ∈ so.rd) ∧ (∀ t ∈ tmpsOf o, t ∈ so.rd) ∧ (∀ d, o.dst = some d → d ∈ so.ks)
  | [], rm, r, h => by
    simp only [foot] at h
    cases h
    exact ⟨rfl, fun i o so hi => by simp at hi⟩
  | o :: l, rm, r, h => by
    simp only [foot] at h
    split at h
    · cases h
    · rename_i gd hgd
      split at h
      · rename_i r' hr
        cases h
        obtain ⟨h1, h2⟩ := foot_get ops l _ r' hr
        refine ⟨by simp [h1], fun i o' so hi hso => ?_⟩
        cases i with
        | zero =>
          simp only [List.getElem?_cons_zero, Option.some.injEq] at hi hso
          subst hi
          subst hso
          refine ⟨rfl, rfl, hgd, fun g hg => List.mem_append_left _ hg, fun t ht => List.mem_append_right _ (List.mem_append_left _ ht), fun d hd => ?_⟩
          simp [hd]
        | succ i =>
          simp only [List.getElem?_cons_succ] at hi hso
          exact h2 i o' so hi hso
      · cases h

theorem mem_tmpsOf {o : Oper} {t : Nat} (h : Operand.tmp t ∈ o.op.operands.toList) : t ∈ tmpsOf o := by
  unfold tmpsOf
  rw [List.mem_filterMap]
  exact ⟨_, h, rfl⟩

/-- A statement made ready: what it says of each operation. -/
structure Ready (ops : Array Oper) (l : List SOp) : Prop where
  len : l.length = ops.size
  get : ∀ (i : Nat) (o : Oper) (so : SOp), ops[i]? = some o → l[i]? = some so → so.op = o.op ∧ so.dst = o.dst ∧ gslot ops.toList o = some so.gd ∧ (∀ x ∈ o.op.operands.toList, constOk x = true)
  fit : ∀ (i : Nat) (so : SOp), l[i]? = some so → Fit so
  fresh : freshOk l = true

theorem regOf_ready {ops : Array Oper} {draw : Bool} {l : List SOp} (h : regOf ops.toList draw = some l) : Ready ops l ∧ (draw = true → drawOk ops.toList (closure [] ops.toList) l 0 l = true) := by
  unfold regOf at h
  split at h
  · rename_i l' hf
    split at h
    · rename_i hc
      cases h
      simp only [Bool.and_eq_true, Bool.or_eq_true, Bool.not_eq_true', List.all_eq_true] at hc
      obtain ⟨⟨hco, hfr⟩, hdr⟩ := hc
      obtain ⟨h1, h2⟩ := foot_get _ _ _ _ hf
      have hlen : l.length = ops.size := by simpa using h1
      refine ⟨⟨hlen, fun i o so hi hso => ?_, fun i so hso => ?_, hfr⟩, fun hd => ?_⟩
      · obtain ⟨g1, g2, g3, _⟩ := h2 i o so (by simpa using hi) hso
        refine ⟨g1, g2, g3, fun x hx => ?_⟩
        have := hco o (List.mem_of_getElem? (by simpa using hi))
        have h3 := Array.all_eq_true'.1 this x (by simpa using hx)
        exact h3
      · have hlt : i < l.length := by
          rcases Nat.lt_or_ge i l.length with h | h
          · exact h
          · simp [List.getElem?_eq_none h] at hso
        obtain ⟨o, hlo⟩ : ∃ o, ops[i]? = some o := ⟨_, Array.getElem?_eq_getElem (by omega)⟩
        obtain ⟨g1, g2, g3, g4, g5, g6⟩ := h2 i o so (by simpa using hlo) hso
        refine ⟨fun x hx t ht => ?_, g4, fun d hd => g6 d (by rw [← g2]; exact hd)⟩
        subst ht
        rw [g1] at hx
        exact g5 t (mem_tmpsOf hx)
      · rcases hdr with h | h
        · rw [hd] at h; cases h
        · exact h
    · cases h
  · cases h

/-! What the slots forget ahead of a statement. -/

theorem get_kill (D : List Nat) : ∀ (S : St) (i : Nat), get (kill D S) i = kill1 D (get S i)
  | [], i => by simp [kill, get, kill1]
  | v :: S, i => by
    cases i with
    | zero => simp [kill, get]
    | succ i =>
      have := get_kill D S i
      simp only [get, kill, List.getD_cons_succ] at this ⊢
      exact this

theorem length_kill (D : List Nat) : ∀ S : St, (kill D S).length = S.length
  | [] => rfl
  | _ :: S => by simp [kill, length_kill D S]

theorem kill1_cases (D : List Nat) (v : AV) : kill1 D v = .junk ∨ (kill1 D v = v ∧ bare v = true) := by
  unfold kill1
  split
  · exact .inl rfl
  · split
    · exact .inl rfl
    · exact .inr ⟨rfl, rfl⟩
  · split
    · exact .inl rfl
    · exact .inr ⟨rfl, rfl⟩
  · split
    · exact .inl rfl
    · exact .inr ⟨rfl, rfl⟩
  · rename_i h1 h2 h3 h4
    refine .inr ⟨rfl, ?_⟩
    cases v <;> first | rfl | exact absurd rfl (h1 _ _ _)

/-- The slots' descriptions may say less. -/
theorem Rel.kill {w0 : World} {m : M} {a : Act} {w : World} (R : Rel w0 m S a w) (D : List Nat) : Rel w0 m (Sx.kill D S) a w := by
  have own : ∀ i (x : AV), x ≠ .junk → get (Sx.kill D S) i = x → get S i = x := by
    intro i x hj hi
    rw [get_kill] at hi
    rcases kill1_cases D (get S i) with h | ⟨h, _⟩
    · rw [h] at hi; exact absurd hi.symm hj
    · rw [h] at hi; exact hi
  refine ⟨R.defers, by rw [length_kill]; exact R.size, R.below, ?_, ?_, ?_, ?_⟩
  · intro i hi
    rw [length_kill] at hi
    have h0 := R.vals i hi
    rw [get_kill]
    rcases kill1_cases D (get S i) with h | ⟨h, hb⟩
    · rw [h]; exact ⟨trivial, trivial⟩
    · rw [h]
      unfold OKV at h0 ⊢
      split
      · rename_i g b y he; rw [he] at hb; cases hb
      · rename_i hne
        revert h0
        split
        · rename_i g b y he; exact absurd he (hne g b y)
        · exact id
  · exact fun i x hi => R.blks i x (own i _ (by simp) hi)
  · exact fun i j x y hi hj => R.inj i j x y (own i _ (by simp) hi) (own j _ (by simp) hj)
  · exact fun i k es len cap f hi => R.xsls i k es len cap f (own i _ (by simp) hi)

theorem kill_noRef {D : List Nat} {d : Nat} (hd : d ∈ D) : noRef d (kill D S) := by
  intro i
  rw [get_kill]
  unfold kill1
  split
  · trivial
  · split
    · trivial
    · rename_i h; intro e; subst e; exact h (by simpa using hd)
  · split
    · trivial
    · rename_i h; intro e; subst e; exact h (by simpa using hd)
  · split
    · trivial
    · rename_i h; intro e; subst e; exact h (by simpa using hd)
  · rename_i h1 h2 h3 h4
    cases he : get S i <;> first | trivial | exact absurd he (h1 _ _ _) | exact absurd he (h2 _ _) | exact absurd he (h3 _ _ _ _ _) | exact absurd he (h4 _ _)

theorem kill_noWhen {D : List Nat} {d : Nat} : noWhen d (kill D S) := by
  intro i g b v hi
  rw [get_kill] at hi
  rcases kill1_cases D (get S i) with h | ⟨h, hb⟩
  · rw [h] at hi; cases hi
  · rw [h] at hi; rw [hi] at hb; cases hb
end
end Sx
