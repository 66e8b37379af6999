/-
  A part of the proof. No condition.
-/
import Derived.Test.YtjbimeigkklcmaaDoorZMB
import Derived.Test.YtjbimeigkklcmaaDoorZMA
set_option linter.unusedVariables false

namespace Sy
open Go Go.RowKit Sx
section
variable {P:Program} {H:HE} {w0:World} {m:LM} {as:List (Array Value)} {S:HS} {a:Act} {w:World}
theorem footH_get (ops:List Oper):∀ (l:List Oper) (n:Nat) (ms:List Nat) (r:List HOp),footH ops n ms l=some r→r.length=l.length∧∀ (i:Nat) (o:Oper) (so:HOp),l[i]?=some o→r[i]?=some so→so.op=o.op∧so.dst=o.dst∧gslot ops o=some so.gd∧so.m=ms.getD i 0
 | [],n,ms,r,h=>by
  simp only [footH] at h
  cases h
  exact ⟨rfl,fun i o so ho=>by simp at ho⟩
 | o :: l,n,ms,r,h=>by
  simp only [footH] at h
  split at h
  ·rename_i gd hg
   split at h
   ·rename_i r' hr
    cases h
    obtain ⟨h1,h2⟩:=footH_get ops l _ _ r' hr
    refine ⟨by simp [h1],fun i o' so ho hso=>?_⟩
    cases i with
    | zero =>
     simp only [List.getElem?_cons_zero,Option.some.injEq] at ho hso
     subst ho;subst hso
     exact ⟨rfl,rfl,hg,by cases ms <;> rfl⟩
    | succ i =>
     obtain ⟨g1,g2,g3,g4⟩:=h2 i o' so (by simpa using ho) (by simpa using hso)
     refine ⟨g1,g2,g3,?_⟩
     rw [g4]
     cases ms <;> simp
   ·cases h
  ·cases h
theorem closure_lt (ops:List Oper) (h:∀ i,i<ops.length→∀ j ∈ preds (ops.getD i default),j<i):∀ i,i<ops.length→∀ k,((closure [] ops).getD i 0).testBit k=true→k<i:=by
 intro i
 induction i using Nat.strongRecOn with
 | ind i ih =>
  intro hi k hk
  obtain ⟨j,hj,hor⟩:=closure_get ops [] i (by simp) (by simpa using hi) k hk
  have hlt:=h i hi j hj
  rcases hor with rfl | ⟨hb,_⟩
  ·exact hlt
  ·have:=ih j hlt (by omega) k hb
   omega
theorem any_endH (hH:HEOK P H) (G:WOK H.E w0) {ops:Array Oper} {l:List HOp} {base:Nat} (hr:ReadyH ops l) {Q:Exit→Act→World→Prop} {Sf:HS} (hQ:∀ m a w,HRel w0 m as Sf a w→Q .normal a w) {k:Nat} {l2:List HOp} (hl2:l2=l.drop k) (hk:k≤l.length)
  {listed:Array Bool} (hsz:listed.size=ops.size) (hL:∀ i,i<ops.size→(listed.getD i true=false↔k≤i)) (R:HRel w0 m as S a w) {cs:List Prop} (hrun:runD H base [] k l2 S=some (cs,Sf)) (hc:∀ p ∈ cs,p):wpAny P .any ops Q l2.length listed a w:=by
 subst hl2
 obtain ⟨fs,r1,r2,r3,_,_⟩:=runD_runI (l:=l) (l.drop k) k [] S cs Sf (fun j so hj=>by simpa using hj) hrun
 have hlen:(l.drop k).length=ops.size - k:=by rw [List.length_drop,hr.len]
 have hmem:∀ i,i ∈ List.range' k (l.drop k).length↔k≤i∧i<ops.size:=by
  intro i
  rw [List.mem_range'_1,hlen]
  have:=hr.len
  omega
 have hplt:∀ i,i<ops.toList.length→∀ j ∈ preds (ops.toList.getD i default),j<i:=by
  intro i hi j hj
  have hil:i<l.length:=by rw [hr.len];simpa using hi
  have:=(drawH_get ops.toList l l 0 hr.draw i l[i] (by simp)).2 j (by rw [Nat.zero_add];exact hj)
  omega
 have:=any_okH hH G hr (Q:=Q) (Sf:=Sf) (as:=as) (base:=base) [] 0 (fun r hr'=>by simp at hr') (fun listed' hsz' hL' m a w R'=>by
  refine ⟨?_,hQ m a w R'⟩
  apply List.eq_nil_iff_forall_not_mem.2
  intro i hi
  simp only [Region.ready,List.mem_filter,List.mem_range,Bool.and_eq_true,Bool.not_eq_true'] at hi
  have:=(hL' i hi.1).1 hi.2.1
  simp at this) (l.drop k).length (List.range' k (l.drop k).length) listed S m a w cs fs (by simp) R r1 hc r2 r3 (fun i hi=>((hmem i).1 hi).2) List.pairwise_lt_range' (fun i _ r hr'=>by simp at hr') (fun i hi=>by rw [hL i hi,hmem];simp [hi]) hsz
   (fun i hi _ his k' hk'=>⟨fun hm=>by
    have:=closure_lt ops.toList hplt i (by simpa using his) k' hk'
    have h1:=(hmem k').1 hm
    exact hi ((hmem i).2 ⟨by omega,his⟩),by simp⟩)
 rw [Nat.add_zero] at this
 exact this
theorem splitC_ok (inl:FuncId→Option HF):∀ (l:List HOp) (a:List HOp) (o:HOp) (h:HF) (xs:List Operand) (b:List HOp),splitC inl l=some (a,o,h,xs,b)→l=a ++ o :: b∧inlCall inl o=some (h,xs)
 | [],a,o,h,xs,b,hs=>by simp [splitC] at hs
 | p :: l,a,o,h,xs,b,hs=>by
  simp only [splitC] at hs
  split at hs
  ·rename_i h' as' hi
   cases hs
   exact ⟨rfl,hi⟩
  ·split at hs
   ·rename_i a' c h' as' b' hs'
    cases hs
    obtain ⟨h1,h2⟩:=splitC_ok inl l _ _ _ _ _ hs'
    exact ⟨by rw [h1];rfl,h2⟩
   ·cases hs
theorem inlCall_ok {inl:FuncId→Option HF} {o:HOp} {h:HF} {xs:List Operand} (hs:inlCall inl o=some (h,xs)):∃ c f,o.op=.call c∧c.callee=.value (.func f)∧inl f=some h∧xs=c.args.toList∧xs.length≤h.nt∧o.gd=none:=by
 unfold inlCall at hs
 split at hs
 ·rename_i c hop
  split at hs
  ·rename_i f hcal
   split at hs
   ·rename_i h' hi
    split at hs
    ·rename_i hcond
     cases hs
     refine ⟨c,f,hop,hcal,hi,rfl,?_,hcond.2.2⟩
     simp only [Array.length_toList]
     omega
    ·cases hs
   ·cases hs
  ·cases hs
 ·cases hs
theorem callOp_ok (hH:HEOK P H) (G:WOK H.E w0) (R:HRel w0 m as S a w) {inl:FuncId→Option HF} (hinl:∀ f h,inl f=some h→HSnd P H f h) {ops:Array Oper} {i:Nat} {o:Oper} {so:HOp} (ho:ops[i]?=some o) (hs:Same ops o so) {h:HF} {xs:List Operand} (hc:inlCall inl so=some (h,xs))
  {Q2:Ex→HS→Prop} (hw:wpH H h.c { fr:=S.sl :: S.fr,sl:=xs.map (opH S.sl) ++ List.replicate (h.nt - xs.length) jV,bl:=S.bl } Q2)
  {Q:Exit→Act→World→Prop} {K:Act→World→Prop} (hx:∀ id S2,¬ Q2 (.exit id) S2)
  (hr:∀ e S2,(e=Ex.normal∨e=Ex.ret)→Q2 e S2→∃ s fr v,S2.fr=s :: fr∧resH H S2 h.rs=some v∧∀ m' a' w',HRel w0 m' as { fr:=fr,sl:=setD so.dst v s,bl:=S2.bl } a' w'→K a' w'):wpOp P ops Q i K a w:=by
 obtain ⟨c,f,h1,h2,h3,rfl,h5,h6⟩:=inlCall_ok hc
 rw [hs.op] at h1
 have hng:o.guard=none:=by
  have hg:=hs.gd
  rw [h6] at hg
  unfold gslot at hg
  split at hg
  ·rename_i e;exact e
  ·split at hg <;> cases hg
 unfold wpOp
 rw [ho]
 simp only
 have hwant:Region.wanted o (yielded ops a.tmps)=true:=by unfold Region.wanted;rw [hng]
 rw [if_pos hwant]
 refine .inl (inl_ok hH G R h1 h2 (hinl f h h3) (fun x hx'=>hs.ck x ?_) hw hx ?_)
 ·rw [h1]
  simp only [Op.operands,Call.operands,Array.toList_append,List.mem_append]
  exact .inr hx'
 ·intro e S2 he hq
  obtain ⟨s,fr,v,e1,e2,e3⟩:=hr e S2 he hq
  exact ⟨s,fr,v,e1,e2,fun m' a' w' R'=>e3 m' a' w' (by rw [hs.dst];exact R')⟩
theorem regH_ok (hH:HEOK P H) (hmix:P.follows .mixedOrders=true) (G:WOK H.E w0) {inl:FuncId→Option HF} (hinl:∀ f h,inl f=some h→HSnd P H f h) (R:HRel w0 m as S a w) {id:Nat} {ops:Array Oper} {draw:Bool} {Q:Ex→HS→Prop} (h:wpH H (regH inl ops.toList draw) S Q) :
  (Code.region id ops draw).wp P (LiftH w0 as Q) a w:=by
 unfold regH at h
 split at h
 ·rename_i l hl
  obtain ⟨hlen,hget⟩:=footH_get ops.toList ops.toList 0 _ l hl
  simp only [Array.length_toList] at hlen
  split at h
  ·rename_i hchk
   simp only [Bool.and_eq_true,Bool.or_eq_true,Bool.not_eq_true'] at hchk
   obtain ⟨hck,hdr⟩:=hchk
   have hsame:∀ (i:Nat) (o:Oper) (so:HOp),ops[i]?=some o→l[i]?=some so→Same ops o so∧so.m=(closure [] ops.toList).getD i 0:=by
    intro i o so ho hso
    obtain ⟨g1,g2,g3,g4⟩:=hget i o so (by simpa using ho) hso
    refine ⟨⟨g1,g2,g3,?_⟩,g4⟩
    have:=List.all_eq_true.1 hck o (by simpa using Array.mem_of_getElem? ho)
    intro x hx
    rw [Array.all_eq_true'] at this
    exact this x (by simpa using hx)
   have hsame1:∀ (i:Nat) (so:HOp),l[i]?=some so→∃ o,ops[i]?=some o∧Same ops o so:=by
    intro i so hso
    have hlt:i<ops.size:=by
     rw [← hlen]
     exact (List.getElem?_eq_some_iff.1 hso).1
    obtain ⟨o,ho⟩:∃ o,ops[i]?=some o:=⟨_,Array.getElem?_eq_getElem hlt⟩
    exact ⟨o,ho,(hsame i o so ho hso).1⟩
   split at h
   ·-- no call is walked into
    simp only [wpH] at h
    split at h
    ·rename_i cs S' hrun
     obtain ⟨hc,hq⟩:=andAll_iff cs _ h
     cases draw with
     | false =>
      simp only [runX] at hrun
      refine wp_region ?_
      have:=runH_ok hH G (ops:=ops) (Q:=LiftH w0 as Q) (rest:=[]) (fun m a w R'=>⟨S',m,hq,R'⟩) l 0 _ m a w cs (fun j so hj=>by rw [Nat.zero_add];exact hsame1 j so hj) (reserve_rel R _) hrun hc
      rw [List.append_nil,hlen,← List.range_eq_range'] at this
      exact this
     | true =>
      simp only [runX] at hrun
      have hr:ReadyH ops l:=⟨hlen,hsame,by
       rcases hdr with h | h
       ·cases h
       ·exact h⟩
      refine wp_region_any hmix ?_
      have:=any_endH hH G hr (Q:=LiftH w0 as Q) (fun m a w R'=>⟨S',m,hq,R'⟩) (k:=0) (l2:=l) (by simp) (Nat.zero_le _) (listed:=Array.replicate ops.size false) (by simp) (fun i hi=>by simp [hi]) (drew_rel (reserve_rel R _)) hrun hc
      rw [hlen] at this
      exact this
    ·exact h.elim
   ·-- a call
    rename_i l1 o hf xs l2 hsp
    obtain ⟨hspl,hcall⟩:=splitC_ok inl l _ _ _ _ _ hsp
    split at h
    ·rename_i hph
     simp only [Bool.or_eq_true,Bool.not_eq_true'] at hph
     simp only [wpH] at h
     split at h
     ·rename_i cs S' hrun
      obtain ⟨hc,⟨hw⟩⟩:=andAll_iff cs _ h
      have hoi:l[l1.length]?=some o:=by rw [hspl];simp
      obtain ⟨oo,hoo,hso⟩:=hsame1 _ _ hoi
      have hl2:∀ (j:Nat) (so:HOp),l2[j]?=some so→l[l1.length+1+j]?=some so:=by
       intro j so hj
       rw [hspl,List.getElem?_append_right (by omega)]
       rw [show l1.length+1+j - l1.length=j+1 by omega]
       simpa using hj
      have hl1:∀ (j:Nat) (so:HOp),l1[j]?=some so→l[0+j]?=some so:=by
       intro j so hj
       rw [Nat.zero_add,hspl,List.getElem?_append_left (List.getElem?_eq_some_iff.1 hj).1]
       exact hj
      have hsz:ops.size=l1.length+(l2.length+1):=by rw [← hlen,hspl];simp
      cases draw with
      | false =>
       simp only [runX] at hrun
       refine wp_region ?_
       have:=runH_ok hH G (ops:=ops) (Q:=LiftH w0 as Q) (rest:=l1.length :: List.range' (l1.length+1) l2.length) (Sf:=S') (as:=as) ?_ l1 0 _ m a w cs (fun j so hj=>by
        have:=hsame1 _ _ (hl1 j so hj)
        rw [Nat.zero_add] at this ⊢
        exact this) (reserve_rel R _) hrun hc
       ·have e1:List.range ops.size=List.range' 0 l1.length ++ l1.length :: List.range' (l1.length+1) l2.length:=by
         rw [List.range_eq_range',hsz,← List.range'_append_1,Nat.zero_add,List.range'_succ]
        rw [e1]
        exact this
       ·intro m1 a1 w1 R1
        rw [wpOps_cons]
        refine callOp_ok hH G R1 hinl hoo hso hcall hw (fun id S2 hx=>hx) ?_
        intro e S2 he hq
        have hb:backH H false S.bl.length (l1.length+1) o.dst hf.rs l2 S2 Q:=by
         rcases he with rfl | rfl <;> exact hq
        unfold backH at hb
        split at hb
        ·rename_i s fr v e1 e2
         split at hb
         ·rename_i cs2 S3 hrun2
          obtain ⟨hc2,hq2⟩:=andAll_iff cs2 _ hb
          refine ⟨s,fr,v,e1,e2,fun m' a' w' R'=>?_⟩
          simp only [runX] at hrun2
          have:=runH_ok hH G (ops:=ops) (Q:=LiftH w0 as Q) (rest:=[]) (fun m a w R'=>⟨S3,m,hq2,R'⟩) l2 (l1.length+1) _ m' a' w' cs2 (fun j so hj=>hsame1 _ _ (hl2 j so hj)) R' hrun2 hc2
          rw [List.append_nil] at this
          exact this
         ·exact hb.elim
        ·exact hb.elim
      | true =>
       simp only [runX] at hrun
       have hr:ReadyH ops l:=⟨hlen,hsame,by
        rcases hdr with h | h
        ·cases h
        ·exact h⟩
       have hph:phased l1.length l=true:=by
        rcases hph with h | h
        ·cases h
        ·exact h
       unfold phased at hph
       rw [hoi] at hph
       simp only [Bool.and_eq_true,List.all_eq_true,List.mem_range] at hph
       obtain ⟨hph1,hph2⟩:=hph
       have hplt:∀ i,i<ops.toList.length→∀ j ∈ preds (ops.toList.getD i default),j<i:=by
        intro i hi j hj
        have hil:i<l.length:=by rw [hlen];simpa using hi
        have:=(drawH_get ops.toList l l 0 hr.draw i l[i] (by simp)).2 j (by rw [Nat.zero_add];exact hj)
        omega
       have hclt:=closure_lt ops.toList hplt
       have post:∀ r,l1.length<r→r<ops.size→∀ i,i≤l1.length→∀ so,l[r]?=some so→so.m.testBit i=true:=by
        intro r hr1 hr2 i hi so hso'
        refine hph2 so ?_ i (by omega)
        refine List.mem_of_getElem? (i:=r - (l1.length+1)) ?_
        rw [List.getElem?_drop]
        rw [show l1.length+1+(r - (l1.length+1))=r by omega]
        exact hso'
       have hmemR:∀ r,r ∈ List.range' l1.length (l2.length+1)↔l1.length≤r∧r<ops.size:=by
        intro r
        rw [List.mem_range'_1]
        omega
       have preds_iff:∀ (o:Oper) (j:Nat),j ∈ preds o↔∃ e ∈ o.after,Region.binds .any e=true∧e.on=j:=by
        intro o j
        unfold preds
        rw [List.mem_filterMap]
        constructor
        ·rintro ⟨e,he,h⟩
         split at h
         ·rename_i hb;cases h;exact ⟨e,by simpa using he,hb,rfl⟩
         ·cases h
        ·rintro ⟨e,he,hb,rfl⟩
         exact ⟨e,by simpa using he,by rw [if_pos hb]⟩
       obtain ⟨fs,r1,r2,r3,_,_⟩:=runD_runI (l:=l) l1 0 [] _ cs S' hl1 hrun
       refine wp_region_any hmix ?_
       have:=any_okH hH G hr (Q:=LiftH w0 as Q) (Sf:=S') (as:=as) (base:=S.bl.length) (List.range' l1.length (l2.length+1)) (l2.length+1) (fun r hr'=>⟨((hmemR r).1 hr').2,fun i hi hir so hso'=>by
        have hlt:i<l1.length:=by
         rcases Nat.lt_or_ge i l1.length with h | h
         ·exact h
         ·exact absurd ((hmemR i).2 ⟨h,hi⟩) hir
        obtain ⟨q1,q2⟩:=(hmemR r).1 hr'
        rcases Nat.eq_or_lt_of_le q1 with q | q
        ·subst q
         rw [hoi] at hso'
         cases hso'
         exact hph1 i hlt
        ·exact post r q q2 i (by omega) so hso'⟩) ?_ l1.length (List.range' 0 l1.length) (Array.replicate ops.size false) _ m a _ cs fs (by simp) (drew_rel (reserve_rel R _)) r1 hc r2 r3 (fun i hi=>by rw [List.mem_range'_1] at hi;omega) List.pairwise_lt_range' (fun i hi r hr'=>by rw [List.mem_range'_1] at hi;have:=(hmemR r).1 hr';omega) (fun i hi=>by
         rw [List.mem_range'_1,hmemR]
         simp [hi]
         omega) (by simp) (fun i hi hir his=>by
         exfalso
         rw [List.mem_range'_1] at hi
         rw [hmemR] at hir
         omega)
       ·rw [← hsz] at this
        exact this
       ·intro listed hlsz hL m1 a1 w1 R1
        have hkl:l1.length<ops.size:=by omega
        have lst:∀ j,j<l1.length→listed.getD j false=true:=by
         intro j hj
         have hjs:j<ops.size:=by omega
         cases hh:listed.getD j true
         ·have:=(hmemR j).1 ((hL j hjs).1 hh);omega
         ·have hl2':j<listed.size:=by rw [hlsz];exact hjs
          simp only [Array.getD_eq_getD_getElem?,Array.getElem?_eq_getElem hl2',Option.getD_some] at hh ⊢
          exact hh
        have ready:∀ i,i ∈ Region.ready .any ops listed↔i=l1.length:=by
         intro i
         simp only [Region.ready,List.mem_filter,List.mem_range,Bool.and_eq_true,Bool.not_eq_true']
         constructor
         ·rintro ⟨q1,q2,q3⟩
          have q4:=(hmemR i).1 ((hL i q1).1 q2)
          rcases Nat.eq_or_lt_of_le q4.1 with q | q
          ·exact q.symm
          ·exfalso
           obtain ⟨so,hso'⟩:∃ so,l[i]?=some so:=⟨_,List.getElem?_eq_getElem (by rw [hlen];exact q1)⟩
           obtain ⟨oo',hoo'⟩:∃ o,ops[i]?=some o:=⟨_,Array.getElem?_eq_getElem q1⟩
           -- each pred of i is listed: so it stands ahead of the call
           have hp:∀ j ∈ preds oo',j<l1.length:=by
            intro j hj
            obtain ⟨e,he,hb,rfl⟩:=(preds_iff oo' j).1 hj
            rw [hoo'] at q3
            simp only [Option.map_some,Option.getD_some,Array.all_eq_true',Bool.or_eq_true,Bool.not_eq_true'] at q3
            have hl:=(q3 e he).resolve_left (by rw [hb];simp)
            have hns:e.on<ops.size:=by
             rcases Nat.lt_or_ge e.on ops.size with h | h
             ·exact h
             ·simp [Array.getD_eq_getD_getElem?,Array.getElem?_eq_none (by rw [hlsz];exact h)] at hl
            rcases Nat.lt_or_ge e.on l1.length with h | h
            ·exact h
            ·exfalso
             have h1:=(hL e.on hns).2 ((hmemR _).2 ⟨h,hns⟩)
             have hl2':e.on<listed.size:=by rw [hlsz];exact hns
             simp only [Array.getD_eq_getD_getElem?,Array.getElem?_eq_getElem hl2',Option.getD_some] at h1 hl
             rw [h1] at hl
             cases hl
           have hb:=post i q q1 l1.length (Nat.le_refl _) so hso'
           rw [(hsame i oo' so hoo' hso').2] at hb
           obtain ⟨j,hj,hor⟩:=closure_get ops.toList [] i (by simp) (by simpa using q1) _ hb
           have hgo:ops.toList.getD (i - ([]:List Nat).length) default=oo':=by simp [List.getD_eq_getElem?_getD,hoo']
           rw [hgo] at hj
           have hjl:=hp j hj
           rcases hor with rfl | ⟨hb2,_⟩
           ·omega
           ·have:=hclt j (by simp;omega) _ hb2
            omega
         ·rintro rfl
          refine ⟨hkl,(hL _ hkl).2 ((hmemR _).2 ⟨Nat.le_refl _,hkl⟩),?_⟩
          rw [hoo]
          simp only [Option.map_some,Option.getD_some,Array.all_eq_true',Bool.or_eq_true,Bool.not_eq_true']
          intro e he
          cases hb:Region.binds .any e
          ·exact .inl rfl
          ·refine .inr (lst _ ?_)
           have hgo:ops.toList.getD l1.length default=oo:=by simp [List.getD_eq_getElem?_getD,hoo]
           exact hplt l1.length (by simpa using hkl) e.on (by rw [hgo];exact (preds_iff oo e.on).2 ⟨e,he,hb,rfl⟩)
        refine ⟨fun hnil=>?_,fun i hi=>?_⟩
        ·have:=(ready l1.length).2 rfl
         rw [hnil] at this
         cases this
        ·have:=(ready i).1 hi
         subst this
         refine callOp_ok hH G R1 hinl hoo hso hcall hw (fun id S2 hx=>hx) ?_
         intro e S2 he hq
         have hb:backH H true S.bl.length (l1.length+1) o.dst hf.rs l2 S2 Q:=by
          rcases he with rfl | rfl <;> exact hq
         unfold backH at hb
         split at hb
         ·rename_i s fr v e1 e2
          split at hb
          ·rename_i cs2 S3 hrun2
           obtain ⟨hc2,hq2⟩:=andAll_iff cs2 _ hb
           refine ⟨s,fr,v,e1,e2,fun m' a' w' R'=>?_⟩
           simp only [runX] at hrun2
           refine any_endH hH G hr (Q:=LiftH w0 as Q) (fun m a w R'=>⟨S3,m,hq2,R'⟩) (k:=l1.length+1) (l2:=l2) (by rw [hspl];simp) (by rw [hlen];omega) (by simpa using hlsz) (fun i hi=>?_) R' hrun2 hc2
           have hsl:l1.length<listed.size:=by rw [hlsz];exact hkl
           by_cases hik:i=l1.length
           ·subst hik
            simp [Array.getD_eq_getD_getElem?,hsl]
           ·have:(listed.setIfInBounds l1.length true).getD i true=listed.getD i true:=by
             simp [Array.getD_eq_getD_getElem?,Array.getElem?_setIfInBounds_ne (fun e=>hik e.symm)]
            rw [this,hL i hi,hmemR]
            omega
          ·exact hb.elim
         ·exact hb.elim
     ·exact h.elim
    ·exact h.elim
  ·exact h.elim
 ·exact h.elim
end
end Sy

namespace Sy
open Go Go.RowKit Sx
section
variable {P:Program} {H:HE} {w0:World} {m:LM} {as:List (Array Value)} {S:HS} {a:Act} {w:World}
theorem wfA_of {x:HA} {v:Value} (h:AR w0 m x v):wfA x:=by
 cases x with
 | pl y=>exact h.2.2
 | xsl k es len f=>obtain ⟨aa,c,_,_,_,_,h5⟩:=h;exact h5
 | _=>trivial
theorem wfPR_of {x:HA} {l:List Value} (h:PR w0 m x l):wfA x:=by
 cases x with
 | pl y=>exact h.2.2
 | xsl k es len f=>obtain ⟨v,_,h2,_⟩:=h;exact wfA_of h2
 | _=>trivial
theorem wfAs_of:∀ {ps:List HA} {l:List Value},CL w0 m ps l→wfAs ps
 | [],_,_=>trivial
 | _ :: _,_,⟨_,_,_,h2,h3⟩=>⟨wfPR_of h2,wfAs_of h3⟩
theorem wfAs_all:∀ {ps:List HA} {l:List Value},All2 (AR w0 m) ps l→wfAs ps
 | [],[],_=>trivial
 | _ :: _,_ :: _,⟨h1,h2⟩=>⟨wfA_of h1,wfAs_all h2⟩
 | [],_ :: _,h=>h.elim
 | _ :: _,[],h=>h.elim
theorem wfHV_of {x:HV} {v:Value} (h:VRH w0 m x v):wfHV x:=by
 cases x with
 | «at» x=>exact wfA_of h
 | mx ps=>obtain ⟨cs,_,h2⟩:=h;exact wfAs_of h2
 | tup ps=>obtain ⟨cs,_,h2⟩:=h;exact wfAs_all h2
theorem wfB_of {l:Nat} {B:HB} (h:BRH w0 m w l B):wfB B:=by
 cases B with
 | none=>trivial
 | fix ps=>obtain ⟨_,_,_,_,_,_,h4⟩:=h;exact wfAs_of h4
 | row ver k es len f=>exact h.2
 | frz k n f=>obtain ⟨_,_,_,_,_,_,h4⟩:=h;exact h4
theorem wfHS_of (R:HRel w0 m as S a w):wfHS S:=by
 have h1:∀ (l:List HV),(∀ i,i<l.length→wfHV (getV l i))→wfVs l:=by
  intro l
  induction l with
  | nil=>intro _;trivial
  | cons x l ih =>
   intro h
   refine ⟨?_,ih fun i hi=>?_⟩
   ·have:=h 0 (by simp)
    rw [getV_1] at this
    exact this
   ·have:=h (i+1) (by simpa using hi)
    rw [getV_1] at this ⊢
    exact this
 have h2:∀ (l:List HB),(∀ i,i<l.length→wfB (getB l i))→wfBs l:=by
  intro l
  induction l with
  | nil=>intro _;trivial
  | cons x l ih=>intro h;exact ⟨h 0 (by simp),ih fun i hi=>h (i+1) (by simpa using hi)⟩
 exact ⟨h1 _ fun i _=>wfHV_of (R.vals i),h2 _ fun i _=>wfB_of (R.blks i)⟩
theorem opb_ok (R:HRel w0 m as S a w) {c:Operand} {b:SB} (h:opH S.sl c=.at (.pl (.bool b))):a.eval c=.bool b.val:=by
 unfold opH at h
 split at h
 ·rename_i t
  have:=R.vals t
  rw [h] at this
  exact this.1
 ·cases h
 ·cases h;rfl
 ·cases h
 ·cases h
 ·cases h
 ·cases h
theorem getV_keep (s:List HV):∀ (ks:List Nat) (l:List HV),(∀ i,getV l i=jV∨getV l i=getV s i)→(keepF s ks l).length=l.length∧∀ i,getV (keepF s ks l) i=jV∨getV (keepF s ks l) i=getV s i
 | [],l,h=>⟨rfl,h⟩
 | k :: ks,l,h=>by
  have h2:∀ i,getV (setV l k (getV s k)) i=jV∨getV (setV l k (getV s k)) i=getV s i:=by
   intro i
   rw [setV_1,getV_set]
   split
   ·rename_i e;rw [e.1];exact .inr rfl
   ·exact h i
  obtain ⟨a,b⟩:=getV_keep s ks _ h2
  refine ⟨?_,b⟩
  simp only [keepF]
  rw [a,setV_1,List.length_set]
theorem trim_rel (R:HRel w0 m as S a w) (k:Nat) (ks:List Nat):HRel w0 m as { S with sl:=trimV k ks S.sl } a w:=by
 have h0:∀ i,getV (S.sl.take k ++ List.replicate (S.sl.length - k) jV) i=jV∨getV (S.sl.take k ++ List.replicate (S.sl.length - k) jV) i=getV S.sl i:=by
  intro i
  simp only [getV_D,List.getD_eq_getElem?_getD]
  rcases Nat.lt_or_ge i (S.sl.take k).length with hi | hi
  ·right
   rw [List.getElem?_append_left hi]
   rw [List.getElem?_take]
   rw [if_pos (by have:=List.length_take_le k S.sl;omega)]
  ·left
   rw [List.getElem?_append_right hi]
   simp only [List.getElem?_replicate]
   split <;> rfl
 obtain ⟨h1,h2⟩:=getV_keep S.sl ks _ h0
 refine ⟨R.defers,?_,R.below,fun i=>?_,R.outs,R.blks,R.inj,R.top⟩
 ·rw [R.size]
  simp only [trimV]
  rw [h1]
  simp only [List.length_append,List.length_take,List.length_replicate]
  omega
 ·simp only [trimV]
  rcases h2 i with e | e
  ·rw [e];trivial
  ·rw [e];exact R.vals i
theorem wpH_ok (hH:HEOK P H) (hmix:P.follows .mixedOrders=true) (G:WOK H.E w0) {inl:FuncId→Option HF} (hinl:∀ f h,inl f=some h→HSnd P H f h) (tr:Option (Nat × Nat × List Nat)) (key:Nat):∀ (c:Code) (S:HS) (Q:Ex→HS→Prop) (m:LM) (a:Act) (w:World),wpH H (stripH inl tr key c) S Q→HRel w0 m as S a w→c.wp P (LiftH w0 as Q) a w:=by
 intro c
 induction c with
 | skip=>intro S Q m a w h R;exact wp_skip ⟨S,m,h,R⟩
 | label l=>intro S Q m a w h R;exact wp_label ⟨S,m,h,R⟩
 | region id ops draw =>
  intro S Q m a w h R
  simp only [stripH] at h
  unfold trimH at h
  split at h
  ·exact regH_ok hH hmix G hinl R h
  ·rename_i lim k ks
   split at h
   case h_2=>exact regH_ok hH hmix G hinl R h
   simp only [wpH] at h
   refine wp_mono (regH_ok hH hmix G hinl R h) ?_
   intro e a' w' hl
   cases e with
   | normal=>obtain ⟨S',m',h1,h2⟩:=hl;exact ⟨_,m',h1,trim_rel h2 k ks⟩
   | exit id=>exact hl
   | ret=>exact hl
   | goto l=>exact hl.elim
   | panic ch=>exact hl.elim
   | outgrown=>exact hl.elim
 | seq x y ihx ihy =>
  intro S Q m a w h R
  simp only [stripH,wpH] at h
  refine wp_seq (wp_mono (ihx S _ m a w h R) ?_)
  intro e a' w' hl
  cases e with
  | normal=>obtain ⟨S',m',h1,h2⟩:=hl;exact ihy S' Q m' a' w' h1 h2
  | exit id=>obtain ⟨S',m',h1,h2⟩:=hl;exact ⟨S',m',h1,h2⟩
  | ret=>obtain ⟨S',m',h1,h2⟩:=hl;exact ⟨S',m',h1,h2⟩
  | goto l=>exact hl.elim
  | panic ch=>exact hl.elim
  | outgrown=>exact hl.elim
 | cond c x y ihx ihy =>
  intro S Q m a w h R
  simp only [stripH,wpH] at h
  split at h
  ·rename_i hb
   exact wp_cond_true (opb_ok R hb) (ihx S Q m a w h R)
  ·rename_i hb
   exact wp_cond_false (opb_ok R hb) (ihy S Q m a w h R)
  ·rename_i p hb
   exact wp_cond_split (t:=p) (opb_ok R hb) (fun hp=>ihx S Q m a w (h.1 hp) R) (fun hp=>ihy S Q m a w (h.2 hp) R)
  ·exact h.elim
 | block id c ih =>
  intro S Q m a w h R
  simp only [stripH,wpH] at h
  refine wp_block (wp_mono (ih S _ m a w h R) ?_)
  intro e a' w' hl
  cases e with
  | normal=>exact hl
  | exit id' =>
   obtain ⟨S',m',h1,h2⟩:=hl
   simp only at h1
   simp only [Exit.inBlock]
   by_cases hid:id'=id
   ·rw [if_pos hid] at h1 ⊢
    exact ⟨S',m',h1,h2⟩
   ·rw [if_neg hid] at h1 ⊢
    exact ⟨S',m',h1,h2⟩
  | ret=>exact hl
  | goto l=>exact hl.elim
  | panic ch=>exact hl.elim
  | outgrown=>exact hl.elim
 | loop c ih =>
  intro S Q m a w h R
  simp only [stripH,wpH] at h
  split at h
  ·rename_i n hn
   refine wp_loop_rounds n ?_
   clear hn
   induction n generalizing S m a w with
   | zero=>exact h.elim
   | succ n ihn =>
    simp only [roundsH] at h
    refine wp_mono (ih S _ m a w h R) ?_
    intro e a' w' hl
    cases e with
    | normal=>obtain ⟨S',m',h1,h2⟩:=hl;exact ihn S' m' a' w' h2 h1
    | exit id=>exact hl
    | ret=>exact hl
    | goto l=>exact hl.elim
    | panic ch=>exact hl.elim
    | outgrown=>exact hl.elim
  ·rename_i n hn
   refine wp_loop_rounds n ?_
   clear hn
   replace h:=h.run
   induction n generalizing S m a w with
   | zero=>exact h.elim
   | succ n ihn =>
    simp only [roundsHL] at h
    refine wp_mono (ih S _ m a w h R) ?_
    intro e a' w' hl
    cases e with
    | normal=>obtain ⟨S',m',h1,h2⟩:=hl;exact ihn S' m' a' w' h2 h1.run
    | exit id=>exact hl
    | ret=>exact hl
    | goto l=>exact hl.elim
    | panic ch=>exact hl.elim
    | outgrown=>exact hl.elim
  ·rename_i α st μ hn
   obtain ⟨⟨x0,hx0⟩,hround⟩:=h
   refine wp_loop_ghost (fun n a w=>∃ x m,μ x=n∧HRel w0 m as (st S x) a w) (μ x0) ⟨x0,_,rfl,R.le hx0⟩ ?_
   rintro n a w ⟨x,m,rfl,Rx⟩
   refine wp_mono (ih (st S x) _ m a w (hround x (wfHS_of Rx)) Rx) ?_
   intro e a' w' hl
   cases e with
   | normal =>
    obtain ⟨S',m',⟨y,hy1,hy2⟩,h2⟩:=hl
    exact ⟨μ y,hy2,y,_,rfl,h2.le hy1⟩
   | exit id=>exact hl
   | ret=>exact hl
   | goto l=>exact hl.elim
   | panic ch=>exact hl.elim
   | outgrown=>exact hl.elim
 | exit id=>intro S Q m a w h R;exact wp_exit ⟨S,m,h,R⟩
 | ret=>intro S Q m a w h R;exact wp_ret ⟨S,m,h,R⟩
 | rangeFunc f ps x y=>intro S Q m a w h R;exact h.elim
 | scope c=>intro S Q m a w h R;exact h.elim
 | goto l=>intro S Q m a w h R;exact h.elim
 | refuse s=>intro S Q m a w h R;exact h.elim
theorem hsnd_of (hH : HEOK P H) (hmix : P.follows .mixedOrders = true) {inl : FuncId → Option HF} (hinl : ∀ f h, inl f = some h → HSnd P H f h) {f : FuncId} {fn : Func} (hf : P.funcs[f]? = some fn) (hb : fn.body.isNone = false) (hname : (fn.name == "runtime.NumGoroutine") = false) {tr : Option (Nat × Nat × List Nat)} {key np : Nat} {c : HC} (hc : stripH inl tr key (body fn) = c) :
  HSnd P H f ⟨fn.ntmps,fn.results.toList,np,c⟩:=by
 obtain ⟨cc,hcc⟩:∃ cc,fn.body=some cc:=by
  cases hbb:fn.body with
  | none=>rw [hbb] at hb;cases hb
  | some cc=>exact ⟨cc,rfl⟩
 have hbd:body fn=cc:=by simp [body,hcc]
 rw [hbd] at hc
 refine ⟨fn,cc,hf,hcc,hname,rfl,rfl,fun w0 G m as S a w Q h R=>?_⟩
 subst hc
 exact wpH_ok hH hmix G hinl tr key cc S Q m a w h R
theorem hsnd_like {f:FuncId} {nt np:Nat} {rs:List ResultVar} {c c':HC} (h:HSnd P H f ⟨nt,rs,np,c⟩) (he:wpH H c'=wpH H c):HSnd P H f ⟨nt,rs,np,c'⟩:=by
 obtain ⟨fn,cc,h1,h2,h3,h4,h5,h6⟩:=h.ok
 exact ⟨fn,cc,h1,h2,h3,h4,h5,fun w0 G m as S a w Q hw R=>h6 w0 G m as S a w Q (by rw [← he];exact hw) R⟩
def lookF:List (FuncId × HF)→FuncId→Option HF
 | [],_=>none
 | (u,h) :: l,f=>if f=u then some h else lookF l f
inductive AllH (P:Program) (H:HE):List (FuncId × HF)→Prop
 | nil:AllH P H []
 | cons {f:FuncId} {h:HF} {l:List (FuncId × HF)} (hh:HSnd P H f h) (hl:AllH P H l):AllH P H ((f,h) :: l)
theorem AllH.get {l:List (FuncId × HF)} (hl:AllH P H l):∀ f h,lookF l f=some h→HSnd P H f h:=by
 induction hl with
 | nil=>intro f h e;cases e
 | cons hh _ ih =>
  intro f h e
  simp only [lookF] at e
  split at e
  ·rename_i e2;subst e2;cases e;exact hh
  ·exact ih f h e
def toH:AV→HA
 | .int k n=>.pl (.int k n)
 | .bool b=>.pl (.bool b)
 | .arr k n f=>.pl (.arr k n f)
 | .xsl k es len _ f=>.xsl k es len f
 | _=>.junk
def startH (n:Nat) (vs:List AV):HS:={ fr:=[],sl:=vs.map (fun x=>.at (toH x)) ++ List.replicate (n - vs.length) jV,bl:=[] }
def outL:List HA→Option (List AV)
 | []=>some []
 | .pl x :: l=>(match outL l with
  | some xs=>some (x :: xs)
  | none=>none)
 | _=>none
def outH:Option HV→Option AV
 | some (.at (.pl x))=>some x
 | some (.tup ps)=>(match outL ps with
  | some l=>some (.tup l)
  | none=>none)
 | _=>none
def fnH (H:HE) (c:HC) (n:Nat) (rs:List ResultVar) (vs:List AV) (Q:AV→Prop):Prop :=
 wpH H c (startH n vs) (fun e S=>match e with
  | .exit _=>False
  | .normal=>(match outH (resH H S rs) with
   | some r=>Q r
   | none=>False)
  | .ret=>(match outH (resH H S rs) with
   | some r=>Q r
   | none=>False))
structure WalkH (H:HE) (c:HC) (n:Nat) (rs:List ResultVar) (vs:List AV) (r:AV):Prop where
 run:fnH H c n rs vs (fun r'=>sameA r' r)
theorem toH_ok {x:AV} {v:Value} (h:ArgR w x v) (hw:wfV x):AR w m (toH x) v:=by
 cases x <;> simp only [ArgR] at h <;> try (exact h.elim)
 ·exact ⟨h,rfl,hw⟩
 ·exact ⟨h,rfl,hw⟩
 ·exact ⟨h,rfl,hw⟩
 ·trivial
 ·obtain ⟨aa,cc,h1,h2,h3,h4⟩:=h
  exact ⟨aa,cc,h1,h2,h3,h4,hw⟩
theorem startH_rel {vs:List AV} {args:List Value} {n:Nat} (h:All2 (ArgR w) vs args) (hw:∀ x ∈ vs,wfV x) (hn:vs.length≤n) :
  HRel w (fun _ _=>undef) [] (startH n vs) { tmps:=args.toArray ++ Array.replicate (n - args.toArray.size) undef,defers:=[] } w:=by
 obtain ⟨hlen,hget⟩:=All2_get h
 have hb:∀ l,getB (startH n vs).bl l=.none:=fun l=>by simp [startH,getB_D]
 refine ⟨rfl,by simp [startH];omega,Below.refl _ _,fun i=>?_,trivial,fun l=>by rw [hb];trivial,fun l l' b _ h1 _=>(by rw [hb] at h1;cases h1),fun _ _ _=>rfl⟩
 simp only [startH,getV_D,List.getD_eq_getElem?_getD]
 by_cases hi:i<vs.length
 ·rw [List.getElem?_append_left (by simpa using hi)]
  have e1:vs[i]?=some vs[i]:=List.getElem?_eq_getElem hi
  have e2:args[i]?=some (args[i]'(by omega)):=List.getElem?_eq_getElem (by omega)
  have e3:(args.toArray ++ Array.replicate (n - args.toArray.size) undef).getD i undef=args[i]'(by omega):=by
   simp only [Array.getD_eq_getD_getElem?]
   rw [Array.getElem?_append_left (by simp;omega)]
   simp [e2]
  rw [e3]
  simp only [List.getElem?_map,e1,Option.map_some,Option.getD_some]
  exact toH_ok (hget i _ _ e1 e2) (hw _ (List.getElem_mem hi))
 ·rw [List.getElem?_append_right (by simpa using Nat.le_of_not_lt hi)]
  simp only [List.getElem?_replicate]
  split <;> trivial
theorem outL_ok:∀ {ps:List HA} {l:List AV} {vs:List Value},outL ps=some l→All2 (AR w0 m) ps vs→vs=l.map pv∧l.all plain=true∧∀ x ∈ l,wfP x
 | [],l,[],h,_=>by simp only [outL] at h;cases h;exact ⟨rfl,rfl,fun x hx=>by simp at hx⟩
 | p :: ps,l,v :: vs,h,⟨h1,h2⟩=>by
  unfold outL at h
  split at h
  ·rename_i heq
   cases heq
  ·rename_i x l' heq
   cases heq
   split at h
   ·rename_i xs hxs
    cases h
    obtain ⟨a1,a2,a3⟩:=outL_ok hxs h2
    obtain ⟨b1,b2,b3⟩:=h1
    refine ⟨by rw [a1,b1];rfl,by simp [b2];simpa using a2,fun y hy=>?_⟩
    rcases List.mem_cons.1 hy with rfl | hy
    ·exact b3
    ·exact a3 y hy
   ·cases h
  ·cases h
 | [],_,_ :: _,_,h=>h.elim
 | _ :: _,_,[],_,h=>h.elim
theorem outH_ok (hH:HEOK P H) (R:HRel w0 m as S a w) {fn:Func} {r:AV} (h:outH (resH H S fn.results.toList)=some r) (B:Nat):∃ v,(results fn a.tmps).run P w=.ok v w∧ResR B w r v:=by
 cases hr:resH H S fn.results.toList with
 | none=>rw [hr] at h;cases h
 | some v =>
  obtain ⟨u,u1,u2⟩:=resH_ok hH R hr
  refine ⟨u,u1,?_⟩
  rw [hr] at h
  unfold outH at h
  split at h
  ·rename_i x heq
   cases heq
   cases h
   obtain ⟨b1,b2,b3⟩:=u2
   cases r <;> simp [plain] at b2 <;> exact ⟨rfl,b3,b1⟩
  ·rename_i ps heq
   cases heq
   split at h
   ·rename_i l hl
    cases h
    obtain ⟨vs,v1,v2⟩:=u2
    obtain ⟨a1,a2,a3⟩:=outL_ok hl v2
    refine ⟨?_,a2,a3⟩
    rw [v1,← a1]
   ·cases h
  ·cases h
theorem soundM_H (hH : HEOK P H) (hmix : P.follows .mixedOrders = true) {l : List (FuncId × HF)} (hl : AllH P H l) {f : FuncId} {fn : Func} (hf : P.funcs[f]? = some fn) (hb : fn.body.isNone = false) (hname : (fn.name == "runtime.NumGoroutine") = false) {tr : Option (Nat × Nat × List Nat)} {key : Nat} {c : Contract}
  (hlen:∀ vs cs r,c vs=some (cs,r)→vs.length≤fn.ntmps)
  (h:∀ vs cs r,c vs=some (cs,r)→(∀ p ∈ cs,p)→(∀ x ∈ vs,wfV x)→fnH H (stripH (lookF l) tr key (body fn)) fn.ntmps fn.results.toList vs (fun r'=>sameA r' r)):SoundM P H.E.mem H.E.glob f c:=by
 intro vs cs r hc hcs hwf w hm hG args hargs
 have G:WOK H.E w:=⟨hG,hm⟩
 refine .inl ⟨fn,hf,hb,hname,?_⟩
 have hw:=h vs cs r hc hcs hwf
 obtain ⟨cc,hcc⟩:∃ cc,fn.body=some cc:=by
  cases hbb:fn.body with
  | none=>rw [hbb] at hb;cases hb
  | some cc=>exact ⟨cc,rfl⟩
 have hbd:body fn=cc:=by simp [body,hcc]
 refine calls_of_wp hf hcc ?_
 rw [hbd] at hw
 have R:=startH_rel (n:=fn.ntmps) hargs hwf (hlen vs cs r hc)
 refine wp_mono (wpH_ok hH hmix G hl.get tr key cc _ _ _ _ w hw R) ?_
 have fin:∀ a' w',(∃ S m,(match outH (resH H S fn.results.toList) with | some l=>sameA l r | none=>False)∧HRel w m [] S a' w') →
   a'.defers=[]∧∃ v,(results fn a'.tmps).run P w'=.ok v w'∧∃ v',Ending.returned v=.returned v'∧ResR w.heap.size w' r v'∧Below w.heap.size w w':=by
  rintro a' w' ⟨S,m,h1,h2⟩
  split at h1
  ·rename_i l hl
   obtain ⟨v,v1,v2⟩:=outH_ok hH h2 hl w.heap.size
   exact ⟨h2.defers,v,v1,v,rfl,sameA_ok h1 v2,h2.below⟩
  ·exact h1.elim
 intro e a' w' hl
 cases e with
 | normal=>exact fin a' w' hl
 | ret=>exact fin a' w' hl
 | exit id=>obtain ⟨S,m,h1,_⟩:=hl;exact h1.elim
 | goto l=>exact hl.elim
 | panic ch=>exact hl.elim
 | outgrown=>exact hl.elim
def lenX:AV→Prop
 | .xsl _ _ len _ _=>len.val≤capMax
 | _=>True
theorem all2_len {w:World}:∀ {vs:List AV} {args:List Value},All2 (ArgR w) vs args→∀ x ∈ vs,lenX x
 | [],[],_,x,hx=>by simp at hx
 | v :: vs,a :: as,h,x,hx=>by
  rcases List.mem_cons.1 hx with rfl | hx
  ·cases x with
   | xsl k es len cap f =>
    obtain ⟨_,c,_,_,h1,h2⟩:=h.1
    exact Nat.le_trans h1 h2
   | _=>trivial
  ·exact all2_len h.2 x hx
 | [],_ :: _,h,_,_=>h.elim
 | _ :: _,[],h,_,_=>h.elim
theorem soundH_len {G:Nat→AV} (hmix:P.follows .mixedOrders=true) {f:FuncId} {fn:Func} (hf:P.funcs[f]?=some fn) {n:Nat} {rs:List ResultVar} {sc:HC} {l:List (FuncId × HF)} {tr:Option (Nat × Nat × List Nat)} {key:Nat} (hn:fn.ntmps=n) (hrs:fn.results.toList=rs) (hb:fn.body.isNone=false)
  (hname : (fn.name == "runtime.NumGoroutine") = false) (hsc : stripH (lookF l) tr key (body fn) = sc) {c : Contract}
  (h:∀ vs cs r,c vs=some (cs,r)→vs.length≤n∧((∀ p ∈ cs,p)→(∀ x ∈ vs,wfV x)→(∀ x ∈ vs,lenX x)→∃ H:HE,HEOK P H∧H.E.mem=noMem∧H.E.glob=G∧AllH P H l∧WalkH H sc n rs vs r)):Sound P G f c:=by
 suffices hM:SoundM P noMem G f c from hM.toS
 intro vs cs r hc hcs hwf w hm hG args hargs
 obtain ⟨hl,hw⟩:=h vs cs r hc
 obtain ⟨H,hE,hmm,hg,hAll,hW⟩:=hw hcs hwf (all2_len hargs)
 subst hg
 rw [← hmm] at hm
 subst hn;subst hrs;subst hsc
 classical
 have key:SoundM P H.E.mem H.E.glob f (fun vs'=>if vs'=vs then some (cs,r) else none):=by
  refine soundM_H hE hmix hAll hf hb hname (tr:=tr) (key:=key) (fun vs' cs' r' hc'=>?_) (fun vs' cs' r' hc' _ _=>?_)
  ·split at hc'
   ·rename_i e;subst e;exact hl
   ·cases hc'
  ·split at hc'
   ·rename_i e;subst e;cases hc';exact hW.run
   ·cases hc'
 exact key vs cs r (if_pos rfl) hcs hwf w hm hG args hargs
theorem soundH_each {G:Nat→AV} (hmix:P.follows .mixedOrders=true) {f:FuncId} {fn:Func} (hf:P.funcs[f]?=some fn) {n:Nat} {rs:List ResultVar} {sc:HC} {l:List (FuncId × HF)} {tr:Option (Nat × Nat × List Nat)} {key:Nat} (hn:fn.ntmps=n) (hrs:fn.results.toList=rs) (hb:fn.body.isNone=false)
  (hname : (fn.name == "runtime.NumGoroutine") = false) (hsc : stripH (lookF l) tr key (body fn) = sc) {c : Contract}
  (h:∀ vs cs r,c vs=some (cs,r)→vs.length≤n∧((∀ p ∈ cs,p)→(∀ x ∈ vs,wfV x)→∃ H:HE,HEOK P H∧H.E.mem=noMem∧H.E.glob=G∧AllH P H l∧WalkH H sc n rs vs r)):Sound P G f c :=
 soundH_len hmix hf hn hrs hb hname hsc fun vs cs r hc=>⟨(h vs cs r hc).1,fun h1 h2 _=>(h vs cs r hc).2 h1 h2⟩
inductive ZK where
 | arr (k:IntKind) (n:Nat)
 | int (k:IntKind)
 | nil
def ZK.ha:ZK→HA
 | .arr k n=>.pl (.arr k n fun _=>0)
 | .int k=>.pl (.int k (.lit 0))
 | .nil=>.nil
def ZK.cells:ZK→List Value
 | .arr k n=>List.replicate n (.int k 0)
 | .int k=>[.int k 0]
 | .nil=>[.slice none 0 0]
def lookZ:List (TypeId × List ZK)→TypeId→Option (List HA)
 | [],_=>none
 | (u,z) :: l,t=>if t=u then some (z.map ZK.ha) else lookZ l t
def lookN:List (TypeId × Nat)→TypeId→Option Nat
 | [],_=>none
 | (u,z) :: l,t=>if t=u then some z else lookN l t
def lookP:List TypeId→TypeId→Bool
 | [],_=>false
 | u :: l,t=>if t=u then true else lookP l t
def lookHL:List (Nat × (HS→HAnn))→Nat→HS→HAnn
 | [],_,_=>.unroll 300
 | (u,i) :: l,t,S=>if t=u then i S else lookHL l t S
def mkH (E:Env) (Z:List (TypeId × List ZK)) (N:List (TypeId × Nat)) (PT:List TypeId) (L:List (Nat × (HS→HAnn))):HE :=
 { E:=E,zm:=lookZ Z,sz:=lookN N,pt:=lookP PT,loops:=lookHL L }
def zcells (P:Program) (T:TypeId):Option (Nat × List Value) :=
 match P.info? T with
 | some inf=>(match inf.zero with
  | some z=>some (inf.size,z.cells.toList)
  | none=>none)
 | none=>none
inductive ZTab (P:Program):List (TypeId × List ZK)→Prop
 | nil:ZTab P []
 | cons {T:TypeId} {z:List ZK} {l:List (TypeId × List ZK)} (h:zcells P T=some ((z.flatMap ZK.cells).length,z.flatMap ZK.cells)) (hl:ZTab P l):ZTab P ((T,z) :: l)
def szChk (P:Program) (l:List (TypeId × Nat)):Bool:=l.all fun p=>match P.info? p.1 with
 | some inf=>inf.size == p.2
 | none=>false
def ptChk (P:Program) (l:List TypeId):Bool:=l.all fun t=>match P.underlying t with
 | some (.pointer _)=>true
 | _=>false
theorem inR_zero (k:IntKind):inR k 0:=by
 cases k <;> (unfold inR;decide)
theorem ZK_PR (z:ZK):PR w0 m z.ha z.cells:=by
 cases z with
 | arr k n =>
  refine ⟨?_,rfl,fun i _=>?_⟩
  ·apply List.ext_getElem?
   intro i
   simp only [ZK.cells,cellsOf,cellsA,List.getElem?_replicate,Array.getElem?_toList]
   by_cases h:i<n
   ·simp [h]
   ·simp [h]
  ·exact inR_zero k
 | int k=>exact ⟨rfl,rfl,inR_zero k⟩
 | nil=>exact ⟨_,rfl,rfl,rfl⟩
theorem ZK_CL:∀ z:List ZK,CL w0 m (z.map ZK.ha) (z.flatMap ZK.cells)
 | []=>rfl
 | z :: l=>⟨z.cells,l.flatMap ZK.cells,by simp,ZK_PR z,ZK_CL l⟩
theorem mkH_ok {E:Env} (hE:EnvOK P E) {Z:List (TypeId × List ZK)} {N:List (TypeId × Nat)} {PT:List TypeId} {L:List (Nat × (HS→HAnn))} (hZ:ZTab P Z) (hN:szChk P N=true) (hP:ptChk P PT=true):HEOK P (mkH E Z N PT L):=by
 refine ⟨hE,fun T ps h=>?_,fun T n h=>?_,fun T h=>?_⟩
 ·replace h:lookZ Z T=some ps:=h
  induction hZ with
  | nil=>cases h
  | cons hh _ ih =>
   simp only [lookZ] at h
   split at h
   ·rename_i e
    subst e
    cases h
    unfold zcells at hh
    split at hh
    ·rename_i inf h1
     split at hh
     ·rename_i z h2
      simp only [Option.some.injEq,Prod.mk.injEq] at hh
      refine ⟨inf,z,h1,h2,?_,fun w0 m=>?_⟩
      ·rw [hh.1,← hh.2];simp
      ·rw [hh.2];exact ZK_CL _
     ·cases hh
    ·cases hh
   ·exact ih h
 ·replace h:lookN N T=some n:=h
  induction N with
  | nil=>cases h
  | cons p l ih =>
   obtain ⟨u,z⟩:=p
   simp only [szChk,List.all_cons,Bool.and_eq_true] at hN
   simp only [lookN] at h
   split at h
   ·rename_i e
    subst e
    cases h
    obtain ⟨h1,_⟩:=hN
    split at h1
    ·rename_i inf hi
     exact ⟨inf,hi,by simpa using h1⟩
    ·cases h1
   ·exact ih (by simpa [szChk] using hN.2) h
 ·replace h:lookP PT T=true:=h
  induction PT with
  | nil=>cases h
  | cons u l ih =>
   simp only [ptChk,List.all_cons,Bool.and_eq_true] at hP
   simp only [lookP] at h
   split at h
   ·rename_i e
    subst e
    obtain ⟨h1,_⟩:=hP
    split at h1
    ·rename_i e hi
     exact ⟨e,hi⟩
    ·cases h1
   ·exact ih (by simpa [ptChk] using hP.2) h
end
end Sy

namespace Sy
open Go Sx
def getC:List Nat→Code→Code
 | [],c=>c
 | 0 :: p,.seq a _=>getC p a
 | (_+1) :: p,.seq _ b=>getC p b
 | _ :: p,.block _ c=>getC p c
 | _ :: p,.loop c=>getC p c
 | _,_=>.skip
def holeC:List Nat→Code→Code
 | [],_=>.skip
 | 0 :: p,.seq a b=>.seq (holeC p a) b
 | (_+1) :: p,.seq a b=>.seq a (holeC p b)
 | _ :: p,.block i c=>.block i (holeC p c)
 | _ :: p,.loop c=>.loop (holeC p c)
 | _,c=>c
def okP:List Nat→Code→Bool
 | [],_=>true
 | 0 :: p,.seq a _=>okP p a
 | (_+1) :: p,.seq _ b=>okP p b
 | _ :: p,.block _ c=>okP p c
 | _ :: p,.loop c=>okP p c && firstRegion c == firstRegion (holeC p c)
 | _,_=>false
def plugP:List Nat→HC→HC→HC
 | [],x,_=>x
 | 0 :: p,x,.seq a b=>.seq (plugP p x a) b
 | (_+1) :: p,x,.seq a b=>.seq a (plugP p x b)
 | _ :: p,x,.block i c=>.block i (plugP p x c)
 | _ :: p,x,.loop i c=>.loop i (plugP p x c)
 | _,_,c=>c
theorem stripH_hole (inl:FuncId→Option HF) (tr:Option (Nat × Nat × List Nat)) (key:Nat):∀ (p:List Nat) (c:Code),okP p c=true→stripH inl tr key c=plugP p (stripH inl tr key (getC p c)) (stripH inl tr key (holeC p c)):=by
 intro p
 induction p with
 | nil=>intro c _;simp only [getC,plugP]
 | cons i p ih =>
  intro c h
  cases c with
  | seq a b =>
   cases i with
   | zero =>
    simp only [okP] at h
    simp only [stripH,getC,holeC,plugP]
    rw [← ih a h]
   | succ i =>
    simp only [okP] at h
    simp only [stripH,getC,holeC,plugP]
    rw [← ih b h]
  | block j c =>
   cases i <;> simp only [okP] at h <;> simp only [stripH,getC,holeC,plugP] <;> rw [← ih c h]
  | loop c =>
   cases i <;> simp only [okP,Bool.and_eq_true,beq_iff_eq] at h <;> simp only [stripH,getC,holeC,plugP] <;> rw [← ih c h.1,← h.2]
  | _=>cases i <;> simp [okP] at h
theorem stripH_two {inl:FuncId→Option HF} {tr:Option (Nat × Nat × List Nat)} {key:Nat} (p:List Nat) {c:Code} {x y:HC} (h:okP p c=true) (hx:stripH inl tr key (getC p c)=x) (hy:stripH inl tr key (holeC p c)=y):stripH inl tr key c=plugP p x y:=by
 rw [stripH_hole inl tr key p c h,hx,hy]
theorem wpH_sub (H:HE) (c:HC):wpH H (.sub c)=wpH H c:=by
 funext S Q
 simp only [wpH]
 exact propext ⟨fun h=>h.run,fun h=>⟨h⟩⟩
theorem wpH_plug (H:HE) (x:HC):∀ (p:List Nat) (c:HC),wpH H (plugP p (.sub x) c)=wpH H (plugP p x c):=by
 intro p
 induction p with
 | nil=>intro c;simp only [plugP];exact wpH_sub H x
 | cons i p ih =>
  intro c
  cases c with
  | seq a b =>
   cases i <;> simp only [plugP] <;> funext S Q <;> simp only [wpH,ih]
  | block j c =>
   cases i <;> simp only [plugP] <;> funext S Q <;> simp only [wpH,ih]
  | loop j c =>
   cases i <;> simp only [plugP] <;> funext S Q <;> simp only [wpH,ih]
  | _=>cases i <;> simp only [plugP]
end Sy

namespace Sy
open Go Sx
structure OKs (bl:List HB) (fr:List (List HV)):Prop where
 fr:leFs bl bl fr fr
 bl:leBs bl bl bl bl
theorem leB_mono {bl bs bt:List HB} (h1:SameCur bl bs) (h2:SameCur bl bt) {x y:HB} (h:leB bl bl x y):leB bs bt x y:=by
 cases x <;> cases y <;> first | trivial | exact h | exact ⟨leAs_mono h1 h2 h.1,h.2⟩
theorem leBs_mono {bl bs bt:List HB} (h1:SameCur bl bs) (h2:SameCur bl bt):∀ {x y:List HB},leBs bl bl x y→leBs bs bt x y
 | [],[],_=>trivial
 | _ :: _,[],_=>trivial
 | _ :: _,_ :: _,⟨a,b⟩=>⟨leB_mono h1 h2 a,leBs_mono h1 h2 b⟩
 | [],_ :: _,h=>h.elim
theorem SameCur.refl (bl:List HB):SameCur bl bl:=fun _ _ h=>h
theorem sameCur_set {bl:List HB} {l:Nat} {B:HB} (hc:curV (getB bl l)=curV B):SameCur bl (bl.set l B):=by
 intro i v h
 rw [getB_set]
 split
 ·rename_i e
  rw [e.1,hc] at h
  exact h
 ·exact h
theorem sameCur_app (bl:List HB) (r:List HB):SameCur bl (bl ++ r):=by
 intro i v h
 have:getB (bl ++ r) i=getB bl i:=by
  simp only [getB_D,List.getD_eq_getElem?_getD]
  rcases Nat.lt_or_ge i bl.length with hi | hi
  ·rw [List.getElem?_append_left hi]
  ·simp [getB_D,List.getD_eq_getElem?_getD,List.getElem?_eq_none hi,curV] at h
 rw [this]
 exact h
theorem leBs_nil (bs bt x:List HB):leBs bs bt x []:=by cases x <;> trivial
theorem leBs_set:∀ {bs bt x:List HB} (l:Nat) {B:HB},leBs bs bt x x→leB bs bt (getB x l) B→leBs bs bt x (x.set l B)
 | bs,bt,[],l,B,h,_=>by simpa using h
 | bs,bt,a :: x,0,B,h,hB=>⟨hB,h.2⟩
 | bs,bt,a :: x,l+1,B,h,hB=>⟨h.1,leBs_set l h.2 hB⟩
theorem leBs_set2:∀ {bs bt x:List HB} (l:Nat) {B:HB},leBs bs bt x x→leB bs bt B B→leBs bs bt (x.set l B) (x.set l B)
 | bs,bt,[],l,B,h,_=>by simpa using h
 | bs,bt,a :: x,0,B,h,hB=>⟨hB,h.2⟩
 | bs,bt,a :: x,l+1,B,h,hB=>⟨h.1,leBs_set2 l h.2 hB⟩
theorem leBs_app:∀ {bs bt x r:List HB},leBs bs bt x x→leBs bs bt r r→leBs bs bt (x ++ r) (x ++ r)
 | bs,bt,[],r,_,hr=>hr
 | bs,bt,a :: x,r,h,hr=>⟨h.1,leBs_app h.2 hr⟩
theorem OKs.le {bl:List HB} {fr:List (List HV)} (h:OKs bl fr) (l:Nat) (B:HB) (hc:curV (getB bl l)=curV B) (hB:leB bl (bl.set l B) (getB bl l) B):LeFs bl (bl.set l B) fr fr∧LeBs bl (bl.set l B) bl (bl.set l B) :=
 ⟨⟨leFs_mono (SameCur.refl _) (sameCur_set hc) h.fr⟩,⟨leBs_set l (leBs_mono (SameCur.refl _) (sameCur_set hc) h.bl) hB⟩⟩
theorem OKs.refl {bl:List HB} {fr:List (List HV)} (h:OKs bl fr):LeFs bl bl fr fr∧LeBs bl bl bl bl:=⟨⟨h.fr⟩,⟨h.bl⟩⟩
theorem OKs.set {bl:List HB} {fr:List (List HV)} (h:OKs bl fr) (l:Nat) (B:HB) (hc:curV (getB bl l)=curV B) (hB:leB (bl.set l B) (bl.set l B) B B):OKs (bl.set l B) fr :=
 ⟨leFs_mono (sameCur_set hc) (sameCur_set hc) h.fr,leBs_set2 l (leBs_mono (sameCur_set hc) (sameCur_set hc) h.bl) hB⟩
theorem OKs.app {bl:List HB} {fr:List (List HV)} (h:OKs bl fr) (r:List HB) (hr:leBs (bl ++ r) (bl ++ r) r r):OKs (bl ++ r) fr :=
 ⟨leFs_mono (sameCur_app _ _) (sameCur_app _ _) h.fr,leBs_app (leBs_mono (sameCur_app _ _) (sameCur_app _ _) h.bl) hr⟩
theorem OKs.push {bl:List HB} {fr:List (List HV)} (h:OKs bl fr) (s:List HV) (hs:leVs bl bl s s):OKs bl (s :: fr):=⟨⟨hs,h.fr⟩,h.bl⟩
def slfP:AV→Bool
 | .int .. | .bool _ | .arr .. | .val _=>true
 | _=>false
def slfA (bl:List HB):HA→Bool
 | .junk=>true
 | .nil=>true
 | .pl x=>slfP x
 | .ptr l ver _=>okN bl bl l ver ver
 | .gptr ..=>true
 | .sl l ver _ _ _=>okN bl bl l ver ver
 | .ls l ver _ _=>okN bl bl l ver ver
 | .gsl ..=>true
 | .xsl ..=>true
 | .xptr ..=>false
def slfL (bl:List HB):List HA→Bool
 | []=>true
 | x :: l=>match slfA bl x with
  | true=>slfL bl l
  | false=>false
def slfV (bl:List HB):HV→Bool
 | .at x=>slfA bl x
 | .mx ps=>slfL bl ps
 | .tup ps=>slfL bl ps
def slfS (bl:List HB):List HV→Bool
 | []=>true
 | x :: l=>match slfV bl x with
  | true=>slfS bl l
  | false=>false
theorem leP_self {x:AV} (h:slfP x=true):leP x x:=by
 cases x <;> first | exact ⟨rfl,rfl⟩ | exact (rfl:_=_) | exact ⟨rfl,rfl,fun _ _=>rfl⟩ | cases h
theorem leA_self {bl:List HB} {x:HA} (h:slfA bl x=true):leA bl bl x x:=by
 cases x <;> first | trivial | exact leP_self h | exact ⟨rfl,h,rfl⟩ | exact ⟨rfl,rfl⟩ | exact ⟨rfl,rfl,h,rfl,rfl⟩ | exact ⟨rfl,rfl,h,rfl⟩ | exact ⟨rfl,rfl,rfl,rfl⟩ | exact ⟨rfl,rfl,rfl,fun _ _=>rfl⟩ | cases h
theorem leAs_self {bl:List HB}:∀ {l:List HA},slfL bl l=true→leAs bl bl l l
 | [],_=>trivial
 | x :: l,h=>by
  unfold slfL at h
  split at h
  ·rename_i h1;exact ⟨leA_self h1,leAs_self h⟩
  ·cases h
theorem szEq_self:∀ l:List HA,szEq l l
 | []=>trivial
 | _ :: l=>⟨rfl,szEq_self l⟩
theorem leV_self {bl:List HB} {x:HV} (h:slfV bl x=true):leV bl bl x x:=by
 cases x with
 | «at» x =>
  have:=leA_self (x:=x) h
  unfold leV
  split
  ·trivial
  ·rename_i e1 e2;cases e1;cases e2;exact this
  ·rename_i e1 e2;cases e1
  ·rename_i e1 e2;cases e1
  ·rename_i e1 e2 e3 e4;exact absurd rfl (e2 _ _ rfl)
 | mx ps=>exact ⟨leAs_self h,szEq_self ps⟩
 | tup ps=>exact leAs_self (l:=ps) h
theorem leVs_self {bl:List HB}:∀ {l:List HV},slfS bl l=true→leVs bl bl l l
 | [],_=>trivial
 | x :: l,h=>by
  unfold slfS at h
  split at h
  ·rename_i h1;exact ⟨leV_self h1,leVs_self h⟩
  ·cases h
theorem OKs.pushS {bl:List HB} {fr:List (List HV)} (h:OKs bl fr) (s:List HV) (hs:slfS bl s=true):OKs bl (s :: fr):=h.push s (leVs_self hs)
theorem leB_self {bl:List HB} {ps:List HA} (h:slfL bl ps=true):leB bl bl (.fix ps) (.fix ps):=⟨leAs_self h,szEq_self ps⟩
theorem leB_row {bl:List HB} {v:Nat} {k:IntKind} {es:Nat} {len:SO} {f:Nat→Int}:leB bl bl (.row v k es len f) (.row v k es len f):=⟨rfl,rfl,rfl,fun _ _=>rfl⟩
theorem OKs.setS {bl:List HB} {fr:List (List HV)} (h:OKs bl fr) (l:Nat) (ps:List HA) (hc:curV (getB bl l)=some 0) (hB:slfL (bl.set l (.fix ps)) ps=true):OKs (bl.set l (.fix ps)) fr:=h.set l _ hc (leB_self hB)
theorem OKs.arr {bl:List HB} {fr:List (List HV)} (h:OKs bl fr) (l:Nat) (k:IntKind) (n:Nat) (f:Nat→Int) (hc:curV (getB bl l)=some 0):OKs (bl.set l (.fix [.pl (.arr k n f)])) fr :=
 h.set l _ hc ⟨⟨⟨rfl,rfl,fun _ _=>rfl⟩,trivial⟩,rfl,trivial⟩
theorem OKs.leArr {bl:List HB} {fr:List (List HV)} (h:OKs bl fr) (l:Nat) (k:IntKind) (n:Nat) (f g:Nat→Int) (hc:curV (getB bl l)=some 0) (hfg:∀ i,i<n→f i=g i):LeFs (bl.set l (.fix [.pl (.arr k n f)])) (bl.set l (.fix [.pl (.arr k n g)])) fr fr∧LeBs (bl.set l (.fix [.pl (.arr k n f)])) (bl.set l (.fix [.pl (.arr k n g)])) (bl.set l (.fix [.pl (.arr k n f)])) (bl.set l (.fix [.pl (.arr k n g)])):=by
 have hl:l<bl.length:=by
  rcases Nat.lt_or_ge l bl.length with h | h
  ·exact h
  ·simp [getB_D,List.getD_eq_getElem?_getD,List.getElem?_eq_none h,curV] at hc
 have e:getB (bl.set l (.fix [.pl (.arr k n f)])) l=.fix [.pl (.arr k n f)]:=by rw [getB_set,if_pos ⟨rfl,hl⟩]
 have h2:=(h.arr l k n f hc).le l (.fix [.pl (.arr k n g)]) (by rw [e];rfl) (by rw [e];exact ⟨⟨⟨rfl,rfl,hfg⟩,trivial⟩,rfl,trivial⟩)
 rw [List.set_set] at h2
 exact h2
end Sy

namespace Sx
open Go
structure TurnOK (n s:Int):Prop where
 lo:0≤n
 hi:n≤s
 top:s≤64
def turnR (x n s:Int):Int:=realBin .or .u64 (realBin .shr .u64 x n) (realBin .shl .u64 x (realBin .sub .i64 s n))
def turnC (T:Int→Int→Int→Int):Contract:=fun vs=>match vs with
 | [.int .u64 x,.int .i64 n,.int .i64 s]=>some ([TurnOK n.val s.val],.int .u64 (.sym (T x.val n.val s.val)))
 | _=>none
section
variable (A:Ops) (T:Int→Int→Int→Int) (t R:Nat→Int)
def wordS (f:Nat→Int):Nat→Int
 | 0=>0
 | n+1=>A.bin .or .u64 (A.bin .shl .u64 (wordS f n) 8) (A.cnv .u64 (f n))
def wordsS (f g:Nat→Int) (a:Nat):Nat→Int:=fun j=>if j<a then wordS A (fun k=>f (8*j+k)) 8 else g j
def mixS (o1:BinOp) (o:Nat) (x:Int):Int:=A.bin .xor .u64 (A.bin .xor .u64 (T x (t o) 64) (T x (t (o+1)) 64)) (A.bin o1 .u64 x (t (o+2)))
def schedV (w:Nat→Int) (i15 i2 i16 i7:Nat):Int:=A.bin .add .u64 (A.bin .add .u64 (A.bin .add .u64 (w i16) (mixS A T t .shr 6 (w i15))) (w i7)) (mixS A T t .shr 9 (w i2))
def schedS (w:Nat→Int):Nat→Nat→Int
 | 0=>w
 | a+1=>fun j=>if j=16+a then schedV A T t (schedS w a) (a+1) (a+14) a (a+9) else schedS w a j
def oneS (k w:Int) (s:Nat→Int):Int :=
 A.bin .add .u64 (A.bin .add .u64 (A.bin .add .u64 (A.bin .add .u64 (s 7) (A.bin .xor .u64 (A.bin .xor .u64 (T (s 4) (t 3) 64) (T (s 4) (t 4) 64)) (T (s 4) (t 5) 64))) (A.bin .xor .u64 (A.bin .and .u64 (s 4) (s 5)) (A.bin .and .u64 (A.un .xor .u64 (s 4)) (s 6)))) k) w
def twoS (s:Nat→Int):Int :=
 A.bin .add .u64 (A.bin .xor .u64 (A.bin .xor .u64 (T (s 0) (t 0) 64) (T (s 0) (t 1) 64)) (T (s 0) (t 2) 64)) (A.bin .xor .u64 (A.bin .xor .u64 (A.bin .and .u64 (s 0) (s 1)) (A.bin .and .u64 (s 0) (s 2))) (A.bin .and .u64 (s 1) (s 2)))
def roundS (w:Nat→Int):Nat→(Nat→Int)→Nat→Int
 | 0,s=>s
 | a+1,s=>fun j=>match j with
  | 0=>A.bin .add .u64 (oneS A T t (R a) (w a) (roundS w a s)) (twoS A T t (roundS w a s))
  | 1=>roundS w a s 0
  | 2=>roundS w a s 1
  | 3=>roundS w a s 2
  | 4=>A.bin .add .u64 (roundS w a s 3) (oneS A T t (R a) (w a) (roundS w a s))
  | 5=>roundS w a s 4
  | 6=>roundS w a s 5
  | 7=>roundS w a s 6
  | j=>s j
def lastS (h x:Nat→Int) (a:Nat):Nat→Int:=fun j=>if j<a then A.bin .add .u64 (h j) (x j) else h j
structure ShF where
 word:(Nat→Int)→Nat→Int
 words:(Nat→Int)→(Nat→Int)→Nat→Nat→Int
 sched:(Nat→Int)→Nat→Nat→Int
 round:(Nat→Int)→Nat→(Nat→Int)→Nat→Int
 last:(Nat→Int)→(Nat→Int)→Nat→Nat→Int
def shF:ShF:=⟨wordS A,wordsS A,fun w i=>schedS A T t w (i - 16),roundS A T t R,lastS A⟩
def ShF.block (F:ShF) (h f:Nat→Int):Nat→Int:=F.last h (F.round (F.sched (F.words f (fun _=>0) 16) 80) 80 h) 8
end
end Sx
namespace Sy
open Go Sx
def keepH (ks:List Nat) (l:List HV):List HV:=(List.range l.length).map fun i=>if ks.contains i then getV l i else jV
def i64V (n:Int):HV:=.at (.pl (.int .i64 (.sym n)))
def u64V (n:Int):HV:=.at (.pl (.int .u64 (.sym n)))
def dataH (S:HS):HV→Nat→Int
 | .at (.xsl _ _ _ f)=>f
 | .at (.ls l _ _ _)=>(match getB S.bl l with
  | .row _ _ _ _ f=>f
  | _=>fun _=>0)
 | .at (.sl l _ _ off _)=>(match getB S.bl l with
  | .row _ _ _ _ f=>fun j=>f (off.val+j)
  | .fix [.pl (.arr _ _ f)]=>fun j=>f (off.val+j)
  | _=>fun _=>0)
 | _=>fun _=>0
def labOf:HV→Nat
 | .at (.ptr l _ _)=>l
 | .at (.sl l _ _ _ _)=>l
 | .at (.ls l _ _ _)=>l
 | _=>0
def arrOf (B:HB):Nat→Int:=match B with
 | .fix [.pl (.arr _ _ f)]=>f
 | _=>fun _=>0
def intOf:HV→Int
 | .at (.pl (.int _ n))=>n.val
 | _=>0
def stLoad (F:ShF) (S:HS) (a:{ a:Nat // a≤16 }):HS :=
 { S with sl:=(keepH [0,1,2,10,11] S.sl).set 12 (i64V (Int.ofNat a.1)),bl:=S.bl.set (labOf (getV S.sl 0)) (.fix [.pl (.arr .u64 80 (F.words (dataH S (getV S.sl 1)) (arrOf (getB S.bl (labOf (getV S.sl 0)))) a.1))]) }
def stLoad2 (F:ShF) (S:HS) (a:{ a:Nat // a≤8 }):HS :=
 { S with sl:=((keepH [0,1,2,6,10,11,12,23,24] S.sl).set 25 (i64V (Int.ofNat a.1))).set 7 (u64V (F.word (dataH S (getV S.sl 23)) a.1)) }
def annLoad (F:ShF):HAnn:=.inv _ (stLoad F) (fun a=>16 - a.1)
def annLoad2 (F:ShF):HAnn:=.inv _ (stLoad2 F) (fun a=>8 - a.1)
def stSched (F:ShF) (S:HS) (a:{ a:Nat // 16≤a∧a≤80 }):HS :=
 { S with sl:=(keepH [0,1,2,4,8] S.sl).set 10 (i64V (Int.ofNat a.1)),bl:=S.bl.set (labOf (getV S.sl 1)) (.fix [.pl (.arr .u64 80 (F.sched (arrOf (getB S.bl (labOf (getV S.sl 1)))) a.1))]) }
def annSched (F:ShF):HAnn:=.inv _ (stSched F) (fun a=>80 - a.1)
def stRound (F:ShF) (S:HS) (a:{ a:Nat // a≤80 }):HS :=
 { S with sl:=(((((((((keepH [0,1,2,4,8,15,121,122] S.sl).set 123 (i64V (Int.ofNat a.1))).set 16 (u64V (F.round (arrOf (getB S.bl (labOf (getV S.sl 1)))) a.1 (arrOf (getB S.bl (labOf (getV S.sl 15)))) 0))).set 17 (u64V (F.round (arrOf (getB S.bl (labOf (getV S.sl 1)))) a.1 (arrOf (getB S.bl (labOf (getV S.sl 15)))) 1))).set 18 (u64V (F.round (arrOf (getB S.bl (labOf (getV S.sl 1)))) a.1 (arrOf (getB S.bl (labOf (getV S.sl 15)))) 2))).set 19 (u64V (F.round (arrOf (getB S.bl (labOf (getV S.sl 1)))) a.1 (arrOf (getB S.bl (labOf (getV S.sl 15)))) 3))).set 20 (u64V (F.round (arrOf (getB S.bl (labOf (getV S.sl 1)))) a.1 (arrOf (getB S.bl (labOf (getV S.sl 15)))) 4))).set 21 (u64V (F.round (arrOf (getB S.bl (labOf (getV S.sl 1)))) a.1 (arrOf (getB S.bl (labOf (getV S.sl 15)))) 5))).set 22 (u64V (F.round (arrOf (getB S.bl (labOf (getV S.sl 1)))) a.1 (arrOf (getB S.bl (labOf (getV S.sl 15)))) 6))).set 23 (u64V (F.round (arrOf (getB S.bl (labOf (getV S.sl 1)))) a.1 (arrOf (getB S.bl (labOf (getV S.sl 15)))) 7)) }
def annRound (F:ShF):HAnn:=.inv _ (stRound F) (fun a=>80 - a.1)
def loopsS (F:ShF):List (Nat × (HS→HAnn)) :=
 [(7501,fun _=>annLoad F),(7505,fun _=>annLoad2 F),(7602,fun _=>annSched F),(7611,fun _=>annRound F),(7618,fun _=>.unroll 9)]
end Sy
namespace Sx
theorem nadd_eq (a b:Nat):nadd a b=a+b:=choice_add a b
theorem nsub_eq (a b:Nat):nsub a b=a - b:=choice_sub a b
theorem m8 {a:Nat} (h:a≤16):realBin .mul .i64 (Int.ofNat a) 8=Int.ofNat (8*a):=by
 rw [mul_i64 (by simp only [Int.ofNat_eq_natCast];omega)]
 simp only [Int.ofNat_eq_natCast]
 omega
theorem a1 {a:Nat} (h:a≤4611686018427387904):realBin .add .i64 (Int.ofNat a) 1=Int.ofNat (a+1):=by
 rw [add_i64 (by simp only [Int.ofNat_eq_natCast];omega)]
 rfl
theorem lss_t {a b:Nat}:realCmp .lss (Int.ofNat a) (Int.ofNat b)=true↔a<b:=by
 simp only [realCmp,decide_eq_true_eq,Int.ofNat_eq_natCast]
 omega
theorem lss_f {a b:Nat}:realCmp .lss (Int.ofNat a) (Int.ofNat b)=false↔b≤a:=by
 simp only [realCmp,decide_eq_false_iff_not,Int.ofNat_eq_natCast]
 omega
theorem sb64 {a k:Nat} {z:Int} (hz:z=Int.ofNat k) (h:k≤a) (ha:a≤4611686018427387904):realBin .sub .i64 (Int.ofNat a) z=Int.ofNat (a - k):=by
 subst hz
 rw [sub_i64 (by simp only [Int.ofNat_eq_natCast];omega)]
 simp only [Int.ofNat_eq_natCast]
 omega
theorem win {a n:Nat} (h:a<n):Within (Int.ofNat a) n:=⟨by simp only [Int.ofNat_eq_natCast];omega,by simp only [Int.ofNat_eq_natCast];omega⟩
theorem upt {a n:Nat} (h:a≤n):Upto (Int.ofNat a) n:=⟨by simp only [Int.ofNat_eq_natCast];omega,by simp only [Int.ofNat_eq_natCast];omega⟩
end Sx
namespace Sx
open Go
section
variable {F:ShF} {T:Int→Int→Int→Int} {t R:Nat→Int} (hF:F=shF realOps T t R)
include hF
theorem word_0 (h:Nat→Int):F.word h 0=0:=by rw [hF];rfl
theorem word_s (h:Nat→Int) (b:Nat):F.word h (b+1)=realBin .or .u64 (realBin .shl .u64 (F.word h b) 8) (IntKind.wrap .u64 (h b)):=by rw [hF];rfl
theorem words_0 (f g:Nat→Int) (i:Nat):g i=F.words f g 0 i:=by rw [hF];rfl
theorem words_s (f g:Nat→Int) (a i:Nat) {h:Nat→Int} (hh:∀ j,h j=f (8*a+j)):upd (F.words f g a) a (F.word h 8) i=F.words f g (a+1) i:=by
 have:h=fun j=>f (8*a+j):=funext hh
 subst this
 rw [hF]
 simp only [shF,wordsS,upd]
 by_cases h1:i=a
 ·subst h1
  rw [if_pos rfl,if_pos (by omega)]
 ·rw [if_neg h1]
  by_cases h2:i<a
  ·rw [if_pos h2,if_pos (by omega)]
  ·rw [if_neg h2,if_neg (by omega)]
theorem sched_0 (w:Nat→Int) (i:Nat):w i=F.sched w 16 i:=by rw [hF];rfl
theorem sched_s (w:Nat→Int) {a y15 y2 y16 y7:Nat} (h:16≤a) (h15:y15=a - 15) (h2:y2=a - 2) (h16:y16=a - 16) (h7:y7=a - 7) (i:Nat):upd (F.sched w a) a (schedV realOps T t (F.sched w a) y15 y2 y16 y7) i=F.sched w (a+1) i:=by
 subst h15 h2 h16 h7
 obtain ⟨b,rfl⟩:∃ b,a=16+b:=⟨a - 16,by omega⟩
 rw [hF]
 simp only [shF,upd]
 rw [show 16+b+1 - 16=b+1 by omega,show 16+b - 16=b by omega,show 16+b - 15=b+1 by omega,show 16+b - 2=b+14 by omega,show 16+b - 7=b+9 by omega]
 rfl
theorem round_0 (w:Nat→Int) (s:Nat→Int) (i:Nat):s i=F.round w 0 s i:=by rw [hF];rfl
theorem round_s (w s:Nat→Int) (a:Nat):F.round w (a+1) s 0=realBin .add .u64 (oneS realOps T t (R a) (w a) (F.round w a s)) (twoS realOps T t (F.round w a s))∧F.round w (a+1) s 1=F.round w a s 0∧F.round w (a+1) s 2=F.round w a s 1∧F.round w (a+1) s 3=F.round w a s 2∧F.round w (a+1) s 4=realBin .add .u64 (F.round w a s 3) (oneS realOps T t (R a) (w a) (F.round w a s))∧F.round w (a+1) s 5=F.round w a s 4∧F.round w (a+1) s 6=F.round w a s 5∧F.round w (a+1) s 7=F.round w a s 6:=by
 rw [hF]
 exact ⟨rfl,rfl,rfl,rfl,rfl,rfl,rfl,rfl⟩
theorem last_8 (h x:Nat→Int):upd (upd (upd (upd (upd (upd (upd (upd h 0 (realBin .add .u64 (h 0) (x 0))) 1 (realBin .add .u64 (h 1) (x 1))) 2 (realBin .add .u64 (h 2) (x 2))) 3 (realBin .add .u64 (h 3) (x 3))) 4 (realBin .add .u64 (h 4) (x 4))) 5 (realBin .add .u64 (h 5) (x 5))) 6 (realBin .add .u64 (h 6) (x 6))) 7 (realBin .add .u64 (h 7) (x 7))=F.last h x 8:=by
 rw [hF]
 funext j
 simp only [shF,lastS,upd]
 by_cases h7:j=7
 ·subst h7;rfl
 rw [if_neg h7]
 by_cases h6:j=6
 ·subst h6;rfl
 rw [if_neg h6]
 by_cases h5:j=5
 ·subst h5;rfl
 rw [if_neg h5]
 by_cases h4:j=4
 ·subst h4;rfl
 rw [if_neg h4]
 by_cases h3:j=3
 ·subst h3;rfl
 rw [if_neg h3]
 by_cases h2:j=2
 ·subst h2;rfl
 rw [if_neg h2]
 by_cases h1:j=1
 ·subst h1;rfl
 rw [if_neg h1]
 by_cases h0:j=0
 ·subst h0;rfl
 rw [if_neg h0,if_neg (by omega)]
end
end Sx
namespace Sy
open Go Sx
def dgB (c:SI) (q h:Nat→Int) (r:HA):HB:=.fix [.pl (.int .i64 (.lit 512)),.pl (.int .i64 c),.pl (.arr .u32 8 q),.pl (.arr .u64 8 h),r]
def jn:Nat→List HV
 | 0=>[]
 | n+1=>jV :: jn n
end Sy

namespace Sy
open Go Sx
def Keeps (bl bs bt:List HB):Prop:=∀ l v v',okN bl bl l v v'=true→okN bs bt l v v'=true
theorem leA_keep {bl bs bt:List HB} (hk:Keeps bl bs bt) {x y:HA} (h:leA bl bl x y):leA bs bt x y:=by
 cases x <;> cases y <;> first | exact h | exact ⟨h.1,hk _ _ _ h.2.1,h.2.2⟩ | exact ⟨h.1,h.2.1,hk _ _ _ h.2.2.1,h.2.2.2⟩
theorem leAs_keep {bl bs bt:List HB} (hk:Keeps bl bs bt):∀ {x y:List HA},leAs bl bl x y→leAs bs bt x y
 | [],[],_=>trivial
 | _ :: _,_ :: _,⟨a,b⟩=>⟨leA_keep hk a,leAs_keep hk b⟩
 | [],_ :: _,h=>h.elim
 | _ :: _,[],h=>h.elim
theorem leV_keep {bl bs bt:List HB} (hk:Keeps bl bs bt) {x y:HV} (h:leV bl bl x y):leV bs bt x y:=by
 unfold leV at h
 split at h
 ·unfold leV;trivial
 ·have:=leA_keep hk h
  unfold leV
  split
  ·trivial
  ·rename_i e1 e2;cases e1;cases e2;exact this
  ·rename_i e1 e2;cases e1
  ·rename_i e1 e2;cases e1
  ·rename_i e1 e2 e3 e4;exact absurd rfl (e2 _ _ rfl)
 ·exact ⟨leAs_keep hk h.1,h.2⟩
 ·exact leAs_keep hk h
 ·exact h.elim
theorem leVs_keep {bl bs bt:List HB} (hk:Keeps bl bs bt):∀ {x y:List HV},leVs bl bl x y→leVs bs bt x y
 | [],[],_=>trivial
 | _ :: _,_ :: _,⟨a,b⟩=>⟨leV_keep hk a,leVs_keep hk b⟩
 | [],_ :: _,h=>h.elim
 | _ :: _,[],h=>h.elim
theorem leFs_keep {bl bs bt:List HB} (hk:Keeps bl bs bt):∀ {x y:List (List HV)},leFs bl bl x y→leFs bs bt x y
 | [],[],_=>trivial
 | _ :: _,_ :: _,⟨a,b⟩=>⟨leVs_keep hk a,leFs_keep hk b⟩
 | [],_ :: _,h=>h.elim
 | _ :: _,[],h=>h.elim
theorem leB_keep {bl bs bt:List HB} (hk:Keeps bl bs bt) {x y:HB} (h:leB bl bl x y):leB bs bt x y:=by
 cases x <;> cases y <;> first | trivial | exact h | exact ⟨leAs_keep hk h.1,h.2⟩
theorem leBs_keep {bl bs bt:List HB} (hk:Keeps bl bs bt):∀ {x y:List HB},leBs bl bl x y→leBs bs bt x y
 | [],[],_=>trivial
 | _ :: _,[],_=>trivial
 | _ :: _,_ :: _,⟨a,b⟩=>⟨leB_keep hk a,leBs_keep hk b⟩
 | [],_ :: _,h=>h.elim
theorem keeps_bump {bl bs bt:List HB} {l v u:Nat} (hv:curV (getB bl l)=some v) (hu:curV (getB bt l)=some u) (hlt:v<u) (ho:∀ i,i≠l→∀ x,curV (getB bl i)=some x→curV (getB bs i)=some x∧curV (getB bt i)=some x):Keeps bl bs bt:=by
 intro i x x' h
 by_cases hi:i=l
 ·subst hi
  unfold okN at h ⊢
  rw [hv] at h
  rw [hu]
  simp only at h ⊢
  split at h
  ·rename_i e
   have e2:v=x:=by simpa using h
   rw [if_neg (by omega)]
   simp only [Bool.and_eq_true,beq_iff_eq,Nat.ble_eq]
   omega
  ·simp only [Bool.and_eq_true,beq_iff_eq,Nat.ble_eq] at h
   rw [if_neg (by omega)]
   simp only [Bool.and_eq_true,beq_iff_eq,Nat.ble_eq]
   omega
 ·unfold okN at h
  split at h
  ·rename_i y hy
   obtain ⟨a,b⟩:=ho i hi y hy
   unfold okN
   rw [a,b]
   simp only
   exact h
  ·cases h
theorem getB_app {bl r:List HB} {i:Nat} (h:i<bl.length):getB (bl ++ r) i=getB bl i:=by
 simp only [getB_D,List.getD_eq_getElem?_getD]
 rw [List.getElem?_append_left h]
theorem cur_lt {bl:List HB} {i x:Nat} (h:curV (getB bl i)=some x):i<bl.length:=by
 rcases Nat.lt_or_ge i bl.length with h' | h'
 ·exact h'
 ·simp [getB_D,List.getD_eq_getElem?_getD,List.getElem?_eq_none h',curV] at h
theorem leBs_set3:∀ {bs bt x:List HB} (l:Nat) {B1 B2:HB} (r:List HB),leBs bs bt x x→leB bs bt B1 B2→leBs bs bt (x.set l B1 ++ r) (x.set l B2)
 | bs,bt,[],l,B1,B2,r,h,_=>by simpa using leBs_nil bs bt r
 | bs,bt,a :: x,0,B1,B2,r,h,hB=>⟨hB,by
   show leBs bs bt (x ++ r) x
   have:∀ {y:List HB},leBs bs bt y y→leBs bs bt (y ++ r) y:=by
    intro y
    induction y with
    | nil=>intro _;exact leBs_nil _ _ _
    | cons z y ih=>intro h;exact ⟨h.1,ih h.2⟩
   exact this h.2⟩
 | bs,bt,a :: x,l+1,B1,B2,r,h,hB=>⟨h.1,leBs_set3 l r h.2 hB⟩
theorem OKs.bump {bl:List HB} {fr:List (List HV)} (h:OKs bl fr) (l v u:Nat) (B1 B2:HB) (r:List HB) (hv:curV (getB bl l)=some v) (hu:curV B2=some u) (hlt:v<u) (hB:leB (bl.set l B1 ++ r) (bl.set l B2) B1 B2) :
  LeFs (bl.set l B1 ++ r) (bl.set l B2) fr fr∧LeBs (bl.set l B1 ++ r) (bl.set l B2) (bl.set l B1 ++ r) (bl.set l B2):=by
 have hl:=cur_lt hv
 have hk:Keeps bl (bl.set l B1 ++ r) (bl.set l B2):=keeps_bump hv (by rw [getB_set,if_pos ⟨rfl,hl⟩];exact hu) hlt (fun i hi x hx=>by
  have hil:=cur_lt hx
  rw [getB_app (by simpa using hil),getB_set,getB_set,if_neg (fun e=>hi e.1),if_neg (fun e=>hi e.1)]
  exact ⟨hx,hx⟩)
 exact ⟨⟨leFs_keep hk h.fr⟩,⟨leBs_set3 l r (leBs_keep hk h.bl) hB⟩⟩
theorem OKs.setBump {bl:List HB} {fr:List (List HV)} (h:OKs bl fr) (l v u:Nat) (B:HB) (hv:curV (getB bl l)=some v) (hu:curV B=some u) (hlt:v<u) (hB:leB (bl.set l B) (bl.set l B) B B):OKs (bl.set l B) fr:=by
 have hl:=cur_lt hv
 have hk:Keeps bl (bl.set l B) (bl.set l B):=keeps_bump hv (by rw [getB_set,if_pos ⟨rfl,hl⟩];exact hu) hlt (fun i hi x hx=>by
  rw [getB_set,if_neg (fun e=>hi e.1)]
  exact ⟨hx,hx⟩)
 exact ⟨leFs_keep hk h.fr,leBs_set2 l (leBs_keep hk h.bl) hB⟩
theorem OKs.leE {bl:List HB} {fr:List (List HV)} (h:OKs bl fr) (l:Nat) (B1 B2:HB) (r:List HB) (h1:curV (getB bl l)=curV B1) (h2:curV (getB bl l)=curV B2) (hB:leB (bl.set l B1 ++ r) (bl.set l B2) B1 B2) :
  LeFs (bl.set l B1 ++ r) (bl.set l B2) fr fr∧LeBs (bl.set l B1 ++ r) (bl.set l B2) (bl.set l B1 ++ r) (bl.set l B2):=by
 have s1:SameCur bl (bl.set l B1 ++ r):=fun i v hv=>sameCur_app _ r i v (sameCur_set h1 i v hv)
 exact ⟨⟨leFs_mono s1 (sameCur_set h2) h.fr⟩,⟨leBs_set3 l r (leBs_mono s1 (sameCur_set h2) h.bl) hB⟩⟩
theorem slf5 {bl:List HB} {a c:SI} {k k':IntKind} {n n':Nat} {f g:Nat→Int} {r:HA} (h:slfA bl r=true):slfL bl [.pl (.int .i64 a),.pl (.int .i64 c),.pl (.arr k n f),.pl (.arr k' n' g),r]=true:=by
 show (match slfA bl r with | true=>true | false=>false)=true
 rw [h]
end Sy

namespace Sx
open Go
theorem geq128_t {a:Nat}:realCmp .geq (Int.ofNat a) 128=true↔128≤a:=by
 simp only [realCmp,decide_eq_true_eq,Int.ofNat_eq_natCast]
 omega
theorem geq128_f {a:Nat}:realCmp .geq (Int.ofNat a) 128=false↔a<128:=by
 simp only [realCmp,decide_eq_false_iff_not,Int.ofNat_eq_natCast]
 omega
theorem lss128_t {a:Nat}:realCmp .lss (Int.ofNat a) 128=true↔a<128:=by
 simp only [realCmp,decide_eq_true_eq,Int.ofNat_eq_natCast]
 omega
theorem lss128_f {a:Nat}:realCmp .lss (Int.ofNat a) 128=false↔128≤a:=by
 simp only [realCmp,decide_eq_false_iff_not,Int.ofNat_eq_natCast]
 omega
def chainS (F:ShF) (h f:Nat→Int):Nat→Nat→Int
 | 0=>h
 | a+1=>F.block (chainS F h f a) (fun j=>f (128*a+j))
def padS (f:Nat→Int) (L:Nat):Nat→Int:=fun j=>if j<L then f j else 0
def bitsS (f:Nat→Int) (L:Nat) (x:Int) (a:Nat):Nat→Int:=fun j=>if j<L then f j else if j<L+a then IntKind.wrap .u8 (realBin .shr .u64 x (Int.ofNat (8*(7 - (j - L))))) else 0
def layS (h:Nat→Int):Nat→Nat→Int
 | 0=>fun _=>0
 | a+1=>bitsS (layS h a) (8*a) (h a) 8
structure ShG where
 m:Nat→Nat
 e:Nat→Nat
 s:Nat→Nat→Nat
 p:Nat→Nat→Nat
 t:Nat→Nat
 i:Nat→Int
 chain:(Nat→Int)→(Nat→Int)→Nat→Nat→Int
 pad:(Nat→Int)→Nat→Nat→Int
 bits:(Nat→Int)→Nat→Int→Nat→Nat→Int
 lay:(Nat→Int)→Nat→Nat→Int
def shG (F:ShF):ShG:=⟨fun a=>128*a,fun a=>8*a,fun a b=>a - b,fun a b=>a+b,fun L=>(240 - L % 128) % 128,fun a=>7 - Int.ofNat a,chainS F,padS,bitsS,layS⟩
section
variable {G:ShG} {F:ShF} (hG:G=shG F)
include hG
theorem g_m (a:Nat):G.m a=128*a:=by rw [hG];rfl
theorem g_e (a:Nat):G.e a=8*a:=by rw [hG];rfl
theorem g_s (a b:Nat):G.s a b=a - b:=by rw [hG];rfl
theorem g_p (a b:Nat):G.p a b=a+b:=by rw [hG];rfl
theorem g_t (L:Nat):G.t L=(240 - L % 128) % 128:=by rw [hG];rfl
theorem g_i (a:Nat):G.i a=7 - Int.ofNat a:=by rw [hG];rfl
theorem lay_8 (h:Nat→Int):G.bits (G.bits (G.bits (G.bits (G.bits (G.bits (G.bits (G.bits (fun _=>0) 0 (h 0) 8) (G.p 0 8) (h 1) 8) (G.p (G.p 0 8) 8) (h 2) 8) (G.p (G.p (G.p 0 8) 8) 8) (h 3) 8) (G.p (G.p (G.p (G.p 0 8) 8) 8) 8) (h 4) 8) (G.p (G.p (G.p (G.p (G.p 0 8) 8) 8) 8) 8) (h 5) 8) (G.p (G.p (G.p (G.p (G.p (G.p 0 8) 8) 8) 8) 8) 8) (h 6) 8) (G.p (G.p (G.p (G.p (G.p (G.p (G.p 0 8) 8) 8) 8) 8) 8) 8) (h 7) 8=G.lay h 8:=by
 rw [hG]
 rfl
theorem p_8:G.p (G.p (G.p (G.p (G.p (G.p (G.p (G.p 0 8) 8) 8) 8) 8) 8) 8) 8=G.e 8:=by rw [hG];rfl
theorem bits_0 (f:Nat→Int) (L:Nat) (x:Int) (j:Nat) (h:j<L):f j=G.bits f L x 0 j:=by
 rw [hG]
 simp only [shG,bitsS]
 rw [if_pos h]
theorem bits_s (f:Nat→Int) (L:Nat) (x:Int) (a:Nat) {g:Nat→Int} (hg:g 0=IntKind.wrap .u8 (realBin .shr .u64 x (Int.ofNat (8*(7 - a))))) (j:Nat) (h:j<L+(a+1)):joinF (L+a) (G.bits f L x a) g j=G.bits f L x (a+1) j:=by
 rw [hG]
 simp only [shG,bitsS,joinF]
 by_cases h1:j<L
 ·rw [if_pos (by omega),if_pos h1,if_pos h1]
 ·by_cases h2:j<L+a
  ·rw [if_pos h2,if_neg h1,if_pos h2,if_neg h1,if_pos h]
  ·rw [if_neg h2,if_neg h1,if_pos h,show j - (L+a)=0 by omega,hg,show j - L=a by omega]
theorem pad_rem (L a:Nat) (hL:L+a≤100000):realBin .rem .i64 (Int.ofNat (G.p L a)) 128=Int.ofNat ((L+a) % 128):=by
 rw [g_p hG]
 show Int.tmod (Int.ofNat (L+a)) 128=_
 rfl
theorem pad_true (L a:Nat) (hL:L≤1000) (ha:a≤G.t L) (h:realCmp .neq (realBin .rem .i64 (Int.ofNat (G.p L a)) 128) 112=true):a<G.t L:=by
 have ht:=g_t hG L
 rw [pad_rem hG L a (by omega)] at h
 simp only [realCmp,bne_iff_ne,ne_eq,Int.ofNat_eq_natCast] at h
 omega
theorem pad_false (L a:Nat) (hL:L≤1000) (ha:a≤G.t L) (h:realCmp .neq (realBin .rem .i64 (Int.ofNat (G.p L a)) 128) 112=false):a=G.t L:=by
 have ht:=g_t hG L
 rw [pad_rem hG L a (by omega)] at h
 simp only [realCmp,bne_eq_false_iff_eq,Int.ofNat_eq_natCast] at h
 omega
theorem pad_0 (f:Nat→Int) (L j:Nat) (h:j<L):f j=G.pad f L j:=by
 rw [hG]
 simp only [shG,padS]
 rw [if_pos h]
theorem pad_s (f:Nat→Int) (L a:Nat) {g:Nat→Int} (hg:g 0=0) (j:Nat) (h:j<L+a+1):joinF (G.p L a) (G.pad f L) g j=G.pad f L j:=by
 have e1:G.pad f L=fun j=>if j<L then f j else 0:=by rw [hG];rfl
 rw [g_p hG,e1]
 show (if j<L+a then (if j<L then f j else 0) else g (j - (L+a)))=(if j<L then f j else 0)
 by_cases h1:j<L+a
 ·rw [if_pos h1]
 ·rw [if_neg h1,show j - (L+a)=0 by omega,hg,if_neg (by omega)]
theorem chain_0 (h f:Nat→Int):G.chain h f 0=h:=by rw [hG];rfl
theorem chain_s (h f:Nat→Int) (a:Nat) {g:Nat→Int} (hg:∀ j,g j=f (128*a+j)):F.block (G.chain h f a) g=G.chain h f (a+1):=by
 have:g=fun j=>f (128*a+j):=funext hg
 subst this
 rw [hG]
 rfl
end
end Sx
namespace Sy
open Go Sx
def getH:HB→Nat→Int
 | .fix [_,_,_,.pl (.arr _ _ f),_]=>f
 | _=>fun _=>0
def setH (h:Nat→Int):HB→HB
 | .fix [a,b,c,_,e]=>.fix [a,b,c,.pl (.arr .u64 8 h),e]
 | x=>x
def rowF:HB→Nat→Int
 | .row _ _ _ _ f=>f
 | _=>fun _=>0
def verOf:HV→Nat
 | .at (.ls _ v _ _)=>v
 | .at (.sl _ v _ _ _)=>v
 | _=>0
def lenOf:HV→Nat
 | .at (.ls _ _ _ n)=>n.val
 | .at (.sl _ _ _ _ n)=>n.val
 | .at (.xsl _ _ n _)=>n.val
 | _=>0
def xslF:HV→Nat→Int
 | .at (.xsl _ _ _ f)=>f
 | _=>fun _=>0
def stWrite (kk:Nat) (G:ShG) (S:HS) (a:{ a:Nat // G.m a≤lenOf (getV S.sl 1) }):HS :=
 { S with sl:=(keepH [0,4] S.sl).set 1 (.at (.xsl .u8 1 (.sym (G.s (lenOf (getV S.sl 1)) (G.m a.1))) (fun j=>xslF (getV S.sl 1) (G.m a.1+j)))),bl:=(S.bl.take kk).set (labOf (getV S.sl 0)) (setH (G.chain (getH (getB S.bl (labOf (getV S.sl 0)))) (xslF (getV S.sl 1)) a.1) (getB S.bl (labOf (getV S.sl 0)))) }
def annWrite (kk:Nat) (G:ShG) (S:HS):HAnn :=
 match getV S.sl 1 with
 | .at (.xsl _ _ (.sym _) _)=>.inv { a:Nat // G.m a≤lenOf (getV S.sl 1) } (fun _ a=>stWrite kk G S a) (fun a=>lenOf (getV S.sl 1) - G.m a.1)
 | _=>.unroll 3
def stPad (G:ShG) (S:HS) (a:{ a:Nat // a≤G.t (lenOf (getV S.sl 5)) }):HS :=
 { S with sl:=(keepH [0,3,4] S.sl).set 5 (.at (.ls (labOf (getV S.sl 5)) (verOf (getV S.sl 5)+1) 1 (.sym (G.p (lenOf (getV S.sl 5)) a.1)))),bl:=(S.bl.take (labOf (getV S.sl 5)+1)).set (labOf (getV S.sl 5)) (.row (verOf (getV S.sl 5)+1) .u8 1 (.sym (G.p (lenOf (getV S.sl 5)) a.1)) (G.pad (rowF (getB S.bl (labOf (getV S.sl 5)))) (lenOf (getV S.sl 5)))) }
def annPad (G:ShG) (S:HS):HAnn:=.inv { a:Nat // a≤G.t (lenOf (getV S.sl 5)) } (fun _ a=>stPad G S a) (fun a=>G.t (lenOf (getV S.sl 5)) - a.1)
def stBits (G:ShG) (S:HS) (a:{ a:Nat // a≤8 }):HS :=
 { S with sl:=((keepH [0,3,4,6] S.sl).set 7 (i64V (G.i a.1))).set 5 (.at (.ls (labOf (getV S.sl 5)) (verOf (getV S.sl 5)+1) 1 (.sym (G.p (lenOf (getV S.sl 5)) a.1)))),bl:=(S.bl.take (labOf (getV S.sl 5)+1)).set (labOf (getV S.sl 5)) (.row (verOf (getV S.sl 5)+1) .u8 1 (.sym (G.p (lenOf (getV S.sl 5)) a.1)) (G.bits (rowF (getB S.bl (labOf (getV S.sl 5)))) (lenOf (getV S.sl 5)) (intOf (getV S.sl 6)) a.1)) }
def annBits (G:ShG):HAnn:=.inv _ (stBits G) (fun a=>8 - a.1)
def stMix (G:ShG) (S:HS) (a:{ a:Nat // G.m a≤lenOf (getV S.sl 5) }):HS :=
 { S with sl:=(keepH [3,4] S.sl).set 5 (.at (.sl (labOf (getV S.sl 5)) (verOf (getV S.sl 5)) 1 (.sym (G.m a.1)) (.sym (G.s (lenOf (getV S.sl 5)) (G.m a.1))))),bl:=(S.bl.take (labOf (getV S.sl 5)+1)).set (labOf (getV S.sl 4)) (setH (G.chain (getH (getB S.bl (labOf (getV S.sl 4)))) (rowF (getB S.bl (labOf (getV S.sl 5)))) a.1) (getB S.bl (labOf (getV S.sl 4)))) }
def annMix (G:ShG) (S:HS):HAnn:=.inv { a:Nat // G.m a≤lenOf (getV S.sl 5) } (fun _ a=>stMix G S a) (fun a=>lenOf (getV S.sl 5) - G.m a.1)
def stLay2 (G:ShG) (S:HS) (a:{ a:Nat // a≤8 }):HS :=
 { S with sl:=((keepH [1,2,8,10,11,12] S.sl).set 9 (i64V (G.i a.1))).set 0 (.at (.ls (labOf (getV S.sl 0)) (verOf (getV S.sl 0)+1) 1 (.sym (G.p (lenOf (getV S.sl 0)) a.1)))),bl:=(S.bl.take (labOf (getV S.sl 0)+1)).set (labOf (getV S.sl 0)) (.row (verOf (getV S.sl 0)+1) .u8 1 (.sym (G.p (lenOf (getV S.sl 0)) a.1)) (G.bits (rowF (getB S.bl (labOf (getV S.sl 0)))) (lenOf (getV S.sl 0)) (intOf (getV S.sl 8)) a.1)) }
def annLay2 (G:ShG):HAnn:=.inv _ (stLay2 G) (fun a=>8 - a.1)
def loopsG (kk:Nat) (G:ShG):List (Nat × (HS→HAnn)) :=
 [(5110,annWrite kk G),(5207,annPad G),(5213,fun _=>annBits G),(5216,annMix G),(7802,fun _=>.unroll 9),(7805,fun _=>annLay2 G),(3903,fun _=>.unroll 4)]
end Sy
namespace Sx
open Go
def oneQ (n:Nat) (f:Nat→Int):Nat→Int:=joinF n (joinF 0 (fun _=>0) f) (fun j=>upd (fun _=>0) 0 128 (0+j))
def padQ (G:ShG) (n n1:Nat) (f:Nat→Int):Nat→Int:=G.pad (oneQ n f) n1
def preQ (G:ShG) (n n1:Nat) (f:Nat→Int):Nat→Int:=joinF (G.p n1 (G.t n1)) (padQ G n n1 f) (fun j=>upd (upd (upd (upd (upd (upd (upd (upd (fun _=>0) 0 0) 1 0) 2 0) 3 0) 4 0) 5 0) 6 0) 7 0 (0+j))
noncomputable def tlQ (G:ShG) (bits:Int) (n n1:Nat) (f:Nat→Int):Nat→Int:=G.bits (preQ G n n1 f) (nadd (G.p n1 (G.t n1)) 8) bits 8
def nQ (G:ShG):Nat→Nat
 | 0=>0
 | k+1=>G.p (nQ G k) 8
def fQ (G:ShG) (h:Nat→Int):Nat→Nat→Int
 | 0=>fun _=>0
 | k+1=>G.bits (fQ G h k) (nQ G k) (h k) 8
end Sx

namespace Sy
open Go Sx
def slfF (bl:List HB):List (List HV)→Bool
 | []=>true
 | x :: l=>match slfS bl x with
  | true=>slfF bl l
  | false=>false
def slfB1 (bl:List HB):HB→Bool
 | .fix ps=>slfL bl ps
 | .frz ..=>false
 | _=>true
def slfB (bl:List HB):List HB→Bool
 | []=>true
 | x :: l=>match slfB1 bl x with
  | true=>slfB bl l
  | false=>false
theorem leFs_self {bl:List HB}:∀ {l:List (List HV)},slfF bl l=true→leFs bl bl l l
 | [],_=>trivial
 | x :: l,h=>by
  unfold slfF at h
  split at h
  ·rename_i h1;exact ⟨leVs_self h1,leFs_self h⟩
  ·cases h
theorem leB1_self {bl:List HB} {x:HB} (h:slfB1 bl x=true):leB bl bl x x:=by
 cases x with
 | none=>trivial
 | fix ps=>exact leB_self h
 | row=>exact leB_row
 | frz=>cases h
theorem leBs_self {bl:List HB}:∀ {l:List HB},slfB bl l=true→leBs bl bl l l
 | [],_=>trivial
 | x :: l,h=>by
  unfold slfB at h
  split at h
  ·rename_i h1;exact ⟨leB1_self h1,leBs_self h⟩
  ·cases h
theorem OKs.ofS {bl:List HB} {fr:List (List HV)} (h1:slfF bl fr=true) (h2:slfB bl bl=true):OKs bl fr:=⟨leFs_self h1,leBs_self h2⟩
end Sy
namespace Sx
open Go
def Z8:Nat→Int:=upd (upd (upd (upd (upd (upd (upd (upd (fun _=>0) 0 0) 1 0) 2 0) 3 0) 4 0) 5 0) 6 0) 7 0
section
variable (F:ShF) (G:ShG)
noncomputable def tlenS (n1:Nat):Nat:=G.p (nadd (G.p n1 (G.t n1)) 8) 8
noncomputable def tailS (bits:Int) (n n1:Nat) (f:Nat→Int):Nat→Int :=
 G.bits (joinF (G.p n1 (G.t n1)) (G.pad (joinF n (joinF 0 (fun _=>0) f) (fun j=>upd (fun _=>0) 0 128 (0+j))) n1) (fun j=>Z8 (0+j))) (nadd (G.p n1 (G.t n1)) 8) bits 8
noncomputable def endS (h:Nat→Int) (bits:Int) (n n1:Nat) (f:Nat→Int):Nat→Int:=G.lay (G.chain h (tailS G bits n n1 f) (tlenS G n1 / 128)) 8
def headS (r p f:Nat→Int):Nat→Int:=joinF 64 (joinF 32 (fun j=>r (0+j)) (fun j=>p (0+j))) f
noncomputable def kS (n:Nat):Nat:=Int.toNat (Sy.imin (Int.ofNat 64) (Int.ofNat n))
def cntS (n:Nat):Int:=realBin .shl .u64 (IntKind.wrap .u64 (realBin .add .i64 64 (Int.ofNat n))) 3
noncomputable def hashS (s r p:Nat→Int) (n:Nat) (f:Nat→Int):Nat→Int :=
 if 2305843009213693887<n then endS G s 512 64 65 (joinF 32 (fun j=>r (0+j)) (fun j=>p (0+j)))
 else if n<64 then endS G s (cntS n) (nadd 64 (kS n)) (nadd (nadd 64 (kS n)) 1) (headS r p f)
 else endS G (G.chain (F.block s (headS r p f)) (fun j=>f (kS n+j)) (nsub n (kS n) / 128)) (cntS n) (G.s (nsub n (kS n)) (G.m (nsub n (kS n) / 128))) (nadd (G.s (nsub n (kS n)) (G.m (nsub n (kS n) / 128))) 1)
  (joinF 0 (headS r p f) (fun j=>(fun j=>f (kS n+j)) (G.m (nsub n (kS n) / 128)+j)))
noncomputable def kN (n:Nat):Nat:=Int.toNat (Sy.imin (Int.ofNat 96) (Int.ofNat n))
def cntN (n:Nat):Int:=realBin .shl .u64 (IntKind.wrap .u64 (realBin .add .i64 32 (Int.ofNat n))) 3
def headN (p f:Nat→Int):Nat→Int:=joinF 32 (fun j=>p (0+j)) f
noncomputable def hashN (s p:Nat→Int) (n:Nat) (f:Nat→Int):Nat→Int :=
 if 2305843009213693919<n then endS G s 256 32 33 (fun j=>p (0+j))
 else if n<96 then endS G s (cntN n) (nadd 32 (kN n)) (nadd (nadd 32 (kN n)) 1) (headN p f)
 else endS G (G.chain (F.block s (headN p f)) (fun j=>f (kN n+j)) (nsub n (kN n) / 128)) (cntN n) (G.s (nsub n (kN n)) (G.m (nsub n (kN n) / 128))) (nadd (G.s (nsub n (kN n)) (G.m (nsub n (kN n) / 128))) 1)
  (joinF 0 (headN p f) (fun j=>(fun j=>f (kN n+j)) (G.m (nsub n (kN n) / 128)+j)))
noncomputable def hash32S (s f:Nat→Int):Nat→Int:=endS G s 256 32 33 f
end
def chalC (K:(Nat→Int)→(Nat→Int)→Nat→(Nat→Int)→Nat→Int):Contract:=fun vs=>match vs with
 | [.arr .u8 32 r,.arr .u8 32 p,.xsl .u8 1 (.sym n) _ f]=>some ([],.arr .u8 32 (K r p n f))
 | _=>none
def sum32C (K:(Nat→Int)→Nat→Int):Contract:=fun vs=>match vs with
 | [.xsl .u8 1 (.lit 32) _ f]=>some ([],.arr .u8 64 (K f))
 | _=>none
end Sx

