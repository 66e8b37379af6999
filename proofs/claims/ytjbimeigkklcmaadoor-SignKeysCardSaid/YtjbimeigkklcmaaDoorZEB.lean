/-
  The abstract interpreter: loops, functions, rows. No condition.
-/
import Derived.Test.YtjbimeigkklcmaaDoorZEA
import Derived.Orders
import Derived.LoopN
import Derived.Deep.LoopGhost
import Derived.ChangeKeysEq
import Derived.KernelRfl
import Derived.WalkKit
import Derived.ProofKit
import Derived.OpenShut
import Derived.JoinedCond
import Derived.Deep.DeepHandedRow
import Derived.Lib.LaidTab
import Derived.Carry
import Derived.WideKeyArgs
import Derived.ChangeSlices

namespace Sx
open Go Go.RowKit
theorem rCell_get {v u:Value} {o:Nat} (h:rCell v o=u) (hu:u≠undef):v.cells[o]?=some u:=by
 unfold rCell at h
 split at h
 ·rename_i cs
  show cs[o]?=_
  rw [Array.getD_eq_getD_getElem?] at h
  cases hc:cs[o]? with
  | none=>rw [hc] at h;exact absurd h.symm hu
  | some x=>rw [hc] at h;exact congrArg some h
 ·exact absurd h.symm hu
section
variable {P:Program} {E:Env} {w0:World} {m:M} {S:St} {a:Act} {w:World} {gd:Gd}
theorem run_load_all {t:TypeId} {d:TypeDesc} (hd:P.underlying t=some d) (hg:isG d=true) {inf:TypeInfo} (hi:P.info? t=some inf) {ad:Addr} {cs:Array Value} (hs:cs.size=inf.size)
  (hc:∀ j,j<cs.size→w.cell? (ad.add j)=cs[j]?):(loadVar t ad).run P w=.ok (.agg cs) w:=by
 have hl:(loadCells ad inf.size).run P w=.ok ((List.range inf.size).map fun j=>cs.getD j undef).toArray w :=
  run_loadCells (P:=P) w ad inf.size _ (fun j hj=>by
   rw [hc j (by omega),Array.getD_eq_getD_getElem?,Array.getElem?_eq_getElem (by omega)]
   rfl)
 have e:((List.range inf.size).map fun j=>cs.getD j undef).toArray=cs:=by
  apply Array.ext
  ·simp [hs]
  ·intro i h1 h2
   simp [Array.getD_eq_getD_getElem?,Array.getElem?_eq_getElem h2]
 rw [e] at hl
 simp only [loadVar,Sem.run_bind,run_agg hd,hg,Result.andThen_ok,if_true,run_size hi,hl,Sem.run_pure]
theorem partO_ok (hP:EnvOK P E) {T:TypeId} {v:Value} {off:SO} {cs:List Prop} {r:AV} (h:partO E T v off=some (cs,r)) (hc:∀ p ∈ cs,p)
  {b:Nat} {T0:TypeId} {fz:Nat × Nat} (hg:w.heap[b]?=some (.cells v.cells T0 fz)) :
  (loadVar T ⟨b,off.val,none⟩).run P w=.ok (pv r) w∧plain r=true∧wfP r:=by
 have ht:=hP.ty T
 have hcell:E.acc.cell=rCell:=by rw [hP.acc];rfl
 have hnum:E.acc.num=rNum:=by rw [hP.acc];rfl
 unfold partO at h
 split at h
 ·rename_i k hd
  have h1:P.underlying T=some (.int k):=by unfold TyOK at ht;rw [hd] at ht;exact ht.1
  cases h
  obtain ⟨z,hz,hin⟩:=(hc _ (List.mem_singleton.2 rfl):IsNum k _).h
  rw [hcell] at hz
  have hv:=rCell_get hz (by simp [undef])
  rw [hcell,hnum,hz]
  exact ⟨run_load_one h1 rfl (by rw [cell_of_row w b _ _ T0 fz hg];exact hv),rfl,hin⟩
 ·rename_i hd
  cases h
  have hn:=(hc _ (List.mem_singleton.2 rfl):IsNums _ _ _).h
  rw [hcell] at hn
  rw [hcell,hnum]
  refine ⟨run_load_cells ht (by rw [hd];rfl) (f:=fun j=>rNum (rCell v (off.val+j))) (fun j hj=>?_),rfl,fun j hj=>?_⟩
  ·obtain ⟨z,hz,_⟩:=hn j hj
   have hv:=rCell_get hz (by simp [undef])
   rw [cell_of_row w b _ _ T0 fz hg,hv]
   show _=some (Value.int _ (rNum (rCell v (off.val+j))))
   rw [hz]
   rfl
  ·obtain ⟨z,hz,hin⟩:=hn j hj
   show inR _ (rNum (rCell v (off.val+j)))
   rw [hz]
   exact hin
 ·rename_i hd
  cases h
  have hn:=(hc _ (List.mem_singleton.2 rfl):IsNums _ _ _).h
  rw [hcell] at hn
  rw [hcell,hnum]
  refine ⟨run_load_cells ht (by rw [hd];rfl) (f:=fun j=>rNum (rCell v (off.val+j))) (fun j hj=>?_),rfl,fun j hj=>?_⟩
  ·obtain ⟨z,hz,_⟩:=hn j hj
   have hv:=rCell_get hz (by simp [undef])
   rw [cell_of_row w b _ _ T0 fz hg,hv]
   show _=some (Value.int _ (rNum (rCell v (off.val+j))))
   rw [hz]
   rfl
  ·obtain ⟨z,hz,hin⟩:=hn j hj
   show inR _ (rNum (rCell v (off.val+j)))
   rw [hz]
   exact hin
 ·rename_i e hd
  cases h
  obtain ⟨aa,l,c,hs,_⟩:=(hc _ (List.mem_singleton.2 rfl):IsSl _).h
  have h1:P.underlying T=some (.slice e):=by unfold TyOK at ht;rw [hd] at ht;exact ht
  rw [hcell] at hs
  have hv:=rCell_get hs (by simp [undef])
  rw [hcell,hs]
  exact ⟨run_load_one h1 rfl (by rw [cell_of_row w b _ _ T0 fz hg];exact hv),rfl,trivial⟩
 ·rename_i fs hd
  split at h
  ·cases h
   obtain ⟨cs',rfl,hs⟩:=(hc _ (List.mem_singleton.2 rfl):IsRec v _).h
   unfold TyOK at ht
   rw [hd] at ht
   obtain ⟨fields,hu,_,⟨inf,hi,hsz⟩,_⟩:=ht
   refine ⟨run_load_all hu rfl hi (by omega) (fun j hj=>?_),rfl,trivial⟩
   rw [addr_add,SO.val,Nat.zero_add,cell_of_row w b _ _ T0 fz hg]
   rfl
  ·cases h
 ·cases h
theorem loadO_ok (hP:EnvOK P E) (G:WOK E w0) (R:Rel w0 m S a w) (hg:GdOK S gd) {rd:List Nat} {o:Oper} {T:TypeId} {x:Operand} (ho:o.op=.load T x) (hk:constOk x=true) {cs:List Prop} {r:AV} {us:List (Nat × AV)}
  (h:loadO E rd gd S T x=some (cs,r)) (hret:ret1 o.dst cs r=some (cs,us)) (hc:∀ p ∈ cs,p) (hn:∀ d ∈ us.map Prod.fst,noWhen d S):Does P o a w (Led w0 S us):=by
 obtain ⟨hv,_⟩:=opg_ok R hg x hk
 have fin:∀ (b off:Nat),a.eval x=.pointer (some ⟨b,off,none⟩)→(loadVar T ⟨b,off,none⟩).run P w=.ok (pv r) w∧plain r=true∧wfP r→Does P o a w (Led w0 S us):=by
  intro b off he ⟨hl,hp,hw⟩
  refine led_value (i:=0) R rfl ?_ hret (plain_free hp) (VR_pv hp) (wfP_wfV hp hw) hn
  simp only [execOp,ho,Instr.loadAt,he,Sem.run_bind,sure,Result.andThen_ok,hl,Sem.run_pure]
 unfold loadO at h
 split at h
 ·rename_i v hx
  obtain ⟨t,rfl,ht⟩:=opg_slot R hg hx rfl (by simp)
  rw [hx] at hv
  obtain ⟨h0,⟨T0,hb⟩,hp,hw⟩:=own_block R ht
  have hev:a.eval (.tmp t)=.pointer (some ⟨(m t).1,0,none⟩):=by
   have:=hv.1
   simp only [slotOf] at this
   rw [this,h0]
  exact fin _ _ hev (partO_ok hP h hc hb)
 ·rename_i s off hx
  rw [hx] at hv
  split at h
  ·split at h
   ·rename_i v hs
    obtain ⟨h0,⟨T0,hb⟩,hp,hw⟩:=own_block R hs
    have hev:a.eval x=.pointer (some ⟨(m s).1,off.val,none⟩):=by
     have:=hv
     simp only [VR,h0,Nat.zero_add] at this
     exact this
    exact fin _ _ hev (partO_ok hP h hc hb)
   ·cases h
  ·cases h
 ·rename_i p hx
  rw [hx] at hv
  split at h
  ·rename_i fs hd
   cases h
   obtain ⟨b,oo,rfl,hm⟩:=(hc _ (List.mem_singleton.2 rfl):HasMem _ _ _).h
   have ht:=hP.ty T
   unfold TyOK at ht
   rw [hd] at ht
   obtain ⟨fields,hu,_,⟨inf,hi,hsz⟩,_⟩:=ht
   have hget:E.acc.get=rGet E.mem:=by rw [hP.acc];rfl
   refine fin b oo hv ⟨?_,rfl,trivial⟩
   rw [hget]
   refine run_load_all hu rfl hi (by simp [hsz]) (fun j hj=>?_)
   have hj':j<(E.ty T).sz:=by simpa using hj
   have h1:=hm j hj'
   rw [addr_add]
   cases hmm:E.mem b (oo+j) with
   | none=>rw [hmm] at h1;cases h1
   | some u =>
    rw [(G.later R.below).mem b (oo+j) u hmm]
    simp [hj',hmm]
  ·cases h
 ·cases h
theorem boxO_ok (R:Rel w0 m S a w) (hg:GdOK S gd) {o:Oper} {T:TypeId} {x:Operand} (ho:o.op=.box T x) (hk:constOk x=true) {cs:List Prop} {r:AV} {us:List (Nat × AV)}
  (h:boxO E gd S T x=some (cs,r)) (hret:ret1 o.dst cs r=some (cs,us)) (hc:∀ p ∈ cs,p) (hn:∀ d ∈ us.map Prod.fst,noWhen d S) (hr:∀ d ∈ us.map Prod.fst,noRef d S):Does P o a w (Led w0 S us):=by
 obtain ⟨hv,_⟩:=opg_ok R hg x hk
 unfold boxO at h
 split at h
 ·rename_i fs v hd hx
  rw [hx] at hv
  cases h
  have hcl:(a.eval x).cells=cellsOf (.opq v):=by
   have:a.eval x=v:=hv
   rw [this]
   rfl
  have he:(execOp a.eval o).run P w=.ok (.value (.pointer (some ⟨w.heap.size,0,none⟩))) (w.alloc (.cells (cellsOf (.opq v)) T)):=by
   simp only [execOp,ho,Instr.box,Sem.run_bind,Result.andThen_ok,newVar,newRow,run_newObj,Sem.run_pure,hcl,World.alloc]
  unfold ret1 at hret
  split at hret
  ·rename_i d hd
   cases hret
   refine does_value he ⟨mset m d (w.heap.size,0),?_⟩
   rw [hd]
   exact R.alloc d _ T rfl trivial (hr d (by simp)) (hn d (by simp))
  ·rename_i hd
   cases hret
   refine does_value he ⟨m,?_⟩
   rw [hd]
   have h2:Below w.heap.size w (w.alloc (.cells (cellsOf (.opq v)) T)):=(Below.refl _ _).alloc (Nat.le_refl _) _
   exact R.later h2
 ·cases h
theorem fieldO_ok (hP:EnvOK P E) (R:Rel w0 m S a w) (hg:GdOK S gd) {o:Oper} {T:TypeId} {x:Operand} {fi:Nat} (ho:o.op=.fieldAddr T x fi) (hk:constOk x=true) {cs:List Prop} {r:AV} {us:List (Nat × AV)}
  (h:fieldO E gd S T x fi=some (cs,r)) (hret:ret1 o.dst cs r=some (cs,us)) (hn:∀ d ∈ us.map Prod.fst,noWhen d S):Does P o a w (Led w0 S us):=by
 obtain ⟨hv,_⟩:=opg_ok R hg x hk
 unfold fieldO at h
 split at h
 ·rename_i fs hd
  have ht:=hP.ty T
  unfold TyOK at ht
  rw [hd] at ht
  obtain ⟨fields,hT,hfs,_,hall⟩:=ht
  split at h
  ·rename_i oo ft hf
   obtain ⟨f,hf1,hf2,hf3⟩:=fields_get hfs hf
   obtain ⟨inf,hinf,hz1⟩:=hall (oo,ft) (List.mem_of_getElem? hf)
   split at h
   ·rename_i v t hx hxt
    obtain ⟨t',ht',hs⟩:=opg_slot R hg hx rfl (by simp)
    subst ht'
    cases hxt
    rw [hx] at hv
    cases h
    refine led_value (i:=0) R rfl ?_ hret rfl ?_ trivial hn (v:=.pointer (some ⟨(m t).1,(m t).2+oo,none⟩))
    ·have he:=hv.1
     simp only [slotOf] at he
     simp only [execOp,ho,he,Instr.fieldAt,Sem.run_bind,run_underlying hT,Result.andThen_ok,hf1,sure,fieldPlace,hf3,run_size hinf,Sem.run_ite,if_neg hz1,Sem.run_pure,addr_add,hf2]
    ·rfl
   ·cases h
  ·cases h
 ·cases h
theorem indexO_ok (hP:EnvOK P E) (R:Rel w0 m S a w) (hg:GdOK S gd) {o:Oper} {T:TypeId} {x i:Operand} (ho:o.op=.indexAddr T x i) (hk:constOk x=true) (hk2:constOk i=true) {cs:List Prop} {r:AV} {us:List (Nat × AV)}
  (h:indexO E gd S T x i=some (cs,r)) (hret:ret1 o.dst cs r=some (cs,us)) (hc:∀ p ∈ cs,p) (hn:∀ d ∈ us.map Prod.fst,noWhen d S):Does P o a w (Led w0 S us):=by
 obtain ⟨hv,_⟩:=opg_ok R hg x hk
 obtain ⟨hvi,_⟩:=opg_ok R hg i hk2
 unfold indexO at h
 split at h
 ·rename_i e hd
  have hT:P.underlying T=some (.slice e):=by have:=hP.ty T;unfold TyOK at this;rw [hd] at this;exact this
  split at h
  ·rename_i fs v ki iv he hx hi
   rw [hx] at hv
   rw [hi] at hvi
   split at h
   ·rename_i cs1 hw1
    cases h
    obtain ⟨aa,l,c,hs,ha,_⟩:=(hc _ (List.mem_cons_self ..):IsSl v).h
    have hlen:E.acc.len=rLen:=by rw [hP.acc];rfl
    have haddr:E.acc.addr=rAddr:=by rw [hP.acc];rfl
    have hb:=within_ok hw1 (fun p hp=>hc p (List.mem_cons_of_mem _ hp))
    have hl:(SO.sym (E.acc.len v)).val=l:=by rw [hlen,hs];rfl
    rw [hl] at hb
    obtain ⟨b,oo,rfl⟩:=ha (by omega)
    have hte:=hP.ty e
    unfold TyOK at hte
    rw [he] at hte
    obtain ⟨_,_,_,⟨inf,hinf,hsz⟩,_⟩:=hte
    have hev:a.eval x=.slice (some ⟨b,oo,none⟩) l c:=by have:a.eval x=v:=hv;rw [this,hs]
    have hvi':a.eval i=.int ki iv.val:=hvi
    refine led_value (i:=0) R rfl ?_ hret rfl ?_ trivial hn (v:=.pointer (some ⟨b,oo+iv.val.toNat * inf.size,none⟩))
    ·simp only [execOp,ho,hev,hvi',Sem.run_bind,indexAt_slice hT hinf hb.1 hb.2,Result.andThen_ok,Sem.run_pure]
    ·show _=E.acc.addr v _
     rw [haddr,hs,mul_val,off_val hP,hsz]
     rfl
   ·cases h
  ·cases h
 ·cases h
theorem argO_ok (hP:EnvOK P E) (G:WOK E w0) (R:Rel w0 m S a w) (hg:GdOK S gd) {rd:List Nat} {t:TypeId} {x:Operand} (hk:constOk x=true) {cs:List Prop} {v:AV} (h:argO E rd gd S t x=some (cs,v)) (hc:∀ p ∈ cs,p) :
  ArgR w v (a.eval x)∧wfV v:=by
 obtain ⟨hv,_⟩:=opg_ok R hg x hk
 unfold argO at h
 split at h
 ·rename_i u hx
  rw [hx] at hv
  have hev:a.eval x=u:=hv
  split at h
  ·cases h
   exact ⟨hev,trivial⟩
  ·rename_i e hd
   split at h
   ·rename_i k _ _
    cases h
    obtain ⟨aa,l,c,hs,ha,h1,h2⟩:=(hc _ (List.mem_singleton.2 rfl):IsList _ _ _ _).h
    have hlen:E.acc.len=rLen:=by rw [hP.acc];rfl
    have hcap:E.acc.cap=rCap:=by rw [hP.acc];rfl
    have hlist:E.acc.list=rList E.mem:=by rw [hP.acc];rfl
    have key:∀ (b oo:Nat),aa=some ⟨b,oo,none⟩→∀ j z,E.mem b (oo+j)=some (.int k z)→rList E.mem u j=z:=by
     intro b oo hb j z hz
     rw [hs,hb]
     show rNum ((E.mem b (oo+j)).getD undef)=z
     rw [hz]
     rfl
    rw [hev,hlen,hcap,hlist]
    refine ⟨⟨aa,c,?_,fun hp=>?_,?_,h2⟩,fun i hi=>?_⟩
    ·rw [hs];rfl
    ·have hp':0<l:=by
      have:(SO.sym (rLen u)).val=l:=by rw [hs];rfl
      omega
     obtain ⟨b,oo,hb,hm⟩:=ha hp'
     refine ⟨b,oo,hb,fun j hj=>?_⟩
     have hj':j<l*(E.ty e).sz:=by
      have e1:(SO.sym (rLen u)).val=l:=by rw [hs];rfl
      rw [e1] at hj;exact hj
     obtain ⟨z,hz,_⟩:=hm j hj'
     rw [key b oo hb j z hz]
     exact (G.later R.below).mem b (oo+j) _ hz
    ·have e1:(SO.sym (rLen u)).val=l:=by rw [hs];rfl
     rw [e1];exact h1
    ·have e1:(SO.sym (rLen u)).val=l:=by rw [hs];rfl
     rw [e1] at hi
     have hp':0<l:=by
      rcases Nat.eq_zero_or_pos l with h0 | h0
      ·rw [h0] at hi;simp at hi
      ·exact h0
     obtain ⟨b,oo,hb,hm⟩:=ha hp'
     obtain ⟨z,hz,hin⟩:=hm i hi
     rw [key b oo hb i z hz]
     exact hin
   ·cases h
  ·cases h
 ·exact argOf_ok R hg hk h hc
theorem argsO_ok (hP:EnvOK P E) (G:WOK E w0) (R:Rel w0 m S a w) (hg:GdOK S gd) {rd:List Nat}:∀ (ts:List TypeId) (xs:List Operand) (cs:List Prop) (vs:List AV),(∀ x ∈ xs,constOk x=true) →
  argsO E rd gd S ts xs=some (cs,vs)→(∀ p ∈ cs,p)→All2 (ArgR w) vs (xs.map a.eval)∧∀ v ∈ vs,wfV v
 | [],[],cs,vs,_,h,_=>by
  simp only [argsO] at h
  cases h
  exact ⟨trivial,fun v hv=>by simp at hv⟩
 | t :: ts,x :: xs,cs,vs,hk,h,hc=>by
  simp only [argsO] at h
  split at h
  ·rename_i c1 v h1
   split at h
   ·rename_i c2 vs' h2
    cases h
    obtain ⟨a1,a2⟩:=argO_ok hP G R hg (hk x (by simp)) h1 (fun p hp=>hc p (List.mem_append_left _ hp))
    obtain ⟨b1,b2⟩:=argsO_ok hP G R hg ts xs c2 vs' (fun y hy=>hk y (by simp [hy])) h2 (fun p hp=>hc p (List.mem_append_right _ hp))
    refine ⟨⟨a1,b1⟩,fun y hy=>?_⟩
    rcases List.mem_cons.1 hy with rfl | hy
    ·exact a2
    ·exact b2 y hy
   ·cases h
  ·cases h
 | [],_ :: _,_,_,_,h,_=>by simp [argsO] at h
 | _ :: _,[],_,_,_,h,_=>by simp [argsO] at h
theorem callO_ok (hP:EnvOK P E) (G:WOK E w0) (R:Rel w0 m S a w) (hg:GdOK S gd) {rd:List Nat} {o:Oper} {c:Go.Call} (ho:o.op=.call c) (hk:∀ x ∈ c.args.toList,constOk x=true) {cs:List Prop} {r:AV} {us:List (Nat × AV)}
  (h:callO E rd gd S c=some (cs,r)) (hret:ret1 o.dst cs r=some (cs,us)) (hc:∀ p ∈ cs,p) (hn:∀ d ∈ us.map Prod.fst,noWhen d S) (hr:∀ d,o.dst=some d→noRef d S):Does P o a w (Led w0 S us):=by
 unfold callO at h
 split at h
 ·rename_i f hcal
  split at h
  ·split at h
   ·rename_i c1 vs hargs
    split at h
    ·rename_i c2 r' hcon
     split at h
     case isFalse=>cases h
     cases h
     obtain ⟨ha,hwf⟩:=argsO_ok hP G R hg _ _ _ _ hk hargs (fun p hp=>hc p (List.mem_append_left _ hp))
     exact enter_ok hP G R ho hcal hcon (fun p hp=>hc p (List.mem_append_right _ hp)) hwf ha hret hn hr
    ·cases h
   ·cases h
  ·cases h
 ·rename_i hcal
  split at h
  ·rename_i x t hargs htys
   split at h
   ·rename_i e v hd hx
    cases h
    have hT:P.underlying t=some (.slice e):=by have:=hP.ty t;unfold TyOK at this;rw [hd] at this;exact this
    obtain ⟨hv,_⟩:=opg_ok R hg x (hk x (by rw [hargs];simp))
    rw [hx] at hv
    obtain ⟨aa,l,cp,hs,_,h1,h2⟩:=(hc _ (List.mem_singleton.2 rfl):IsSl v).h
    have hev:a.eval x=.slice aa l cp:=by have:a.eval x=v:=hv;rw [this,hs]
    have hlen:E.acc.len v=l:=by rw [hP.acc,hs];rfl
    have e1:c.args=#[x]:=Array.toList_inj.1 (by simp [hargs])
    have e2:c.argTypes=#[t]:=Array.toList_inj.1 (by simp [htys])
    rw [hlen] at hret
    refine led_value (i:=0) R rfl ?_ hret rfl (v:=.int .i64 l) ?_ ?_ hn
    ·simp only [execOp,ho,Sem.run_bind,resolve,hcal,e1,e2,Sem.run_pure,Result.andThen_ok,invoke,builtin,Builtin.len_,List.map_toArray,List.map_cons,List.map_nil,hev]
     simp only [List.getElem?_toArray,List.getElem?_cons_zero,Sem.run_bind,run_underlying hT,Result.andThen_ok,Sem.run_pure,goInt]
    ·rfl
    ·show inR _ _
     unfold capMax at h2
     simp [lenSI,SI.val,inR,IntKind.min,IntKind.max,IntKind.signed,IntKind.bits]
     omega
   ·cases h
  ·cases h
 ·cases h
theorem arrO_ok (hP:EnvOK P E) (R:Rel w0 m S a w) (hg:GdOK S gd) {o:Oper} {T:TypeId} {x:Operand} (ho:o.op=.sliceToArrayPointer T x) (hk:constOk x=true) {cs:List Prop} {r:AV} {us:List (Nat × AV)}
  (h:arrO E gd S T x=some (cs,r)) (hret:ret1 o.dst cs r=some (cs,us)) (hc:∀ p ∈ cs,p) (hn:∀ d ∈ us.map Prod.fst,noWhen d S):Does P o a w (Led w0 S us):=by
 obtain ⟨hv,_⟩:=opg_ok R hg x hk
 unfold arrO at h
 split at h
 ·rename_i n e hd
  have hT:P.underlying T=some (.array n e):=by have:=hP.ty T;unfold TyOK at this;rw [hd] at this;exact this.1
  have fin:∀ (ad:Addr) (len cap:Nat),a.eval x=.slice (some ad) len cap→n≤len→VR m 0 r (.pointer (some ad))→free r=true→wfV r→Does P o a w (Led w0 S us):=by
   intro ad len cap he hle hvr hfr hwr
   refine led_value (i:=0) R rfl ?_ hret hfr hvr hwr hn
   simp only [execOp,ho,he,Instr.arrayAt,Sem.run_bind,run_underlying hT,Result.andThen_ok]
   simp [Nat.not_lt.2 hle]
  split at h
  ·rename_i s es off len cap hx
   rw [hx] at hv
   obtain ⟨aa,c,h1,h2,_⟩:=hv
   split at h
   ·rename_i hn0
    split at h
    ·rename_i cs1 hw
     cases h
     have hle:n≤len.val:=leq_ok hw hc
     exact fin _ _ _ (by rw [h1,h2 (by omega)]) hle rfl rfl trivial
    ·cases h
   ·cases h
  ·rename_i k es len f hx
   rw [hx] at hv
   obtain ⟨aa,c,h1,h2,h3,_⟩:=hv
   split at h
   ·rename_i hn0
    split at h
    ·rename_i cs1 t hw hxt
     cases h
     have hle:n≤len.val:=leq_ok hw hc
     have hxx:x=.tmp t:=by cases x <;> simp [tmpOf] at hxt;rw [hxt]
     subst hxx
     cases aa with
     | none=>have:=h3 rfl;omega
     | some q =>
      obtain ⟨q1,q2⟩:=h2 q rfl
      refine fin q _ _ h1 hle ?_ rfl trivial
      simp only [slotOf] at q1 q2
      rw [q1]
      simp only [VR,q2]
      rfl
    ·cases h
   ·cases h
  ·cases h
 ·cases h
end
end Sx

namespace Sx
open Go Go.RowKit
section
variable {P:Program} {E:Env} {w0:World} {m:M} {S:St} {a:Act} {w:World} {gd:Gd}
theorem effB_ok (hP:EnvOK P E) (G:WOK E w0) (R:Rel w0 m S a w) (hg:GdOK S gd) {o:Oper} {so:SOp} (hop:so.op=o.op) (hdst:so.dst=o.dst) (hk:∀ x ∈ o.op.operands.toList,constOk x=true)
  {cs:List Prop} {us:List (Nat × AV)} (h:effB E gd S so=some (cs,us)) (hc:∀ p ∈ cs,p) (hn:∀ d ∈ us.map Prod.fst,noWhen d S) (hnw:so.nw=mksOf so.mv o) (hr:∀ d ∈ so.nw,noRef d S) :
  Does P o a w (Led w0 S us):=by
 rw [hnw] at hr
 have hall:(∀ T,o.op=.alloc T→∀ d,o.dst=some d→noRef d S)∧(∀ T x,o.op=.box T x→∀ d,o.dst=some d→noRef d S)∧(∀ T l c,o.op=.makeSlice T l c→∀ d,o.dst=some d→noRef d S) ∧
   (∀ T n ps,o.op=.buildSlice T n ps→∀ d,o.dst=some d→noRef d S)∧(∀ c,o.op=.call c→∀ d,o.dst=some d→noRef d S)∧(∀ x,o.op=.move x∨o.op=.assign x→so.mv=true→∀ d,o.dst=some d→noRef d S):=by
  refine ⟨fun T ho d hd=>?_,fun T x ho d hd=>?_,fun T l c ho d hd=>?_,fun T n ps ho d hd=>?_,fun c ho d hd=>?_,fun x ho hmv d hd=>?_⟩
  ·exact hr d (by simp [mksOf,ho,hd])
  ·exact hr d (by simp [mksOf,ho,hd])
  ·exact hr d (by simp [mksOf,ho,hd])
  ·exact hr d (by simp [mksOf,ho,hd])
  ·exact hr d (by simp [mksOf,ho,hd])
  ·rcases ho with ho | ho
   ·exact hr d (by simp [mksOf,ho,hd,hmv])
   ·exact hr d (by simp [mksOf,ho,hd,hmv])
 obtain ⟨q1,q2,q3,q4,q5,q6⟩:=hall
 have keys:∀ {cs cs':List Prop} {v:AV} {us:List (Nat × AV)},ret1 o.dst cs v=some (cs',us)→∀ d ∈ us.map Prod.fst,o.dst=some d:=by
  intro cs cs' v us h d hd
  unfold ret1 at h
  split at h
  ·rename_i d' hd'
   cases h
   simp at hd
   rw [hd',hd]
  ·cases h
   simp at hd
 unfold effB at h
 rw [hop,hdst] at h
 cases ho:o.op <;> rw [ho] at h hk <;> simp only at h <;> (try (cases h;done))
 case move x=>exact move_ok R hg (.inl ho) (hk x (by simp [Op.operands])) h hn (fun hm=>q6 x (.inl ho) (by cases hh:so.mv with | true=>rfl | false=>rw [hh] at hm;exact absurd rfl hm))
 case assign x=>exact move_ok R hg (.inr ho) (hk x (by simp [Op.operands])) h hn (fun hm=>q6 x (.inr ho) (by cases hh:so.mv with | true=>rfl | false=>rw [hh] at hm;exact absurd rfl hm))
 case makeSlice T l c=>exact make_ok hP R hg ho (hk l (by simp [Op.operands])) (hk c (by simp [Op.operands])) h hc hn (q3 T l c ho)
 case buildSlice T n ps =>
  refine buildSlice_ok hP R hg ho (fun p hp=>hk p.2 ?_) h hn (q4 T n ps ho)
  simp only [Op.operands]
  exact List.mem_map.2 ⟨p,hp,rfl⟩
 case pick c x y=>exact pick_ok R ho (hk x (by simp [Op.operands])) (hk y (by simp [Op.operands])) h hn
 case alloc T =>
  split at h
  ·rename_i v hz
   exact alloc_ok hP R ho hz h hn (fun d hd=>q1 T ho d (keys h d hd))
  ·cases h
 case box T x =>
  split at h
  ·rename_i hb
   exact box_ok R hg ho (hk x (by simp [Op.operands])) hb h hn (fun d hd=>q2 T x ho d (keys h d hd))
  ·cases h
 case build T ps =>
  refine build_ok hP R hg ho (fun p hp=>hk p.2 ?_) h hn
  simp only [Op.operands]
  exact List.mem_map.2 ⟨p,hp,rfl⟩
 case load T x=>exact load_ok hP G R hg ho (hk x (by simp [Op.operands])) h hc hn
 case store T x y=>exact store_ok hP R hg ho (hk x (by simp [Op.operands])) (hk y (by simp [Op.operands])) h hc
 case indexAddr T x i=>exact indexAddr_ok hP R hg ho (hk x (by simp [Op.operands])) (hk i (by simp [Op.operands])) h hc hn
 case fieldAddr T x fi=>exact fieldAddr_ok hP R hg ho (hk x (by simp [Op.operands])) h hn
 case field T x fi=>exact field_ok hP R hg ho (hk x (by simp [Op.operands])) h hc hn
 case index T x i=>exact index_ok hP R hg ho (hk x (by simp [Op.operands])) (hk i (by simp [Op.operands])) h hc hn
 case slice T x lo hi mx =>
  refine slice_ok hP R hg ho (hk x (by simp [Op.operands])) (fun y hy=>hk y ?_) (fun y hy=>hk y ?_) h hc hn
  ·subst hy;simp [Op.operands]
  ·subst hy;simp [Op.operands]
 case convert s d x=>exact convert_ok hP R hg ho (hk x (by simp [Op.operands])) h hn
 case unOp op t x=>exact un_ok hP R hg ho (hk x (by simp [Op.operands])) h hn
 case binOp op t x y t2 =>
  split at h
  ·rename_i c r hb
   exact binop_ok hP R hg ho (hk x (by simp [Op.operands])) (hk y (by simp [Op.operands])) hb h hc hn
  ·cases h
 case extract x i=>exact extract_all R hg ho (hk x (by simp [Op.operands])) h hn
 case call c =>
  refine call_ok hP G R hg ho (fun x hx=>hk x ?_) h hc hn (q5 c ho)
  simp only [Op.operands,Call.operands,Array.toList_append,List.mem_append]
  exact .inr hx
theorem eff_ok (hP:EnvOK P E) (G:WOK E w0) (R:Rel w0 m S a w) (hg:GdOK S gd) {o:Oper} {so:SOp} (hop:so.op=o.op) (hdst:so.dst=o.dst) (hk:∀ x ∈ o.op.operands.toList,constOk x=true)
  {cs:List Prop} {us:List (Nat × AV)} (h:eff E gd S so=some (cs,us)) (hc:∀ p ∈ cs,p) (hn:∀ d ∈ us.map Prod.fst,noWhen d S) (hnw:so.nw=mksOf so.mv o) (hr:∀ d ∈ so.nw,noRef d S) :
  Does P o a w (Led w0 S us):=by
 unfold eff at h
 split at h
 ·rename_i c1 v hv
  have:=ret1_cs h
  subst this
  rw [hdst] at h
  have hr':∀ d,(∃ T x,o.op=.box T x)∨(∃ c,o.op=.call c)→o.dst=some d→noRef d S:=by
   intro d hh hd
   rw [hnw] at hr
   rcases hh with ⟨T,x,ho⟩ | ⟨c,ho⟩
   ·exact hr d (by simp [mksOf,ho,hd])
   ·exact hr d (by simp [mksOf,ho,hd])
  have keys:∀ d ∈ us.map Prod.fst,o.dst=some d:=by
   intro d hd
   unfold ret1 at h
   split at h
   ·rename_i d' hd'
    cases h
    simp at hd
    rw [hd',hd]
   ·cases h
    simp at hd
  unfold valO at hv
  rw [hop] at hv
  have mv:∀ x,(execOp a.eval o).run P w=.ok (.value (a.eval x)) w→constOk x=true→moveO gd S x=some (cs,v)→Does P o a w (Led w0 S us):=by
   intro x he hx hm
   obtain ⟨hv1,hv2⟩:=opg_ok R hg x hx
   unfold moveO at hm
   split at hm
   ·rename_i u hu
    rw [hu] at hv1
    cases hm
    exact led_value R rfl he h rfl hv1 trivial hn
   ·cases hm
  cases ho:o.op <;> rw [ho] at hv hk <;> simp only at hv <;> (try (cases hv;done))
  case move x=>exact mv x (by simp only [execOp,ho];rfl) (hk x (by simp [Op.operands])) hv
  case assign x=>exact mv x (by simp only [execOp,ho];rfl) (hk x (by simp [Op.operands])) hv
  case box T x=>exact boxO_ok R hg ho (hk x (by simp [Op.operands])) hv h hc hn (fun d hd=>hr' d (.inl ⟨T,x,ho⟩) (keys d hd))
  case load T x=>exact loadO_ok hP G R hg ho (hk x (by simp [Op.operands])) hv h hc hn
  case fieldAddr T x fi=>exact fieldO_ok hP R hg ho (hk x (by simp [Op.operands])) hv h hn
  case indexAddr T x i=>exact indexO_ok hP R hg ho (hk x (by simp [Op.operands])) (hk i (by simp [Op.operands])) hv h hc hn
  case sliceToArrayPointer T x=>exact arrO_ok hP R hg ho (hk x (by simp [Op.operands])) hv h hc hn
  case call c =>
   refine callO_ok hP G R hg ho (fun x hx=>hk x ?_) hv h hc hn (fun d hd=>hr' d (.inr ⟨c,ho⟩) hd)
   simp only [Op.operands,Call.operands,Array.toList_append,List.mem_append]
   exact .inr hx
 ·exact effB_ok hP G R hg hop hdst hk h hc hn hnw hr
theorem Rel.when {d g:Nat} {b:Bool} {v:AV} (R:Rel w0 m (S.set d v) a w) (hl:light v=true) (hgd:g≠d) (hw:noWhen d S):Rel w0 m (S.set d (.when g b v)) a w:=by
 have hg1:∀ i,i≠d→get (S.set d (.when g b v)) i=get (S.set d v) i:=by
  intro i hi
  rw [get_set_ne (fun e=>hi e.symm),get_set_ne (fun e=>hi e.symm)]
 have hlw:∀ i y,lst? (get (S.set d (.when g b v)) i)=some y→lst? (get (S.set d v) i)=some y:=by
  intro i y hi
  by_cases h:i=d
  ·subst h
   have hlt:i<S.length:=by have:=get_lt (S:=S.set i (.when g b v)) (i:=i) (by intro e;rw [e] at hi;cases hi);simpa using this
   rw [get_set_same hlt] at hi
   cases hi
  ·rw [hg1 i h] at hi;exact hi
 have how:∀ i x,get (S.set d (.when g b v)) i=.own x→get (S.set d v) i=.own x:=by
  intro i x hi
  by_cases h:i=d
  ·subst h
   have hlt:i<S.length:=by have:=get_lt (S:=S.set i (.when g b v)) (i:=i) (by rw [hi];simp);simpa using this
   rw [get_set_same hlt] at hi
   cases hi
  ·rw [hg1 i h] at hi;exact hi
 refine ⟨R.defers,by simpa using R.size,R.below,?_,?_,?_,?_,fun i k es len f hi=>R.lsts i k es len f (hlw i _ hi),fun i j x y b hi hj hb=>R.inj1 i j x y b (how i x hi) (hlw j y hj) hb,fun i j x y b hij hi hj hb=>R.inj2 i j x y b hij (hlw i x hi) (hlw j y hj) hb⟩
 ·intro i hi
  simp only [List.length_set] at hi
  have h0:=R.vals i (by simpa using hi)
  by_cases h:i=d
  ·subst h
   rw [get_set_same hi] at h0 ⊢
   intro c _ _
   have:free v=true:=by cases v <;> simp [light] at hl <;> rfl
   unfold OKV at h0
   split at h0
   ·simp [light] at hl
   ·exact ⟨h0.1,h0.2,hl⟩
  ·rw [hg1 i h]
   unfold OKV at h0 ⊢
   split
   ·rename_i g' b' y he
    rw [he] at h0
    intro c hc
    have hg':g'≠d:=by
     rw [get_set_ne (fun e=>h e.symm)] at he
     exact hw i g' b' y he
    rw [hg1 g' hg'] at hc
    exact h0 c hc
   ·rename_i hne
    revert h0
    split
    ·rename_i g' b' y he;exact absurd he (hne g' b' y)
    ·exact id
 ·intro i x hi
  by_cases h:i=d
  ·subst h
   have hlt:i<S.length:=by have:=get_lt (S:=S.set i (.when g b v)) (i:=i) (by rw [hi];simp);simpa using this
   rw [get_set_same hlt] at hi
   cases hi
  ·rw [hg1 i h] at hi
   exact R.blks i x hi
 ·intro i j x y hi hj
  have key:∀ i x,get (S.set d (.when g b v)) i=.own x→get (S.set d v) i=.own x:=by
   intro i x hi
   by_cases h:i=d
   ·subst h
    have hlt:i<S.length:=by have:=get_lt (S:=S.set i (.when g b v)) (i:=i) (by rw [hi];simp);simpa using this
    rw [get_set_same hlt] at hi
    cases hi
   ·rw [hg1 i h] at hi;exact hi
  exact R.inj i j x y (key i x hi) (key j y hj)
 ·intro i k es len cap f hi
  by_cases h:i=d
  ·subst h
   have hlt:i<S.length:=by have:=get_lt (S:=S.set i (.when g b v)) (i:=i) (by rw [hi];simp);simpa using this
   rw [get_set_same hlt] at hi
   cases hi
  ·rw [hg1 i h] at hi
   exact R.xsls i k es len cap f hi
theorem Rel.passed {d g:Nat} {b:Bool} {v:AV} {c:SB} (R:Rel w0 m S a w) (hgd:g≠d) (hc:get S g=.bool c) (hb:c.val≠b) (hw:noWhen d S):Rel w0 m (S.set d (.when g b v)) (a.put (some d) undef) w:=by
 have hg1:∀ i,i≠d→get (S.set d (.when g b v)) i=get S i:=fun i hi=>get_set_ne (fun e=>hi e.symm)
 have own:∀ i (x:AV),(∀ g' b' v',x≠.when g' b' v')→x≠.junk→get (S.set d (.when g b v)) i=x→get S i=x:=by
  intro i x hx hj hi
  by_cases h:i=d
  ·subst h
   have hlt:i<S.length:=by have:=get_lt (S:=S.set i (.when g b v)) (i:=i) (by rw [hi];exact hj);simpa using this
   rw [get_set_same hlt] at hi
   exact absurd hi.symm (hx _ _ _)
  ·rw [hg1 i h] at hi;exact hi
 have hlw:∀ i y,lst? (get (S.set d (.when g b v)) i)=some y→lst? (get S i)=some y∧(a.put (some d) undef).tmps.getD i undef=a.tmps.getD i undef:=by
  intro i y hi
  by_cases h:i=d
  ·subst h
   have hlt:i<S.length:=by have:=get_lt (S:=S.set i (.when g b v)) (i:=i) (by intro e;rw [e] at hi;cases hi);simpa using this
   rw [get_set_same hlt] at hi
   cases hi
  ·rw [hg1 i h] at hi;exact ⟨hi,by rw [tmps_put,if_neg (fun e=>h e.1)]⟩
 refine ⟨R.defers,by simpa [Act.put] using R.size,R.below,?_,?_,?_,?_,?_,?_,?_⟩
 ·intro i hi
  simp only [List.length_set] at hi
  rw [tmps_put,R.size]
  by_cases h:i=d
  ·subst h
   rw [get_set_same hi]
   intro c' hc' hb'
   rw [hg1 g hgd,hc] at hc'
   cases hc'
   exact absurd hb' hb
  ·rw [hg1 i h,if_neg (fun e=>h e.1)]
   have h0:=R.vals i hi
   unfold OKV at h0 ⊢
   split
   ·rename_i g' b' y he
    rw [he] at h0
    intro c hc
    have hg':g'≠d:=hw i g' b' y he
    rw [hg1 g' hg'] at hc
    exact h0 c hc
   ·rename_i hne
    revert h0
    split
    ·rename_i g' b' y he;exact absurd he (hne g' b' y)
    ·exact id
 ·exact fun i x hi=>R.blks i x (own i _ (by simp) (by simp) hi)
 ·exact fun i j x y hi hj=>R.inj i j x y (own i _ (by simp) (by simp) hi) (own j _ (by simp) (by simp) hj)
 ·exact fun i k es len cap f hi=>R.xsls i k es len cap f (own i _ (by simp) (by simp) hi)
 ·intro i k es len f hi
  obtain ⟨h1,h2⟩:=hlw i _ hi
  rw [h2]
  exact R.lsts i k es len f h1
 ·intro i j x y b hi hj hb
  obtain ⟨h1,h2⟩:=hlw j _ hj
  rw [h2] at hb
  exact R.inj1 i j x y b (own i _ (by simp) (by simp) hi) h1 hb
 ·intro i j x y b hij hi hj hb
  obtain ⟨h1,h2⟩:=hlw i _ hi
  obtain ⟨h3,h4⟩:=hlw j _ hj
  rw [h2] at hb
  rw [h4]
  exact R.inj2 i j x y b hij h1 h3 hb
theorem tmps_of_getD {t:Array Value} {g:Nat} {v:Value} (h:t.getD g undef=v) (hlt:g<t.size):t[g]?=some v:=by
 rw [Array.getD_eq_getD_getElem?] at h
 rw [Array.getElem?_eq_getElem hlt] at h ⊢
 simpa using h
theorem exec_ok (hP:EnvOK P E) (G:WOK E w0) (R:Rel w0 m S a w) {ops:Array Oper} {i:Nat} {o:Oper} {so:SOp} (ho:ops[i]?=some o) (hop:so.op=o.op) (hdst:so.dst=o.dst) (hgs:gslot ops.toList o=some so.gd)
  (hk:∀ x ∈ o.op.operands.toList,constOk x=true) {cs:List Prop} {us:List (Nat × AV)} (h:exec E S so=some (cs,us)) (hc:∀ p ∈ cs,p) (hn:∀ d ∈ us.map Prod.fst,noWhen d S)
  (hnw:so.nw=mksOf so.mv o) (hr:∀ d ∈ so.nw,noRef d S) (hgk:∀ g ∈ gslots so.gd,g ∉ us.map Prod.fst) (Q:Exit→Act→World→Prop) (K:Act→World→Prop) (hK:∀ a' w',Led w0 S us a' w'→K a' w') :
  wpOp P ops Q i K a w:=by
 unfold wpOp
 rw [ho]
 simp only
 unfold gslot at hgs
 unfold exec at h
 split at hgs
 ·rename_i hng
  simp only [Option.some.injEq] at hgs
  rw [← hgs] at h
  simp only at h
  have hw:Region.wanted o (yielded ops a.tmps)=true:=by unfold Region.wanted;rw [hng]
  rw [if_pos hw]
  exact .inl (eff_ok hP G R (gd:=none) trivial hop hdst hk h hc hn hnw hr K Q hK)
 ·rename_i j want hng
  split at hgs
  ·rename_i g hslot
   simp only [Option.some.injEq] at hgs
   rw [← hgs] at h
   simp only at h
   have hslot':(ops[j]?).bind (·.dst)=some g:=by simpa using hslot
   have hy:∀ c,get S g=.bool c→Region.wanted o (yielded ops a.tmps)=(c.val == want):=by
    intro c hcc
    have hlt:g<S.length:=get_lt (by rw [hcc];simp)
    have h1:=R.vals g hlt
    rw [hcc] at h1
    have h2:=tmps_of_getD h1.1 (by rw [R.size];exact hlt)
    unfold Region.wanted
    rw [hng]
    simp only [yielded,hslot',Option.bind_some,h2]
    cases c.val <;> cases want <;> rfl
   split at h
   ·rename_i b hb
    have hw:=hy _ hb
    simp only [SB.val] at hw
    split at h
    ·rename_i hbw
     subst hbw
     rw [hw,if_pos (by simp)]
     exact .inl (eff_ok hP G R (gd:=none) trivial hop hdst hk h hc hn hnw hr K Q hK)
    ·rename_i hbw
     have hne:(b == want)=false:=by simpa using hbw
     rw [hw,hne,if_neg (by simp)]
     apply hK
     rw [hdst] at h
     split at h
     ·rename_i d hd
      cases h
      rw [hd]
      refine ⟨m,R.put d (.val undef) undef (by simp) (by simp) rfl (fun _=>⟨rfl,trivial⟩) (hn d (by simp))⟩
     ·rename_i hd
      cases h
      rw [hd]
      exact ⟨m,R⟩
   ·rename_i l hb
    have hw:Region.wanted o (yielded ops a.tmps)=false:=by
     have hlt:g<S.length:=get_lt (by rw [hb];simp)
     have h1:=R.vals g hlt
     rw [hb] at h1
     have h2:=tmps_of_getD h1.1 (by rw [R.size];exact hlt)
     unfold Region.wanted
     rw [hng]
     simp only [yielded,hslot',Option.bind_some,h2]
     rfl
    rw [hw,if_neg (by simp)]
    apply hK
    rw [hdst] at h
    split at h
    ·rename_i d hd
     cases h
     rw [hd]
     exact ⟨m,R.put d (.val undef) undef (by simp) (by simp) rfl (fun _=>⟨rfl,trivial⟩) (hn d (by simp))⟩
    ·rename_i hd
     cases h
     rw [hd]
     exact ⟨m,R⟩
   ·rename_i p hb
    have hw:=hy _ hb
    simp only [SB.val] at hw
    split at h
    ·rename_i d cs1 x v hd he
     split at h
     ·rename_i hl
      simp only [Bool.and_eq_true,beq_iff_eq] at hl
      obtain ⟨hl,rfl⟩:=hl
      simp only [Option.some.injEq,Prod.mk.injEq] at h
      obtain ⟨rfl,rfl⟩:=h
      have hgd:g≠x:=by
       intro e
       subst e
       exact hgk g (by rw [← hgs];simp [gslots]) (by simp)
      have hnx:noWhen x S:=hn x (by simp)
      by_cases hpw:p=want
      ·subst hpw
       rw [hw,if_pos (by simp)]
       refine .inl (eff_ok hP G R (gd:=some (g,p)) ⟨_,hb,rfl⟩ hop hdst hk he (fun q hq=>hc _ (List.mem_map.2 ⟨q,hq,rfl⟩) rfl) (by simpa using hn) hnw hr K Q ?_)
       intro a' w' ⟨m',R'⟩
       exact hK a' w' ⟨m',Rel.when R' hl hgd hnx⟩
      ·have hne:(p == want)=false:=by simpa using hpw
       rw [hw,hne,if_neg (by simp)]
       apply hK
       rw [← hdst,hd]
       exact ⟨m,R.passed hgd hb hpw hnx⟩
     ·cases h
    ·cases h
   ·cases h
  ·cases hgs
end
end Sx

namespace Sx
open Go Go.RowKit
section
variable {E:Env} {S S':St} {gd:Gd} {rd ks:List Nat} {dst:Option Tmp}
theorem getG_local {t:Nat} (h:get S t=get S' t):getG gd S t=getG gd S' t:=by
 unfold getG
 rw [h]
def Sees (rd:List Nat) (x:Operand):Prop:=∀ t,x=.tmp t→t ∈ rd
theorem opg_local (H:∀ x ∈ rd,get S x=get S' x) {x:Operand} (hx:Sees rd x):opg gd S x=opg gd S' x:=by
 cases x with
 | tmp t=>exact getG_local (H t (hx t rfl))
 | const v=>cases v <;> rfl
 | global g=>rfl
 | func f=>rfl
theorem move_local {mv:Option (List Nat)} (H:∀ x ∈ rd,get S x=get S' x) {x:Operand} (hx:Sees rd x):effMove mv gd S dst x=effMove mv gd S' dst x:=by
 unfold effMove
 rw [opg_local H hx]
theorem pick_local (H:∀ x ∈ rd,get S x=get S' x) {c x y:Operand} (hc:Sees rd c) (hx:Sees rd x) (hy:Sees rd y):effPick S dst c x y=effPick S' dst c x y:=by
 unfold effPick
 cases c with
 | tmp t =>
  simp only [H t (hc t rfl),fun g=>move_local (mv:=none) (gd:=g) (dst:=dst) H hx,fun g=>move_local (mv:=none) (gd:=g) (dst:=dst) H hy,fun g=>opg_local (gd:=g) H hx,fun g=>opg_local (gd:=g) H hy]
 | _=>rfl
theorem load_local (H:∀ x ∈ rd,get S x=get S' x) {T:TypeId} {x:Operand} (hx:Sees rd x):effLoad E rd gd S dst T x=effLoad E rd gd S' dst T x:=by
 unfold effLoad
 rw [opg_local H hx]
 split
 ·rfl
 ·split
  ·rename_i hc
   rw [H _ (by simpa using hc)]
  ·rfl
 ·rfl
 ·split
  ·rename_i hc
   rw [H _ (by simpa using hc)]
  ·rfl
 ·rfl
theorem store_local (H:∀ x ∈ rd,get S x=get S' x) {T:TypeId} {x y:Operand} (hx:Sees rd x) (hy:Sees rd y):effStore E rd ks gd S dst T x y=effStore E rd ks gd S' dst T x y:=by
 unfold effStore
 rw [opg_local H hx,opg_local H hy]
 split
 ·rfl
 ·split
  ·rfl
  ·split
   ·rename_i hc
    simp only [Bool.and_eq_true] at hc
    rw [H _ (by simpa using hc.1)]
   ·rfl
  ·rfl
theorem indexAddr_local (H:∀ x ∈ rd,get S x=get S' x) {T:TypeId} {x y:Operand} (hx:Sees rd x) (hy:Sees rd y):effIndexAddr E rd gd S dst T x y=effIndexAddr E rd gd S' dst T x y:=by
 unfold effIndexAddr
 rw [opg_local H hx,opg_local H hy]
 split
 ·split
  ·rfl
  ·split
   ·split
    ·rename_i hc
     rw [H _ (by simpa using hc.2.1)]
    ·rfl
   ·rfl
   ·rfl
   ·rfl
  ·rfl
 ·rfl
theorem argOf_local (H:∀ x ∈ rd,get S x=get S' x) {x:Operand} (hx:Sees rd x):argOf rd gd S x=argOf rd gd S' x:=by
 unfold argOf
 rw [opg_local H hx]
 split
 ·rfl
 ·rfl
 ·rfl
 ·split
  ·rename_i hc
   rw [H _ (by simpa using hc)]
  ·rfl
 ·rfl
 ·rfl
 ·rfl
theorem argsOf_local (H:∀ x ∈ rd,get S x=get S' x):∀ xs:List Operand,(∀ x ∈ xs,Sees rd x)→argsOf rd gd S xs=argsOf rd gd S' xs
 | [],_=>rfl
 | x :: xs,hx=>by
  simp only [argsOf]
  rw [argOf_local H (hx x (by simp)),argsOf_local H xs (fun y hy=>hx y (by simp [hy]))]
theorem lay_local (H:∀ x ∈ rd,get S x=get S' x) {place:Nat→Option (Nat × TypeId)}:∀ (ps:List (Nat × Operand)) (x:AV),(∀ p ∈ ps,Sees rd p.2)→lay E gd S place x ps=lay E gd S' place x ps
 | [],_,_=>rfl
 | (i,o) :: ps,x,hp=>by
  simp only [lay,opg_local H (hp (i,o) (by simp)),fun z=>lay_local H (place:=place) ps z (fun q hq=>hp q (by simp [hq]))]
theorem bound_local (H:∀ x ∈ rd,get S x=get S' x) {x:Option Operand} (hx:∀ y,x=some y→Sees rd y):bound gd S x=bound gd S' x:=by
 unfold bound
 cases x with
 | none=>rfl
 | some y=>simp only [opg_local H (hx y rfl)]
theorem effB_local {o:SOp} (H:∀ x ∈ o.rd,get S x=get S' x) (hs:∀ x ∈ o.op.operands.toList,Sees o.rd x):effB E gd S o=effB E gd S' o:=by
 unfold effB
 cases ho:o.op <;> rw [ho] at hs <;> simp only
 case move x=>exact move_local H (hs x (by simp [Op.operands]))
 case assign x=>exact move_local H (hs x (by simp [Op.operands]))
 case makeSlice T l c=>unfold effMake;rw [opg_local H (hs l (by simp [Op.operands])),opg_local H (hs c (by simp [Op.operands]))]
 case buildSlice T n ps =>
  have hp:∀ p ∈ ps.toList,Sees o.rd p.2:=by
   intro p hp
   refine hs p.2 ?_
   simp only [Op.operands]
   exact List.mem_map.2 ⟨p,hp,rfl⟩
  unfold effBuildSlice
  simp only [fun pl z=>lay_local (E:=E) (gd:=gd) (place:=pl) H ps.toList z hp]
 case pick c x y=>exact pick_local H (hs c (by simp [Op.operands])) (hs x (by simp [Op.operands])) (hs y (by simp [Op.operands]))
 case box T x=>rw [opg_local H (hs x (by simp [Op.operands]))]
 case build T ps =>
  have hp:∀ p ∈ ps.toList,Sees o.rd p.2:=by
   intro p hp
   refine hs p.2 ?_
   simp only [Op.operands]
   exact List.mem_map.2 ⟨p,hp,rfl⟩
  unfold effBuild
  simp only [fun pl z=>lay_local (E:=E) (gd:=gd) (place:=pl) H ps.toList z hp]
 case load T x=>exact load_local H (hs x (by simp [Op.operands]))
 case store T x y=>exact store_local H (hs x (by simp [Op.operands])) (hs y (by simp [Op.operands]))
 case indexAddr T x y=>exact indexAddr_local H (hs x (by simp [Op.operands])) (hs y (by simp [Op.operands]))
 case fieldAddr T x f=>unfold effFieldAddr;rw [opg_local H (hs x (by simp [Op.operands]))]
 case field T x f=>unfold effField;rw [opg_local H (hs x (by simp [Op.operands]))]
 case index T x y=>unfold effIndex;rw [opg_local H (hs x (by simp [Op.operands])),opg_local H (hs y (by simp [Op.operands]))]
 case slice T x lo hi mx =>
  unfold effSlice
  rw [opg_local H (hs x (by simp [Op.operands])),bound_local H (fun y hy=>hs y (by subst hy;simp [Op.operands])),bound_local H (fun y hy=>hs y (by subst hy;simp [Op.operands]))]
 case convert s d x=>unfold effConvert;rw [opg_local H (hs x (by simp [Op.operands]))]
 case unOp op t x=>unfold effUn;rw [opg_local H (hs x (by simp [Op.operands]))]
 case binOp op t x y t2=>rw [opg_local H (hs x (by simp [Op.operands])),opg_local H (hs y (by simp [Op.operands]))]
 case extract x i=>unfold effExtract;rw [opg_local H (hs x (by simp [Op.operands]))]
 case call c =>
  have ha:∀ x ∈ c.args.toList,Sees o.rd x:=by
   intro x hx
   refine hs x ?_
   simp only [Op.operands,Call.operands,Array.toList_append,List.mem_append]
   exact .inr hx
  unfold effCall
  rw [argsOf_local H _ ha]
  split
  ·split
   ·rename_i x y t t' hargs _
    unfold effAppend
    rw [opg_local H (ha x (by rw [hargs];simp)),argOf_local H (ha y (by rw [hargs];simp))]
   ·rfl
  ·split
   ·rename_i x y t t' hargs _
    unfold effCopy
    rw [opg_local H (ha x (by rw [hargs];simp)),argOf_local H (ha y (by rw [hargs];simp))]
    split
    ·split
     ·split
      ·split
       ·rename_i hcc
        rw [H _ (by simpa using hcc.2.2.1)]
       ·rfl
      ·rfl
     ·rfl
    ·rfl
   ·rfl
  ·rfl
  ·split
   ·rename_i x t hargs _
    rw [opg_local H (ha x (by rw [hargs];simp))]
   ·rfl
  ·rfl
theorem argO_local (H:∀ x ∈ rd,get S x=get S' x) {t:TypeId} {x:Operand} (hx:Sees rd x):argO E rd gd S t x=argO E rd gd S' t x:=by
 unfold argO
 rw [opg_local H hx,argOf_local H hx]
theorem argsO_local (H:∀ x ∈ rd,get S x=get S' x):∀ (ts:List TypeId) (xs:List Operand),(∀ x ∈ xs,Sees rd x)→argsO E rd gd S ts xs=argsO E rd gd S' ts xs
 | [],[],_=>rfl
 | t :: ts,x :: xs,hx=>by
  simp only [argsO]
  rw [argO_local H (hx x (by simp)),argsO_local H ts xs (fun y hy=>hx y (by simp [hy]))]
 | [],_ :: _,_=>rfl
 | _ :: _,[],_=>rfl
theorem anyO_local (H:∀ x ∈ rd,get S x=get S' x):∀ xs:List Operand,(∀ x ∈ xs,Sees rd x)→(xs.any fun x=>isOpq (opg gd S x))=xs.any fun x=>isOpq (opg gd S' x)
 | [],_=>rfl
 | x :: xs,hx=>by
  simp only [List.any_cons]
  rw [opg_local H (hx x (by simp)),anyO_local H xs (fun y hy=>hx y (by simp [hy]))]
theorem valO_local {o:SOp} (H:∀ x ∈ o.rd,get S x=get S' x) (hs:∀ x ∈ o.op.operands.toList,Sees o.rd x):valO E gd S o=valO E gd S' o:=by
 unfold valO
 cases ho:o.op <;> rw [ho] at hs <;> simp only
 case move x=>unfold moveO;rw [opg_local H (hs x (by simp [Op.operands]))]
 case assign x=>unfold moveO;rw [opg_local H (hs x (by simp [Op.operands]))]
 case box T x=>unfold boxO;rw [opg_local H (hs x (by simp [Op.operands]))]
 case load T x =>
  unfold loadO
  rw [opg_local H (hs x (by simp [Op.operands]))]
  split
  ·rfl
  ·split
   ·rename_i hc
    rw [H _ (by simpa using hc)]
   ·rfl
  ·rfl
  ·rfl
 case fieldAddr T x f=>unfold fieldO;rw [opg_local H (hs x (by simp [Op.operands]))]
 case sliceToArrayPointer T x=>unfold arrO;rw [opg_local H (hs x (by simp [Op.operands]))]
 case indexAddr T x y=>unfold indexO;rw [opg_local H (hs x (by simp [Op.operands])),opg_local H (hs y (by simp [Op.operands]))]
 case call c =>
  have ha:∀ x ∈ c.args.toList,Sees o.rd x:=by
   intro x hx
   refine hs x ?_
   simp only [Op.operands,Call.operands,Array.toList_append,List.mem_append]
   exact .inr hx
  unfold callO
  rw [argsO_local H _ _ ha,anyO_local H _ ha]
  split
  ·rfl
  ·split
   ·rename_i x t hargs _
    rw [opg_local H (ha x (by rw [hargs];simp))]
   ·rfl
  ·rfl
theorem eff_local {o:SOp} (H:∀ x ∈ o.rd,get S x=get S' x) (hs:∀ x ∈ o.op.operands.toList,Sees o.rd x):eff E gd S o=eff E gd S' o:=by
 unfold eff
 rw [valO_local H hs,effB_local H hs]
theorem exec_local {o:SOp} (H:∀ x ∈ o.rd,get S x=get S' x) (hs:∀ x ∈ o.op.operands.toList,Sees o.rd x) (hg:∀ g ∈ gslots o.gd,g ∈ o.rd):exec E S o=exec E S' o:=by
 unfold exec
 split
 ·exact eff_local H hs
 ·rename_i g want he
  rw [H g (hg g (by rw [he];simp [gslots]))]
  split
  ·split
   ·exact eff_local H hs
   ·rfl
  ·rfl
  ·rw [eff_local H hs]
  ·rfl
theorem ret1_keys {cs cs':List Prop} {v:AV} {us:List (Nat × AV)} (h:ret1 dst cs v=some (cs',us)):∀ p ∈ us,dst=some p.1∧p.2=v:=by
 unfold ret1 at h
 split at h
 ·cases h;intro p hp;simp at hp;subst hp;exact ⟨rfl,rfl⟩
 ·cases h;intro p hp;simp at hp
theorem plain_nr {d:Nat} {v:AV} (h:plain v=true):nr d v:=by
 cases v <;> simp [plain] at h <;> trivial
theorem getG_nr {d t:Nat} (h:noRef d S):nr d (getG gd S t):=by
 have h0:=h t
 unfold getG
 split
 ·rename_i g b v he
  rw [he] at h0
  split
  ·split
   ·exact h0
   ·trivial
  ·trivial
 ·exact h0
theorem opg_nr {d:Nat} (h:noRef d S) (x:Operand):nr d (opg gd S x):=by
 cases x with
 | tmp t=>exact getG_nr h
 | const v=>cases v <;> trivial
 | global g=>trivial
 | func f=>trivial
theorem sub_plain {T:TypeId} {x:AV} {off:SO} {cs:List Prop} {r:AV} (h:sub E T x off=some (cs,r)):plain r=true:=by
 unfold sub at h
 repeat' split at h
 all_goals first | (cases h;done) | (cases h;rfl)
theorem ret1_nr {d:Nat} {cs cs':List Prop} {v:AV} {us:List (Nat × AV)} (h:ret1 dst cs v=some (cs',us)) (hv:nr d v):∀ p ∈ us,nr d p.2:=by
 intro p hp
 rw [(ret1_keys h p hp).2]
 exact hv
theorem hand_nr {d:Nat} {x:Operand} {v:AV} {cs:List Prop} {us:List (Nat × AV)} (h:handOn ks dst x v=some (cs,us)) (hv:nr d v):∀ p ∈ us,nr d p.2:=by
 unfold handOn at h
 split at h
 ·split at h
  ·cases h
  ·cases h
   intro p hp
   simp only [List.mem_cons,List.not_mem_nil,or_false] at hp
   rcases hp with rfl | rfl
   ·trivial
   ·exact hv
 ·cases h
theorem move_nr {d:Nat} {mv:Option (List Nat)} (H:noRef d S) (hd:mv=none→d ∉ rd) {x:Operand} (hx:Sees rd x) {cs:List Prop} {us:List (Nat × AV)} (h:effMove mv gd S dst x=some (cs,us)):∀ p ∈ us,nr d p.2:=by
 have h0:=opg_nr (gd:=gd) H x
 unfold effMove at h
 split at h
 all_goals try (cases h;done)
 all_goals try (rename_i he;rw [he] at h0;exact ret1_nr h h0)
 ·split at h
  ·rename_i t
   refine ret1_nr h ?_
   intro e
   subst e
   exact hd rfl (hx _ rfl)
  ·cases h
 ·split at h
  ·exact hand_nr h trivial
  ·rename_i t
   refine ret1_nr h ?_
   intro e
   subst e
   exact hd rfl (hx _ rfl)
  ·cases h
 ·split at h
  ·exact hand_nr h trivial
  ·cases h
theorem effB_nr {d:Nat} {o:SOp} (H:noRef d S) (hd:d ∉ o.rd∨(o.mv=true∧∃ x,o.op=.move x∨o.op=.assign x)) (hs:∀ x ∈ o.op.operands.toList,Sees o.rd x) {cs:List Prop} {us:List (Nat × AV)} 
  (h:effB E gd S o=some (cs,us)):∀ p ∈ us,nr d p.2:=by
 unfold effB at h
 cases ho:o.op <;> rw [ho] at hs h <;> simp only at h <;> (try (cases h;done))
 case move x=>exact move_nr H (fun hm=>hd.resolve_right fun e=>by rw [e.1] at hm;cases hm) (hs x (by simp [Op.operands])) h
 case assign x=>exact move_nr H (fun hm=>hd.resolve_right fun e=>by rw [e.1] at hm;cases hm) (hs x (by simp [Op.operands])) h
 case makeSlice T l c =>
  unfold effMake at h
  repeat' split at h
  all_goals first | (cases h;done) | exact ret1_nr h trivial
 case buildSlice T n ps =>
  unfold effBuildSlice at h
  repeat' split at h
  all_goals first | (cases h;done) | exact ret1_nr h trivial
 all_goals (have hd:d ∉ o.rd:=hd.resolve_right (by rw [ho];rintro ⟨_,x,e | e⟩ <;> cases e))
 case pick c x y =>
  unfold effPick at h
  split at h
  ·split at h
   ·exact move_nr H (fun _=>hd) (hs x (by simp [Op.operands])) h
   ·exact move_nr H (fun _=>hd) (hs y (by simp [Op.operands])) h
   ·split at h
    ·exact ret1_nr h trivial
    ·split at h
     ·exact ret1_nr h trivial
     ·cases h
    ·cases h
   ·cases h
  ·cases h
 case alloc T=>split at h <;> first | (cases h;done) | exact ret1_nr h trivial
 case box T x=>split at h <;> first | (cases h;done) | exact ret1_nr h trivial
 case build T ps =>
  have key:∀ z v pl l,lay E gd S pl z l=some v→(∃ k n f,z=.arr k n f)→nr d v:=by
   intro z v pl l hl hz
   obtain ⟨k,n,f,rfl⟩:=lay_arr l z v hl hz
   trivial
  have hz:∀ z,isA (E.ty T).d=true→zero E T=some z→∃ k n f,z=.arr k n f:=by
   intro z ha hz
   unfold zero at hz
   split at hz
   ·rename_i hd;rw [hd] at ha;cases ha
   ·rename_i hd;rw [hd] at ha;cases ha
   ·cases hz;exact ⟨_,_,_,rfl⟩
   ·cases hz;exact ⟨_,_,_,rfl⟩
   ·cases hz
  unfold effBuild at h
  split at h
  ·rename_i hd1
   split at h
   ·split at h
    ·rename_i z hz1
     split at h
     ·rename_i v hl
      exact ret1_nr h (key _ _ _ _ hl (hz z (by rw [hd1];rfl) hz1))
     ·cases h
    ·cases h
   ·cases h
  ·rename_i hd1
   split at h
   ·split at h
    ·rename_i z hz1
     split at h
     ·rename_i v hl
      exact ret1_nr h (key _ _ _ _ hl (hz z (by rw [hd1];rfl) hz1))
     ·cases h
    ·cases h
   ·cases h
  ·cases h
 case load T x =>
  unfold effLoad at h
  repeat' split at h
  all_goals try (cases h;done)
  all_goals first | exact ret1_nr h (plain_nr (sub_plain (by assumption))) | exact ret1_nr h trivial
 case store T x y =>
  unfold effStore at h
  repeat' split at h
  all_goals try (cases h;done)
  all_goals (cases h;intro p hp;simp at hp;subst hp;trivial)
 case indexAddr T x y =>
  have h0:=opg_nr (gd:=gd) H x
  have hx:=hs x (by simp [Op.operands])
  have tm:∀ t,tmpOf x=some t→t≠d:=by
   intro t ht e
   subst e
   cases x <;> simp [tmpOf] at ht
   subst ht
   exact hd (hx _ rfl)
  unfold effIndexAddr at h
  split at h
  ·split at h
   ·split at h
    ·split at h
     ·split at h
      ·split at h
       ·exact ret1_nr h (tm _ (by assumption))
       ·cases h
      ·rename_i he
       rw [he] at h0
       exact ret1_nr h h0
      ·exact ret1_nr h trivial
      ·cases h
     ·cases h
    ·cases h
   ·split at h
    ·rename_i he
     rw [he] at h0
     split at h
     ·split at h
      ·split at h
       ·exact ret1_nr h h0
       ·exact ret1_nr h h0
       ·split at h
        ·exact ret1_nr h h0
        ·cases h
      ·cases h
     ·cases h
    ·split at h
     ·split at h
      ·exact ret1_nr h (tm _ (by assumption))
      ·cases h
     ·cases h
    ·split at h
     ·split at h
      ·exact ret1_nr h (tm _ (by assumption))
      ·cases h
     ·cases h
    ·cases h
   ·cases h
  ·cases h
 case fieldAddr T x f =>
  have h0:=opg_nr (gd:=gd) H x
  have hx:=hs x (by simp [Op.operands])
  have tm:∀ t,tmpOf x=some t→t≠d:=by
   intro t ht e
   subst e
   cases x <;> simp [tmpOf] at ht
   subst ht
   exact hd (hx _ rfl)
  unfold effFieldAddr at h
  repeat' split at h
  all_goals try (cases h;done)
  all_goals first | exact ret1_nr h trivial | exact ret1_nr h (tm _ (by assumption)) | (rename_i he;rw [he] at h0;exact ret1_nr h h0)
 case field T x f =>
  unfold effField at h
  repeat' split at h
  all_goals first | (cases h;done) | exact ret1_nr h (plain_nr (sub_plain (by assumption)))
 case index T x y =>
  unfold effIndex at h
  repeat' split at h
  all_goals first | (cases h;done) | exact ret1_nr h (plain_nr (sub_plain (by assumption)))
 case slice T x lo hi mx =>
  have h0:=opg_nr (gd:=gd) H x
  have hx:=hs x (by simp [Op.operands])
  have tm:∀ t,tmpOf x=some t→t≠d:=by
   intro t ht e
   subst e
   cases x <;> simp [tmpOf] at ht
   subst ht
   exact hd (hx _ rfl)
  unfold effSlice at h
  split at h
  ·cases h
  ·split at h
   ·split at h
    ·split at h
     ·split at h
      ·exact ret1_nr h (tm _ (by assumption))
      ·cases h
     ·cases h
    ·split at h
     ·rename_i he
      rw [he] at h0
      split at h
      ·split at h
       ·exact ret1_nr h h0
       ·cases h
      ·cases h
     ·split at h
      ·split at h
       ·exact ret1_nr h (tm _ (by assumption))
       ·cases h
      ·cases h
     ·cases h
    ·cases h
   ·cases h
 case convert s d x =>
  unfold effConvert at h
  split at h <;> first | (cases h;done) | exact ret1_nr h trivial
 case unOp op t x =>
  unfold effUn at h
  split at h <;> first | (cases h;done) | exact ret1_nr h trivial
 case binOp op t x y t2 =>
  split at h
  ·rename_i c r hb
   refine ret1_nr h ?_
   unfold binEff at hb
   repeat' split at hb
   all_goals first | (cases hb;done) | (cases hb;trivial)
  ·cases h
 case extract x i =>
  unfold effExtract at h
  repeat' split at h
  all_goals first
   | (cases h;done)
   | exact ret1_nr h (plain_nr (by assumption))
   | (refine ret1_nr h ?_;intro e;subst e;exact hd (hs _ (by simp [Op.operands]) _ rfl))
 case call c =>
  unfold effCall at h
  split at h
  ·repeat' split at h
   all_goals try (cases h;done)
   unfold effAppend at h
   repeat' split at h
   all_goals try (cases h;done)
   all_goals
    simp only [Option.some.injEq,Prod.mk.injEq] at h
    obtain ⟨_,rfl⟩:=h
    intro p hp
    simp only [List.mem_cons,List.not_mem_nil,or_false] at hp
    first | (rcases hp with rfl | rfl <;> trivial) | (subst hp;trivial)
  ·repeat' split at h
   all_goals try (cases h;done)
   unfold effCopy at h
   repeat' split at h
   all_goals try (cases h;done)
   simp only [Option.some.injEq,Prod.mk.injEq] at h
   obtain ⟨_,rfl⟩:=h
   intro p hp
   simp only [List.mem_cons,List.not_mem_nil,or_false] at hp
   rcases hp with rfl | rfl <;> trivial
  ·repeat' split at h
   all_goals try (cases h;done)
   rename_i r _ ha
   refine ret1_nr h ?_
   cases r <;> simp [answer] at ha <;> trivial
  ·repeat' split at h
   all_goals first | (cases h;done) | exact ret1_nr h trivial
  ·cases h
def bare:AV→Bool
 | .when ..=>false
 | _=>true
theorem ret1_bare {cs cs':List Prop} {v:AV} {us:List (Nat × AV)} (h:ret1 dst cs v=some (cs',us)) (hv:bare v=true):∀ p ∈ us,bare p.2=true:=by
 intro p hp
 rw [(ret1_keys h p hp).2]
 exact hv
theorem plain_bare {v:AV} (h:plain v=true):bare v=true:=by
 cases v <;> simp [plain] at h <;> rfl
theorem hand_bare {x:Operand} {v:AV} {cs:List Prop} {us:List (Nat × AV)} (h:handOn ks dst x v=some (cs,us)) (hv:bare v=true):∀ p ∈ us,bare p.2=true:=by
 unfold handOn at h
 split at h
 ·split at h
  ·cases h
  ·cases h
   intro p hp
   simp only [List.mem_cons,List.not_mem_nil,or_false] at hp
   rcases hp with rfl | rfl
   ·rfl
   ·exact hv
 ·cases h
theorem move_bare {mv:Option (List Nat)} {x:Operand} {cs:List Prop} {us:List (Nat × AV)} (h:effMove mv gd S dst x=some (cs,us)):∀ p ∈ us,bare p.2=true:=by
 unfold effMove at h
 split at h
 all_goals try (cases h;done)
 all_goals try exact ret1_bare h rfl
 all_goals
  split at h
  all_goals first | (cases h;done) | exact ret1_bare h rfl | exact hand_bare h rfl
theorem effB_bare {o:SOp} {cs:List Prop} {us:List (Nat × AV)} (h:effB E gd S o=some (cs,us)):∀ p ∈ us,bare p.2=true:=by
 unfold effB at h
 cases ho:o.op <;> rw [ho] at h <;> simp only at h <;> (try (cases h;done))
 case move x=>exact move_bare h
 case assign x=>exact move_bare h
 case makeSlice T l c =>
  unfold effMake at h
  repeat' split at h
  all_goals first | (cases h;done) | exact ret1_bare h rfl
 case buildSlice T n ps =>
  unfold effBuildSlice at h
  repeat' split at h
  all_goals first | (cases h;done) | exact ret1_bare h rfl
 case pick c x y =>
  unfold effPick at h
  repeat' split at h
  all_goals first | (cases h;done) | exact move_bare h | exact ret1_bare h rfl
 case alloc T=>split at h <;> first | (cases h;done) | exact ret1_bare h rfl
 case box T x=>split at h <;> first | (cases h;done) | exact ret1_bare h rfl
 case build T ps =>
  unfold effBuild at h
  have key:∀ z v pl l,lay E gd S pl z l=some v→(∃ k n f,z=.arr k n f)→bare v=true:=by
   intro z v pl l hl hz
   obtain ⟨k,n,f,rfl⟩:=lay_arr l z v hl hz
   rfl
  have hz:∀ z,isA (E.ty T).d=true→zero E T=some z→∃ k n f,z=.arr k n f:=by
   intro z ha hz
   unfold zero at hz
   split at hz
   ·rename_i hd;rw [hd] at ha;cases ha
   ·rename_i hd;rw [hd] at ha;cases ha
   ·cases hz;exact ⟨_,_,_,rfl⟩
   ·cases hz;exact ⟨_,_,_,rfl⟩
   ·cases hz
  split at h
  ·rename_i hd1
   split at h
   ·split at h
    ·rename_i z hz1
     split at h
     ·rename_i v hl
      exact ret1_bare h (key _ _ _ _ hl (hz z (by rw [hd1];rfl) hz1))
     ·cases h
    ·cases h
   ·cases h
  ·rename_i hd1
   split at h
   ·split at h
    ·rename_i z hz1
     split at h
     ·rename_i v hl
      exact ret1_bare h (key _ _ _ _ hl (hz z (by rw [hd1];rfl) hz1))
     ·cases h
    ·cases h
   ·cases h
  ·cases h
 case load T x =>
  unfold effLoad at h
  repeat' split at h
  all_goals try (cases h;done)
  all_goals first | exact ret1_bare h (plain_bare (sub_plain (by assumption))) | exact ret1_bare h rfl
 case store T x y =>
  unfold effStore at h
  repeat' split at h
  all_goals try (cases h;done)
  all_goals (cases h;intro p hp;simp at hp;subst hp;rfl)
 case indexAddr T x y =>
  unfold effIndexAddr at h
  repeat' split at h
  all_goals first | (cases h;done) | exact ret1_bare h rfl
 case fieldAddr T x f =>
  unfold effFieldAddr at h
  repeat' split at h
  all_goals first | (cases h;done) | exact ret1_bare h rfl
 case field T x f =>
  unfold effField at h
  repeat' split at h
  all_goals first | (cases h;done) | exact ret1_bare h (plain_bare (sub_plain (by assumption)))
 case index T x y =>
  unfold effIndex at h
  repeat' split at h
  all_goals first | (cases h;done) | exact ret1_bare h (plain_bare (sub_plain (by assumption)))
 case slice T x lo hi mx =>
  unfold effSlice at h
  repeat' split at h
  all_goals first | (cases h;done) | exact ret1_bare h rfl
 case convert s d x =>
  unfold effConvert at h
  split at h <;> first | (cases h;done) | exact ret1_bare h rfl
 case unOp op t x =>
  unfold effUn at h
  split at h <;> first | (cases h;done) | exact ret1_bare h rfl
 case binOp op t x y t2 =>
  split at h
  ·rename_i c r hb
   refine ret1_bare h ?_
   unfold binEff at hb
   repeat' split at hb
   all_goals first | (cases hb;done) | (cases hb;rfl)
  ·cases h
 case extract x i =>
  unfold effExtract at h
  repeat' split at h
  all_goals first | (cases h;done) | exact ret1_bare h (plain_bare (by assumption)) | exact ret1_bare h rfl
 case call c =>
  unfold effCall at h
  split at h
  ·repeat' split at h
   all_goals try (cases h;done)
   unfold effAppend at h
   repeat' split at h
   all_goals try (cases h;done)
   all_goals
    simp only [Option.some.injEq,Prod.mk.injEq] at h
    obtain ⟨_,rfl⟩:=h
    intro p hp
    simp only [List.mem_cons,List.not_mem_nil,or_false] at hp
    first | (rcases hp with rfl | rfl <;> rfl) | (subst hp;rfl)
  ·repeat' split at h
   all_goals try (cases h;done)
   unfold effCopy at h
   repeat' split at h
   all_goals try (cases h;done)
   simp only [Option.some.injEq,Prod.mk.injEq] at h
   obtain ⟨_,rfl⟩:=h
   intro p hp
   simp only [List.mem_cons,List.not_mem_nil,or_false] at hp
   rcases hp with rfl | rfl <;> rfl
  ·repeat' split at h
   all_goals try (cases h;done)
   rename_i r _ ha
   refine ret1_bare h ?_
   cases r <;> simp [answer] at ha <;> rfl
  ·repeat' split at h
   all_goals first | (cases h;done) | exact ret1_bare h rfl
  ·cases h
theorem effB_keys {o:SOp} (hd:∀ d,o.dst=some d→d ∈ o.ks) {cs:List Prop} {us:List (Nat × AV)} (h:effB E gd S o=some (cs,us)):∀ p ∈ us,p.1 ∈ o.ks:=by
 have key:∀ {cs cs':List Prop} {v:AV} {us:List (Nat × AV)},ret1 o.dst cs v=some (cs',us)→∀ p ∈ us,p.1 ∈ o.ks:=by
  intro cs cs' v us h p hp
  exact hd _ (ret1_keys h p hp).1
 have hand:∀ {x:Operand} {v:AV} {ks:List Nat} {cs:List Prop} {us:List (Nat × AV)},ks=o.ks→handOn ks o.dst x v=some (cs,us)→∀ p ∈ us,p.1 ∈ o.ks:=by
  intro x v ks cs us hks h
  subst hks
  unfold handOn at h
  split at h
  ·rename_i d t hd'
   split at h
   ·cases h
   ·rename_i hh
    cases h
    intro p hp
    simp only [List.mem_cons,List.not_mem_nil,or_false] at hp
    rcases hp with rfl | rfl
    ·have:¬ o.ks.contains t=false:=fun e=>hh (.inr e)
     simpa using this
    ·exact hd d hd'
  ·cases h
 have mv:∀ {m:Option (List Nat)} {x:Operand} {cs:List Prop} {us:List (Nat × AV)} {gd:Gd},(∀ ks,m=some ks→ks=o.ks)→effMove m gd S o.dst x=some (cs,us)→∀ p ∈ us,p.1 ∈ o.ks:=by
  intro m x cs us gd hm h
  unfold effMove at h
  split at h
  all_goals try (cases h;done)
  all_goals try exact key h
  all_goals
   split at h
   all_goals first | (cases h;done) | exact key h | exact hand (hm _ rfl) h
 have hm0:∀ ks,(if o.mv=true then some o.ks else none)=some ks→ks=o.ks:=by
  intro ks h
  split at h
  ·cases h;rfl
  ·cases h
 unfold effB at h
 cases ho:o.op <;> rw [ho] at h <;> simp only at h <;> (try (cases h;done))
 case move x=>exact mv hm0 h
 case assign x=>exact mv hm0 h
 case makeSlice T l c=>unfold effMake at h;(repeat' split at h) <;> first | (cases h;done) | exact key h
 case buildSlice T n ps=>unfold effBuildSlice at h;(repeat' split at h) <;> first | (cases h;done) | exact key h
 case pick c x y =>
  unfold effPick at h
  repeat' split at h
  all_goals first | (cases h;done) | exact mv (by intro ks e;cases e) h | exact key h
 case store T x y =>
  unfold effStore at h
  split at h
  ·cases h
  ·split at h
   ·split at h
    ·split at h
     ·rename_i hk
      split at h
      ·cases h;intro p hp;simp at hp;subst hp;simpa using hk
      ·cases h
     ·cases h
    ·cases h
   ·split at h
    ·rename_i hk
     simp only [Bool.and_eq_true] at hk
     split at h
     ·split at h
      ·cases h;intro p hp;simp at hp;subst hp;simpa using hk.2
      ·cases h
     ·split at h
      ·cases h;intro p hp;simp at hp;subst hp;simpa using hk.2
      ·cases h
     ·cases h
    ·cases h
   ·cases h
 case build T ps=>unfold effBuild at h;(repeat' split at h) <;> first | (cases h;done) | exact key h
 case load T x=>unfold effLoad at h;(repeat' split at h) <;> first | (cases h;done) | exact key h
 case indexAddr T x y=>unfold effIndexAddr at h;(repeat' split at h) <;> first | (cases h;done) | exact key h
 case fieldAddr T x f=>unfold effFieldAddr at h;(repeat' split at h) <;> first | (cases h;done) | exact key h
 case field T x f=>unfold effField at h;(repeat' split at h) <;> first | (cases h;done) | exact key h
 case index T x y=>unfold effIndex at h;(repeat' split at h) <;> first | (cases h;done) | exact key h
 case slice T x lo hi mx=>unfold effSlice at h;(repeat' split at h) <;> first | (cases h;done) | exact key h
 case convert s d x=>unfold effConvert at h;(repeat' split at h) <;> first | (cases h;done) | exact key h
 case unOp op t x=>unfold effUn at h;(repeat' split at h) <;> first | (cases h;done) | exact key h
 case call c =>
  unfold effCall at h
  split at h
  ·repeat' split at h
   all_goals try (cases h;done)
   unfold effAppend at h
   split at h
   ·rename_i d ke cs1 k' es' len' cap' g hd' _ _
    split at h
    ·split at h
     ·split at h
      ·rename_i hh
       simp only [Option.some.injEq,Prod.mk.injEq] at h
       obtain ⟨_,rfl⟩:=h
       intro p hp
       simp only [List.mem_cons,List.not_mem_nil,or_false] at hp
       rcases hp with rfl | rfl
       ·simpa using hh.2.2.2
       ·exact hd d hd'
      ·cases h
     ·simp only [Option.some.injEq,Prod.mk.injEq] at h
      obtain ⟨_,rfl⟩:=h
      intro p hp
      simp only [List.mem_cons,List.not_mem_nil,or_false] at hp
      subst hp
      exact hd d hd'
     ·cases h
    ·cases h
   ·cases h
  ·repeat' split at h
   all_goals try (cases h;done)
   unfold effCopy at h
   split at h
   ·rename_i d s es off n cp cs1 k' es' n' cap' g hd' _ _
    split at h
    ·rename_i hh
     repeat' split at h
     all_goals try (cases h;done)
     simp only [Option.some.injEq,Prod.mk.injEq] at h
     obtain ⟨_,rfl⟩:=h
     intro p hp
     simp only [List.mem_cons,List.not_mem_nil,or_false] at hp
     rcases hp with rfl | rfl
     ·simpa using hh.2.2.2.1
     ·exact hd d hd'
    ·cases h
   ·cases h
  ·repeat' split at h
   all_goals first | (cases h;done) | exact key h
  ·repeat' split at h
   all_goals first | (cases h;done) | exact key h
  ·cases h
 case alloc T=>(repeat' split at h) <;> first | (cases h;done) | exact key h
 case box T x=>(repeat' split at h) <;> first | (cases h;done) | exact key h
 case binOp op t x y t2=>(repeat' split at h) <;> first | (cases h;done) | exact key h
 case extract x i =>
  unfold effExtract at h
  (repeat' split at h) <;> first | (cases h;done) | exact key h
theorem partO_plain {T:TypeId} {v:Value} {off:SO} {cs:List Prop} {r:AV} (h:partO E T v off=some (cs,r)):plain r=true:=by
 unfold partO at h
 repeat' split at h
 all_goals first | (cases h;done) | (cases h;rfl)
theorem loadO_plain {T:TypeId} {x:Operand} {cs:List Prop} {r:AV} (h:loadO E rd gd S T x=some (cs,r)):plain r=true:=by
 unfold loadO at h
 repeat' split at h
 all_goals first | (cases h;done) | exact partO_plain h | (cases h;rfl)
theorem callO_answer {c:Go.Call} {cs:List Prop} {r:AV} (h:callO E rd gd S c=some (cs,r)):answer r=true:=by
 unfold callO at h
 repeat' split at h
 all_goals first | (cases h;done) | (cases h;assumption) | (cases h;rfl)
theorem valO_cases {o:SOp} {cs:List Prop} {r:AV} (h:valO E gd S o=some (cs,r)):plain r=true∨answer r=true∨(∃ v,r=.own (.opq v))∨(∃ t off,r=.ref t off∧.tmp t ∈ o.op.operands.toList∧((∃ x,o.op=.move x∨o.op=.assign x)→False))∨∃ x s es off l c,opg gd S x=.sref s es off l c∧r=.ref s off:=by
 unfold valO at h
 split at h
 ·unfold moveO at h
  split at h
  ·cases h;exact .inl rfl
  ·cases h
 ·unfold moveO at h
  split at h
  ·cases h;exact .inl rfl
  ·cases h
 ·unfold boxO at h
  split at h
  ·cases h;exact .inr (.inr (.inl ⟨_,rfl⟩))
  ·cases h
 ·exact .inl (loadO_plain h)
 ·rename_i T x fi ho
  unfold fieldO at h
  repeat' split at h
  all_goals try (cases h;done)
  rename_i t _ hx
  cases h
  refine .inr (.inr (.inr (.inl ⟨t,_,rfl,?_,by rintro ⟨x,e | e⟩ <;> rw [ho] at e <;> cases e⟩)))
  cases x <;> simp [tmpOf] at hx
  rw [ho]
  simp [Op.operands,hx]
 ·unfold indexO at h
  repeat' split at h
  all_goals first | (cases h;done) | (cases h;exact .inl rfl)
 ·exact .inr (.inl (callO_answer h))
 ·rename_i T x ho
  unfold arrO at h
  repeat' split at h
  all_goals try (cases h;done)
  ·rename_i hx _ _ _ _
   cases h
   exact .inr (.inr (.inr (.inr ⟨x,_,_,_,_,_,hx,rfl⟩)))
  ·rename_i hx
   cases h
   refine .inr (.inr (.inr (.inl ⟨_,_,rfl,?_,by rintro ⟨x,e | e⟩ <;> rw [ho] at e <;> cases e⟩)))
   cases x <;> simp [tmpOf] at hx
   rw [ho]
   simp [Op.operands,hx]
 ·cases h
theorem answer_nr {d:Nat} {r:AV} (h:answer r=true):nr d r:=by
 cases r <;> simp [answer] at h <;> trivial
theorem eff_nr {d:Nat} {o:SOp} (H:noRef d S) (hd:d ∉ o.rd∨(o.mv=true∧∃ x,o.op=.move x∨o.op=.assign x)) (hs:∀ x ∈ o.op.operands.toList,Sees o.rd x) {cs:List Prop} {us:List (Nat × AV)}
  (h:eff E gd S o=some (cs,us)):∀ p ∈ us,nr d p.2:=by
 unfold eff at h
 split at h
 ·rename_i c1 v hv
  refine ret1_nr h ?_
  rcases valO_cases hv with hp | ha | ⟨u,rfl⟩ | ⟨t,off,rfl,ho,hm⟩ | ⟨x,s,es,off,l,c,hx,rfl⟩
  ·exact plain_nr hp
  ·exact answer_nr ha
  ·trivial
  ·have h1:t ∈ o.rd:=hs (.tmp t) ho t rfl
   have h2:d ∉ o.rd:=hd.resolve_right (by rintro ⟨_,hx⟩;exact hm hx)
   intro e
   subst e
   exact h2 h1
  ·have h1:=opg_nr (gd:=gd) H x
   rw [hx] at h1
   exact h1
 ·exact effB_nr H hd hs h
theorem eff_bare {o:SOp} {cs:List Prop} {us:List (Nat × AV)} (h:eff E gd S o=some (cs,us)):∀ p ∈ us,bare p.2=true:=by
 unfold eff at h
 split at h
 ·rename_i c1 v hv
  refine ret1_bare h ?_
  rcases valO_cases hv with hp | ha | ⟨u,rfl⟩ | ⟨t,off,rfl,_⟩ | ⟨x,s,es,off,l,c,_,rfl⟩
  ·exact plain_bare hp
  ·cases v <;> simp [answer] at ha <;> rfl
  ·rfl
  ·rfl
  ·rfl
 ·exact effB_bare h
theorem eff_keys {o:SOp} (hd:∀ d,o.dst=some d→d ∈ o.ks) {cs:List Prop} {us:List (Nat × AV)} (h:eff E gd S o=some (cs,us)):∀ p ∈ us,p.1 ∈ o.ks:=by
 unfold eff at h
 split at h
 ·intro p hp
  exact hd _ (ret1_keys h p hp).1
 ·exact effB_keys hd h
end
end Sx

namespace Sx
open Go Go.RowKit
section
variable {E:Env} {S S':St}
structure Fit (o:SOp):Prop where
 see:∀ x ∈ o.op.operands.toList,Sees o.rd x
 gd:∀ g ∈ gslots o.gd,g ∈ o.rd
 dst:∀ d,o.dst=some d→d ∈ o.ks
 mv:o.mv=true→∃ x,o.op=.move x∨o.op=.assign x
 nw:∀ d ∈ o.nw,d ∈ o.ks
theorem exec_keys {o:SOp} (hf:Fit o) {cs:List Prop} {us:List (Nat × AV)} (h:exec E S o=some (cs,us)):∀ p ∈ us,p.1 ∈ o.ks:=by
 unfold exec at h
 split at h
 ·exact eff_keys hf.dst h
 ·split at h
  ·split at h
   ·exact eff_keys hf.dst h
   ·split at h
    ·rename_i d hd
     cases h;intro p hp;simp at hp;subst hp;exact hf.dst _ hd
    ·cases h;intro p hp;simp at hp
  ·split at h
   ·rename_i d hd
    cases h;intro p hp;simp at hp;subst hp;exact hf.dst _ hd
   ·cases h;intro p hp;simp at hp
  ·split at h
   ·rename_i d cs1 x v hd _
    split at h
    ·cases h;intro p hp;simp at hp;subst hp;exact hf.dst _ hd
    ·cases h
   ·cases h
  ·cases h
theorem exec_nr {d:Nat} {o:SOp} (hf:Fit o) (H:noRef d S) (hd:d ∉ o.rd∨o.mv=true) {cs:List Prop} {us:List (Nat × AV)} (h:exec E S o=some (cs,us)):∀ p ∈ us,nr d p.2:=by
 replace hd:d ∉ o.rd∨(o.mv=true∧∃ x,o.op=.move x∨o.op=.assign x):=hd.imp id fun h=>⟨h,hf.mv h⟩
 unfold exec at h
 split at h
 ·exact eff_nr H hd hf.see h
 ·split at h
  ·split at h
   ·exact eff_nr H hd hf.see h
   ·split at h
    ·cases h;intro p hp;simp at hp;subst hp;trivial
    ·cases h;intro p hp;simp at hp
  ·split at h
   ·cases h;intro p hp;simp at hp;subst hp;trivial
   ·cases h;intro p hp;simp at hp
  ·split at h
   ·rename_i d' cs1 x v _ he
    split at h
    ·cases h;intro p hp;simp at hp;subst hp
     have:=eff_nr H hd hf.see he (x,v) (by simp)
     exact this
    ·cases h
   ·cases h
  ·cases h
theorem exec_when {o:SOp} {cs:List Prop} {us:List (Nat × AV)} (h:exec E S o=some (cs,us)):∀ p ∈ us,∀ g b v,p.2=.when g b v→g ∈ gslots o.gd:=by
 have hb:∀ {gd:Gd} {cs:List Prop} {us:List (Nat × AV)},eff E gd S o=some (cs,us)→∀ p ∈ us,∀ g b v,p.2=.when g b v→g ∈ gslots o.gd:=by
  intro gd cs us h p hp g b v e
  have:=eff_bare h p hp
  rw [e] at this
  cases this
 unfold exec at h
 split at h
 ·exact hb h
 ·rename_i g0 want hgd
  split at h
  ·split at h
   ·exact hb h
   ·split at h
    ·cases h;intro p hp g b v e;simp at hp;subst hp;cases e
    ·cases h;intro p hp;simp at hp
  ·split at h
   ·cases h;intro p hp g b v e;simp at hp;subst hp;cases e
   ·cases h;intro p hp;simp at hp
  ·split at h
   ·rename_i d' cs1 x v _ he
    split at h
    ·cases h;intro p hp g b v' e;simp at hp;subst hp;cases e;rw [hgd];simp [gslots]
    ·cases h
   ·cases h
  ·cases h
theorem get_app_ne:∀ (us:List (Nat × AV)) (S:St) (i:Nat),i ∉ us.map Prod.fst→get (app us S) i=get S i
 | [],_,_,_=>rfl
 | (k,v) :: us,S,i,h=>by
  simp only [List.map_cons,List.mem_cons,not_or] at h
  rw [app,get_app_ne us _ i h.2,get_set_ne (fun e=>h.1 e.symm)]
theorem get_app:∀ (us:List (Nat × AV)) (S:St) (i:Nat),get (app us S) i=get S i∨∃ p ∈ us,p.1=i∧get (app us S) i=p.2
 | [],_,_=>.inl rfl
 | (k,v) :: us,S,i=>by
  rw [app]
  rcases get_app us (S.set k v) i with h | ⟨p,hp,h1,h2⟩
  ·by_cases hk:i=k∧i<S.length
   ·rw [get_set,if_pos hk] at h
    exact .inr ⟨(k,v),by simp,hk.1.symm,h⟩
   ·rw [get_set,if_neg hk] at h
    exact .inl h
  ·exact .inr ⟨p,by simp [hp],h1,h2⟩
theorem app_set:∀ (us:List (Nat × AV)) (S:St) (k:Nat) (v:AV),k ∉ us.map Prod.fst→app us (S.set k v)=(app us S).set k v
 | [],_,_,_,_=>rfl
 | (j,u) :: us,S,k,v,h=>by
  simp only [List.map_cons,List.mem_cons,not_or] at h
  rw [app,app,List.set_comm _ _ h.1,app_set us _ k v h.2]
theorem app_comm:∀ (us vs:List (Nat × AV)) (S:St),(∀ x ∈ us.map Prod.fst,x ∉ vs.map Prod.fst)→app us (app vs S)=app vs (app us S)
 | [],_,_,_=>rfl
 | (j,u) :: us,vs,S,h=>by
  rw [app,app,← app_set vs S j u (h j (by simp)),app_comm us vs _ (fun x hx=>h x (by simp at hx ⊢;exact .inr hx))]
noncomputable def runI (E:Env) (l:List SOp):List Nat→St→Option (List Prop × St)
 | [],S=>some ([],S)
 | i :: L,S =>
  match l[i]? with
  | none=>none
  | some o =>
   match exec E S o with
   | some (cs,us) =>
    (match runI E l L (app us S) with
    | some (cs',S')=>some (cs ++ cs',S')
    | none=>none)
   | none=>none
theorem run_runI (l:List SOp):∀ (k:Nat) (S:St),k≤l.length→run E (l.drop k) S=runI E l ((List.range l.length).drop k) S:=by
 intro k
 generalize hn:l.length - k=n
 induction n generalizing k with
 | zero =>
  intro S hk
  rw [List.drop_eq_nil_of_le (by omega),List.drop_eq_nil_of_le (by simp;omega)]
  rfl
 | succ n ih =>
  intro S hk
  have hlt:k<l.length:=by omega
  have e1:(List.range l.length).drop k=k :: (List.range l.length).drop (k+1):=by
   rw [List.drop_eq_getElem_cons (by simpa using hlt)];simp
  rw [List.drop_eq_getElem_cons hlt,e1]
  simp only [run,runI,List.getElem?_eq_getElem hlt]
  cases he:exec E S l[k] with
  | none=>rfl
  | some r =>
   obtain ⟨cs,us⟩:=r
   simp only
   rw [ih (k+1) (by omega) _ (by omega)]
   cases runI E l ((List.range l.length).drop (k+1)) (app us S) <;> rfl
theorem disj_iff {a b:List Nat}:disj a b=true↔∀ x ∈ a,x ∉ b:=by
 simp [disj]
theorem swap {l:List SOp} {i j:Nat} {oi oj:SOp} (hi:l[i]?=some oi) (hj:l[j]?=some oj) (fi:Fit oi) (fj:Fit oj) (ha:apart oj oi=true) {L:List Nat} {cs:List Prop} {Sf:St}
  (h:runI E l (j :: i :: L) S=some (cs,Sf)):∃ cs',runI E l (i :: j :: L) S=some (cs',Sf)∧∀ p,p ∈ cs'↔p ∈ cs:=by
 simp only [apart,Bool.and_eq_true,disj_iff] at ha
 obtain ⟨ha1,ha2⟩:=ha
 simp only [runI,hi,hj] at h ⊢
 split at h
 ·rename_i cj uj ej
  split at h
  ·rename_i c2 S2 e2
   split at e2
   ·rename_i ci ui ei
    split at e2
    ·rename_i c3 S3 e3
     simp only [Option.some.injEq,Prod.mk.injEq] at e2 h
     obtain ⟨rfl,rfl⟩:=e2
     obtain ⟨rfl,rfl⟩:=h
     have kj:=exec_keys fj ej
     have ei':exec E S oi=some (ci,ui):=by
      rw [← ei]
      refine exec_local (fun x hx=>?_) fi.see fi.gd
      rw [get_app_ne]
      intro hm
      obtain ⟨p,hp,rfl⟩:=List.mem_map.1 hm
      exact ha1 _ (kj p hp) (List.mem_append_left _ hx)
     have ki:=exec_keys fi ei'
     have ej':exec E (app ui S) oj=some (cj,uj):=by
      rw [← ej]
      refine exec_local (fun x hx=>?_) fj.see fj.gd
      rw [get_app_ne]
      intro hm
      obtain ⟨p,hp,rfl⟩:=List.mem_map.1 hm
      exact ha2 _ (ki p hp) hx
     have hc:app uj (app ui S)=app ui (app uj S):=by
      refine app_comm uj ui S (fun x hx hx2=>?_)
      obtain ⟨p,hp,rfl⟩:=List.mem_map.1 hx
      obtain ⟨q,hq,hq2⟩:=List.mem_map.1 hx2
      have h1:=kj p hp
      have h2:=ki q hq
      rw [hq2] at h2
      exact ha1 _ h1 (List.mem_append_right _ h2)
     refine ⟨ci ++ (cj ++ c3),?_,fun p=>?_⟩
     ·rw [ei']
      simp only
      rw [ej']
      simp only
      rw [hc,e3]
     ·simp only [List.mem_append]
      constructor <;> (intro h;rcases h with h | h | h <;> simp [h])
    ·cases e2
   ·cases e2
  ·cases h
 ·cases h
theorem runI_cons {l:List SOp} {i:Nat} {L:List Nat} {cs:List Prop} {Sf:St} (h:runI E l (i :: L) S=some (cs,Sf)) :
  ∃ o c us c',l[i]?=some o∧exec E S o=some (c,us)∧runI E l L (app us S)=some (c',Sf)∧cs=c ++ c':=by
 simp only [runI] at h
 split at h
 ·cases h
 ·rename_i o ho
  split at h
  ·rename_i c us he
   split at h
   ·rename_i c' S2 e2
    cases h
    exact ⟨o,c,us,c',ho,he,e2,rfl⟩
   ·cases h
  ·cases h
theorem pull {l:List SOp} (fit:∀ (i:Nat) (o:SOp),l[i]?=some o→Fit o) {i:Nat} {L2:List Nat}:∀ (L1:List Nat) (S:St) (cs:List Prop) (Sf:St),
  (∀ j ∈ L1,∀ (oj oi:SOp),l[j]?=some oj→l[i]?=some oi→apart oj oi=true)→runI E l (L1 ++ i :: L2) S=some (cs,Sf) →
  ∃ cs',runI E l (i :: (L1 ++ L2)) S=some (cs',Sf)∧∀ p,p ∈ cs'↔p ∈ cs
 | [],S,cs,Sf,_,h=>⟨cs,h,fun _=>Iff.rfl⟩
 | j :: L1,S,cs,Sf,ha,h=>by
  obtain ⟨oj,c,us,c',hj,he,hr,rfl⟩:=runI_cons h
  obtain ⟨c2,h2,hp2⟩:=pull fit L1 _ _ _ (fun k hk=>ha k (by simp [hk])) hr
  have h3:runI E l (j :: i :: (L1 ++ L2)) S=some (c ++ c2,Sf):=by
   rw [runI,hj]
   simp only [he,h2]
  obtain ⟨oi,_,_,_,hi,_,_,_⟩:=runI_cons h2
  obtain ⟨c4,h4,hp4⟩:=swap hi hj (fit i oi hi) (fit j oj hj) (ha j (by simp) oj oi hj hi) h3
  refine ⟨c4,h4,fun p=>?_⟩
  rw [hp4,List.mem_append,List.mem_append,hp2]
theorem freshOk_get:∀ {l:List SOp},freshOk l=true→∀ (i j:Nat) (oi oj:SOp),i<j→l[i]?=some oi→l[j]?=some oj →
  (oi.mv=false→∀ d ∈ oj.nw,d ∉ oi.rd ++ oi.ks)∧∀ g ∈ gslots oi.gd,g ∉ oj.ks
 | [],_,i,j,oi,oj,_,hi,_=>by simp at hi
 | r :: l,h,i,j,oi,oj,hij,hi,hj=>by
  simp only [freshOk,Bool.and_eq_true,List.all_eq_true,Bool.or_eq_true,disj_iff] at h
  cases i with
  | zero =>
   simp only [List.getElem?_cons_zero,Option.some.injEq] at hi
   subst hi
   obtain ⟨k,rfl⟩:∃ k,j=k+1:=⟨j - 1,by omega⟩
   simp only [List.getElem?_cons_succ] at hj
   have hm:=h.1.1 oj (List.mem_of_getElem? hj)
   refine ⟨fun hmk=>?_,hm.2⟩
   rcases hm.1 with h1 | h1
   ·rw [hmk] at h1;cases h1
   ·exact h1
  | succ i =>
   obtain ⟨k,rfl⟩:∃ k,j=k+1:=⟨j - 1,by omega⟩
   simp only [List.getElem?_cons_succ] at hi hj
   exact freshOk_get h.2 i k oi oj (by omega) hi hj
theorem freshOk_own:∀ {l:List SOp},freshOk l=true→∀ (i:Nat) (o:SOp),l[i]?=some o→∀ g ∈ gslots o.gd,g ∉ o.ks
 | [],_,i,o,hi=>by simp at hi
 | r :: l,h,i,o,hi=>by
  simp only [freshOk,Bool.and_eq_true,disj_iff] at h
  cases i with
  | zero =>
   simp only [List.getElem?_cons_zero,Option.some.injEq] at hi
   subst hi
   exact h.1.2
  | succ i =>
   simp only [List.getElem?_cons_succ] at hi
   exact freshOk_own h.2 i o hi
structure Inv (l:List SOp) (L:List Nat) (S:St):Prop where
 ref:∀ j ∈ L,∀ (o:SOp),l[j]?=some o→∀ d ∈ o.nw,noRef d S
 when:∀ j ∈ L,∀ (o:SOp),l[j]?=some o→∀ d ∈ o.ks,noWhen d S
theorem Inv.step {l:List SOp} {L:List Nat} (I:Inv l L S) (hfresh:freshOk l=true) {i:Nat} {oi:SOp} (hi:l[i]?=some oi) (fi:Fit oi) (fitj:∀ (j:Nat) (o:SOp),l[j]?=some o→Fit o) {L':List Nat} (hsub:∀ j ∈ L',j ∈ L∧j≠i)
  (hord:∀ j ∈ L',j<i→∀ (oj:SOp),l[j]?=some oj→apart oj oi=true) {cs:List Prop} {us:List (Nat × AV)} (he:exec E S oi=some (cs,us)):Inv l L' (app us S):=by
 refine ⟨fun j hj o ho d hd=>?_,fun j hj o ho d hd=>?_⟩
 ·obtain ⟨hj1,hj2⟩:=hsub j hj
  have hnd:d ∉ oi.rd∨oi.mv=true:=by
   cases hmv:oi.mv with
   | true=>exact .inr rfl
   | false =>
    left
    rcases Nat.lt_or_gt_of_ne hj2 with h | h
    ·have:=hord j hj h o ho
     simp only [apart,Bool.and_eq_true,disj_iff] at this
     intro hx
     exact this.1 d ((fitj j o ho).nw d hd) (List.mem_append_left _ hx)
    ·have:=(freshOk_get hfresh i j oi o h hi ho).1 hmv d hd
     exact fun hx=>this (List.mem_append_left _ hx)
  have h0:=I.ref j hj1 o ho d hd
  intro k
  rcases get_app us S k with h | ⟨p,hp,_,h2⟩
  ·rw [h];exact h0 k
  ·rw [h2];exact exec_nr fi h0 hnd he p hp
 ·obtain ⟨hj1,hj2⟩:=hsub j hj
  have h0:=I.when j hj1 o ho d hd
  intro k g b v hk
  rcases get_app us S k with h | ⟨p,hp,_,h2⟩
  ·rw [h] at hk;exact h0 k g b v hk
  ·rw [h2] at hk
   have hg:=exec_when he p hp g b v hk
   intro e
   subst e
   rcases Nat.lt_or_gt_of_ne hj2 with h | h
   ·have:=hord j hj h o ho
    simp only [apart,Bool.and_eq_true,disj_iff] at this
    exact this.1 g hd (List.mem_append_left _ (fi.gd g hg))
   ·exact (freshOk_get hfresh i j oi o h hi ho).2 g hg hd
theorem pairsOk_get (i:Nat) (r:SOp) (mm:Nat):∀ (l:List SOp) (j0:Nat),pairsOk i r mm j0 l=true→∀ (k:Nat) (o:SOp),l[k]?=some o→j0+k<i→mm.testBit (j0+k)=true∨apart o r=true
 | [],_,_,k,o,hk,_=>by simp at hk
 | r' :: l,j0,h,k,o,hk,hlt=>by
  simp only [pairsOk,Bool.and_eq_true] at h
  cases k with
  | zero =>
   simp only [List.getElem?_cons_zero,Option.some.injEq] at hk
   subst hk
   simp only [Nat.add_zero] at hlt ⊢
   have:=h.1
   rw [if_pos hlt] at this
   simpa using this
  | succ k =>
   simp only [List.getElem?_cons_succ] at hk
   have:=pairsOk_get i r mm l (j0+1) h.2 k o hk (by omega)
   have e:j0+1+k=j0+(k+1):=by omega
   rwa [e] at this
theorem drawOk_get (ops:List Oper) (ms:List Nat) (all:List SOp):∀ (l:List SOp) (i0:Nat),drawOk ops ms all i0 l=true→∀ (k:Nat) (o:SOp),l[k]?=some o →
  (∀ (j:Nat) (oj:SOp),all[j]?=some oj→j<i0+k→(ms.getD (i0+k) 0).testBit j=true∨apart oj o=true)∧∀ j ∈ preds (ops.getD (i0+k) default),j<i0+k
 | [],_,_,k,o,hk=>by simp at hk
 | r :: l,i0,h,k,o,hk=>by
  simp only [drawOk,Bool.and_eq_true,List.all_eq_true,decide_eq_true_eq] at h
  cases k with
  | zero =>
   simp only [List.getElem?_cons_zero,Option.some.injEq] at hk
   subst hk
   refine ⟨fun j oj hj hlt=>?_,h.1.2⟩
   have:=pairsOk_get _ _ _ all 0 h.1.1 j oj hj (by omega)
   simpa using this
  | succ k =>
   simp only [List.getElem?_cons_succ] at hk
   have:=drawOk_get ops ms all l (i0+1) h.2 k o hk
   have e:i0+1+k=i0+(k+1):=by omega
   rwa [e] at this
theorem fold_bits (acc:List Nat):∀ (ps:List Nat) (s k:Nat),(ps.foldl (fun s j=>s ||| ((1 <<< j) ||| acc.getD j 0)) s).testBit k=true→s.testBit k=true∨∃ j ∈ ps,k=j∨(acc.getD j 0).testBit k=true
 | [],s,k,h=>.inl h
 | j :: ps,s,k,h=>by
  simp only [List.foldl_cons] at h
  rcases fold_bits acc ps _ k h with h1 | ⟨e,he,h1⟩
  ·simp only [Nat.testBit_or,Bool.or_eq_true,Nat.one_shiftLeft,Nat.testBit_two_pow,decide_eq_true_eq] at h1
   rcases h1 with h1 | h1 | h1
   ·exact .inl h1
   ·exact .inr ⟨j,by simp,.inl h1.symm⟩
   ·exact .inr ⟨j,by simp,.inr h1⟩
  ·exact .inr ⟨e,by simp [he],h1⟩
theorem closure_get:∀ (l:List Oper) (acc:List Nat) (i:Nat),acc.length≤i→i<acc.length+l.length→∀ k,((closure acc l).getD i 0).testBit k=true →
  ∃ j ∈ preds (l.getD (i - acc.length) default),k=j∨(((closure acc l).getD j 0).testBit k=true∧j<i)
 | [],acc,i,h1,h2,_,_=>by simp at h2;omega
 | o :: l,acc,i,h1,h2,k,hk=>by
  have pre:∀ (l:List Oper) (acc:List Nat) (j:Nat),j<acc.length→(closure acc l).getD j 0=acc.getD j 0:=by
   intro l
   induction l with
   | nil=>intro acc j _;rfl
   | cons o l ih =>
    intro acc j hj
    rw [closure,ih _ j (by simp;omega)]
    simp [List.getElem?_append_left hj]
  rw [closure] at hk ⊢
  rcases Nat.lt_or_ge acc.length i with h | h
  ·have:=closure_get l (acc ++ [(preds o).foldl (fun s j=>s ||| ((1 <<< j) ||| acc.getD j 0)) 0]) i (by simp;omega) (by simp at h2 ⊢;omega) k hk
   simp only [List.length_append,List.length_cons,List.length_nil] at this
   have e:i - acc.length=(i - (acc.length+(0+1)))+1:=by omega
   rw [e]
   simpa using this
  ·have hia:i=acc.length:=by omega
   subst hia
   rw [pre l _ _ (by simp)] at hk
   simp only [List.getD_eq_getElem?_getD,List.getElem?_append_right (Nat.le_refl _),Nat.sub_self,List.getElem?_cons_zero,Option.getD_some] at hk
   simp only [Nat.sub_self,List.getD_eq_getElem?_getD,List.getElem?_cons_zero,Option.getD_some]
   rcases fold_bits acc (preds o) 0 k hk with h3 | ⟨j,hj,h3⟩
   ·simp at h3
   ·refine ⟨j,hj,?_⟩
    rcases h3 with h3 | h3
    ·exact .inl h3
    ·have hjl:j<acc.length:=by
      rcases Nat.lt_or_ge j acc.length with h4 | h4
      ·exact h4
      ·simp [List.getElem?_eq_none h4] at h3
     refine .inr ⟨?_,hjl⟩
     have:=pre l (acc ++ [(preds o).foldl (fun s j=>s ||| ((1 <<< j) ||| acc.getD j 0)) 0]) j (by simp;omega)
     simp only [List.getD_eq_getElem?_getD] at this h3 ⊢
     rw [this,List.getElem?_append_left hjl]
     exact h3
theorem handsOn_op {ops:List Oper} {o:Oper} (h:handsOn ops o=true):∃ x,o.op=.move x∨o.op=.assign x:=by
 unfold handsOn at h
 split at h
 ·rename_i ho _;exact ⟨_,.inl ho⟩
 ·rename_i ho _;exact ⟨_,.inr ho⟩
 ·cases h
theorem mksOf_dst {mv:Bool} {o:Oper} {d:Nat} (h:d ∈ mksOf mv o):o.dst=some d:=by
 unfold mksOf at h
 repeat' split at h
 all_goals first | (simp at h;done) | (cases hd:o.dst with | none=>(rw [hd] at h;simp at h) | some e=>(rw [hd] at h;simp at h;rw [h]))
theorem foot_get (ops:List Oper):∀ (l:List Oper) (rm:RM) (r:List SOp),foot ops rm l=some r→r.length=l.length∧∀ (i:Nat) (o:Oper) (so:SOp),l[i]?=some o→r[i]?=some so →
  so.op=o.op∧so.dst=o.dst∧gslot ops o=some so.gd∧(∀ g ∈ gslots so.gd,g ∈ so.rd)∧(∀ t ∈ tmpsOf o,t ∈ so.rd)∧(∀ d,o.dst=some d→d ∈ so.ks)∧so.mv=handsOn ops o∧so.nw=mksOf so.mv o
 | [],rm,r,h=>by
  simp only [foot] at h
  cases h
  exact ⟨rfl,fun i o so hi=>by simp at hi⟩
 | o :: l,rm,r,h=>by
  simp only [foot] at h
  split at h
  ·cases h
  ·rename_i gd hgd
   split at h
   ·rename_i r' hr
    cases h
    obtain ⟨h1,h2⟩:=foot_get ops l _ r' hr
    refine ⟨by simp [h1],fun i o' so hi hso=>?_⟩
    cases i with
    | zero =>
     simp only [List.getElem?_cons_zero,Option.some.injEq] at hi hso
     subst hi
     subst hso
     refine ⟨rfl,rfl,hgd,fun g hg=>List.mem_append_left _ hg,fun t ht=>List.mem_append_right _ (List.mem_append_left _ ht),fun d hd=>?_,rfl,rfl⟩
     simp [hd]
    | succ i =>
     simp only [List.getElem?_cons_succ] at hi hso
     exact h2 i o' so hi hso
   ·cases h
theorem mem_tmpsOf {o:Oper} {t:Nat} (h:Operand.tmp t ∈ o.op.operands.toList):t ∈ tmpsOf o:=by
 unfold tmpsOf
 rw [List.mem_filterMap]
 exact ⟨_,h,rfl⟩
structure Ready (ops:Array Oper) (l:List SOp):Prop where
 len:l.length=ops.size
 get:∀ (i:Nat) (o:Oper) (so:SOp),ops[i]?=some o→l[i]?=some so→so.op=o.op∧so.dst=o.dst∧gslot ops.toList o=some so.gd∧(∀ x ∈ o.op.operands.toList,constOk x=true)∧so.nw=mksOf so.mv o
 fit:∀ (i:Nat) (so:SOp),l[i]?=some so→Fit so
 fresh:freshOk l=true
theorem regOf_ready {rm:RM} {ops:Array Oper} {draw:Bool} {l:List SOp} (h:regOf rm ops.toList draw=some l):Ready ops l∧(draw=true→drawOk ops.toList (closure [] ops.toList) l 0 l=true):=by
 unfold regOf at h
 split at h
 ·rename_i l' hf
  split at h
  ·rename_i hc
   cases h
   simp only [Bool.and_eq_true,Bool.or_eq_true,Bool.not_eq_true',List.all_eq_true] at hc
   obtain ⟨⟨hco,hfr⟩,hdr⟩:=hc
   obtain ⟨h1,h2⟩:=foot_get _ _ _ _ hf
   have hlen:l.length=ops.size:=by simpa using h1
   refine ⟨⟨hlen,fun i o so hi hso=>?_,fun i so hso=>?_,hfr⟩,fun hd=>?_⟩
   ·obtain ⟨g1,g2,g3,_,_,_,_,g8⟩:=h2 i o so (by simpa using hi) hso
    refine ⟨g1,g2,g3,fun x hx=>?_,g8⟩
    have:=hco o (List.mem_of_getElem? (by simpa using hi))
    have h3:=Array.all_eq_true'.1 this x (by simpa using hx)
    exact h3
   ·have hlt:i<l.length:=by
     rcases Nat.lt_or_ge i l.length with h | h
     ·exact h
     ·simp [List.getElem?_eq_none h] at hso
    obtain ⟨o,hlo⟩:∃ o,ops[i]?=some o:=⟨_,Array.getElem?_eq_getElem (by omega)⟩
    obtain ⟨g1,g2,g3,g4,g5,g6,g7,g8⟩:=h2 i o so (by simpa using hlo) hso
    refine ⟨fun x hx t ht=>?_,g4,fun d hd=>g6 d (by rw [← g2];exact hd),fun hm=>by rw [g1];exact handsOn_op (by rw [← g7];exact hm),fun d hd=>g6 d (mksOf_dst (by rw [← g8];exact hd))⟩
    subst ht
    rw [g1] at hx
    exact g5 t (mem_tmpsOf hx)
   ·rcases hdr with h | h
    ·rw [hd] at h;cases h
    ·exact h
  ·cases h
 ·cases h
theorem get_kill (D:List Nat):∀ (S:St) (i:Nat),get (kill D S) i=kill1 D (get S i)
 | [],i=>by simp [kill,get,kill1]
 | v :: S,i=>by
  cases i with
  | zero=>simp [kill,get]
  | succ i =>
   have:=get_kill D S i
   simp only [get,kill,List.getD_cons_succ] at this ⊢
   exact this
theorem length_kill (D:List Nat):∀ S:St,(kill D S).length=S.length
 | []=>rfl
 | _ :: S=>by simp [kill,length_kill D S]
theorem kill1_cases (D:List Nat) (v:AV):kill1 D v=.junk∨(kill1 D v=v∧bare v=true):=by
 unfold kill1
 split
 ·exact .inl rfl
 ·split
  ·exact .inl rfl
  ·exact .inr ⟨rfl,rfl⟩
 ·split
  ·exact .inl rfl
  ·exact .inr ⟨rfl,rfl⟩
 ·split
  ·exact .inl rfl
  ·exact .inr ⟨rfl,rfl⟩
 ·rename_i h1 h2 h3 h4
  refine .inr ⟨rfl,?_⟩
  cases v <;> first | rfl | exact absurd rfl (h1 _ _ _)
theorem Rel.kill {w0:World} {m:M} {a:Act} {w:World} (R:Rel w0 m S a w) (D:List Nat):Rel w0 m (Sx.kill D S) a w:=by
 have own:∀ i (x:AV),x≠.junk→get (Sx.kill D S) i=x→get S i=x:=by
  intro i x hj hi
  rw [get_kill] at hi
  rcases kill1_cases D (get S i) with h | ⟨h,_⟩
  ·rw [h] at hi;exact absurd hi.symm hj
  ·rw [h] at hi;exact hi
 have lst:∀ i y,lst? (get (Sx.kill D S) i)=some y→lst? (get S i)=some y:=by
  intro i y hi
  rw [get_kill] at hi
  rcases kill1_cases D (get S i) with h | ⟨h,_⟩
  ·rw [h] at hi;cases hi
  ·rw [h] at hi;exact hi
 refine ⟨R.defers,by rw [length_kill];exact R.size,R.below,?_,?_,?_,?_,fun i k es len f hi=>R.lsts i k es len f (lst i _ hi),fun i j x y b hi hj hb=>R.inj1 i j x y b (own i _ (by simp) hi) (lst j _ hj) hb,fun i j x y b hij hi hj hb=>R.inj2 i j x y b hij (lst i _ hi) (lst j _ hj) hb⟩
 ·intro i hi
  rw [length_kill] at hi
  have h0:=R.vals i hi
  rw [get_kill]
  rcases kill1_cases D (get S i) with h | ⟨h,hb⟩
  ·rw [h];exact ⟨trivial,trivial⟩
  ·rw [h]
   unfold OKV at h0 ⊢
   split
   ·rename_i g b y he;rw [he] at hb;cases hb
   ·rename_i hne
    revert h0
    split
    ·rename_i g b y he;exact absurd he (hne g b y)
    ·exact id
 ·exact fun i x hi=>R.blks i x (own i _ (by simp) hi)
 ·exact fun i j x y hi hj=>R.inj i j x y (own i _ (by simp) hi) (own j _ (by simp) hj)
 ·exact fun i k es len cap f hi=>R.xsls i k es len cap f (own i _ (by simp) hi)
theorem kill_noRef {D:List Nat} {d:Nat} (hd:d ∈ D):noRef d (kill D S):=by
 intro i
 rw [get_kill]
 unfold kill1
 split
 ·trivial
 ·split
  ·trivial
  ·rename_i h;intro e;subst e;exact h (by simpa using hd)
 ·split
  ·trivial
  ·rename_i h;intro e;subst e;exact h (by simpa using hd)
 ·split
  ·trivial
  ·rename_i h;intro e;subst e;exact h (by simpa using hd)
 ·rename_i h1 h2 h3 h4
  cases he:get S i <;> first | trivial | exact absurd he (h1 _ _ _) | exact absurd he (h2 _ _) | exact absurd he (h3 _ _ _ _ _) | exact absurd he (h4 _ _)
theorem kill_noWhen {D:List Nat} {d:Nat}:noWhen d (kill D S):=by
 intro i g b v hi
 rw [get_kill] at hi
 rcases kill1_cases D (get S i) with h | ⟨h,hb⟩
 ·rw [h] at hi;cases hi
 ·rw [h] at hi;rw [hi] at hb;cases hb
end
end Sx

namespace Sx
open Go Go.RowKit
section
variable {P:Program} {E:Env} {w0:World} {m:M} {S:St} {a:Act} {w:World}
theorem seq_ok (hP:EnvOK P E) (G:WOK E w0) {ops:Array Oper} {l:List SOp} (hr:Ready ops l) {Q:Exit→Act→World→Prop} {Sf:St} (hQ:∀ m' a' w',Rel w0 m' Sf a' w'→Q .normal a' w') :
  ∀ (L:List Nat) (S:St) (m:M) (a:Act) (w:World) (cs:List Prop),Rel w0 m S a w→runI E l L S=some (cs,Sf)→(∀ p ∈ cs,p)→Inv l L S→(∀ i ∈ L,i<ops.size)→L.Pairwise (· < ·)→wpOps P ops Q L a w
 | [],S,m,a,w,cs,R,h,_,_,_,_=>by
  simp only [runI] at h
  cases h
  exact hQ m a w R
 | i :: L,S,m,a,w,cs,R,h,hc,I,hlt,hs=>by
  obtain ⟨so,c,us,c',hi,he,hrun,rfl⟩:=runI_cons h
  obtain ⟨o,ho⟩:∃ o,ops[i]?=some o:=⟨_,Array.getElem?_eq_getElem (hlt i (by simp))⟩
  obtain ⟨g1,g2,g3,g4,g5⟩:=hr.get i o so ho hi
  have hk:=exec_keys (hr.fit i so hi) he
  rw [wpOps_cons]
  refine exec_ok hP G R ho g1 g2 g3 g4 he (fun p hp=>hc p (List.mem_append_left _ hp)) (fun d hd=>?_) g5 (fun d hd=>?_) (fun g hg hm=>?_) Q _ ?_
  ·obtain ⟨p,hp,rfl⟩:=List.mem_map.1 hd
   exact I.when i (by simp) so hi _ (hk p hp)
  ·exact I.ref i (by simp) so hi d hd
  ·obtain ⟨p,hp,rfl⟩:=List.mem_map.1 hm
   exact freshOk_own hr.fresh i so hi _ hg (hk p hp)
  ·intro a' w' ⟨m',R'⟩
   refine seq_ok hP G hr hQ L _ m' a' w' c' R' hrun (fun p hp=>hc p (List.mem_append_right _ hp)) ?_ (fun j hj=>hlt j (by simp [hj])) (List.Pairwise.of_cons hs)
   refine I.step hr.fresh hi (hr.fit i so hi) hr.fit (fun j hj=>⟨by simp [hj],?_⟩) (fun j hj hji=>?_) he
   ·have:=List.rel_of_pairwise_cons hs hj
    omega
   ·have:=List.rel_of_pairwise_cons hs hj
    omega
theorem any_ok (hP:EnvOK P E) (G:WOK E w0) {ops:Array Oper} {l:List SOp} (hr:Ready ops l) (hd:drawOk ops.toList (closure [] ops.toList) l 0 l=true) {Q:Exit→Act→World→Prop} {Sf:St} (hQ:∀ m' a' w',Rel w0 m' Sf a' w'→Q .normal a' w') :
  ∀ (fuel:Nat) (L:List Nat) (listed:Array Bool) (S:St) (m:M) (a:Act) (w:World) (cs:List Prop),L.length=fuel→Rel w0 m S a w→runI E l L S=some (cs,Sf)→(∀ p ∈ cs,p)→Inv l L S →
   (∀ i ∈ L,i<ops.size)→L.Pairwise (· < ·)→(∀ i,i<ops.size→(listed.getD i true=false↔i ∈ L))→listed.size=ops.size→(∀ i ∉ L,i<ops.size→∀ k,((closure [] ops.toList).getD i 0).testBit k=true→k ∉ L) →
   wpAny P .any ops Q fuel listed a w:=by
 have ready_iff:∀ (listed:Array Bool) (L:List Nat),listed.size=ops.size→(∀ i,i<ops.size→(listed.getD i true=false↔i ∈ L))→∀ i,i ∈ Region.ready .any ops listed↔i<ops.size∧i ∈ L∧∀ o,ops[i]?=some o→∀ e ∈ o.after,Region.binds .any e=true→listed.getD e.on false=true:=by
  intro listed L hsz hL i
  simp only [Region.ready,List.mem_filter,List.mem_range,Bool.and_eq_true,Bool.not_eq_true']
  constructor
  ·rintro ⟨h1,h2,h3⟩
   refine ⟨h1,(hL i h1).1 h2,fun o ho e he hb=>?_⟩
   rw [ho] at h3
   simp only [Option.map_some,Option.getD_some,Array.all_eq_true',Bool.or_eq_true,Bool.not_eq_true'] at h3
   rcases h3 e he with h | h
   ·rw [hb] at h;cases h
   ·exact h
  ·rintro ⟨h1,h2,h3⟩
   refine ⟨h1,(hL i h1).2 h2,?_⟩
   obtain ⟨o,ho⟩:∃ o,ops[i]?=some o:=⟨_,Array.getElem?_eq_getElem h1⟩
   rw [ho]
   simp only [Option.map_some,Option.getD_some,Array.all_eq_true',Bool.or_eq_true,Bool.not_eq_true']
   intro e he
   cases hb:Region.binds .any e
   ·exact .inl rfl
   ·exact .inr (h3 o ho e he hb)
 have preds_iff:∀ (o:Oper) (j:Nat),j ∈ preds o↔∃ e ∈ o.after,Region.binds .any e=true∧e.on=j:=by
  intro o j
  unfold preds
  rw [List.mem_filterMap]
  constructor
  ·rintro ⟨e,he,h⟩
   split at h
   ·rename_i hb;cases h;exact ⟨e,by simpa using he,hb,rfl⟩
   ·cases h
  ·rintro ⟨e,he,hb,rfl⟩
   exact ⟨e,by simpa using he,by rw [if_pos hb]⟩
 -- the least of those that are left is ready
 have progress:∀ (listed:Array Bool) (L:List Nat),listed.size=ops.size→(∀ i,i<ops.size→(listed.getD i true=false↔i ∈ L))→(∀ i ∈ L,i<ops.size)→L.Pairwise (· < ·)→Region.ready .any ops listed=[]→L=[]:=by
  intro listed L hsz hL hlt hs hnil
  cases L with
  | nil=>rfl
  | cons i L =>
   exfalso
   have hi:=hlt i (by simp)
   have:i ∈ Region.ready .any ops listed:=by
    rw [ready_iff listed _ hsz hL]
    refine ⟨hi,by simp,fun o ho e he hb=>?_⟩
    have hlen:i<l.length:=by rw [hr.len];exact hi
    have hp:=(drawOk_get ops.toList _ l l 0 hd i l[i] (by simp)).2
    have hgo:ops.toList.getD i default=o:=by simp [List.getD_eq_getElem?_getD,ho]
    rw [Nat.zero_add,hgo] at hp
    have hlt2:=hp e.on ((preds_iff o e.on).2 ⟨e,he,hb,rfl⟩)
    have hns:e.on<ops.size:=by omega
    cases hh:listed.getD e.on true
    ·have:=(hL e.on hns).1 hh
     rcases List.mem_cons.1 this with h | h
     ·omega
     ·have:=List.rel_of_pairwise_cons hs h;omega
    ·have hl2:e.on<listed.size:=by rw [hsz];exact hns
     simp only [Array.getD_eq_getD_getElem?,Array.getElem?_eq_getElem hl2,Option.getD_some] at hh ⊢
     exact hh
   rw [hnil] at this
   cases this
 intro fuel
 induction fuel with
 | zero =>
  intro L listed S m a w cs hlen R hrun hc I hlt hs hL hsz hdc
  have:L=[]:=List.eq_nil_of_length_eq_zero hlen
  subst this
  simp only [runI] at hrun
  cases hrun
  refine ⟨?_,hQ m a w R⟩
  apply List.eq_nil_iff_forall_not_mem.2
  intro i hi
  have:=(ready_iff listed _ hsz hL i).1 hi
  simp at this
 | succ fuel ih =>
  intro L listed S m a w cs hlen R hrun hc I hlt hs hL hsz hdc
  refine ⟨fun hnil=>?_,fun i hi=>?_⟩
  ·have:=progress listed L hsz hL hlt hs hnil
   subst this
   simp at hlen
  ·obtain ⟨hi1,hi2,hi3⟩:=(ready_iff listed L hsz hL i).1 hi
   obtain ⟨o,ho⟩:∃ o,ops[i]?=some o:=⟨_,Array.getElem?_eq_getElem hi1⟩
   obtain ⟨so,hso⟩:∃ so,l[i]?=some so:=⟨_,List.getElem?_eq_getElem (by rw [hr.len];exact hi1)⟩
   obtain ⟨g1,g2,g3,g4,g5⟩:=hr.get i o so ho hso
   -- what comes ahead of i has come
   have hahead:∀ k,((closure [] ops.toList).getD i 0).testBit k=true→k ∉ L:=by
    intro k hk
    obtain ⟨j,hj,hor⟩:=closure_get ops.toList [] i (by simp) (by simpa using hi1) k hk
    have hgo:ops.toList.getD (i - ([]:List Nat).length) default=o:=by simp [List.getD_eq_getElem?_getD,ho]
    rw [hgo] at hj
    obtain ⟨e,he,hb,rfl⟩:=(preds_iff o j).1 hj
    have hl:=hi3 o ho e he hb
    have hns:e.on<ops.size:=by
     rcases Nat.lt_or_ge e.on ops.size with h | h
     ·exact h
     ·simp [Array.getD_eq_getD_getElem?,Array.getElem?_eq_none (by rw [hsz];exact h)] at hl
    have hnL:e.on ∉ L:=by
     intro hm
     have:=(hL e.on hns).2 hm
     have hl2:e.on<listed.size:=by rw [hsz];exact hns
     simp only [Array.getD_eq_getD_getElem?,Array.getElem?_eq_getElem hl2,Option.getD_some] at this hl
     rw [this] at hl
     cases hl
    rcases hor with rfl | ⟨hb2,_⟩
    ·exact hnL
    ·exact hdc e.on hnL hns k hb2
   have hapart:∀ j ∈ L,j<i→∀ (oj:SOp),l[j]?=some oj→apart oj so=true:=by
    intro j hj hji oj hoj
    have:=(drawOk_get ops.toList _ l l 0 hd i so hso).1 j oj hoj (by omega)
    rw [Nat.zero_add] at this
    rcases this with h | h
    ·exact absurd hj (hahead j h)
    ·exact h
   obtain ⟨L1,L2,hsplit⟩:=List.append_of_mem hi2
   have hL1:∀ j ∈ L1,j<i:=by
    intro j hj
    rw [hsplit] at hs
    exact (List.pairwise_append.1 hs).2.2 j hj i (by simp)
   have hL2:∀ j ∈ L2,i<j:=by
    intro j hj
    rw [hsplit] at hs
    exact List.rel_of_pairwise_cons (List.pairwise_append.1 hs).2.1 hj
   rw [hsplit] at hrun
   obtain ⟨cs',hrun',hcs'⟩:=pull hr.fit L1 S cs Sf (fun j hj oj oi hoj hoi=>by
    rw [hso] at hoi
    cases hoi
    exact hapart j (by rw [hsplit];simp [hj]) (hL1 j hj) oj hoj) hrun
   obtain ⟨so',c,us,c',hi',he,hrest,hcc⟩:=runI_cons hrun'
   rw [hso] at hi'
   cases hi'
   subst hcc
   have hc':∀ p ∈ c ++ c',p:=fun p hp=>hc p ((hcs' p).1 hp)
   have hk:=exec_keys (hr.fit i so hso) he
   refine exec_ok hP G R ho g1 g2 g3 g4 he (fun p hp=>hc' p (List.mem_append_left _ hp)) (fun d hd=>?_) g5 (fun d hd=>?_) (fun g hg hm=>?_) Q _ ?_
   ·obtain ⟨p,hp,rfl⟩:=List.mem_map.1 hd
    exact I.when i hi2 so hso _ (hk p hp)
   ·exact I.ref i hi2 so hso d hd
   ·obtain ⟨p,hp,rfl⟩:=List.mem_map.1 hm
    exact freshOk_own hr.fresh i so hso _ hg (hk p hp)
   ·intro a' w' ⟨m',R'⟩
    have hmem:∀ j,j ∈ L1 ++ L2↔j ∈ L∧j≠i:=by
     intro j
     rw [hsplit]
     simp only [List.mem_append,List.mem_cons]
     constructor
     ·rintro (h | h)
      ·exact ⟨.inl h,Nat.ne_of_lt (hL1 j h)⟩
      ·exact ⟨.inr (.inr h),Nat.ne_of_gt (hL2 j h)⟩
     ·rintro ⟨h | h | h,hne⟩
      ·exact .inl h
      ·exact absurd h hne
      ·exact .inr h
    refine ih (L1 ++ L2) (listed.setIfInBounds i true) _ m' a' w' c' ?_ R' hrest (fun p hp=>hc' p (List.mem_append_right _ hp)) ?_ ?_ ?_ ?_ (by simpa using hsz) ?_
    ·rw [hsplit] at hlen
     simp at hlen ⊢
     omega
    ·exact I.step hr.fresh hso (hr.fit i so hso) hr.fit (fun j hj=>(hmem j).1 hj) (fun j hj hji oj hoj=>hapart j ((hmem j).1 hj).1 hji oj hoj) he
    ·exact fun j hj=>hlt j ((hmem j).1 hj).1
    ·rw [hsplit] at hs
     obtain ⟨p1,p2,p3⟩:=List.pairwise_append.1 hs
     exact List.pairwise_append.2 ⟨p1,p2.of_cons,fun x hx y hy=>p3 x hx y (by simp [hy])⟩
    ·intro j hj
     rw [hmem]
     have hsl:i<listed.size:=by rw [hsz];exact hi1
     by_cases hji:j=i
     ·subst hji
      simp [Array.getD_eq_getD_getElem?,hsl]
     ·have:(listed.setIfInBounds i true).getD j true=listed.getD j true:=by
       simp [Array.getD_eq_getD_getElem?,Array.getElem?_setIfInBounds_ne (fun e=>hji e.symm)]
      rw [this,hL j hj]
      simp [hji]
    ·intro j hj hjs k hk hkm
     obtain ⟨hk1,hk2⟩:=(hmem k).1 hkm
     by_cases hji:j=i
     ·subst hji
      exact hahead k hk hk1
     ·have:j ∉ L:=fun h=>hj ((hmem j).2 ⟨h,hji⟩)
      exact hdc j this hjs k hk hk1
theorem Rel.drew (R:Rel w0 m S a w):Rel w0 m S a { w with drawn:=w.drawn+1 }:=by
 have h:Below w.heap.size w { w with drawn:=w.drawn+1 }:=⟨rfl,rfl,rfl,Nat.le_refl _,fun _ _=>rfl⟩
 exact R.later h
theorem region_ok {rm:RM} (hP:EnvOK P E) (hmix:P.follows .mixedOrders=true) (G:WOK E w0) (R:Rel w0 m S a w) {id:Nat} {ops:Array Oper} {draw:Bool} {l:List SOp} (hl:regOf rm ops.toList draw=some l)
  {cs:List Prop} {Sf:St} (hrun:run E l (kill (madeIn l) S)=some (cs,Sf)) (hc:∀ p ∈ cs,p) {Q:Exit→Act→World→Prop} (hQ:∀ m' a' w',Rel w0 m' Sf a' w'→Q .normal a' w') :
  (Code.region id ops draw).wp P Q a w:=by
 obtain ⟨hr,hd⟩:=regOf_ready hl
 have hrun':runI E l (List.range l.length) (kill (madeIn l) S)=some (cs,Sf):=by
  have:=run_runI (E:=E) l 0 (kill (madeIn l) S) (Nat.zero_le _)
  simp only [List.drop_zero] at this
  rw [← this]
  exact hrun
 have hI:Inv l (List.range l.length) (kill (madeIn l) S):=by
  refine ⟨fun j _ o ho d hdk=>?_,fun j _ o _ d _=>kill_noWhen⟩
  refine kill_noRef ?_
  unfold madeIn
  rw [List.mem_flatMap]
  exact ⟨o,List.mem_of_getElem? ho,hdk⟩
 have hlt:∀ i ∈ List.range l.length,i<ops.size:=by
  intro i hi
  rw [← hr.len]
  exact List.mem_range.1 hi
 cases draw with
 | false =>
  refine wp_region ?_
  rw [← hr.len]
  exact seq_ok hP G hr hQ _ _ m a w cs (R.kill _) hrun' hc hI hlt List.pairwise_lt_range
 | true =>
  refine wp_region_any hmix ?_
  refine any_ok hP G hr (hd rfl) hQ ops.size (List.range l.length) _ _ m a _ cs (by simp [hr.len]) (R.kill _).drew hrun' hc hI hlt List.pairwise_lt_range ?_ (by simp) ?_
  ·intro i hi
   simp [hr.len,hi]
  ·intro i hi his
   exact absurd (List.mem_range.2 (by rw [hr.len];exact his)) hi
end
end Sx

namespace Sx
open Go Go.RowKit
section
variable {P:Program} {E:Env} {w0:World}
def Lift (w0:World) (Q:Ex→St→Prop):Exit→Act→World→Prop
 | .normal,a,w=>∃ S m,Q .normal S∧Rel w0 m S a w
 | .exit id,a,w=>∃ S m,Q (.exit id) S∧Rel w0 m S a w
 | .ret,a,w=>∃ S m,Q .ret S∧Rel w0 m S a w
 | _,_,_=>False
theorem Lift.mono {Q Q':Ex→St→Prop} (h:∀ e S,Q e S→Q' e S):∀ e a w,Lift w0 Q e a w→Lift w0 Q' e a w
 | .normal,_,_,⟨S,m,h1,h2⟩=>⟨S,m,h _ _ h1,h2⟩
 | .exit _,_,_,⟨S,m,h1,h2⟩=>⟨S,m,h _ _ h1,h2⟩
 | .ret,_,_,⟨S,m,h1,h2⟩=>⟨S,m,h _ _ h1,h2⟩
 | .goto _,_,_,h=>h.elim
 | .panic _,_,_,h=>h.elim
 | .outgrown,_,_,h=>h.elim
theorem andAll_iff:∀ (cs:List Prop) (p:Prop),andAll cs p→(∀ c ∈ cs,c)∧p
 | [],p,h=>⟨fun c hc=>by simp at hc,h⟩
 | c :: cs,p,h=>by
  obtain ⟨h1,h2⟩:=h
  obtain ⟨h3,h4⟩:=andAll_iff cs p h2
  refine ⟨fun d hd=>?_,h4⟩
  rcases List.mem_cons.1 hd with rfl | hd
  ·exact h1
  ·exact h3 d hd
theorem leAV_ok {m:M} {i:Nat} {x y:AV} {v:Value} (h:leAV x y) (hv:VR m i x v) (hw:wfV x) (hx:bare x=true):VR m i y v∧wfV y:=by
 unfold leAV at h
 split at h
 ·exact ⟨trivial,trivial⟩
 ·rename_i k n k' n'
  obtain ⟨rfl,hn⟩:=h
  refine ⟨?_,?_⟩
  ·have:v=.int k n.val:=hv
   rw [hn] at this
   exact this
  ·have:inR k n.val:=hw
   rw [hn] at this
   exact this
 ·rename_i b b'
  have:v=.bool b.val:=hv
  rw [h] at this
  exact ⟨this,trivial⟩
 ·rename_i k n f k' n' g
  obtain ⟨rfl,rfl,hfg⟩:=h
  have:v=.agg (cellsA k n f):=hv
  rw [cellsA_congr hfg] at this
  exact ⟨this,fun j hj=>by rw [← hfg j hj];exact hw j hj⟩
 ·rename_i k n f k' n' g
  obtain ⟨rfl,rfl,hfg⟩:=h
  exact ⟨⟨hv.1,rfl⟩,fun j hj=>by rw [← hfg j hj];exact hw j hj⟩
 ·rename_i k n k' n'
  obtain ⟨rfl,hn⟩:=h
  exact ⟨⟨hv.1,rfl⟩,by have:inR k n.val:=hw;rw [hn] at this;exact this⟩
 ·exact ⟨⟨hv.1,rfl⟩,trivial⟩
 ·rename_i k es len cap f k' es' len' cap' g
  obtain ⟨rfl,rfl,hl,hc,hfg⟩:=h
  obtain ⟨aa,cc,h1,h2,h3⟩:=hv
  refine ⟨⟨aa,cc,by rw [h1,hl],by rw [← hl];exact h2,by rw [← hl];exact h3⟩,fun j hj=>?_⟩
  rw [← hl] at hj
  rw [← hfg j hj]
  exact hw j hj
 ·subst h
  exact ⟨hv,trivial⟩
 ·subst h
  exact ⟨hv,trivial⟩
 ·rename_i k es len f k' es' len' g
  obtain ⟨rfl,rfl,hl,hfg⟩:=h
  obtain ⟨aa,cc,h1,h2⟩:=hv
  refine ⟨⟨aa,cc,by rw [h1,hl],by rw [← hl];exact h2⟩,fun j hj=>?_⟩
  rw [← hl] at hj
  rw [← hfg j hj]
  exact hw j hj
 ·rename_i u k' es' len' g
  obtain ⟨hu,hl⟩:=h
  have hv':v=u:=hv
  refine ⟨⟨none,0,by rw [hv',hu,hl],by rw [hl];exact ⟨(fun _ h=>by cases h),fun _=>rfl,Nat.le_refl _,by decide⟩⟩,fun j hj=>?_⟩
  rw [hl] at hj
  simp at hj
 ·rename_i s es off len cap s' es' off' len' cap'
  obtain ⟨rfl,rfl,ho,hl⟩:=h
  obtain ⟨aa,cc,h1,h2,h3⟩:=hv
  exact ⟨⟨aa,cc,by rw [h1,hl],by rw [← hl,← ho];exact h2,by rw [← hl];exact h3⟩,trivial⟩
 ·rename_i k es len f ps k' es' len' g ps'
  obtain ⟨rfl,rfl,hl,hfg,rfl⟩:=h
  obtain ⟨aa,cc,h1,h2,h3⟩:=hv
  refine ⟨⟨aa,cc,by rw [h1,hl],by rw [← hl];exact h2,h3⟩,fun j hj=>?_,hw.2⟩
  rw [← hl] at hj
  rw [← hfg j hj]
  exact hw.1 j hj
 ·exact h.elim
theorem leAV_bare {x y:AV} (h:leAV x y) (hy:y≠.junk):bare x=true∧bare y=true:=by
 unfold leAV at h
 split at h
 ·exact absurd rfl hy
 all_goals first | exact ⟨rfl,rfl⟩ | exact h.elim
theorem leSt_get:∀ {S T:St},leSt S T→S.length=T.length∧∀ i,leAV (get S i) (get T i)
 | [],[],_=>⟨rfl,fun i=>by simp [get,leAV]⟩
 | x :: S,y :: T,h=>by
  obtain ⟨h1,h2⟩:=h
  obtain ⟨h3,h4⟩:=leSt_get h2
  refine ⟨by simp [h3],fun i=>?_⟩
  cases i with
  | zero=>simpa [get] using h1
  | succ i=>simpa [get] using h4 i
 | [],_ :: _,h=>h.elim
 | _ :: _,[],h=>h.elim
theorem leAV_own {x y:AV} (h:leAV x (.own y)):∃ x',x=.own x'∧cellsOf x'=cellsOf y:=by
 unfold leAV at h
 split at h
 all_goals try (rename_i he;cases he;done)
 all_goals try (rename_i he1 he2;cases he2;done)
 ·rename_i he;cases he
  obtain ⟨rfl,rfl,hfg⟩:=h
  exact ⟨_,rfl,cellsA_congr hfg⟩
 ·rename_i he;cases he
  obtain ⟨rfl,hn⟩:=h
  exact ⟨_,rfl,by simp [cellsOf,hn]⟩
 ·rename_i he;cases he
  exact ⟨_,rfl,by simp [cellsOf,h]⟩
 ·exact h.elim
theorem leAV_lst {x y:AV} {k:IntKind} {es:Nat} {len:SO} {g:Nat→Int} (h:leAV x y) (hy:lst? y=some (k,es,len,g)) :
  (∃ len' f,lst? x=some (k,es,len',f)∧len'.val=len.val∧∀ i,i<len'.val*es→f i=g i)∨(x=.val (.slice none 0 0)∧len.val=0):=by
 cases y <;> simp only [lst?,Option.some.injEq,Prod.mk.injEq,reduceCtorEq] at hy
 ·obtain ⟨rfl,rfl,rfl,rfl⟩:=hy
  unfold leAV at h
  split at h
  all_goals try (rename_i he;cases he;done)
  all_goals try (rename_i he1 he2;cases he2;done)
  ·rename_i he;cases he
   obtain ⟨rfl,rfl,hl,hfg⟩:=h
   exact .inl ⟨_,_,rfl,hl,hfg⟩
  ·rename_i he;cases he
   exact .inr ⟨by rw [h.1],h.2⟩
  ·exact h.elim
 ·obtain ⟨rfl,rfl,rfl,rfl⟩:=hy
  unfold leAV at h
  split at h
  all_goals try (rename_i he;cases he;done)
  all_goals try (rename_i he1 he2;cases he2;done)
  ·rename_i he;cases he
   obtain ⟨rfl,rfl,hl,hfg,_⟩:=h
   exact .inl ⟨_,_,rfl,hl,hfg⟩
  ·exact h.elim
theorem lcells_congr {k:IntKind} {n:Nat} {f g:Nat→Int} (h:∀ i,i<n→f i=g i):lcells k n f=lcells k n g:=by
 unfold lcells
 refine List.map_congr_left fun j hj=>?_
 rw [h j (List.mem_range.1 hj)]
theorem leAV_xsl {x:AV} {k:IntKind} {es:Nat} {len cap:SO} {g:Nat→Int} (h:leAV x (.xsl k es len cap g)):∃ len' cap' f,x=.xsl k es len' cap' f∧len'.val=len.val∧∀ i,i<len'.val*es→f i=g i:=by
 unfold leAV at h
 split at h
 all_goals try (rename_i he;cases he;done)
 all_goals try (rename_i he1 he2;cases he2;done)
 ·rename_i he;cases he
  obtain ⟨rfl,rfl,hl,hc,hfg⟩:=h
  exact ⟨_,_,_,rfl,hl,hfg⟩
 ·exact h.elim
theorem Rel.le {m:M} {S T:St} {a:Act} {w:World} (R:Rel w0 m S a w) (h:leSt S T):Rel w0 m T a w:=by
 obtain ⟨hlen,hle⟩:=leSt_get h
 have nil:∀ i,get S i=.val (.slice none 0 0)→lv (a.tmps.getD i undef)=.slice none 0 0:=by
  intro i hi
  have h0:=R.vals i (get_lt (by rw [hi];simp))
  rw [hi] at h0
  have:a.tmps.getD i undef=.slice none 0 0:=h0.1
  rw [this];rfl
 refine ⟨R.defers,by rw [R.size,hlen],R.below,?_,?_,?_,?_,?_,?_,?_⟩
 ·intro i hi
  by_cases hj:get T i=.junk
  ·rw [hj];exact ⟨trivial,trivial⟩
  ·obtain ⟨b1,b2⟩:=leAV_bare (hle i) hj
   have h0:=R.vals i (by rw [hlen];exact hi)
   unfold OKV at h0
   split at h0
   ·rename_i g b y he;rw [he] at b1;cases b1
   ·obtain ⟨c1,c2⟩:=leAV_ok (hle i) h0.1 h0.2 b1
    unfold OKV
    split
    ·rename_i g b y he;rw [he] at b2;cases b2
    ·exact ⟨c1,c2⟩
 ·intro i y hi
  have h1:=hle i
  rw [hi] at h1
  obtain ⟨x',hx,hc⟩:=leAV_own h1
  obtain ⟨b1,b2,T',b3⟩:=R.blks i x' hx
  exact ⟨b1,b2,T',by rw [← hc];exact b3⟩
 ·intro i j y z hi hj
  have h1:=hle i
  rw [hi] at h1
  obtain ⟨x',hx,_⟩:=leAV_own h1
  have h2:=hle j
  rw [hj] at h2
  obtain ⟨z',hz,_⟩:=leAV_own h2
  exact R.inj i j x' z' hx hz
 ·intro i k es len cap g hi j hj
  have h1:=hle i
  rw [hi] at h1
  obtain ⟨len',cap',f,hx,hl,hfg⟩:=leAV_xsl h1
  rw [← hl] at hj
  rw [← hfg j hj]
  exact R.xsls i k es len' cap' f hx j hj
 ·intro i k es len g hi
  rcases leAV_lst (hle i) hi with ⟨len',f,hx,hl,hfg⟩ | ⟨hx,hl⟩
  ·obtain ⟨e,he⟩:=R.lsts i k es len' f hx
   rw [lcells_congr hfg,hl] at he
   exact ⟨e,he⟩
  ·rw [nil i hx,hl]
   exact ⟨0,by simpa [lcells] using World.ownsRow_nil w w0.heap.size 0 es⟩
 ·intro i j y z b hi hj hb
  have h1:=hle i
  rw [hi] at h1
  obtain ⟨x',hx,_⟩:=leAV_own h1
  obtain ⟨k,es,len,g⟩:=z
  rcases leAV_lst (hle j) hj with ⟨len',f,hx',_,_⟩ | ⟨hx',_⟩
  ·exact R.inj1 i j x' (k,es,len',f) b hx hx' hb
  ·rw [nil j hx'] at hb;cases hb
 ·intro i j x y b hij hi hj hb
  obtain ⟨k,es,len,g⟩:=x
  obtain ⟨k2,es2,len2,g2⟩:=y
  rcases leAV_lst (hle i) hi with ⟨len',f,hx,_,_⟩ | ⟨hx,_⟩
  ·rcases leAV_lst (hle j) hj with ⟨len'',f',hx',_,_⟩ | ⟨hx',_⟩
   ·exact R.inj2 i j (k,es,len',f) (k2,es2,len'',f') b hij hx hx' hb
   ·rw [nil j hx'];intro h;cases h
  ·rw [nil i hx] at hb;cases hb
theorem wfSt_of {m:M} {S:St} {a:Act} {w:World} (R:Rel w0 m S a w):wfSt S:=by
 have h:∀ (S:St),(∀ i,i<S.length→match get S i with | .when ..=>True | x=>wfV x)→wfSt S:=by
  intro S
  induction S with
  | nil=>intro _;trivial
  | cons x S ih =>
   intro h
   refine ⟨?_,ih fun i hi=>?_⟩
   ·have h0:=h 0 (by simp)
    simp only [get,List.getD_cons_zero] at h0
    cases x <;> first | trivial | exact h0 | exact h0.1 | skip
    rename_i y
    cases y <;> first | trivial | exact h0
   ·have:=h (i+1) (by simp;omega)
    simpa [get] using this
 refine h S fun i hi=>?_
 have h0:=R.vals i hi
 unfold OKV at h0
 split at h0
 ·rename_i g b y he;rw [he];trivial
 ·rename_i hne
  revert h0
  split
  ·intro _;trivial
  ·intro h0;exact h0.2
theorem opv_ok {m:M} {S:St} {a:Act} {w:World} (R:Rel w0 m S a w) {c:Operand} {b:SB} (h:opv S c=.bool b):a.eval c=.bool b.val:=by
 unfold opv at h
 split at h
 ·rename_i t
  have:=vals_get R t
  rw [h] at this
  exact this.1
 ·cases h
 ·cases h;rfl
 ·cases h
 ·cases h
 ·cases h
theorem Rel.split {m:M} {S:St} {a:Act} {w:World} (R:Rel w0 m S a w) {t:Nat} {p:Bool} (h:get S t=.bool (.sym p)) {b:Bool} (hp:p=b):Rel w0 m (S.set t (.bool (.lit b))) a w:=by
 have ht:t<S.length:=get_lt (by rw [h];simp)
 have same:get (S.set t (.bool (.lit b))) t=.bool (.lit b):=get_set_same ht
 have other:∀ i,t≠i→get (S.set t (.bool (.lit b))) i=get S i:=fun i hi=>get_set_ne hi
 have back:∀ i x,get (S.set t (.bool (.lit b))) i=x→(∀ c,x≠.bool c)→get S i=x:=by
  intro i x hi hx
  by_cases e:t=i
  ·subst e;rw [same] at hi;exact absurd hi.symm (hx _)
  ·rw [other i e] at hi;exact hi
 have backL:∀ i y,lst? (get (S.set t (.bool (.lit b))) i)=some y→lst? (get S i)=some y:=by
  intro i y hi
  by_cases e:t=i
  ·subst e;rw [same] at hi;cases hi
  ·rw [other i e] at hi;exact hi
 refine ⟨R.defers,by rw [R.size,List.length_set],R.below,?_,fun i x hi=>R.blks i x (back i _ hi (by simp)),fun i j x y hi hj=>R.inj i j x y (back i _ hi (by simp)) (back j _ hj (by simp)),fun i k es len cap f hi=>R.xsls i k es len cap f (back i _ hi (by simp)),
  fun i k es len f hi=>R.lsts i k es len f (backL i _ hi),fun i j x y c hi hj=>R.inj1 i j x y c (back i _ hi (by simp)) (backL j _ hj),fun i j x y c hij hi hj=>R.inj2 i j x y c hij (backL i _ hi) (backL j _ hj)⟩
 intro i hi
 rw [List.length_set] at hi
 have h0:=R.vals i hi
 by_cases e:t=i
 ·subst e
  rw [same]
  rw [h] at h0
  refine ⟨?_,trivial⟩
  have h1:a.tmps.getD t undef=.bool p:=h0.1
  rw [h1,hp]
  rfl
 ·rw [other i e]
  unfold OKV at h0 ⊢
  split
  ·rename_i g b' y hx
   rw [hx] at h0
   intro c hc hcb
   by_cases e2:t=g
   ·subst e2
    rw [same] at hc
    cases hc
    exact h0 _ h (by show p=b';rw [hp];exact hcb)
   ·rw [other g e2] at hc
    exact h0 c hc hcb
  ·rename_i hne
   revert h0
   split
   ·rename_i g b' y hx
    exact absurd hx (by simpa using hne g b' y)
   ·exact id
theorem wpS_okR (rm:RM) (hP:EnvOK P E) (hmix:P.follows .mixedOrders=true) (G:WOK E w0):∀ (c:Code) (S:St) (Q:Ex→St→Prop) (m:M) (a:Act) (w:World),wpS E (stripR rm c) S Q→Rel w0 m S a w→c.wp P (Lift w0 Q) a w:=by
 intro c
 induction c with
 | skip=>intro S Q m a w h R;exact wp_skip ⟨S,m,h,R⟩
 | label l=>intro S Q m a w h R;exact wp_label ⟨S,m,h,R⟩
 | region id ops draw =>
  intro S Q m a w h R
  simp only [stripR] at h
  split at h
  ·rename_i l hl
   have one:∀ {S:St} {Q:Ex→St→Prop},Rel w0 m S a w→regS E (madeIn l) l S Q→(Code.region id ops draw).wp P (Lift w0 Q) a w:=by
    intro S Q R h
    unfold regS at h
    split at h
    ·rename_i cs S' hrun
     obtain ⟨hc,hq⟩:=andAll_iff cs _ h
     exact region_ok hP hmix G R hl hrun hc (fun m' a' w' R'=>⟨S',m',hq,R'⟩)
    ·exact h.elim
   simp only [wpS] at h
   unfold regW at h
   split at h
   ·split at h
    ·rename_i t _ p hp
     cases hb:p with
     | true=>exact one (R.split hp hb) (h.1 hb)
     | false=>exact one (R.split hp hb) (h.2 hb)
    ·exact one R h
   ·exact one R h
  ·exact h.elim
 | seq x y ihx ihy =>
  intro S Q m a w h R
  simp only [stripR,wpS] at h
  refine wp_seq (wp_mono (ihx S _ m a w h R) ?_)
  intro e a' w' hl
  cases e with
  | normal=>obtain ⟨S',m',h1,h2⟩:=hl;exact ihy S' Q m' a' w' h1 h2
  | exit id=>obtain ⟨S',m',h1,h2⟩:=hl;exact ⟨S',m',h1,h2⟩
  | ret=>obtain ⟨S',m',h1,h2⟩:=hl;exact ⟨S',m',h1,h2⟩
  | goto l=>exact hl.elim
  | panic ch=>exact hl.elim
  | outgrown=>exact hl.elim
 | cond c x y ihx ihy =>
  intro S Q m a w h R
  simp only [stripR,wpS] at h
  split at h
  ·rename_i hb
   exact wp_cond_true (opv_ok R hb) (ihx S Q m a w h R)
  ·rename_i hb
   exact wp_cond_false (opv_ok R hb) (ihy S Q m a w h R)
  ·rename_i p hb
   exact wp_cond_split (t:=p) (opv_ok R hb) (fun hp=>ihx S Q m a w (h.1 hp) R) (fun hp=>ihy S Q m a w (h.2 hp) R)
  ·exact h.elim
 | block id c ih =>
  intro S Q m a w h R
  simp only [stripR,wpS] at h
  refine wp_block (wp_mono (ih S _ m a w h R) ?_)
  intro e a' w' hl
  cases e with
  | normal=>exact hl
  | exit id' =>
   obtain ⟨S',m',h1,h2⟩:=hl
   simp only at h1
   simp only [Exit.inBlock]
   by_cases hid:id'=id
   ·rw [if_pos hid] at h1 ⊢
    exact ⟨S',m',h1,h2⟩
   ·rw [if_neg hid] at h1 ⊢
    exact ⟨S',m',h1,h2⟩
  | ret=>exact hl
  | goto l=>exact hl.elim
  | panic ch=>exact hl.elim
  | outgrown=>exact hl.elim
 | loop c ih =>
  intro S Q m a w h R
  simp only [stripR,wpS] at h
  split at h
  ·rename_i n hn
   refine wp_loop_rounds n ?_
   clear hn
   induction n generalizing S m a w with
   | zero=>exact h.elim
   | succ n ihn =>
    simp only [rounds] at h
    refine wp_mono (ih S _ m a w h R) ?_
    intro e a' w' hl
    cases e with
    | normal=>obtain ⟨S',m',h1,h2⟩:=hl;exact ihn S' m' a' w' h2 h1
    | exit id=>exact hl
    | ret=>exact hl
    | goto l=>exact hl.elim
    | panic ch=>exact hl.elim
    | outgrown=>exact hl.elim
  ·rename_i n hn
   refine wp_loop_rounds n ?_
   clear hn
   replace h:=h.run
   induction n generalizing S m a w with
   | zero=>exact h.elim
   | succ n ihn =>
    simp only [roundsL] at h
    refine wp_mono (ih S _ m a w h R) ?_
    intro e a' w' hl
    cases e with
    | normal=>obtain ⟨S',m',h1,h2⟩:=hl;exact ihn S' m' a' w' h2 h1.run
    | exit id=>exact hl
    | ret=>exact hl
    | goto l=>exact hl.elim
    | panic ch=>exact hl.elim
    | outgrown=>exact hl.elim
  ·rename_i α st μ hn
   obtain ⟨⟨x0,hx0⟩,hround⟩:=h
   refine wp_loop_ghost (fun n a w=>∃ x m,μ x=n∧Rel w0 m (st x) a w) (μ x0) ⟨x0,m,rfl,R.le hx0⟩ ?_
   rintro n a w ⟨x,m,rfl,Rx⟩
   refine wp_mono (ih (st x) _ m a w (hround x (wfSt_of Rx)) Rx) ?_
   intro e a' w' hl
   cases e with
   | normal =>
    obtain ⟨S',m',⟨y,hy1,hy2⟩,h2⟩:=hl
    exact ⟨μ y,hy2,y,m',rfl,h2.le hy1⟩
   | exit id=>exact hl
   | ret=>exact hl
   | goto l=>exact hl.elim
   | panic ch=>exact hl.elim
   | outgrown=>exact hl.elim
  ·rename_i α st μ hn
   obtain ⟨⟨x0,hx0⟩,hround⟩:=h
   refine wp_loop_ghost (fun n a w=>∃ x m,μ x=n∧Rel w0 m (st S x) a w) (μ x0) ⟨x0,m,rfl,R.le hx0⟩ ?_
   rintro n a w ⟨x,m,rfl,Rx⟩
   refine wp_mono (ih (st S x) _ m a w (hround x (wfSt_of Rx)) Rx) ?_
   intro e a' w' hl
   cases e with
   | normal =>
    obtain ⟨S',m',⟨y,hy1,hy2⟩,h2⟩:=hl
    exact ⟨μ y,hy2,y,m',rfl,h2.le hy1⟩
   | exit id=>exact hl
   | ret=>exact hl
   | goto l=>exact hl.elim
   | panic ch=>exact hl.elim
   | outgrown=>exact hl.elim
 | exit id=>intro S Q m a w h R;exact wp_exit ⟨S,m,h,R⟩
 | ret=>intro S Q m a w h R;exact wp_ret ⟨S,m,h,R⟩
 | rangeFunc f ps x y=>intro S Q m a w h R;exact h.elim
 | scope c=>intro S Q m a w h R;exact h.elim
 | goto l=>intro S Q m a w h R;exact h.elim
 | refuse s=>intro S Q m a w h R;exact h.elim
theorem wpS_ok (hP:EnvOK P E) (hmix:P.follows .mixedOrders=true) (G:WOK E w0) (c:Code) (S:St) (Q:Ex→St→Prop) (m:M) (a:Act) (w:World) (h:wpS E (strip c) S Q) (R:Rel w0 m S a w):c.wp P (Lift w0 Q) a w :=
 wpS_okR (aliasOf c) hP hmix G c S Q m a w h R
end
end Sx

namespace Sx
open Go Go.RowKit
def zeros (k:IntKind):List Value→Bool
 | []=>true
 | .int k' n :: l=>decide (k'=k) && n == 0 && zeros k l
 | _ :: _=>false
def zeroIs (k:IntKind) (n:Nat) (v:Option Value):Bool :=
 match v with
 | some (.agg cs)=>cs.size == n && zeros k cs.toList
 | _=>false
def sameFields:List Field→List (Nat × TypeId)→Bool
 | [],[]=>true
 | f :: fs,(o,t) :: l=>f.offset == o && f.type == t && sameFields fs l
 | _,_=>false
def tyChk (P:Program) (i:TI) (t:TypeId):Bool :=
 match i.d,P.underlying t,P.info? t with
 | .int k,some (.int k'),some inf=>decide (k=k') && i.sz == 1 && inf.size == 1 && inf.bytes == i.by_ && (match inf.zero with | some (.int k2 n)=>decide (k2=k) && n == 0 | _=>false)
 | .bool,some .bool,some inf=>i.sz == 1 && inf.size == 1 && inf.bytes == i.by_ && (match inf.zero with | some (.bool b)=>!b | _=>false)
 | .arr n e,some (.array n' e'),some inf=>n == n' && e == e' && inf.size == i.sz && inf.bytes == i.by_ && zeroIs i.k i.sz inf.zero
 | .struct fs,some (.struct fields),some inf=>sameFields fields.toList fs && inf.size == i.sz && inf.bytes == i.by_ && zeroIs i.k i.sz inf.zero
 | .slice e,some (.slice e'),_=>e == e'
 | .mix fs,some (.struct fields),some inf=>sameFields fields.toList fs && inf.size == i.sz && fs.all fun p=>match P.info? p.2 with | some f=>f.size != 0 | none=>false
 | .other,_,_=>true
 | _,_,_=>false
theorem zeros_ok (k:IntKind):∀ (l:List Value),zeros k l=true→l=(List.range l.length).map fun _=>Value.int k 0
 | [],_=>rfl
 | v :: l,h=>by
  cases v <;> simp [zeros] at h
  obtain ⟨⟨rfl,rfl⟩,h⟩:=h
  have:=zeros_ok _ l h
  rw [List.length_cons,List.range_succ_eq_map,List.map_cons,List.map_map]
  congr 1
theorem zeroIs_ok {k:IntKind} {n:Nat} {v:Option Value} (h:zeroIs k n v=true):v=some (.agg (cellsA k n fun _=>0)):=by
 unfold zeroIs at h
 split at h
 ·rename_i cs
  simp only [Bool.and_eq_true,beq_iff_eq] at h
  obtain ⟨h1,h2⟩:=h
  have:=zeros_ok k _ h2
  congr 2
  apply Array.ext'
  rw [this]
  simp [cellsA,h1]
 ·cases h
theorem sameFields_ok:∀ (fs:List Field) (l:List (Nat × TypeId)),sameFields fs l=true→fs.map (fun f=>(f.offset,f.type))=l
 | [],[],_=>rfl
 | f :: fs,(o,t) :: l,h=>by
  simp only [sameFields,Bool.and_eq_true,beq_iff_eq] at h
  obtain ⟨⟨rfl,rfl⟩,h⟩:=h
  simp [sameFields_ok fs l h]
 | [],_ :: _,h=>by cases h
 | _ :: _,[],h=>by cases h
theorem tyChk_ok {P:Program} {i:TI} {t:TypeId} (h:tyChk P i t=true):TyOK P i t:=by
 unfold tyChk at h
 unfold TyOK
 split at h
 ·rename_i k k' inf hd hu hi
  rw [hd]
  simp only [Bool.and_eq_true,decide_eq_true_eq,beq_iff_eq] at h
  obtain ⟨⟨⟨⟨rfl,h1⟩,h2⟩,hb⟩,h3⟩:=h
  refine ⟨hu,h1,inf,hi,h2,?_,hb⟩
  split at h3
  ·rename_i hz
   simp only [Bool.and_eq_true,decide_eq_true_eq,beq_iff_eq] at h3
   obtain ⟨rfl,rfl⟩:=h3
   exact hz
  ·cases h3
 ·rename_i inf hd hu hi
  rw [hd]
  simp only [Bool.and_eq_true,beq_iff_eq] at h
  obtain ⟨⟨⟨h1,h2⟩,hb⟩,h3⟩:=h
  refine ⟨hu,h1,inf,hi,h2,?_,hb⟩
  split at h3
  ·rename_i b hz
   rw [hz]
   cases b
   ·rfl
   ·cases h3
  ·cases h3
 ·rename_i n e n' e' inf hd hu hi
  rw [hd]
  simp only [Bool.and_eq_true,beq_iff_eq] at h
  obtain ⟨⟨⟨⟨rfl,rfl⟩,h2⟩,hb⟩,h3⟩:=h
  exact ⟨hu,inf,hi,h2,zeroIs_ok h3,hb⟩
 ·rename_i fs fields inf hd hu hi
  rw [hd]
  simp only [Bool.and_eq_true,beq_iff_eq] at h
  obtain ⟨⟨⟨h1,h2⟩,hb⟩,h3⟩:=h
  exact ⟨fields,hu,sameFields_ok _ _ h1,inf,hi,h2,zeroIs_ok h3,hb⟩
 ·rename_i e e' hd hu
  rw [hd]
  simp only [beq_iff_eq] at h
  subst h
  exact hu
 ·rename_i fs fields inf hd hu hi
  rw [hd]
  simp only [Bool.and_eq_true,beq_iff_eq,List.all_eq_true] at h
  obtain ⟨⟨h1,h2⟩,h3⟩:=h
  refine ⟨fields,hu,sameFields_ok _ _ h1,⟨inf,hi,h2⟩,fun p hp=>?_⟩
  have h4:=h3 p hp
  split at h4
  ·rename_i f hf
   exact ⟨f,hf,by simpa using h4⟩
  ·cases h4
 ·rename_i hd
  rw [hd]
  trivial
 ·cases h
def isIntTy (P:Program) (t:TypeId):Bool :=
 match P.underlying t with
 | some (.int _)=>true
 | _=>false
def vOf (P:Program) (t:TypeId) (k:IntKind) (n:Nat) (f:Nat→Int):Value:=if isIntTy P t then .int k (f 0) else .agg (cellsA k n f)
mutual
def eqChk (P:Program):Nat→TypeId→IntKind→Nat→Bool
 | 0,_,_,_=>false
 | d+1,t,k,n =>
  match P.underlying t with
  | some (.int k')=>decide (k'=k) && n == 1
  | some (.array len e)=>(P.info? e).isSome && (len*P.cellsOf e == n) && eqChk P d e k (P.cellsOf e)
  | some (.struct fs)=>!P.stoodInHeld t && eqChkF P d k 0 n fs.toList
  | _=>false
def eqChkF (P:Program):Nat→IntKind→Nat→Nat→List Field→Bool
 | 0,_,_,_,_=>false
 | _+1,_,off,n,[]=>off == n
 | d + 1, k, off, n, f :: fs => f.name != "_" && f.offset == off && (P.info? f.type).isSome && eqChk P d f.type k (P.cellsOf f.type) && eqChkF P d k (off + P.cellsOf f.type) n fs
end
def eqFrom (off n:Nat) (f g:Nat→Int):Bool:=(List.range n).all fun i=>decide (i<off) || f i == g i
theorem eqFrom_iff {off n:Nat} {f g:Nat→Int}:eqFrom off n f g=true↔∀ i,off≤i→i<n→f i=g i:=by
 simp only [eqFrom,List.all_eq_true,List.mem_range,Bool.or_eq_true,decide_eq_true_eq,beq_iff_eq]
 constructor
 ·intro h i h1 h2
  rcases h i h2 with h3 | h3
  ·omega
  ·exact h3
 ·intro h i h2
  by_cases h1:off≤i
  ·exact .inr (h i h1 h2)
  ·exact .inl (by omega)
theorem realEqA_iff {n:Nat} {f g:Nat→Int}:realEqA n f g=true↔∀ i,i<n→f i=g i:=by
 simp [realEqA]
section
variable {P:Program}
theorem part_vOf {e:TypeId} {k:IntKind} {N off:Nat} {f:Nat→Int} {d:Nat} (h:eqChk P d e k (P.cellsOf e)=true) (hi:(P.info? e).isSome=true) (hle:off+P.cellsOf e≤N) (w:World) :
  (part e (cellsA k N f) off).run P w=.ok (vOf P e k (P.cellsOf e) fun j=>f (off+j)) w:=by
 obtain ⟨inf,hinf⟩:=Option.isSome_iff_exists.1 hi
 have hsz:inf.size=P.cellsOf e:=by simp [Program.cellsOf,hinf]
 have agg:∀ dd,P.underlying e=some dd→isG dd=true→(part e (cellsA k N f) off).run P w=.ok (.agg (cellsA k (P.cellsOf e) fun j=>f (off+j))) w:=by
  intro dd hd hg
  have:(cellsA k N f).extract off (off+P.cellsOf e)=cellsA k (P.cellsOf e) (fun j=>f (off+j)):=by
   apply Array.ext
   ·simp;omega
   ·intro i h1 h2
    simp [cellsA]
  simp only [part,Sem.run_bind,run_agg hd,hg,Result.andThen_ok,if_true,run_size hinf,hsz,this,Sem.run_pure]
 cases d with
 | zero=>simp [eqChk] at h
 | succ d =>
  simp only [eqChk] at h
  split at h
  ·rename_i k' hu
   simp only [Bool.and_eq_true,decide_eq_true_eq,beq_iff_eq] at h
   obtain ⟨rfl,h1⟩:=h
   have hv:isIntTy P e=true:=by simp [isIntTy,hu]
   have hcell:=cellsA_get k' N f off (by omega)
   simp only [part,Sem.run_bind,run_agg hu,isG,Result.andThen_ok,Bool.false_eq_true,if_false,hcell,vOf,hv,if_true,Nat.add_zero]
   rfl
  ·rename_i len e' hu
   have hv:isIntTy P e=false:=by simp [isIntTy,hu]
   rw [agg _ hu rfl,vOf,hv]
   rfl
  ·rename_i fs hu
   have hv:isIntTy P e=false:=by simp [isIntTy,hu]
   rw [agg _ hu rfl,vOf,hv]
   rfl
  ·cases h
theorem eqItems_ok {e:TypeId} {k:IntKind} {len N dd:Nat} {f g:Nat→Int} (he:eqChk P dd e k (P.cellsOf e)=true) (hi:(P.info? e).isSome=true) (hN:len*P.cellsOf e=N) (d:Nat)
  (ih:∀ (f g:Nat→Int) (w:World),(Op.equalIn d e (vOf P e k (P.cellsOf e) f) (vOf P e k (P.cellsOf e) g)).run P w=.ok (realEqA (P.cellsOf e) f g) w) (w:World) :
  ∀ is:List Nat,(∀ i ∈ is,i<len)→(Op.eqItems d e (P.cellsOf e) (cellsA k N f) (cellsA k N g) is).run P w=.ok (is.all fun i=>realEqA (P.cellsOf e) (fun j=>f (i*P.cellsOf e+j)) (fun j=>g (i*P.cellsOf e+j))) w
 | [],_=>rfl
 | i :: is,hlt=>by
  have hl:=hlt i (by simp)
  have hle:i*P.cellsOf e+P.cellsOf e≤N:=by
   rw [← hN,← Nat.succ_mul]
   exact Nat.mul_le_mul_right _ hl
  simp only [Op.eqItems,Sem.run_bind,part_vOf he hi hle,Result.andThen_ok,ih,List.all_cons]
  cases hr:realEqA (P.cellsOf e) (fun j=>f (i*P.cellsOf e+j)) (fun j=>g (i*P.cellsOf e+j))
  ·simp
  ·simp only [Bool.not_true,Bool.false_eq_true,if_false,Bool.true_and]
   exact eqItems_ok he hi hN d ih w is (fun j hj=>hlt j (by simp [hj]))
theorem all_items {c len:Nat} {f g:Nat→Int}:((List.range len).all fun i=>realEqA c (fun j=>f (i*c+j)) (fun j=>g (i*c+j)))=realEqA (len*c) f g:=by
 rw [Bool.eq_iff_iff]
 simp only [List.all_eq_true,List.mem_range,realEqA_iff]
 constructor
 ·intro h i hi
  have hc:0<c:=by
   rcases Nat.eq_zero_or_pos c with h0 | h0
   ·subst h0;simp at hi
   ·exact h0
  have h1:i / c<len:=(Nat.div_lt_iff_lt_mul hc).2 hi
  have:=h (i / c) h1 (i % c) (Nat.mod_lt _ hc)
  rw [Nat.div_add_mod'] at this
  exact this
 ·intro h i hi j hj
  refine h _ ?_
  have:(i+1)*c≤len*c:=Nat.mul_le_mul_right _ hi
  rw [Nat.succ_mul] at this
  omega
mutual
theorem eqChk_ok:∀ (d:Nat) (t:TypeId) (k:IntKind) (n:Nat),eqChk P d t k n=true→∀ (x:Nat) (f g:Nat→Int) (w:World),(Op.equalIn (d+x) t (vOf P t k n f) (vOf P t k n g)).run P w=.ok (realEqA n f g) w
 | 0,t,k,n,h=>by simp [eqChk] at h
 | d+1,t,k,n,h=>by
  intro x f g w
  have e1:d+1+x=(d+x)+1:=by omega
  rw [e1]
  simp only [eqChk] at h
  split at h
  ·rename_i k' hu
   simp only [Bool.and_eq_true,decide_eq_true_eq,beq_iff_eq] at h
   obtain ⟨rfl,rfl⟩:=h
   have hv:isIntTy P t=true:=by simp [isIntTy,hu]
   simp only [vOf,hv,if_true]
   rw [run_equalIn_int w _ t k' k' _ _ hu]
   congr 1
   simp [realEqA]
  ·rename_i len e hu
   simp only [Bool.and_eq_true,beq_iff_eq] at h
   obtain ⟨⟨hi,hn⟩,he⟩:=h
   obtain ⟨inf,hinf⟩:=Option.isSome_iff_exists.1 hi
   have hv:isIntTy P t=false:=by simp [isIntTy,hu]
   simp only [vOf,hv,Bool.false_eq_true,if_false]
   rw [run_equalIn_array w _ _ _ hu hinf,eqItems_ok he hi hn (d+x) (fun f g w=>eqChk_ok d e k _ he x f g w) w _ (fun i hi=>List.mem_range.1 hi),all_items,hn]
  ·rename_i fs hu
   simp only [Bool.and_eq_true,Bool.not_eq_true'] at h
   obtain ⟨hs,hf⟩:=h
   have hv:isIntTy P t=false:=by simp [isIntTy,hu]
   simp only [vOf,hv,Bool.false_eq_true,if_false]
   have hfo:P.fieldsOf t=fs:=by simp [Program.fieldsOf,hu]
   rw [run_equalIn_struct w _ t _ _ (by rw [hfo];exact hu) hs,hfo,eqChkF_ok d k 0 n fs.toList hf x f g w]
   congr 1
  ·cases h
theorem eqChkF_ok:∀ (d:Nat) (k:IntKind) (off n:Nat) (fs:List Field),eqChkF P d k off n fs=true→∀ (x:Nat) (f g:Nat→Int) (w:World),
  (Op.eqFields (d+x) (cellsA k n f) (cellsA k n g) fs).run P w=.ok (eqFrom off n f g) w
 | 0,k,off,n,fs,h=>by simp [eqChkF] at h
 | d+1,k,off,n,[],h=>by
  intro x f g w
  simp only [eqChkF,beq_iff_eq] at h
  subst h
  simp only [Op.eqFields,Sem.run_pure]
  congr 1
  refine Eq.symm ?_
  exact eqFrom_iff.2 (fun i h1 h2=>by omega)
 | d+1,k,off,n,fl :: fs,h=>by
  intro x f g w
  simp only [eqChkF,Bool.and_eq_true,beq_iff_eq,bne_iff_ne] at h
  obtain ⟨⟨⟨⟨hn,ho⟩,hi⟩,he⟩,hf⟩:=h
  have bound:∀ (d:Nat) (fs:List Field) (off:Nat),eqChkF P d k off n fs=true→off≤n:=by
   intro d
   induction d with
   | zero=>intro fs off h;simp [eqChkF] at h
   | succ d ihd =>
    intro fs off h
    cases fs with
    | nil=>simp only [eqChkF,beq_iff_eq] at h;omega
    | cons f fs =>
     simp only [eqChkF,Bool.and_eq_true] at h
     have:=ihd _ _ h.2
     omega
  have hle:=bound d fs _ hf
  have h1:=eqChk_ok d fl.type k (P.cellsOf fl.type) he (x+1) (fun j=>f (off+j)) (fun j=>g (off+j)) w
  have e1:d+(x+1)=d+1+x:=by omega
  rw [e1] at h1
  have h2:=eqChkF_ok d k _ n fs hf (x+1) f g w
  rw [e1] at h2
  simp only [Op.eqFields,if_pos hn,Sem.run_bind,ho,part_vOf he hi hle,Result.andThen_ok,h1]
  cases hr:realEqA (P.cellsOf fl.type) (fun j=>f (off+j)) (fun j=>g (off+j))
  ·simp only [Bool.not_false,if_true,Sem.run_pure]
   congr 1
   symm
   rw [Bool.eq_false_iff]
   intro hall0
   have hall:=eqFrom_iff.1 hall0
   have:realEqA (P.cellsOf fl.type) (fun j=>f (off+j)) (fun j=>g (off+j))=true:=realEqA_iff.2 fun i hi=>hall _ (by omega) (by omega)
   rw [hr] at this
   cases this
  ·simp only [Bool.not_true,Bool.false_eq_true,if_false,h2]
   congr 1
   rw [Bool.eq_iff_iff,eqFrom_iff,eqFrom_iff]
   constructor
   ·intro h i h3 h4
    by_cases h5:i<off+P.cellsOf fl.type
    ·have:=realEqA_iff.1 hr (i - off) (by omega)
     have e2:off+(i - off)=i:=by omega
     rw [e2] at this
     exact this
    ·exact h i (by omega) h4
   ·intro h i h3 h4
    exact h i (by omega) h4
end
theorem eqOK_of {i:TI} {t:TypeId} (h:eqChk P 20 t i.k i.sz=true) (hv:isIntTy P t=false) (hg:P.eqGuardType P.depth t=false):EqOK P i t:=by
 intro f g w
 refine ⟨fun x y o=>run_eqGuard_agg w o t x y _ _ hg,?_⟩
 have:=eqChk_ok 20 t i.k i.sz h 9980 f g w
 simp only [vOf,hv,Bool.false_eq_true,if_false] at this
 exact this
end
end Sx

namespace Sx
open Go Go.RowKit
def resOf (E:Env) (S:St):ResultVar→Option AV
 | .tmp t=>if plain (get S t) then some (get S t) else none
 | .cell t T =>
  match get S t with
  | .own x =>
   match sub E T x (.lit 0) with
   | some ([],r)=>some r
   | _=>none
  | _=>none
def resAll (E:Env) (S:St):List ResultVar→Option (List AV)
 | []=>some []
 | r :: rs =>
  match resOf E S r with
  | some v =>
   (match resAll E S rs with
   | some vs=>some (v :: vs)
   | none=>none)
  | none=>none
def answerOf:List AV→AV
 | [x]=>x
 | l=>.tup l
def resFirst (E:Env) (S:St):List ResultVar→Option AV
 | []=>(resAll E S []).map answerOf
 | .cell t T :: rs=>(resAll E S (.cell t T :: rs)).map answerOf
 | .tmp t :: rs =>
  match get S t with
  | .osl k es len f =>
   (match rs,resAll E S rs with
   | [],_=>some (.osl k es len f)
   | _ :: _,some l=>some (.otup k es len f l)
   | _ :: _,none=>none)
  | _=>(resAll E S (.tmp t :: rs)).map answerOf
def sameP:AV→AV→Prop
 | .int k n,.int k' n'=>k=k'∧n.val=n'.val
 | .bool b,.bool b'=>b.val=b'.val
 | .arr k n f,.arr k' n' g=>k=k'∧n=n'∧∀ i,i<n→f i=g i
 | .val v,.val v'=>v=v'
 | _,_=>False
def sameL:List AV→List AV→Prop
 | [],[]=>True
 | x :: xs,y :: ys=>sameP x y∧sameL xs ys
 | _,_=>False
def sameA:AV→AV→Prop
 | .tup l,.tup l'=>sameL l l'
 | .osl k es len f,.osl k' es' len' g=>k=k'∧es=es'∧len.val=len'.val∧∀ i,i<len.val*es→f i=g i
 | .val v,.osl _ _ len _=>v=.slice none 0 0∧len.val=0
 | .otup k es len f ps,.otup k' es' len' g ps'=>k=k'∧es=es'∧len.val=len'.val∧(∀ i,i<len.val*es→f i=g i)∧sameL ps ps'
 | .tup (.val v :: ps),.otup _ _ len _ ps'=>v=.slice none 0 0∧len.val=0∧sameL ps ps'
 | x,y=>sameP x y
def start (n:Nat) (vs:List AV):St:=vs ++ List.replicate (n - vs.length) .junk
def fnS (E:Env) (c:SC) (n:Nat) (rs:List ResultVar) (vs:List AV) (Q:AV→Prop):Prop :=
 wpS E c (start n vs) (fun e S=>match e with
  | .exit _=>False
  | .normal=>(match resFirst E S rs with
   | some r=>Q r
   | none=>False)
  | .ret=>(match resFirst E S rs with
   | some r=>Q r
   | none=>False))
section
variable {P:Program} {E:Env}
theorem All2_get {α β:Type} {r:α→β→Prop}:∀ {as:List α} {bs:List β},All2 r as bs→as.length=bs.length∧∀ (i:Nat) (a:α) (b:β),as[i]?=some a→bs[i]?=some b→r a b
 | [],[],_=>⟨rfl,fun i a b h=>by simp at h⟩
 | a :: as,b :: bs,h=>by
  obtain ⟨h1,h2⟩:=h
  obtain ⟨h3,h4⟩:=All2_get h2
  refine ⟨by simp [h3],fun i x y hx hy=>?_⟩
  cases i with
  | zero =>
   simp only [List.getElem?_cons_zero,Option.some.injEq] at hx hy
   subst hx;subst hy;exact h1
  | succ i=>exact h4 i x y (by simpa using hx) (by simpa using hy)
 | [],_ :: _,h=>h.elim
 | _ :: _,[],h=>h.elim
noncomputable def placeOf (v:Value):Nat × Nat :=
 match v with
 | .slice (some a) _ _=>(a.block,a.off)
 | _=>(0,0)
theorem start_rel {vs:List AV} {args:List Value} {w:World} {n:Nat} (h:All2 (ArgR w) vs args) (hw:∀ x ∈ vs,wfV x) (hn:vs.length≤n) :
  Rel w (fun i=>placeOf (args.getD i undef)) (start n vs) { tmps:=args.toArray ++ Array.replicate (n - args.toArray.size) undef,defers:=[] } w:=by
 obtain ⟨hlen,hget⟩:=All2_get h
 have hg:∀ i,get (start n vs) i=vs.getD i .junk:=by
  intro i
  simp only [get,start,List.getD_eq_getElem?_getD]
  rcases Nat.lt_or_ge i vs.length with h1 | h1
  ·rw [List.getElem?_append_left h1]
  ·rw [List.getElem?_append_right h1,List.getElem?_eq_none h1]
   simp only [List.getElem?_replicate]
   split <;> rfl
 have hin:∀ i x,get (start n vs) i=x→x≠.junk→i<vs.length∧∃ v,args[i]?=some v∧ArgR w x v∧wfV x:=by
  intro i x hi hx
  rw [hg] at hi
  rcases Nat.lt_or_ge i vs.length with h1 | h1
  ·have e1:vs[i]?=some x:=by
    simp only [List.getD_eq_getElem?_getD,List.getElem?_eq_getElem h1,Option.getD_some] at hi ⊢
    rw [hi]
   have e2:args[i]?=some (args[i]'(by omega)):=List.getElem?_eq_getElem (by omega)
   exact ⟨h1,_,e2,hget i x _ e1 e2,hw x (List.mem_of_getElem? e1)⟩
  ·simp [List.getD_eq_getElem?_getD,List.getElem?_eq_none h1] at hi
   exact absurd hi.symm hx
 have htmp:∀ i v,args[i]?=some v→(args.toArray ++ Array.replicate (n - args.toArray.size) undef).getD i undef=v:=by
  intro i v hv
  have hlt:i<args.length:=by
   rcases Nat.lt_or_ge i args.length with h1 | h1
   ·exact h1
   ·rw [List.getElem?_eq_none h1] at hv;cases hv
  simp only [Array.getD_eq_getD_getElem?]
  rw [Array.getElem?_append_left (by simpa using hlt)]
  simp [hv]
 have hnl:∀ i y,lst? (get (start n vs) i)=some y→False:=by
  intro i y hi
  obtain ⟨_,v,_,ha,_⟩:=hin i _ rfl (by intro h;rw [h] at hi;cases hi)
  generalize get (start n vs) i=x at ha hi
  cases x <;> first | (cases hi;done) | exact ha.elim
 refine ⟨rfl,?_,Below.refl _ _,?_,?_,?_,?_,fun i k es len f hi=>(hnl i _ hi).elim,fun i j x y b hi hj=>(hnl j _ hj).elim,fun i j x y b _ hi=>(hnl i _ hi).elim⟩
 ·simp [start]
  omega
 ·intro i _
  by_cases hj:get (start n vs) i=.junk
  ·rw [hj];exact ⟨trivial,trivial⟩
  ·obtain ⟨_,v,e2,ha,hwf⟩:=hin i _ rfl hj
   simp only
   rw [htmp i v e2]
   have hpl:args.getD i undef=v:=by simp [List.getD_eq_getElem?_getD,e2]
   generalize get (start n vs) i=x at ha hwf hj
   cases x <;> simp only [ArgR] at ha <;> try (exact ha.elim)
   ·exact ⟨ha,hwf⟩
   ·exact ⟨ha,hwf⟩
   ·exact ⟨ha,hwf⟩
   ·exact ⟨ha,hwf⟩
   ·obtain ⟨aa,cc,h1,h2,h3⟩:=ha
    refine ⟨⟨aa,cc,h1,fun hp=>?_,h3⟩,hwf⟩
    obtain ⟨b,off,hb,_⟩:=h2 hp
    subst hb
    simp only [hpl,h1,placeOf]
 ·intro i x hi
  obtain ⟨_,v,_,ha,_⟩:=hin i _ hi (by simp)
  exact ha.elim
 ·intro i j x y hi
  obtain ⟨_,v,_,ha,_⟩:=hin i _ hi (by simp)
  exact ha.elim
 ·intro i k es len cap f hi j hj
  obtain ⟨_,v,e2,ha,_⟩:=hin i _ hi (by simp)
  obtain ⟨aa,cc,h1,h2,h3⟩:=ha
  have hp:0<len.val:=by
   rcases Nat.eq_zero_or_pos len.val with h0 | h0
   ·rw [h0] at hj;simp at hj
   ·exact h0
  obtain ⟨b,off,hb,hc⟩:=h2 hp
  subst hb
  have hpl:args.getD i undef=v:=by simp [List.getD_eq_getElem?_getD,e2]
  simp only [hpl,h1,placeOf]
  exact hc j hj
theorem resOf_ok (hP:EnvOK P E) {w0:World} {m:M} {S:St} {a:Act} {w:World} (R:Rel w0 m S a w) {rv:ResultVar} {x:AV} (h:resOf E S rv=some x) :
  (match rv with
   | .tmp t=>(pure (a.tmps.getD t undef):Sem Value)
   | .cell b t=>do loadVar t (← asAddr (a.tmps.getD b undef))).run P w=.ok (pv x) w∧plain x=true∧wfP x:=by
 cases rv with
 | tmp t =>
  simp only [resOf] at h
  split at h
  ·rename_i hp
   simp only [Option.some.injEq] at h
   subst h
   have h0:=vals_get R t
   unfold OKV at h0
   split at h0
   ·rename_i g b y he;rw [he] at hp;cases hp
   ·refine ⟨?_,hp,wfV_wfP hp h0.2⟩
    show (pure (a.tmps.getD t undef):Sem Value).run P w=_
    rw [plain_VR hp h0.1]
    rfl
  ·cases h
 | cell t T =>
  simp only [resOf] at h
  split at h
  ·rename_i y hs
   split at h
   ·rename_i r hsub
    simp only [Option.some.injEq] at h
    subst h
    obtain ⟨h0,⟨T0,hb⟩,hp,hw⟩:=own_block R hs
    obtain ⟨l1,l2,l3⟩:=sub_ok hP hsub (fun p hp=>by simp at hp) hw hb
    refine ⟨?_,l2,l3⟩
    have hv:=vals_get R t
    rw [hs] at hv
    have hv1:=hv.1.1
    rw [h0] at hv1
    simp only [hv1,asAddr,Sem.run_bind,Sem.run_pure,Result.andThen_ok]
    exact l1
   ·cases h
  ·cases h
theorem list_ok {w0:World} {m:M} {S:St} {a:Act} {w:World} (R:Rel w0 m S a w) {t:Tmp} {k:IntKind} {es:Nat} {len:SO} {f:Nat→Int} (h:get S t=.osl k es len f) :
  NewL w0.heap.size w k es len f (a.tmps.getD t undef):=by
 have h0:=R.vals t (get_lt (by rw [h];simp))
 obtain ⟨e,he⟩:=R.lsts t k es len f (by rw [h];rfl)
 rw [h] at h0
 obtain ⟨⟨aa,c,h1,_⟩,hw⟩:=h0
 rw [h1] at he ⊢
 exact ⟨⟨e,he⟩,hw⟩
theorem resAll_ok (hP:EnvOK P E) {w0:World} {m:M} {S:St} {a:Act} {w:World} (R:Rel w0 m S a w):∀ (rs:List ResultVar) (l:List AV),resAll E S rs=some l→(rs.mapM (m:=Sem) fun
   | .tmp t=>pure (a.tmps.getD t undef)
   | .cell b t=>do loadVar t (← asAddr (a.tmps.getD b undef))).run P w=.ok (l.map pv) w∧(∀ x ∈ l,plain x=true∧wfP x):=by
 intro rs
 induction rs with
 | nil =>
  intro l h
  simp only [resAll] at h
  cases h
  exact ⟨rfl,fun x hx=>by simp at hx⟩
 | cons r rs ih =>
  intro l h
  simp only [resAll] at h
  split at h
  ·rename_i x hx
   split at h
   ·rename_i vs hvs
    cases h
    obtain ⟨r1,r2,r3⟩:=resOf_ok hP R hx
    obtain ⟨i1,i2⟩:=ih vs hvs
    refine ⟨?_,fun y hy=>?_⟩
    ·rw [List.mapM_cons,Sem.run_bind]
     cases r <;> simp only at r1 <;> simp only [r1,Result.andThen_ok,Sem.run_bind,i1,Sem.run_pure,List.map_cons]
    ·rcases List.mem_cons.1 hy with rfl | hy
     ·exact ⟨r2,r3⟩
     ·exact i2 y hy
   ·cases h
  ·cases h
theorem results_run {a:Act} {w:World} {fn:Func} {l:List Value} (h:(fn.results.toList.mapM (m:=Sem) fun
   | .tmp t=>pure (a.tmps.getD t undef)
   | .cell b t=>do loadVar t (← asAddr (a.tmps.getD b undef))).run P w=.ok l w):(results fn a.tmps).run P w=.ok (if h:l.toArray.size=1 then l.toArray[0] else .tuple l.toArray) w:=by
 have harr:(fn.results.mapM (m:=Sem) fun
   | .tmp t=>pure (a.tmps.getD t undef)
   | .cell b t=>do loadVar t (← asAddr (a.tmps.getD b undef))).run P w=.ok l.toArray w:=by
  rw [Array.mapM_eq_mapM_toList,Sem.run_map,h]
  rfl
 unfold results
 rw [Sem.run_bind]
 exact (congrArg (fun r=>Result.andThen r _) harr).trans rfl
theorem results_plain (hP:EnvOK P E) {w0:World} {m:M} {S:St} {a:Act} {w:World} (R:Rel w0 m S a w) {fn:Func} {l:List AV} (h:resAll E S fn.results.toList=some l) (B:Nat) :
  ∃ v,(results fn a.tmps).run P w=.ok v w∧ResR B w (answerOf l) v:=by
 obtain ⟨k1,k2⟩:=resAll_ok hP R _ _ h
 refine ⟨_,results_run k1,?_⟩
 match l,k2 with
 | [],_=>exact ⟨rfl,rfl,fun x hx=>by simp at hx⟩
 | [x],k2 =>
  obtain ⟨p1,p2⟩:=k2 x (by simp)
  simp only [answerOf]
  cases x <;> simp [plain] at p1 <;> exact ⟨rfl,p2,rfl⟩
 | x :: y :: l,k2 =>
  simp only [answerOf,ResR]
  refine ⟨?_,?_,fun z hz=>(k2 z hz).2⟩
  ·rw [dif_neg (by simp)]
  ·rw [List.all_eq_true]
   exact fun z hz=>(k2 z hz).1
theorem results_ok (hP:EnvOK P E) {w0:World} {m:M} {S:St} {a:Act} {w:World} (R:Rel w0 m S a w) {fn:Func} {r:AV} (h:resFirst E S fn.results.toList=some r) :
  ∃ v,(results fn a.tmps).run P w=.ok v w∧ResR w0.heap.size w r v:=by
 have pl:∀ rs,fn.results.toList=rs→(resAll E S rs).map answerOf=some r→∃ v,(results fn a.tmps).run P w=.ok v w∧ResR w0.heap.size w r v:=by
  intro rs hrs hm
  obtain ⟨l,hl,rfl⟩:=Option.map_eq_some_iff.1 hm
  exact results_plain hP R (by rw [hrs];exact hl) _
 cases hrs:fn.results.toList with
 | nil =>
  rw [hrs] at h
  exact pl _ hrs h
 | cons rv rs =>
  rw [hrs] at h
  cases rv with
  | cell t T=>exact pl _ hrs h
  | tmp t =>
   cases hg:get S t with
   | osl k es len f =>
    have hN:=list_ok R hg
    simp only [resFirst,hg] at h
    have all:∀ l,resAll E S rs=some l→(fn.results.toList.mapM (m:=Sem) fun
      | .tmp t=>pure (a.tmps.getD t undef)
      | .cell b t=>do loadVar t (← asAddr (a.tmps.getD b undef))).run P w=.ok (a.tmps.getD t undef :: l.map pv) w∧(∀ x ∈ l,plain x=true∧wfP x):=by
     intro l hl
     obtain ⟨k1,k2⟩:=resAll_ok hP R _ _ hl
     refine ⟨?_,k2⟩
     rw [hrs,List.mapM_cons,Sem.run_bind]
     simp only [Sem.run_pure,Result.andThen_ok,Sem.run_bind,k1]
    split at h
    ·cases h
     obtain ⟨a1,_⟩:=all [] rfl
     exact ⟨_,results_run a1,hN⟩
    ·rename_i rv' rs' l hl
     cases h
     obtain ⟨a1,a2⟩:=all l hl
     refine ⟨_,results_run a1,a.tmps.getD t undef,?_,hN,?_,fun x hx=>(a2 x hx).2⟩
     ·obtain ⟨v0,l0,e0⟩:∃ v0 l0,l.map pv=v0 :: l0:=by
       simp only [resAll] at hl
       split at hl
       ·split at hl
        ·cases hl;exact ⟨_,_,rfl⟩
        ·cases hl
       ·cases hl
      rw [dif_neg (by rw [e0];simp)]
     ·rw [List.all_eq_true]
      exact fun x hx=>(a2 x hx).1
    ·cases h
   | _=>exact pl _ hrs (by simpa only [resFirst,hg] using h)
theorem sameP_ok {x y:AV} (h:sameP x y):pv x=pv y∧(plain x=true∧plain y=true)∧(wfP x→wfP y):=by
 unfold sameP at h
 split at h
 ·obtain ⟨rfl,hn⟩:=h
  exact ⟨by simp [pv,hn],⟨rfl,rfl⟩,fun h=>by simpa [wfP,hn] using h⟩
 ·exact ⟨by simp [pv,h],⟨rfl,rfl⟩,fun _=>trivial⟩
 ·obtain ⟨rfl,rfl,hfg⟩:=h
  exact ⟨by simp only [pv];rw [cellsA_congr hfg],⟨rfl,rfl⟩,fun h i hi=>by rw [← hfg i hi];exact h i hi⟩
 ·subst h;exact ⟨rfl,⟨rfl,rfl⟩,id⟩
 ·exact h.elim
theorem sameL_ok:∀ {xs ys:List AV},sameL xs ys→xs.map pv=ys.map pv∧ys.all plain=true∧((∀ x ∈ xs,wfP x)→∀ y ∈ ys,wfP y)
 | [],[],_=>⟨rfl,rfl,fun _ y hy=>by simp at hy⟩
 | x :: xs,y :: ys,h=>by
  obtain ⟨h1,h2⟩:=h
  obtain ⟨a1,a2,a3⟩:=sameP_ok h1
  obtain ⟨b1,b2,b3⟩:=sameL_ok h2
  refine ⟨by simp [a1,b1],by simp [a2.2];simpa using b2,fun hw z hz=>?_⟩
  rcases List.mem_cons.1 hz with rfl | hz
  ·exact a3 (hw x (by simp))
  ·exact b3 (fun u hu=>hw u (by simp [hu])) z hz
 | [],_ :: _,h=>h.elim
 | _ :: _,[],h=>h.elim
theorem newL_same {B:Nat} {w:World} {k:IntKind} {es:Nat} {len len':SO} {f g:Nat→Int} {v:Value} (h:NewL B w k es len f v) (hl:len.val=len'.val) (hfg:∀ i,i<len.val*es→f i=g i):NewL B w k es len' g v:=by
 obtain ⟨⟨e,he⟩,hw⟩:=h
 rw [lcells_congr hfg,hl] at he
 refine ⟨⟨e,he⟩,fun i hi=>?_⟩
 rw [← hl] at hi
 rw [← hfg i hi]
 exact hw i hi
theorem newL_nil {B:Nat} {w:World} {k:IntKind} {es:Nat} {len:SO} {f:Nat→Int} (hl:len.val=0):NewL B w k es len f (.slice none 0 0):=by
 refine ⟨⟨0,?_⟩,fun i hi=>by rw [hl] at hi;simp at hi⟩
 rw [hl]
 simpa [lcells] using World.ownsRow_nil w B 0 es
theorem sameA_ok {B:Nat} {w:World} {x y:AV} {v:Value} (h:sameA x y) (hv:ResR B w x v):ResR B w y v:=by
 unfold sameA at h
 split at h
 ·rename_i l l'
  obtain ⟨h1,h2,h3⟩:=sameL_ok h
  obtain ⟨v1,v2,v3⟩:=hv
  exact ⟨by rw [v1,h1],h2,h3 v3⟩
 ·obtain ⟨rfl,rfl,hl,hfg⟩:=h
  exact newL_same hv hl hfg
 ·obtain ⟨rfl,hl⟩:=h
  have:v=.slice none 0 0:=hv.2.2
  rw [this]
  exact newL_nil hl
 ·obtain ⟨rfl,rfl,hl,hfg,hs⟩:=h
  obtain ⟨h1,h2,h3⟩:=sameL_ok hs
  obtain ⟨u,v1,v2,v3,v4⟩:=hv
  exact ⟨u,by rw [v1,h1],newL_same v2 hl hfg,h2,h3 v4⟩
 ·obtain ⟨rfl,hl,hs⟩:=h
  obtain ⟨h1,h2,h3⟩:=sameL_ok hs
  obtain ⟨v1,v2,v3⟩:=hv
  refine ⟨.slice none 0 0,?_,newL_nil hl,h2,h3 fun x hx=>v3 x (by simp [hx])⟩
  rw [v1,List.map_cons,h1]
  rfl
 ·obtain ⟨p1,p2,p3⟩:=sameP_ok h
  have hx:plain x=true∧wfP x∧v=pv x:=by
   unfold ResR at hv
   split at hv
   ·cases p2.1
   ·cases p2.1
   ·cases p2.1
   ·exact hv
  have:ResR B w y v:=by
   unfold ResR
   split
   ·cases p2.2
   ·cases p2.2
   ·cases p2.2
   ·exact ⟨p2.2,p3 hx.2.1,by rw [hx.2.2,p1]⟩
  exact this
theorem soundM_of (hP : EnvOK P E) (hmix : P.follows .mixedOrders = true) {f : FuncId} {fn : Func} (hf : P.funcs[f]? = some fn) (hb : fn.body.isNone = false) (hname : (fn.name == "runtime.NumGoroutine") = false) {c : Contract}
  (hlen:∀ vs cs r,c vs=some (cs,r)→vs.length≤fn.ntmps)
  (h:∀ vs cs r,c vs=some (cs,r)→(∀ p ∈ cs,p)→(∀ x ∈ vs,wfV x)→fnS E (strip (body fn)) fn.ntmps fn.results.toList vs (fun r'=>sameA r' r)):SoundM P E.mem E.glob f c:=by
 intro vs cs r hc hcs hwf w hm hG args hargs
 have G:WOK E w:=⟨hG,hm⟩
 refine .inl ⟨fn,hf,hb,hname,?_⟩
 have hw:=h vs cs r hc hcs hwf
 obtain ⟨cc,hcc⟩:∃ cc,fn.body=some cc:=by
  cases hbb:fn.body with
  | none=>rw [hbb] at hb;cases hb
  | some cc=>exact ⟨cc,rfl⟩
 have hbd:body fn=cc:=by simp [body,hcc]
 refine calls_of_wp hf hcc ?_
 rw [hbd] at hw
 have R:=start_rel (n:=fn.ntmps) hargs hwf (hlen vs cs r hc)
 refine wp_mono (wpS_ok hP hmix G cc _ _ _ _ w hw R) ?_
 have fin:∀ a' w',(∃ S m,(match resFirst E S fn.results.toList with | some l=>sameA l r | none=>False)∧Rel w m S a' w') →
   a'.defers=[]∧∃ v,(results fn a'.tmps).run P w'=.ok v w'∧∃ v',Ending.returned v=.returned v'∧ResR w.heap.size w' r v'∧Below w.heap.size w w':=by
  rintro a' w' ⟨S,m,h1,h2⟩
  split at h1
  ·rename_i l hl
   obtain ⟨v,v1,v2⟩:=results_ok hP h2 hl
   exact ⟨h2.defers,v,v1,v,rfl,sameA_ok h1 v2,h2.below⟩
  ·exact h1.elim
 intro e a' w' hl
 cases e with
 | normal=>exact fin a' w' hl
 | ret=>exact fin a' w' hl
 | exit id=>obtain ⟨S,m,h1,_⟩:=hl;exact h1.elim
 | goto l=>exact hl.elim
 | panic ch=>exact hl.elim
 | outgrown=>exact hl.elim
structure Walk (E:Env) (sc:SC) (n:Nat) (rs:List ResultVar) (vs:List AV) (r:AV):Prop where
 run:fnS E sc n rs vs (fun r'=>sameA r' r)
structure EnvOK0 (P:Program) (E:Env):Prop where
 ok:EnvOK P E
 mem:E.mem=noMem
theorem sound_of (hP : EnvOK0 P E) (hmix : P.follows .mixedOrders = true) {f : FuncId} {fn : Func} (hf : P.funcs[f]? = some fn) (hb : fn.body.isNone = false) (hname : (fn.name == "runtime.NumGoroutine") = false) {c : Contract}
  (hlen:∀ vs cs r,c vs=some (cs,r)→vs.length≤fn.ntmps)
  (h:∀ vs cs r,c vs=some (cs,r)→(∀ p ∈ cs,p)→(∀ x ∈ vs,wfV x)→fnS E (strip (body fn)) fn.ntmps fn.results.toList vs (fun r'=>sameA r' r)):Sound P E.glob f c:=by
 have h1:=soundM_of hP.ok hmix hf hb hname hlen h
 rw [hP.mem] at h1
 exact h1.toS
theorem sound_by {E:Env} (hP:EnvOK0 P E) (hmix:P.follows .mixedOrders=true) {f:FuncId} {fn:Func} (hf:P.funcs[f]?=some fn) {n:Nat} {rs:List ResultVar} {sc:SC} (hn:fn.ntmps=n) (hrs:fn.results.toList=rs) (hb:fn.body.isNone=false)
  (hname : (fn.name == "runtime.NumGoroutine") = false) (hsc : strip (body fn) = sc) {c : Contract}
  (h:∀ vs cs r,c vs=some (cs,r)→vs.length≤n∧((∀ p ∈ cs,p)→(∀ x ∈ vs,wfV x)→Walk E sc n rs vs r)):Sound P E.glob f c:=by
 subst hn;subst hrs;subst hsc
 have h1:=soundM_of hP.ok hmix hf hb hname (fun vs cs r hc=>(h vs cs r hc).1) (fun vs cs r hc h1 h2=>((h vs cs r hc).2 h1 h2).run)
 rw [hP.mem] at h1
 exact h1.toS
theorem sound_eachM {mem:Mem} {G:Nat→AV} (hmix:P.follows .mixedOrders=true) {f:FuncId} {fn:Func} (hf:P.funcs[f]?=some fn) {n:Nat} {rs:List ResultVar} {sc:SC} (hn:fn.ntmps=n) (hrs:fn.results.toList=rs) (hb:fn.body.isNone=false)
  (hname : (fn.name == "runtime.NumGoroutine") = false) (hsc : strip (body fn) = sc) {c : Contract}
  (h:∀ vs cs r,c vs=some (cs,r)→vs.length≤n∧((∀ p ∈ cs,p)→(∀ x ∈ vs,wfV x)→∃ E:Env,EnvOK P E∧E.mem=mem∧E.glob=G∧Walk E sc n rs vs r)):SoundM P mem G f c:=by
 intro vs cs r hc hcs hwf w hm hG args hargs
 obtain ⟨hl,hw⟩:=h vs cs r hc
 obtain ⟨E,hE,hmm,hg,hW⟩:=hw hcs hwf
 subst hg hmm
 subst hn;subst hrs;subst hsc
 classical
 have key:SoundM P E.mem E.glob f (fun vs'=>if vs'=vs then some (cs,r) else none):=by
  refine soundM_of hE hmix hf hb hname (fun vs' cs' r' hc'=>?_) (fun vs' cs' r' hc' _ _=>?_)
  ·split at hc'
   ·rename_i e;subst e;exact hl
   ·cases hc'
  ·split at hc'
   ·rename_i e;subst e;cases hc';exact hW.run
   ·cases hc'
 exact key vs cs r (if_pos rfl) hcs hwf w hm hG args hargs
theorem sound_each {G:Nat→AV} (hmix:P.follows .mixedOrders=true) {f:FuncId} {fn:Func} (hf:P.funcs[f]?=some fn) {n:Nat} {rs:List ResultVar} {sc:SC} (hn:fn.ntmps=n) (hrs:fn.results.toList=rs) (hb:fn.body.isNone=false)
  (hname : (fn.name == "runtime.NumGoroutine") = false) (hsc : strip (body fn) = sc) {c : Contract}
  (h:∀ vs cs r,c vs=some (cs,r)→vs.length≤n∧((∀ p ∈ cs,p)→(∀ x ∈ vs,wfV x)→∃ E:Env,EnvOK0 P E∧E.glob=G∧Walk E sc n rs vs r)):Sound P G f c :=
 SoundM.toS (sound_eachM hmix hf hn hrs hb hname hsc fun vs cs r hc=>⟨(h vs cs r hc).1,fun h1 h2=>by
  obtain ⟨E,hE,hg,hW⟩:=(h vs cs r hc).2 h1 h2
  exact ⟨E,hE.ok,hE.mem,hg,hW⟩⟩)
def symV:AV→AV
 | .int k n=>.int k (.sym n.val)
 | .bool b=>.bool (.sym b.val)
 | x=>x
theorem symV_arg {w:World} {x:AV} {v:Value} (h:ArgR w x v):ArgR w (symV x) v:=by
 cases x <;> exact h
theorem symV_wf {x:AV} (h:wfV x):wfV (symV x):=by
 cases x <;> exact h
theorem symV_all {w:World}:∀ {vs:List AV} {args:List Value},All2 (ArgR w) vs args→All2 (ArgR w) (vs.map symV) args
 | [],[],_=>trivial
 | _ :: _,_ :: _,h=>⟨symV_arg h.1,symV_all h.2⟩
 | [],_ :: _,h=>h.elim
 | _ :: _,[],h=>h.elim
theorem sound_symM {mem:Mem} {G:Nat→AV} (hmix:P.follows .mixedOrders=true) {f:FuncId} {fn:Func} (hf:P.funcs[f]?=some fn) {n:Nat} {rs:List ResultVar} {sc:SC} (hn:fn.ntmps=n) (hrs:fn.results.toList=rs) (hb:fn.body.isNone=false)
  (hname : (fn.name == "runtime.NumGoroutine") = false) (hsc : strip (body fn) = sc) {c : Contract}
  (h:∀ vs cs r,c vs=some (cs,r)→vs.length≤n∧((∀ p ∈ cs,p)→(∀ x ∈ vs,wfV x)→∃ E:Env,EnvOK P E∧E.mem=mem∧E.glob=G∧Walk E sc n rs (vs.map symV) r)):SoundM P mem G f c:=by
 intro vs cs r hc hcs hwf w hm hG args hargs
 obtain ⟨hl,hw⟩:=h vs cs r hc
 obtain ⟨E,hE,hmm,hg,hW⟩:=hw hcs hwf
 subst hg hmm
 subst hn;subst hrs;subst hsc
 classical
 have key:SoundM P E.mem E.glob f (fun vs'=>if vs'=vs.map symV then some (cs,r) else none):=by
  refine soundM_of hE hmix hf hb hname (fun vs' cs' r' hc'=>?_) (fun vs' cs' r' hc' _ _=>?_)
  ·split at hc'
   ·rename_i e;subst e;simpa using hl
   ·cases hc'
  ·split at hc'
   ·rename_i e;subst e;cases hc';exact hW.run
   ·cases hc'
 refine key (vs.map symV) cs r (if_pos rfl) hcs (fun x hx=>?_) w hm hG args (symV_all hargs)
 obtain ⟨y,hy,rfl⟩:=List.mem_map.1 hx
 exact symV_wf (hwf y hy)
theorem sound_sym {G:Nat→AV} (hmix:P.follows .mixedOrders=true) {f:FuncId} {fn:Func} (hf:P.funcs[f]?=some fn) {n:Nat} {rs:List ResultVar} {sc:SC} (hn:fn.ntmps=n) (hrs:fn.results.toList=rs) (hb:fn.body.isNone=false)
  (hname : (fn.name == "runtime.NumGoroutine") = false) (hsc : strip (body fn) = sc) {c : Contract}
  (h:∀ vs cs r,c vs=some (cs,r)→vs.length≤n∧((∀ p ∈ cs,p)→(∀ x ∈ vs,wfV x)→∃ E:Env,EnvOK0 P E∧E.glob=G∧Walk E sc n rs (vs.map symV) r)):Sound P G f c :=
 SoundM.toS (sound_symM hmix hf hn hrs hb hname hsc fun vs cs r hc=>⟨(h vs cs r hc).1,fun h1 h2=>by
  obtain ⟨E,hE,hg,hW⟩:=(h vs cs r hc).2 h1 h2
  exact ⟨E,hE.ok,hE.mem,hg,hW⟩⟩)
def lookT:List (TypeId × TI)→TypeId→TI
 | [],_=>⟨.other,0,.u8,false,0⟩
 | (u,i) :: l,t=>if t=u then i else lookT l t
def lookC:List (FuncId × Contract)→FuncId→Contract
 | [],_=>fun _=>none
 | (u,i) :: l,t=>if t=u then i else lookC l t
def lookL:List (Nat × Ann)→Nat→Ann
 | [],_=>.unroll 300
 | (u,i) :: l,t=>if t=u then i else lookL l t
def mkEnv (A:Ops) (T:List (TypeId × TI)) (G:Nat→AV) (C:List (FuncId × Contract)) (L:List (Nat × Ann)):Env :=
 { acc:=realAcc noMem,mem:=noMem,A:=A,ty:=lookT T,glob:=G,call:=lookC C,loops:=lookL L }
def mkEnvM (X:Acc) (mem:Mem) (A:Ops) (T:List (TypeId × TI)) (G:Nat→AV) (C:List (FuncId × Contract)) (L:List (Nat × Ann)):Env :=
 { acc:=X,mem:=mem,A:=A,ty:=lookT T,glob:=G,call:=lookC C,loops:=lookL L }
inductive AllSoundM (P:Program) (mem:Mem) (glob:Nat→AV):List (FuncId × Contract)→Prop
 | nil:AllSoundM P mem glob []
 | cons {f:FuncId} {c:Contract} {l:List (FuncId × Contract)} (h:SoundM P mem glob f c) (hl:AllSoundM P mem glob l):AllSoundM P mem glob ((f,c) :: l)
inductive AllSound (P:Program) (glob:Nat→AV):List (FuncId × Contract)→Prop
 | nil:AllSound P glob []
 | cons {f:FuncId} {c:Contract} {l:List (FuncId × Contract)} (h:Sound P glob f c) (hl:AllSound P glob l):AllSound P glob ((f,c) :: l)
structure TabOK (P:Program) (T:List (TypeId × TI)):Prop where
 ty:∀ p ∈ T,TyOK P p.2 p.1
 eq:∀ p ∈ T,p.2.eq=true→EqOK P p.2 p.1
theorem envOKM {mem:Mem} {T:List (TypeId × TI)} {G:Nat→AV} {C:List (FuncId × Contract)} {L:List (Nat × Ann)} (hT:TabOK P T) (hC:AllSoundM P mem G C):EnvOK P (mkEnvM (realAcc mem) mem realOps T G C L):=by
 refine ⟨rfl,rfl,fun t=>?_,fun t=>?_,fun f=>?_⟩
 ·have:∀ l:List (TypeId × TI),(∀ p ∈ l,TyOK P p.2 p.1)→TyOK P (lookT l t) t:=by
   intro l
   induction l with
   | nil=>intro _;trivial
   | cons p l ih =>
    intro h
    obtain ⟨u,i⟩:=p
    simp only [lookT]
    split
    ·rename_i e;subst e;exact h (t,i) (by simp)
    ·exact ih fun q hq=>h q (by simp [hq])
  exact this T hT.ty
 ·have:∀ l:List (TypeId × TI),(∀ p ∈ l,p.2.eq=true→EqOK P p.2 p.1)→(lookT l t).eq=true→EqOK P (lookT l t) t:=by
   intro l
   induction l with
   | nil=>intro _ h;cases h
   | cons p l ih =>
    intro h
    obtain ⟨u,i⟩:=p
    simp only [lookT]
    split
    ·rename_i e;subst e;exact h (t,i) (by simp)
    ·exact ih fun q hq=>h q (by simp [hq])
  exact this T hT.eq
 ·show SoundM P mem G f (lookC C f)
  induction hC with
  | nil=>intro vs cs r h;cases h
  | cons h _ ih =>
   simp only [lookC]
   split
   ·rename_i e;subst e;exact h
   ·exact ih
theorem envOK {T:List (TypeId × TI)} {G:Nat→AV} {C:List (FuncId × Contract)} {L:List (Nat × Ann)} (hT:TabOK P T) (hC:AllSound P G C):EnvOK0 P (mkEnv realOps T G C L):=by
 have hM:AllSoundM P noMem G C:=by
  induction hC with
  | nil=>exact .nil
  | cons h _ ih=>exact .cons (h.toM _) ih
 exact ⟨envOKM hT hM,rfl⟩
def tabChk (P:Program) (T:List (TypeId × TI)):Bool:=T.all fun p=>tyChk P p.2 p.1 && (!p.2.eq || (eqChk P 20 p.1 p.2.k p.2.sz && !isIntTy P p.1 && !P.eqGuardType P.depth p.1))
theorem tabOK_of {T:List (TypeId × TI)} (h:tabChk P T=true):TabOK P T:=by
 simp only [tabChk,List.all_eq_true,Bool.and_eq_true,Bool.or_eq_true,Bool.not_eq_true'] at h
 refine ⟨fun p hp=>tyChk_ok (h p hp).1,fun p hp he=>?_⟩
 rcases (h p hp).2 with h1 | ⟨⟨h1,h2⟩,h3⟩
 ·rw [he] at h1;cases h1
 ·exact eqOK_of h1 h2 h3
end
end Sx

namespace Sx
open Go Go.ChangeShapes Go.WideShapes Go.ChangeAt Go.RowKit
section
variable {H:Type} {enc:TypeId × Value→H} {P:Program}
theorem stays_all (hl:laidOutB P=true) {W W':World} {base:Nat} {sp':Nat→Bool} :
  ∀ {ts:List TypeId} {vs:List Value} {ds:List (DataW H)} {ps:List MemPlace},(ts.all fun t=>P.readableRec t && decide (t<P.types.size))=true →
   DataW.TrodAll enc P W base (fun _=>true) true ts vs ds ps→(∀ p ∈ ps,W.sameAt W' p)→(∀ p ∈ ps,sp' p.block=true)→DataW.TrodAll enc P W' base sp' true ts vs ds ps
 | [],[],[],_,_,h,_,_=>h
 | t :: ts,v :: vs,d :: ds,_,ht,h,hs,hp=>by
  obtain ⟨p,q,h1,h2,rfl⟩:=h
  simp only [List.all_cons,Bool.and_eq_true,decide_eq_true_eq] at ht
  exact ⟨p,q,WideElems.Trod_stays hl ht.1.1 ht.1.2 h1 (fun x hx=>hs x (List.mem_append_left _ hx)) (fun x hx=>hp x (List.mem_append_left _ hx)),
   stays_all hl ht.2 h2 (fun x hx=>hs x (List.mem_append_right _ hx)) (fun x hx=>hp x (List.mem_append_right _ hx)),rfl⟩
 | [],[],_ :: _,_,_,h,_,_=>h.elim
 | [],_ :: _,_,_,_,h,_,_=>by cases ‹List (DataW H)› <;> exact h.elim
 | _ :: _,[],_,_,_,h,_,_=>by cases ‹List (DataW H)› <;> exact h.elim
 | _ :: _,_ :: _,[],_,_,h,_,_=>h.elim
theorem trodAll_len {W:World} {base:Nat} {sp:Nat→Bool} {hd:Bool}:∀ {ts:List TypeId} {vs:List Value} {ds:List (DataW H)} {ps:List MemPlace},
  DataW.TrodAll enc P W base sp hd ts vs ds ps→vs.length=ts.length∧ds.length=ts.length
 | [],[],[],_,_=>⟨rfl,rfl⟩
 | _ :: _,_ :: _,_ :: _,_,⟨_,_,_,h,_⟩=>by
  obtain ⟨a,b⟩:=trodAll_len h
  simp [a,b]
 | [],[],_ :: _,_,h=>h.elim
 | [],_ :: _,ds,_,h=>by cases ds <;> exact h.elim
 | _ :: _,[],ds,_,h=>by cases ds <;> exact h.elim
 | _ :: _,_ :: _,[],_,h=>h.elim
theorem law_post (hl:laidOutB P=true) {f:FuncId} {fn:Func} {s:ChangeSpec} {fresh handsOn again apart:Bool} (htys:(fn.params.toList.all fun t=>P.readableRec t && decide (t<P.types.size))=true)
  {tb:TypeId} (hres:fn.resultTypes=#[tb]) (htb:P.underlying tb=some .bool) (hv:s.vars=[])
  (hs:∀ ds:List (DataW H),ds.length=fn.params.toList.length→s.fn H ds={ results:=[.lit (.bool true)],args:=ds })
  {W:World} {args:Array Value} {ds gs:List (DataW H)} {before:List MemPlace} (hW:DataW.Whole enc P fn.params.toList s.vars apart W args.toList ds gs before)
  (hC:Calls P f args W fun e w'=>∃ v,e=.returned v∧v=.bool true∧Below W.heap.size W w') :
  Calls P f args W fun e W'=>∃ v,e=.returned v∧s.post enc P fn apart fresh handsOn again W args v W':=by
 have hW':=hW
 obtain ⟨p,q,hA,hV,rfl,hfz,hnd⟩:=hW
 rw [hv] at hV
 have hgs:gs=[]∧q=[]:=by
  cases gs with
  | nil=>exact ⟨rfl,hV⟩
  | cons _ _=>exact hV.elim
 obtain ⟨rfl,rfl⟩:=hgs
 have hlen:=(trodAll_len hA).2
 have hlt:=hW'.lt
 refine hC.mono fun e W' ⟨v,he,hv',hb⟩=>?_
 subst hv'
 have hargs:∀ sp:Nat→Bool,(∀ x ∈ p,sp x.block=true)→DataW.TrodAll enc P W' 0 sp true fn.params.toList args.toList ds p:=fun sp hsp =>
  stays_all hl htys hA (fun x hx=>hb.same (hlt x (by simpa using hx))) hsp
 have hrs:∀ (b:Nat) (sp:Nat→Bool) (hd:Bool),DataW.TrodAll enc P W' b sp hd fn.resultTypes.toList ((Value.bool true).resultList fn.resultTypes.size) [.lit (.bool true)] []:=by
  intro b sp hd
  rw [hres]
  exact trodAll_cons_mk (p:=[]) (p':=[]) (shut_bool htb _) trodAll_mk0
 have hvs:∀ sp:Nat→Bool,DataW.TrodVars enc P W' sp s.vars ([]:List (DataW H)) []:=by
  intro sp
  rw [hv]
  exact rfl
 have hf:=hs ds hlen
 refine ⟨_,he,ds,[],p ++ [],[],p,[],hW',?_,?_,?_,hb.frame _,fun _=>⟨ok_one hres rfl (okWide_bool_mk htb _),.lit (.bool true) :: ds,[],p ++ [],⟨p,[],?_,hvs _,rfl,?_,?_⟩,fun x hx _=>hx⟩⟩
 ·rw [List.append_nil,hf];exact hrs _ _ _
 ·rw [List.append_nil,hf];exact hargs _ (fun x hx=>by simpa using hlt x (by simpa using hx))
 ·rw [List.append_nil,hf];exact hvs _
 ·exact trodAll_append (hargs _ (fun _ _=>rfl)) (hrs _ _ _)
 ·intro b off hx
  have h1:=hlt _ hx
  have h2:=hb.frozen (p:=⟨b,off,none⟩) h1
  rw [h2]
  exact hfz b off hx
 ·exact hnd
end
section
variable {P:Program}
def arrChk (P:Program) (t:TypeId) (n:Nat) (k:IntKind):Bool :=
 (match P.underlying t with | some (.struct _) | some (.array _ _)=>true | _=>false) &&
 (match P.cellTypes P.depth t with
  | some ts=>ts.length == n && ts.all fun e=>match P.underlying e with | some (.int k')=>decide (k'=k) | _=>false
  | none=>false) && P.cellsOf t == n
theorem cell_int {W:World} {r:Reach} {b:Nat} {t:TypeId} {k:IntKind} {v:Value} (ht:P.underlying t=some (.int k)) (h:Cell.okWide P W r b t v):∃ n,v=.int k n∧inR k n:=by
 unfold Cell.okWide at h
 rw [ht] at h
 simp only at h
 unfold Cell.ok at h
 rw [ht] at h
 cases v <;> simp only at h <;> try (exact h.elim)
 rename_i k' n
 obtain ⟨rfl,h⟩:=h
 exact ⟨n,rfl,h⟩
theorem open_arr {t:TypeId} {n:Nat} {k:IntKind} (hc:arrChk P t n k=true) {W:World} {r:Reach} {b:Nat} {v:Value} (h:Value.okWide P W r b t v) :
  ∃ f,v=.agg (cellsA k n f)∧∀ i,i<n→inR k (f i):=by
 unfold arrChk at hc
 simp only [Bool.and_eq_true,beq_iff_eq] at hc
 obtain ⟨⟨h1,h2⟩,h3⟩:=hc
 have hv:∃ cs,v=.agg cs∧cs.size=P.cellsOf t∧Row.okWide P W r b t cs:=by
  unfold Value.okWide at h
  split at h1
  ·rename_i hu;rw [hu] at h;exact h
  ·rename_i hu;rw [hu] at h;exact h
  ·cases h1
 obtain ⟨cs,rfl,hsz,ts,hts,_,hcell⟩:=hv
 rw [hts] at h2
 simp only [Bool.and_eq_true,beq_iff_eq,List.all_eq_true] at h2
 obtain ⟨hl,hall⟩:=h2
 have key:∀ i,i<n→∃ z,cs[i]?=some (.int k z)∧inR k z:=by
  intro i hi
  have hlt:i<cs.size:=by omega
  obtain ⟨u,hu1,hu2⟩:=hcell i cs[i] (by simp [hlt])
  have hm:=hall u (List.mem_of_getElem? hu1)
  split at hm
  ·rename_i k' hk
   have:=of_decide_eq_true hm
   subst this
   obtain ⟨z,e,hz⟩:=cell_int hk hu2
   exact ⟨z,by simp [hlt,e],hz⟩
  ·cases hm
 refine ⟨fun i=>match cs[i]? with | some (.int _ z)=>z | _=>0,?_,?_⟩
 ·congr 1
  apply Array.ext
  ·simp;omega
  ·intro i hi1 hi2
   obtain ⟨z,e,_⟩:=key i (by omega)
   have e1:cs[i]=.int k z:=by
    have:=Array.getElem?_eq_getElem hi1
    rw [this] at e
    exact Option.some.inj e
   have e2:=cellsA_get k n (fun i=>match cs[i]? with | some (.int _ z)=>z | _=>0) i (by omega)
   rw [Array.getElem?_eq_getElem hi2] at e2
   have e3:=Option.some.inj e2
   rw [e1,e3]
   simp only [e]
 ·intro i hi
  obtain ⟨z,e,hz⟩:=key i hi
  simp only [e]
  exact hz
mutual
def flatT (P:Program) (k:IntKind):Nat→TypeId→Bool
 | 0,_=>false
 | d+1,t=>match P.underlying t with
  | some (.int k')=>decide (k'=k)
  | some (.array n e)=>flatT P k d e && P.cellsOf t == n*P.cellsOf e
  | some (.struct fs)=>flatF P k d 0 (P.cellsOf t) fs.toList
  | _=>false
def flatF (P:Program) (k:IntKind):Nat→Nat→Nat→List Field→Bool
 | 0,_,_,_=>false
 | _+1,o,n,[]=>o == n
 | d+1,o,n,f :: fs=>f.offset == o && flatT P k d f.type && flatF P k d (o+P.cellsOf f.type) n fs
end
mutual
def dflat {H:Type}:DataW H→List Int
 | .lit (.int _ n)=>[n]
 | .agg xs=>dflats xs
 | _=>[]
def dflats {H:Type}:List (DataW H)→List Int
 | []=>[]
 | x :: xs=>dflat x ++ dflats xs
end
section
variable {H:Type} {enc:TypeId × Value→H} {w:World} {base:Nat} {sp:Nat→Bool} {hd:Bool}
theorem flat_range {k:IntKind} {c:Nat} {cs:List Value} {h:Nat→Option (DataW H × List MemPlace)} (ih:∀ i x,h i=some x→(cs.drop (i*c)).take c=(dflat x.1).map (Value.int k)) :
  ∀ (m s:Nat) (xs:List (DataW H × List MemPlace)),(List.range' s m).mapM h=some xs→cs.length=(s+m)*c→cs.drop (s*c)=(dflats (xs.map (·.1))).map (Value.int k)
 | 0,s,xs,hm,hl=>by
  simp only [List.range'_zero,List.mapM_nil,Option.pure_def,Option.some.injEq] at hm
  subst hm
  rw [List.drop_eq_nil_of_le (by rw [hl];simp)]
  rfl
 | m+1,s,xs,hm,hl=>by
  rw [List.range'_succ] at hm
  simp only [List.mapM_cons,Option.bind_eq_bind,Option.bind_eq_some_iff,Option.pure_def,Option.some.injEq] at hm
  obtain ⟨x,hx,r,hr,rfl⟩:=hm
  have h1:=ih s x hx
  have h2:=flat_range ih m (s+1) r hr (by rw [hl];congr 1;omega)
  simp only [List.map_cons,dflats,List.map_append]
  rw [← h1,← h2]
  have e:(s+1)*c=s*c+c:=by rw [Nat.succ_mul]
  rw [e,← List.drop_drop,List.take_append_drop]
mutual
theorem flat_cells {k:IntKind}:∀ (d:Nat) (t:TypeId),flatT P k d t=true→∀ (fuel:Nat) (cs:List Value) (x:DataW H × List MemPlace),DataW.trod enc P w base sp hd fuel t cs=some x→cs=(dflat x.1).map (Value.int k)
 | 0,_,h,_,_,_,_=>by simp [flatT] at h
 | d+1,t,h,0,cs,x,hx=>by simp [DataW.trod] at hx
 | d+1,t,h,fuel+1,cs,x,hx=>by
  simp only [flatT] at h
  split at h
  ·rename_i k' hu
   have:=of_decide_eq_true h
   subst this
   obtain ⟨z,e1,rfl,_⟩:=DataW.trod_int hu hx
   rw [e1]
   rfl
  ·rename_i n e hu
   simp only [Bool.and_eq_true,beq_iff_eq] at h
   simp only [DataW.trod,hu] at hx
   split at hx
   ·rename_i hl
    obtain ⟨xs,hm,rfl⟩:=Option.map_eq_some_iff.1 hx
    rw [List.range_eq_range'] at hm
    have:=flat_range (c:=P.cellsOf e) (cs:=cs) (k:=k) (fun i y hy=>flat_cells d e h.1 fuel _ y hy) n 0 xs hm (by rw [hl,h.2];simp)
    simpa [dflat] using this
   ·cases hx
  ·rename_i fs hu
   simp only [DataW.trod,hu] at hx
   split at hx
   ·rename_i hl
    obtain ⟨xs,hm,rfl⟩:=Option.map_eq_some_iff.1 hx
    have:=flat_fields d 0 (P.cellsOf t) fs.toList h fuel cs xs hm hl
    simpa [dflat] using this
   ·cases hx
  ·cases h
theorem flat_fields {k:IntKind}:∀ (d o n:Nat) (fs:List Field),flatF P k d o n fs=true→∀ (fuel:Nat) (cs:List Value) (xs:List (DataW H × List MemPlace)),
  (fs.mapM fun f=>DataW.trod enc P w base sp hd fuel f.type ((cs.drop f.offset).take (P.cellsOf f.type)))=some xs→cs.length=n→cs.drop o=(dflats (xs.map (·.1))).map (Value.int k)
 | 0,_,_,_,h,_,_,_,_,_=>by simp [flatF] at h
 | d+1,o,n,[],h,fuel,cs,xs,hm,hl=>by
  simp only [flatF,beq_iff_eq] at h
  simp only [List.mapM_nil,Option.pure_def,Option.some.injEq] at hm
  subst hm
  rw [List.drop_eq_nil_of_le (by omega)]
  rfl
 | d+1,o,n,f :: fs,h,fuel,cs,xs,hm,hl=>by
  simp only [flatF,Bool.and_eq_true,beq_iff_eq] at h
  obtain ⟨⟨ho,ht⟩,hf⟩:=h
  simp only [List.mapM_cons,Option.bind_eq_bind,Option.bind_eq_some_iff,Option.pure_def,Option.some.injEq] at hm
  obtain ⟨x,hx,r,hr,rfl⟩:=hm
  have h1:=flat_cells d f.type ht fuel _ x hx
  have h2:=flat_fields d (o+P.cellsOf f.type) n fs hf fuel cs r hr hl
  simp only [List.map_cons,dflats,List.map_append]
  rw [← h1,← h2,ho,← List.drop_drop,List.take_append_drop]
end
end
abbrev GL:=List (Nat × IntKind × List Int)
def globAV (k:IntKind) (zs:List Int):AV:=.arr k zs.length fun i=>zs.getD i 0
def lookGL:GL→Nat→AV
 | [],_=>.junk
 | (u,k,zs) :: l,g=>if g=u then globAV k zs else lookGL l g
def globChk (P:Program) (laid:List (String × DataW Unit)) (l:GL):Bool:=l.all fun x =>
 (laid.any fun y=>(P.globalNamed y.1 == some x.1) && (match (P.globals[x.1]?).map (·.type) with | some t=>flatT P x.2.1 20 t | none=>false) && (dflat y.2 == x.2.2)) &&
  x.2.2.all fun z=>decide (x.2.1.min≤z) && decide (z≤x.2.1.max)
theorem laid_var {W:World}:∀ {laid:List (String × DataW Unit)} {ps:List MemPlace},DataW.LaidVars P W laid ps→∀ y ∈ laid,
  ∃ g t cs fuel p,P.globalNamed y.1=some g∧(P.globals[g]?).map (·.type)=some t∧W.var? P y.1=some cs∧DataW.trod (fun _=>()) P W 0 (fun _=>true) false fuel t cs.toList=some (y.2,p)
 | [],_,_,y,hy=>by simp at hy
 | (n,d) :: r,_,h,y,hy=>by
  obtain ⟨g,t,cs,fuel,p,q,h1,h2,h3,h4,h5,rfl⟩:=h
  rcases List.mem_cons.1 hy with rfl | hy
  ·exact ⟨g,t,cs,fuel,p,h1,h2,h3,h4⟩
  ·exact laid_var h5 y hy
theorem globOK_of {W:World} {laid:List (String × DataW Unit)} (hL:laidMet P laid W) {l:GL} (hc:globChk P laid l=true):GlobOK (lookGL l) W:=by
 obtain ⟨ps,hv,_,_⟩:=hL
 induction l with
 | nil=>intro g;trivial
 | cons x l ih =>
  obtain ⟨u,k,zs⟩:=x
  simp only [globChk,List.all_cons,Bool.and_eq_true] at hc
  obtain ⟨⟨h1,h2⟩,h3⟩:=hc
  intro g
  simp only [lookGL]
  by_cases hg:g=u
  ·subst hg
   rw [if_pos rfl]
   simp only [globAV]
   rw [List.any_eq_true] at h1
   obtain ⟨y,hy,hc⟩:=h1
   simp only [Bool.and_eq_true,beq_iff_eq] at hc
   obtain ⟨⟨c1,c2⟩,c3⟩:=hc
   obtain ⟨g',t,cs,fuel,p,e1,e2,e3,e4⟩:=laid_var hv y hy
   obtain rfl:=Option.some.inj (c1.symm.trans e1)
   rw [e2] at c2
   have hcs:=flat_cells 20 t c2 fuel _ _ e4
   rw [c3] at hcs
   refine ⟨rfl,fun i hi=>?_,?_⟩
   ·rw [List.all_eq_true] at h2
    have:=h2 (zs.getD i 0) (by rw [List.getD_eq_getElem?_getD,List.getElem?_eq_getElem hi];simp)
    simp only [Bool.and_eq_true,decide_eq_true_eq] at this
    exact this
   ·unfold World.var? at e3
    rw [e1] at e3
    simp only [Option.bind_some] at e3
    split at e3
    ·rename_i cs' T fz hh
     cases e3
     refine ⟨T,fz,?_⟩
     rw [hh]
     congr 2
     apply Array.toList_inj.1
     rw [hcs]
     simp only [cellsOf,cellsA]
     apply List.ext_getElem
     ·simp
     ·intro i h1 h2
      simp at h1 h2 ⊢
      rw [List.getElem?_eq_getElem h1]
      rfl
    ·cases e3
  ·rw [if_neg hg]
   exact ih h3 g
end
def flatK (P:Program):Nat→TypeId→Option IntKind
 | 0,_=>none
 | d+1,t=>match P.underlying t with
  | some (.int k)=>some k
  | some (.array _ e)=>flatK P d e
  | some (.struct fs)=>match fs.toList with
   | f :: _=>flatK P d f.type
   | []=>none
  | _=>none
def plainF (P:Program) (fs:List Field):Bool:=fs.all fun f=>match P.underlying f.type with | some (.slice _)=>false | _=>true
def byOf (P:Program) (t:TypeId):Nat:=match P.info? t with
 | some i=>i.bytes
 | none=>0
def tiOf (P:Program) (t:TypeId):TI:=match P.underlying t with
 | some (.int k)=>⟨.int k,1,k,false,byOf P t⟩
 | some .bool=>⟨.bool,1,.u8,false,byOf P t⟩
 | some (.slice e)=>⟨.slice e,1,.u8,false,0⟩
 | some (.array n e)=>match flatK P 20 t with
  | some k=>⟨.arr n e,P.cellsOf t,k,eqChk P 20 t k (P.cellsOf t) && !isIntTy P t && !P.eqGuardType P.depth t,byOf P t⟩
  | none=>⟨.other,0,.u8,false,0⟩
 | some (.struct fs)=>if plainF P fs.toList=false then ⟨.mix (fs.toList.map fun f=>(f.offset,f.type)),P.cellsOf t,.u8,false,byOf P t⟩ else match flatK P 20 t with
  | some k=>⟨.struct (fs.toList.map fun f=>(f.offset,f.type)),P.cellsOf t,k,eqChk P 20 t k (P.cellsOf t) && !isIntTy P t && !P.eqGuardType P.depth t,byOf P t⟩
  | none=>⟨.other,0,.u8,false,0⟩
 | _=>⟨.other,0,.u8,false,0⟩
def autoTab (P:Program) (ts:List TypeId):List (TypeId × TI):=ts.map fun t=>(t,tiOf P t)
end Sx

namespace Sx
open Go Go.ChangeShapes Go.WideShapes Go.ChangeAt Go.RowKit
section
variable {P:Program}
theorem calls_of_sound {glob : Nat → AV} {f : FuncId} {c : Contract} (h : Sound P glob f c) {fn : Func} (hf : P.funcs[f]? = some fn) (hb : fn.body.isNone = false) (hname : (fn.name == "runtime.NumGoroutine") = false)
  {vs:List AV} {cs:List Prop} {r:AV} (hc:c vs=some (cs,r)) (hcs:∀ p ∈ cs,p) (hwf:∀ x ∈ vs,wfV x) {w:World} (hG:GlobOK glob w) {args:Array Value} (ha:All2 (ArgR w) vs args.toList) :
  Calls P f args w fun e w'=>∃ v,e=.returned v∧ResR w.heap.size w' r v∧Below w.heap.size w w':=by
 rcases h vs cs r hc hcs hwf w hG args.toList ha with ⟨_,_,_,_,hC⟩ | ⟨v,_,_,hrun⟩
 ·simpa using hC
 ·exfalso
  have h1 : fn.name ≠ "runtime.NumGoroutine" := by simpa using hname
  have h2:∃ b,fn.body=some b:=by
   cases hbd:fn.body with
   | none=>rw [hbd] at hb;cases hb
   | some b=>exact ⟨b,rfl⟩
  obtain ⟨b,hbd⟩:=h2
  simp [callFunc,hf,h1,hbd,Sem.run,program] at hrun
variable {H:Type} {enc:TypeId × Value→H}
end
end Sx

namespace Sx
open Go Go.RowKit
def Sub (G G':Nat→AV):Prop:=∀ g,G g=.junk∨G g=G' g
theorem GlobOK.sub {G G':Nat→AV} (hs:Sub G G') {w:World} (h:GlobOK G' w):GlobOK G w:=by
 intro g
 rcases hs g with e | e
 ·rw [e];trivial
 ·rw [e];exact h g
theorem Sound.sub {P:Program} {G G':Nat→AV} {f:FuncId} {c:Contract} (h:Sound P G f c) (hs:Sub G G'):Sound P G' f c :=
 fun vs cs r hc hcs hwf w hG args ha=>h vs cs r hc hcs hwf w (GlobOK.sub hs hG) args ha
def subChk (a b:GL):Bool:=a.all fun x=>b.find? (fun y=>y.1 == x.1) == some x
theorem lookGL_find:∀ (l:GL) (g:Nat),lookGL l g=match l.find? (fun y=>y.1 == g) with | some x=>globAV x.2.1 x.2.2 | none=>.junk
 | [],_=>rfl
 | (u,k,zs) :: l,g=>by
  simp only [lookGL,List.find?_cons]
  by_cases h:g=u
  ·subst h;simp
  ·rw [if_neg h,lookGL_find l g]
   have:(u == g)=false:=by simpa using fun e:u=g=>h e.symm
   simp [this]
theorem sub_of {a b:GL} (h:subChk a b=true):Sub (lookGL a) (lookGL b):=by
 intro g
 rw [lookGL_find,lookGL_find]
 cases hf:a.find? (fun y=>y.1 == g) with
 | none=>exact .inl rfl
 | some x =>
  right
  simp only [subChk,List.all_eq_true] at h
  have h1:=h x (List.mem_of_find?_eq_some hf)
  have h2:(x.1 == g)=true:=by have:=List.find?_some hf;simpa using this
  have h3:x.1=g:=by simpa using h2
  rw [h3] at h1
  have h4:b.find? (fun y=>y.1 == g)=some x:=by simpa using h1
  rw [h4]
def laidHeap (l:GL) (h:Array Obj):Array Obj:=l.foldl (fun h x=>h.modify x.1 fun | .cells _ t z=>.cells (x.2.2.map fun z=>Value.int x.2.1 z).toArray t z | o=>o) h
end Sx

namespace Sx
open Go Go.ChangeShapes Go.WideShapes Go.ChangeAt Go.RowKit
inductive PK where
 | arr (n:Nat) (k:IntKind)
 | int (k:IntKind)
 | sl (k:IntKind)
 | sla (n:Nat) (k:IntKind)
def pkChk (P:Program) (p:PK) (t:TypeId):Bool :=
 match p with
 | .arr n k=>arrChk P t n k
 | .int k=>(match P.underlying t with | some (.int k')=>decide (k=k') | _=>false)
 | .sl k=>(match P.underlying t with | some (.slice e)=>(match P.underlying e with | some (.int k')=>decide (k=k') | _=>false) && P.cellsOf e == 1 | _=>false)
 | .sla n k=>(match P.underlying t with | some (.slice e)=>(match P.underlying e with | some (.array n' e')=>(n' == n) && (match P.underlying e' with | some (.int k')=>decide (k=k') | _=>false) && (P.cellsOf e' == 1) && (P.cellsOf e == n) && (n != 0) | _=>false) | _=>false)
def pkAll (P:Program):List PK→List TypeId→Bool
 | [],[]=>true
 | p :: ps,t :: ts=>pkChk P p t && pkAll P ps ts
 | _,_=>false
def Fits:PK→AV→Prop
 | .arr n k,v=>∃ f,v=.arr k n f
 | .int k,v=>∃ n,v=.int k (.sym n)
 | .sl k,v=>∃ len cap f,v=.xsl k 1 (.sym len) (.sym cap) f
 | .sla n k,v=>∃ len cap f,v=.xsl k n (.sym len) (.sym cap) f
section
variable {P:Program} {H:Type} {enc:TypeId × Value→H}
theorem wf_inR {k:IntKind} {n:Int} (h:(Lit.int k n).wf=true):inR k n:=by
 simpa [Lit.wf,inR] using h
theorem add_add (a:Addr) (h:a.spot=none) (i j:Nat):(a.add i).add j=a.add (i+j):=by
 obtain ⟨b,off,s⟩:=a
 simp only at h
 subst h
 simp [Go.WideShapes.add_plain,Nat.add_assoc]
theorem open_rows {w:World} {base:Nat} {spare:Nat→Bool} {held:Bool} {t e e':TypeId} {k:IntKind} {n fuel:Nat} {cs:List Value} {x:DataW H × List MemPlace} (ht:P.underlying t=some (.slice e)) (he:P.underlying e=some (.array n e')) (he':P.underlying e'=some (.int k))
  (hc:P.cellsOf e'=1) (hn:P.cellsOf e=n) (h:DataW.trod enc P w base spare held fuel t cs=some x) :
  (cs=[.slice none 0 0]∧x=(.nil,[])) ∨
  ∃ (a:Addr) (len cap:Nat),cs=[.slice (some a) len cap]∧len≤cap∧cap≤maxLen∧(∃ el sp,x.1=.slice el sp∧el.length=len) ∧
   ∀ i,i<len*n→a.spot=none∧∃ z,w.cell? (a.add i)=some (.int k z)∧inR k z:=by
 rcases DataW.trod_slice ht h with h0 | ⟨a,len,cap,elems,rest,m,_,rfl,rfl,hb,hl,hm,hlen,hel,_,_⟩
 ·exact .inl h0
 right
 have key:∀ q r,q<len→r<n→∃ z,w.cell? ((a.add (q*n)).add r)=some (.int k z)∧inR k z:=by
  intro q r hq hr
  have hy:elems[q]?=some (elems[q]'(by omega)):=List.getElem?_eq_getElem (by omega)
  have h1:=hel q hq
  rw [hy,hn,Option.bind_eq_some_iff] at h1
  obtain ⟨cs',hcs,htr⟩:=h1
  obtain ⟨xs,m',_,_,hcl,hxl,hx⟩:=DataW.trod_array he htr
  have h2:=hx r hr
  have hz:xs[r]?=some (xs[r]'(by omega)):=List.getElem?_eq_getElem (by omega)
  rw [hz,hc,Nat.mul_one] at h2
  obtain ⟨z,hz1,_,hzw⟩:=DataW.trod_int he' h2
  have hget:cs'[r]?=some (.int k z):=by
   have:=congrArg (fun l=>l[0]?) hz1
   simpa [List.getElem?_take,List.getElem?_drop] using this
  unfold World.cells? at hcs
  split at hcs
  ·have h3:=mapM_some_get hcs r r (by simp [hr])
   rw [hget] at h3
   exact ⟨z,h3,wf_inR hzw⟩
  ·cases hcs
 refine ⟨a,len,cap,rfl,hl,hm,⟨_,_,rfl,by simpa using hlen⟩,fun i hi=>?_⟩
 have hn0:0<n:=by
  rcases Nat.eq_zero_or_pos n with h0 | h0
  ·subst h0;simp at hi
  ·exact h0
 have hq:i / n<len:=by rw [Nat.div_lt_iff_lt_mul hn0];exact hi
 have hr:i % n<n:=Nat.mod_lt _ hn0
 obtain ⟨z0,h0,_⟩:=key 0 0 (Nat.lt_of_le_of_lt (Nat.zero_le _) hq) hn0
 have hsp:a.spot=none:=by
  have:=World.cell?_spot h0
  simpa [Addr.add] using this
 obtain ⟨z,h3,hw⟩:=key _ _ hq hr
 refine ⟨hsp,z,?_,hw⟩
 rw [add_add a hsp] at h3
 have e1:i / n*n+i % n=i:=by rw [Nat.mul_comm];exact Nat.div_add_mod i n
 rw [e1] at h3
 exact h3
def Lens (x:AV) (d:DataW H):Prop :=
 match x with
 | .xsl _ _ len _ _=>len.val=0∨∃ el sp,d=.slice el sp∧el.length=len.val
 | _=>True
theorem open_one {p:PK} {t:TypeId} (hc:pkChk P p t=true) {W:World} {r:Reach} {b:Nat} {v:Value} (hv:Value.okWide P W r b t v) {sp:Nat→Bool} {hd:Bool} {d:DataW H} {ps:List MemPlace} (hT:DataW.Trod enc P W 0 sp hd t v d ps) :
  ∃ x,Fits p x∧ArgR W x v∧wfV x∧Lens x d:=by
 cases p with
 | arr n k =>
  obtain ⟨f,rfl,hf⟩:=open_arr hc hv
  exact ⟨.arr k n f,⟨f,rfl⟩,rfl,hf,trivial⟩
 | int k =>
  simp only [pkChk] at hc
  split at hc
  ·rename_i k' hu
   have:=of_decide_eq_true hc
   subst this
   have h2:Cell.okWide P W r b t v:=by simpa [Value.okWide,hu] using hv
   obtain ⟨n,rfl,hn⟩:=cell_int hu h2
   exact ⟨.int k (.sym n),⟨n,rfl⟩,rfl,hn,trivial⟩
  ·cases hc
 | sl k =>
  simp only [pkChk] at hc
  split at hc
  ·rename_i e hu
   simp only [Bool.and_eq_true,beq_iff_eq] at hc
   obtain ⟨hc1,hc2⟩:=hc
   split at hc1
   ·rename_i k' he
    have:=of_decide_eq_true hc1
    subst this
    obtain ⟨a0,len0,cap0,rfl⟩:=okWide_slice hu hv
    obtain ⟨fuel,hf⟩:=hT
    rcases open_ints hu he hc2 hf with ⟨hcs,_⟩ | ⟨a,len,cap,zs,hcs,_,hl,hm,hz,hx,hcell,hwz⟩
    ·have e0:Value.slice a0 len0 cap0=.slice none 0 0:=by simpa [Value.cells] using hcs
     rw [e0]
     exact ⟨.xsl k 1 (.sym 0) (.sym 0) (fun _=>0),⟨0,0,_,rfl⟩,⟨none,0,rfl,fun h=>absurd h (by decide),Nat.le_refl _,by decide⟩,fun i hi=>absurd hi (by simp [SO.val]),.inl rfl⟩
    ·have e0:Value.slice a0 len0 cap0=.slice (some a) len cap:=by simpa [Value.cells] using hcs
     rw [e0]
     have hlz:len≤zs.length:=by rw [hz];split <;> omega
     refine ⟨.xsl k 1 (.sym len) (.sym cap) (fun i=>zs.getD i 0),⟨len,cap,_,rfl⟩,⟨some a,cap,rfl,fun h=>?_,hl,hm⟩,fun i hi=>?_,.inr ⟨_,_,congrArg Prod.fst hx,?_⟩⟩
     ·have h0:0<len:=h
      obtain ⟨blk,off,spot⟩:=a
      have hspot:spot=none:=by simpa [Addr.add] using World.cell?_spot (hcell 0 (by omega))
      subst hspot
      refine ⟨blk,off,rfl,fun j hj=>?_⟩
      have hj2:j<len:=by simpa [SO.val] using hj
      have:=hcell j (by omega)
      rw [Go.WideShapes.add_plain] at this
      exact this
     ·have hi2:i<zs.length:=by
       have:i<len:=by simpa [SO.val] using hi
       omega
      refine wf_inR (hwz _ ?_)
      show zs.getD i 0 ∈ zs
      rw [List.getD_eq_getElem?_getD,List.getElem?_eq_getElem hi2]
      exact List.getElem_mem hi2
     ·show (lits k (zs.take len)).length=len
      simp [lits];omega
   ·cases hc1
  ·cases hc
 | sla n k =>
  simp only [pkChk] at hc
  split at hc
  ·rename_i e hu
   split at hc
   ·rename_i n' e' he
    simp only [Bool.and_eq_true,beq_iff_eq,bne_iff_ne,ne_eq] at hc
    obtain ⟨⟨⟨⟨hc1,hc2⟩,hc3⟩,hc4⟩,hc5⟩:=hc
    subst hc1
    split at hc2
    ·rename_i k' he'
     have:=of_decide_eq_true hc2
     subst this
     obtain ⟨a0,len0,cap0,rfl⟩:=okWide_slice hu hv
     obtain ⟨fuel,hf⟩:=hT
     rcases open_rows hu he he' hc3 hc4 hf with ⟨hcs,_⟩ | ⟨a,len,cap,hcs,hl,hm,⟨el,sp,hx,hel⟩,hcell⟩
     ·have e0:Value.slice a0 len0 cap0=.slice none 0 0:=by simpa [Value.cells] using hcs
      rw [e0]
      exact ⟨.xsl k n' (.sym 0) (.sym 0) (fun _=>0),⟨0,0,_,rfl⟩,⟨none,0,rfl,fun h=>absurd h (by decide),Nat.le_refl _,by decide⟩,fun i hi=>absurd hi (by simp [SO.val]),.inl rfl⟩
     ·have e0:Value.slice a0 len0 cap0=.slice (some a) len cap:=by simpa [Value.cells] using hcs
      rw [e0]
      let f:Nat→Int:=fun i=>match W.cell? (a.add i) with | some (.int _ z)=>z | _=>0
      have hfx:∀ i,i<len*n'→W.cell? (a.add i)=some (.int k (f i))∧inR k (f i):=by
       intro i hi
       obtain ⟨_,z,h1,h2⟩:=hcell i hi
       have:f i=z:=by show (match W.cell? (a.add i) with | some (.int _ z)=>z | _=>0)=z;rw [h1]
       rw [this]
       exact ⟨h1,h2⟩
      have hpos:0<n':=by
       rcases Nat.eq_zero_or_pos n' with h0 | h0
       ·exact absurd h0 hc5
       ·exact h0
      refine ⟨.xsl k n' (.sym len) (.sym cap) f,⟨len,cap,_,rfl⟩,⟨some a,cap,rfl,fun h=>?_,hl,hm⟩,fun i hi=>(hfx i hi).2,.inr ⟨el,sp,hx,hel⟩⟩
      have h0:0<len:=h
      obtain ⟨blk,off,spot⟩:=a
      have hspot:spot=none:=(hcell 0 (Nat.mul_pos h0 hpos)).1
      subst hspot
      refine ⟨blk,off,rfl,fun j hj=>?_⟩
      have:=(hfx j hj).1
      rw [Go.WideShapes.add_plain] at this
      exact this
    ·cases hc2
   ·cases hc
  ·cases hc
theorem open_alls {W:World} {r:Reach} {b:Nat} {sp:Nat→Bool} {hd:Bool}:∀ {pks:List PK} {ts:List TypeId} {vs:List Value} {ds:List (DataW H)} {ps:List MemPlace},pkAll P pks ts=true →
  (∀ (j:Nat) t v,ts[j]?=some t→vs[j]?=some v→Value.okWide P W r b t v)→DataW.TrodAll enc P W 0 sp hd ts vs ds ps→∃ xs,All2 Fits pks xs∧All2 (ArgR W) xs vs∧(∀ x ∈ xs,wfV x)∧All2 Lens xs ds
 | [],[],[],[],_,_,_,_=>⟨[],trivial,trivial,fun x hx=>by simp at hx,trivial⟩
 | [],[],[],_ :: _,_,_,_,h=>h.elim
 | p :: pks,t :: ts,v :: vs,d :: ds,_,hc,hv,⟨p1,q1,h1,h2,_⟩=>by
  simp only [pkAll,Bool.and_eq_true] at hc
  obtain ⟨x,hx1,hx2,hx3,hx4⟩:=open_one hc.1 (hv 0 t v rfl rfl) h1
  obtain ⟨xs,h3,h4,h5,h6⟩:=open_alls hc.2 (fun j t' v' ht hv'=>hv (j+1) t' v' (by simpa using ht) (by simpa using hv')) h2
  exact ⟨x :: xs,⟨hx1,h3⟩,⟨hx2,h4⟩,fun y hy=>by
   rcases List.mem_cons.1 hy with rfl | hy
   ·exact hx3
   ·exact h5 y hy,⟨hx4,h6⟩⟩
 | [],[],_ :: _,ds,_,_,_,h=>by cases ds <;> exact h.elim
 | p :: _,t :: _,[],ds,_,_,_,h=>by cases ds <;> exact h.elim
 | p :: _,t :: _,_ :: _,[],_,_,_,h=>h.elim
 | [],_ :: _,_,_,_,hc,_,_=>by cases hc
 | _ :: _,[],_,_,_,hc,_,_=>by cases hc
theorem lawU (hl:laidOutB P=true) {f:FuncId} {fn:Func} {s:ChangeSpec} {fresh handsOn again apart:Bool} {pks:List PK} {tb:TypeId} (hpk:pkAll P pks fn.params.toList=true)
  {n:Nat} (hlen:fn.params.toList.length=n) (hread:(fn.params.toList.all fun t=>P.readableRec t && decide (t<P.types.size))=true) (hres:fn.resultTypes=#[tb]) (htb:P.underlying tb=some .bool) (hv:s.vars=[])
  (hs:∀ ds:List (DataW H),ds.length=n→s.fn H ds={ results:=[.lit (.bool true)],args:=ds })
  {glob : Nat → AV} {c : Contract} (hS : Sound P glob f c) (hf : P.funcs[f]? = some fn) (hb : fn.body.isNone = false) (hname : (fn.name == "runtime.NumGoroutine") = false)
  {W:World} {base:Nat} {args:Array Value} {ds gs:List (DataW H)} {before:List MemPlace} (hc:∀ xs,All2 Fits pks xs→(∀ x ∈ xs,wfV x)→All2 Lens xs ds→∃ cs,c xs=some (cs,.bool (.sym true))∧∀ p ∈ cs,p) (hG:GlobOK glob W)
  (hval:∀ (j:Nat) t v,fn.params[j]?=some t→args[j]?=some v→Value.okWide P W .any base t v)
  (hW:DataW.Whole enc P fn.params.toList s.vars apart W args.toList ds gs before) :
  Calls P f args W fun e W'=>∃ v,e=.returned v∧s.post enc P fn apart fresh handsOn again W args v W':=by
 have hA:∃ p,DataW.TrodAll enc P W 0 (fun _=>true) true fn.params.toList args.toList ds p:=by
  obtain ⟨p,_,h,_⟩:=hW
  exact ⟨p,h⟩
 obtain ⟨p,hA⟩:=hA
 obtain ⟨xs,h1,h2,h3,h4⟩:=open_alls hpk (fun j t v ht hv=>hval j t v (by simpa using ht) (by simpa using hv)) hA
 obtain ⟨cs,hcx,hcs⟩:=hc xs h1 h3 h4
 refine law_post hl hread hres htb hv (fun ds hd=>hs ds (hd.trans hlen)) hW ?_
 refine (calls_of_sound hS hf hb hname hcx hcs h3 hG h2).mono ?_
 rintro e w' ⟨v,he,hr,hbel⟩
 exact ⟨v,he,hr.2.2,hbel⟩
theorem lawG (hl:laidOutB P=true) {f:FuncId} {fn:Func} {s:ChangeSpec} {fresh handsOn again apart:Bool} {pks:List PK} {tb:TypeId} (hpk:pkAll P pks fn.params.toList=true)
  {n:Nat} (hlen:fn.params.toList.length=n) (hread:(fn.params.toList.all fun t=>P.readableRec t && decide (t<P.types.size))=true) (hres:fn.resultTypes=#[tb]) (htb:P.underlying tb=some .bool) (hv:s.vars=[])
  (hs:∀ ds:List (DataW H),ds.length=n→s.fn H ds={ results:=[.lit (.bool true)],args:=ds })
  {glob : Nat → AV} {c : Contract} (hS : Sound P glob f c) (hf : P.funcs[f]? = some fn) (hb : fn.body.isNone = false) (hname : (fn.name == "runtime.NumGoroutine") = false)
  (hc:∀ xs,All2 Fits pks xs→(∀ x ∈ xs,wfV x)→∃ cs,c xs=some (cs,.bool (.sym true))∧∀ p ∈ cs,p)
  {W:World} {base:Nat} {args:Array Value} {ds gs:List (DataW H)} {before:List MemPlace} (hG:GlobOK glob W)
  (hval:∀ (j:Nat) t v,fn.params[j]?=some t→args[j]?=some v→Value.okWide P W .any base t v)
  (hW:DataW.Whole enc P fn.params.toList s.vars apart W args.toList ds gs before) :
  Calls P f args W fun e W'=>∃ v,e=.returned v∧s.post enc P fn apart fresh handsOn again W args v W' :=
 lawU hl hpk hlen hread hres htb hv hs hS hf hb hname (fun xs h1 h2 _=>hc xs h1 h2) hG hval hW
end
end Sx

namespace Sx
open Go Go.RowKit
def SameWR (r0 r:AV):Prop:=lst? r0=none∧lst? r=none∧∀ B w v,ResR B w r0 v→ResR B w r v
theorem Sound.weak {P:Program} {G:Nat→AV} {f:FuncId} {c c':Contract} (h:Sound P G f c)
  (hc:∀ vs cs r,c' vs=some (cs,r)→(∀ p ∈ cs,p)→(∀ x ∈ vs,wfV x)→∃ cs0 r0,c vs=some (cs0,r0)∧(∀ p ∈ cs0,p)∧SameWR r0 r):Sound P G f c':=by
 intro vs cs r e hcs hwf w hG args ha
 obtain ⟨cs0,r0,e0,h0,h1,h2,h3⟩:=hc vs cs r e hcs hwf
 rcases h vs cs0 r0 e0 h0 hwf w hG args ha with ⟨fn,a1,a2,a3,a4⟩ | ⟨v,a1,a2,a3⟩
 ·exact .inl ⟨fn,a1,a2,a3,a4.mono fun e w' ⟨v,b1,b2,b3⟩=>⟨v,b1,h3 _ _ _ b2,b3⟩⟩
 ·exact .inr ⟨v,h2,h3 _ _ _ a2,a3⟩
def SameWP:AV→AV→Prop
 | .int k n,.int k' n'=>k=k'∧n.val=n'.val
 | .bool b,.bool b'=>b.val=b'.val
 | .arr k n f,.arr k' n' f'=>k=k'∧n=n'∧∀ i,i<n→f i=f' i
 | _,_=>False
theorem sameWP_ok:∀ {a b:AV},SameWP a b→plain a=true∧plain b=true∧pv a=pv b∧(wfP a→wfP b)
 | .int k n,.int k' n',⟨h1,h2⟩=>by
  subst h1
  exact ⟨rfl,rfl,by show Value.int k n.val=_;rw [h2];rfl,fun h=>by show inR k n'.val;rw [← h2];exact h⟩
 | .bool b,.bool b',h=>⟨rfl,rfl,by show Value.bool b.val=_;rw [show b.val=b'.val from h];rfl,fun _=>trivial⟩
 | .arr k n f,.arr k' n' f',⟨h1,h2,h3⟩=>by
  subst h1 h2
  refine ⟨rfl,rfl,?_,fun h i hi=>?_⟩
  ·show Value.agg (cellsA k n f)=Value.agg (cellsA k n f')
   rw [cellsA_congr h3]
  ·rw [← h3 i hi];exact h i hi
end Sx

namespace Sx
open Go Go.ChangeShapes Go.WideShapes Go.ChangeAt Go.RowKit
inductive FK where
 | int (k:IntKind)
 | arr (n:Nat) (k:IntKind)
 | sl (k:IntKind)
 | sla (n:Nat) (k:IntKind)
def fkOK (mem:Mem) (v:Value) (o:Nat):FK→Prop
 | .int k=>IsNum k (rCell v o)
 | .arr n k=>IsNums k n fun j=>rCell v (o+j)
 | .sl k=>IsSl (rCell v o)∧IsList mem k 1 (rCell v o)
 | .sla n k=>IsSl (rCell v o)∧IsList mem k n (rCell v o)
structure RecOK (mem:Mem) (n:Nat) (l:List (Nat × FK)) (v:Value):Prop where
 size:IsRec v n
 flds:∀ p ∈ l,fkOK mem v p.1 p.2
structure ScriptOK (mem:Mem) (n:Nat) (l:List (Nat × FK)) (v:Value):Prop where
 sl:IsSl v
 each:∀ i,i<rLen v→HasMem mem (rAddr v (i*n)) n∧RecOK mem n l (rGet mem (rAddr v (i*n)) n)
section
variable {P:Program} {H:Type} {enc:TypeId × Value→H} {w:World} {base:Nat} {spare:Nat→Bool} {held:Bool}
end
end Sx

