/-
  The schedule of a block (shape e).
-/
import Derived.Test.YtncmblldbnlbmaaDoorZSha
namespace Go.Proofs.YtncmblldbnlbmaaDoor
open Go Go.Proofs Sx Sy
set_option maxRecDepth 100000
set_option maxHeartbeats 8000000
theorem b0_e (BG:Nat→AV) (A:Ops) (hA:A=realOps) (F:ShF) (T:Int→Int→Int→Int) (t R s:Nat→Int) (hF:F=shF realOps T t R) (ht:∀ i,i<12→0≤t i∧t i≤64) (C:List (FuncId × Contract)) (L:List (Nat × (HS→HAnn))) (fr:List (List HV)) (b0 b1 b2 b3 b5:HB) (c:SI) (q h:Nat→Int) (r:HA) (w:Nat→Int) (hok:OKs [b0,b1,b2,b3,.fix [.pl (.int .i64 (.lit 512)),.pl (.int .i64 c),.pl (.arr .u32 8 q),.pl (.arr .u64 8 h),r],b5,.fix [.pl (.arr .u64 80 w)],.fix [.pl (.arr .i64 12 t)]] fr) (Q:Ex→HS→Prop)
  (hQ:∀ v10 v33,Q .normal { fr:=fr,sl:=[.at (.ptr 4 0 (.lit 10)),.at (.sl 6 0 1 (.lit 0) (.lit 80)),.at (.gsl 12 1 (.lit 0) (.lit 80)),jV,.at (.pl (.int .i64 (.lit 64))),jV,jV,jV,.at (.ptr 7 0 (.lit 0)),jV,v10,jV,jV,jV,jV,jV,jV,jV,jV,jV,jV,jV,jV,jV,jV,jV,jV,jV,jV,jV,jV,jV,jV,v33,jV,jV,jV,jV,jV,jV,jV,jV,jV,jV,jV,jV,jV,jV,jV,jV,jV,jV,jV,jV,jV,jV,jV,jV,jV,jV,jV,jV,jV,jV,jV,jV,jV,jV,jV,jV,jV,jV,jV,jV,jV,jV,jV,jV,jV,jV,jV,jV,jV,jV,jV,jV,jV,jV,jV,jV,jV,jV,jV,jV,jV,jV,jV,jV,jV,jV,jV,jV,jV,jV,jV,jV,jV,jV,jV,jV,jV,jV,jV,jV,jV,jV,jV,jV,jV,jV,jV,jV,jV,jV,jV,jV,jV,jV,jV,jV,jV,jV,jV,jV,jV,jV,jV,jV,jV,jV,jV,jV,jV,jV,jV,jV,jV,jV,jV,jV,jV,jV,jV,jV,jV,jV,jV,jV,jV,jV,jV,jV,jV,jV,jV,jV,jV,jV,jV,jV,jV,jV,jV,jV,jV,jV,jV,jV,jV,jV,jV,jV,jV,jV,jV,jV,jV,jV,jV,jV,jV,jV,jV,jV,jV,jV,jV,jV,jV,jV,jV,jV,jV,jV,jV,jV,jV,jV,jV,jV,jV,jV,jV,jV,jV,jV,jV,jV,jV,jV,jV,jV,jV,jV,jV,jV,jV,jV,jV,jV,jV,jV,jV,jV],bl:=[b0,b1,b2,b3,.fix [.pl (.int .i64 (.lit 512)),.pl (.int .i64 c),.pl (.arr .u32 8 q),.pl (.arr .u64 8 h),r],b5,.fix [.pl (.arr .u64 80 (F.sched w 80))],.fix [.pl (.arr .i64 12 t)]] }) :
  wpH (envS BG A F T t R s C L) sh_cB0.1 { fr:=fr,sl:=[.at (.ptr 4 0 (.lit 10)),.at (.sl 6 0 1 (.lit 0) (.lit 80)),.at (.gsl 12 1 (.lit 0) (.lit 80)),.at (.pl (.arr .i64 12 t)),.at (.pl (.int .i64 (.lit 64))),jV,jV,jV,.at (.ptr 7 0 (.lit 0)),jV,.at (.pl (.int .i64 (.lit 16))),jV,jV,jV,jV,jV,jV,jV,jV,jV,jV,jV,jV,jV,jV,jV,jV,jV,jV,jV,jV,jV,jV,jV,jV,jV,jV,jV,jV,jV,jV,jV,jV,jV,jV,jV,jV,jV,jV,jV,jV,jV,jV,jV,jV,jV,jV,jV,jV,jV,jV,jV,jV,jV,jV,jV,jV,jV,jV,jV,jV,jV,jV,jV,jV,jV,jV,jV,jV,jV,jV,jV,jV,jV,jV,jV,jV,jV,jV,jV,jV,jV,jV,jV,jV,jV,jV,jV,jV,jV,jV,jV,jV,jV,jV,jV,jV,jV,jV,jV,jV,jV,jV,jV,jV,jV,jV,jV,jV,jV,jV,jV,jV,jV,jV,jV,jV,jV,jV,jV,jV,jV,jV,jV,jV,jV,jV,jV,jV,jV,jV,jV,jV,jV,jV,jV,jV,jV,jV,jV,jV,jV,jV,jV,jV,jV,jV,jV,jV,jV,jV,jV,jV,jV,jV,jV,jV,jV,jV,jV,jV,jV,jV,jV,jV,jV,jV,jV,jV,jV,jV,jV,jV,jV,jV,jV,jV,jV,jV,jV,jV,jV,jV,jV,jV,jV,jV,jV,jV,jV,jV,jV,jV,jV,jV,jV,jV,jV,jV,jV,jV,jV,jV,jV,jV,jV,jV,jV,jV,jV,jV,jV,jV,jV,jV,jV,jV,jV,jV,jV,jV,jV,jV,jV],bl:=[b0,b1,b2,b3,.fix [.pl (.int .i64 (.lit 512)),.pl (.int .i64 c),.pl (.arr .u32 8 q),.pl (.arr .u64 8 h),r],b5,.fix [.pl (.arr .u64 80 w)],.fix [.pl (.arr .i64 12 t)]] } Q:=by
 obtain ⟨bi,cm,un,cv,na,eq⟩:=A
 have hbi:bi=realBin:=congrArg Ops.bin hA
 have hcm:cm=realCmp:=congrArg Ops.cmp hA
 have hun:un=realUn:=congrArg Ops.un hA
 have hna:na=Int.toNat:=congrArg Ops.nat hA
 have hcv:cv=fun k n=>k.wrap n:=congrArg Ops.cnv hA
 clear hA
 obtain ⟨Y15,hY15⟩:∃ Y:Nat→Nat,∀ a,Y a=a - 15:=⟨_,fun _=>rfl⟩
 obtain ⟨Y2,hY2⟩:∃ Y:Nat→Nat,∀ a,Y a=a - 2:=⟨_,fun _=>rfl⟩
 obtain ⟨Y16,hY16⟩:∃ Y:Nat→Nat,∀ a,Y a=a - 16:=⟨_,fun _=>rfl⟩
 obtain ⟨Y7,hY7⟩:∃ Y:Nat→Nat,∀ a,Y a=a - 7:=⟨_,fun _=>rfl⟩
 have hT:∀ i,i<12→TurnOK (t i) 64:=fun i hi=>⟨(ht i hi).1,(ht i hi).2,by decide⟩
 have hN:∀ i,i<12→NonNeg (t i):=fun i hi=>⟨(ht i hi).1⟩
 have e1:∀ a:Nat,a≤80→bi .add .i64 (Int.ofNat a) 1=Int.ofNat (a+1):=fun a ha=>by rw [hbi];exact a1 (by omega)
 have e15:∀ a:Nat,16≤a→a≤80→bi .sub .i64 (Int.ofNat a) 15=Int.ofNat (Y15 a):=fun a h1 h2=>by rw [hbi,hY15];exact sb64 rfl (by omega) (by omega)
 have e2:∀ a:Nat,16≤a→a≤80→bi .sub .i64 (Int.ofNat a) 2=Int.ofNat (Y2 a):=fun a h1 h2=>by rw [hbi,hY2];exact sb64 rfl (by omega) (by omega)
 have e16:∀ a:Nat,16≤a→a≤80→bi .sub .i64 (Int.ofNat a) 16=Int.ofNat (Y16 a):=fun a h1 h2=>by rw [hbi,hY16];exact sb64 rfl (by omega) (by omega)
 have e7:∀ a:Nat,16≤a→a≤80→bi .sub .i64 (Int.ofNat a) 7=Int.ofNat (Y7 a):=fun a h1 h2=>by rw [hbi,hY7];exact sb64 rfl (by omega) (by omega)
 have hs:=fun a ha=>sched_s hF w (a:=a) ha (hY15 a) (hY2 a) (hY16 a) (hY7 a)
 cbv
 refine ⟨⟨⟨16,by decide⟩,?_⟩,fun a hwf=>?_⟩
 ·cbv
  exact ⟨⟨rfl,trivial⟩,hok.leArr 6 .u64 80 w _ rfl (fun i _=>sched_0 hF w i)⟩
 ·clear hwf
  cbv
  refine ⟨fun hc=>?_,fun hc=>?_⟩
  ·have hlt:a.1<80:=by rw [hcm] at hc;exact lss_t.1 hc
   have h15:=hY15 a.1
   have h2:=hY2 a.1
   have h16:=hY16 a.1
   have h7:=hY7 a.1
   have k15:=e15 a.1 a.2.1 a.2.2
   have k2:=e2 a.1 a.2.1 a.2.2
   have k16:=e16 a.1 a.2.1 a.2.2
   have k7:=e7 a.1 a.2.1 a.2.2
   have ha1:=a.2.1
   have p15:Y15 a.1<80:=by omega
   have p2:Y2 a.1<80:=by omega
   have p16:Y16 a.1<80:=by omega
   have p7:Y7 a.1<80:=by omega
   have pm:80 - (a.1+1)<80 - a.1:=by omega
   have pa:16≤a.1+1∧a.1+1≤80:=by omega
   cbv
   rw [k15,k2,k16,k7,hna]
   refine ⟨win p15,⟨p15⟩,win p2,⟨p2⟩,hT 6 (by decide),hT 7 (by decide),hN 8 (by decide),hT 9 (by decide),hT 10 (by decide),hN 11 (by decide),win p16,⟨p16⟩,win p7,⟨p7⟩,win hlt,⟨hlt⟩,⟨a.1+1,pa⟩,?_,pm⟩
   cbv
   refine ⟨⟨e1 a.1 a.2.2,trivial⟩,hok.leArr 6 .u64 80 _ _ rfl (fun i _=>?_)⟩
   refine Eq.trans ?_ (hs a.1 a.2.1 i)
   rw [hbi]
   rfl
  ·have hlt:a=⟨80,by decide,by decide⟩:=Subtype.ext (by have h2:=a.2.2;rw [hcm] at hc;exact Nat.le_antisymm h2 (lss_f.1 hc))
   subst hlt
   cbv
   exact hQ _ _
end Go.Proofs.YtncmblldbnlbmaaDoor
