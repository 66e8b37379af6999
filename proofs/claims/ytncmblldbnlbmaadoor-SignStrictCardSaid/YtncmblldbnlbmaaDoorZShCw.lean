/-
  compress (shape w).
-/
import Derived.Test.YtncmblldbnlbmaaDoorZShZw
import Derived.Test.YtncmblldbnlbmaaDoorZShBw
namespace Go.Proofs.YtncmblldbnlbmaaDoor
open Go Go.Proofs Sx Sy
set_option maxRecDepth 100000
set_option maxHeartbeats 8000000
theorem compress_w (BG:Nat→AV) (A:Ops) (hA:A=realOps) (F:ShF) (T:Int→Int→Int→Int) (t R s:Nat→Int) (hF:F=shF realOps T t R) (ht:∀ i,i<12→0≤t i∧t i≤64) (C:List (FuncId × Contract)) (L:List (Nat × (HS→HAnn))) (fr:List (List HV)) (b0 b1 b2 b3 b4 b6 b7 b8 b9:HB) (c:SI) (q h:Nat→Int) (r:HA) (w:Nat→Int) (hok:OKs [b0,b1,b2,b3,b4,.fix [.pl (.int .i64 (.lit 512)),.pl (.int .i64 c),.pl (.arr .u32 8 q),.pl (.arr .u64 8 h),r],b6,b7,b8,b9,.fix [.pl (.arr .u64 80 w)]] fr) (Q:Ex→HS→Prop)
  (hQ:∀ sl w',Q .normal { fr:=fr,sl:=sl,bl:=[b0,b1,b2,b3,b4,.fix [.pl (.int .i64 (.lit 512)),.pl (.int .i64 c),.pl (.arr .u32 8 q),.pl (.arr .u64 8 (F.last h (F.round (F.sched w 80) 80 h) 8)),r],b6,b7,b8,b9,.fix [.pl (.arr .u64 80 w')],.fix [.pl (.arr .i64 12 t)],.fix [.pl (.arr .u64 8 h)]] }) :
  wpH (envS BG A F T t R s C L) (sh_compress sh_cB0.1 sh_cZ.1).1 { fr:=fr,sl:=[.at (.ptr 5 0 (.lit 10)),.at (.sl 10 0 1 (.lit 0) (.lit 80)),.at (.gsl 12 1 (.lit 0) (.lit 80)),.at (.pl (.arr .i64 12 t)),.at (.pl (.int .i64 (.lit 64))),jV,jV,jV,jV,jV,jV,jV,jV,jV,jV,jV,jV,jV,jV,jV,jV,jV,jV,jV,jV,jV,jV,jV,jV,jV,jV,jV,jV,jV,jV,jV,jV,jV,jV,jV,jV,jV,jV,jV,jV,jV,jV,jV,jV,jV,jV,jV,jV,jV,jV,jV,jV,jV,jV,jV,jV,jV,jV,jV,jV,jV,jV,jV,jV,jV,jV,jV,jV,jV,jV,jV,jV,jV,jV,jV,jV,jV,jV,jV,jV,jV,jV,jV,jV,jV,jV,jV,jV,jV,jV,jV,jV,jV,jV,jV,jV,jV,jV,jV,jV,jV,jV,jV,jV,jV,jV,jV,jV,jV,jV,jV,jV,jV,jV,jV,jV,jV,jV,jV,jV,jV,jV,jV,jV,jV,jV,jV,jV,jV,jV,jV,jV,jV,jV,jV,jV,jV,jV,jV,jV,jV,jV,jV,jV,jV,jV,jV,jV,jV,jV,jV,jV,jV,jV,jV,jV,jV,jV,jV,jV,jV,jV,jV,jV,jV,jV,jV,jV,jV,jV,jV,jV,jV,jV,jV,jV,jV,jV,jV,jV,jV,jV,jV,jV,jV,jV,jV,jV,jV,jV,jV,jV,jV,jV,jV,jV,jV,jV,jV,jV,jV,jV,jV,jV,jV,jV,jV,jV,jV,jV,jV,jV,jV,jV,jV,jV,jV,jV,jV,jV,jV,jV,jV,jV,jV,jV,jV,jV,jV],bl:=[b0,b1,b2,b3,b4,.fix [.pl (.int .i64 (.lit 512)),.pl (.int .i64 c),.pl (.arr .u32 8 q),.pl (.arr .u64 8 h),r],b6,b7,b8,b9,.fix [.pl (.arr .u64 80 w)]] } Q:=by
 have hB0:=b0_w BG A hA F T t R s hF ht C L fr b0 b1 b2 b3 b4 b6 b7 b8 b9 c q h r
 have hZ:=z_w BG A hA F T t R s hF ht C L fr b0 b1 b2 b3 b4 b6 b7 b8 b9 c q h r
 generalize sh_cB0.1=x at hB0 hZ ⊢
 generalize sh_cZ.1=z at hB0 hZ ⊢
 obtain ⟨bi,cm,un,cv,na,eq⟩:=A
 have hbi:bi=realBin:=congrArg Ops.bin hA
 have hcm:cm=realCmp:=congrArg Ops.cmp hA
 have hun:un=realUn:=congrArg Ops.un hA
 have hna:na=Int.toNat:=congrArg Ops.nat hA
 have hcv:cv=fun k n=>k.wrap n:=congrArg Ops.cnv hA
 clear hA
 have hr0:=round_0 hF (F.sched w 80) h
 have hr:=round_s hF (F.sched w 80) h
 have e1:∀ a:Nat,a≤80→bi .add .i64 (Int.ofNat a) 1=Int.ofNat (a+1):=fun a ha=>by rw [hbi];exact a1 (by omega)
 have hk:OKs ([b0,b1,b2,b3,b4,.fix [.pl (.int .i64 (.lit 512)),.pl (.int .i64 c),.pl (.arr .u32 8 q),.pl (.arr .u64 8 h),r],b6,b7,b8,b9,.fix [.pl (.arr .u64 80 w)]] ++ [.fix [.pl (.arr .i64 12 t)]]) fr:=hok.app _ ⟨⟨⟨⟨rfl,rfl,fun _ _=>rfl⟩,trivial⟩,rfl,trivial⟩,trivial⟩
 have hk2:OKs ([b0,b1,b2,b3,b4,.fix [.pl (.int .i64 (.lit 512)),.pl (.int .i64 c),.pl (.arr .u32 8 q),.pl (.arr .u64 8 h),r],b6,b7,b8,b9,.fix [.pl (.arr .u64 80 (F.sched w 80))],.fix [.pl (.arr .i64 12 t)]] ++ [.fix [.pl (.arr .u64 8 h)]]) fr:=(hk.arr 10 .u64 80 (F.sched w 80) rfl).app _ ⟨⟨⟨⟨rfl,rfl,fun _ _=>rfl⟩,trivial⟩,rfl,trivial⟩,trivial⟩
 rw [← last_8 hF] at hQ
 cbv
 refine ⟨hB0 w hk _ (fun v10 v33=>?_)⟩
 cbv
 refine ⟨⟨⟨0,by decide⟩,?_⟩,fun a hwf=>?_⟩
 ·cbv
  exact ⟨⟨hr0 0,hr0 1,hr0 2,hr0 3,hr0 4,hr0 5,hr0 6,hr0 7,rfl,trivial⟩,hk2.refl⟩
 ·clear hwf
  cbv
  refine ⟨fun hc=>?_,fun hc=>?_⟩
  ·have hlt:a.1<80:=by rw [hcm] at hc;exact lss_t.1 hc
   have pa:a.1+1≤80:=by omega
   have pm:80 - (a.1+1)<80 - a.1:=by omega
   obtain ⟨r0,r1,r2,r3,r4,r5,r6,r7⟩:=hr a.1
   have e1:=e1 a.1 a.2
   refine ⟨hZ (F.sched w 80) a.1 hlt _ _ _ _ _ _ _ _ _ _ _ r0 r4 _ (fun v24 v25 v26 v27=>?_)⟩
   cbv
   refine ⟨⟨a.1+1,pa⟩,?_,pm⟩
   cbv
   exact ⟨⟨r1.symm,r2.symm,r3.symm,r5.symm,r6.symm,r7.symm,rfl,e1,trivial⟩,hk2.refl⟩
  ·have hlt:a=⟨80,by decide⟩:=Subtype.ext (by have h2:=a.2;rw [hcm] at hc;exact Nat.le_antisymm h2 (lss_f.1 hc))
   subst hlt
   cbv
   rw [hbi]
   exact hQ _ _
end Go.Proofs.YtncmblldbnlbmaaDoor
