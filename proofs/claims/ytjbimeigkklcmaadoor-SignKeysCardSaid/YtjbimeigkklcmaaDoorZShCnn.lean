/-
  The rounds of a block (shape n).
-/
import Derived.Test.YtjbimeigkklcmaaDoorZSha
set_option linter.unusedVariables false
namespace Go.Proofs.YtjbimeigkklcmaaDoor
open Go Go.Proofs Sx Sy
set_option maxRecDepth 100000
set_option maxHeartbeats 8000000
theorem z_n (BG:Nat→AV) (A:Ops) (hA:A=realOps) (F:ShF) (T:Int→Int→Int→Int) (t R s:Nat→Int) (hF:F=shF realOps T t R) (ht:∀ i,i<12→0≤t i∧t i≤64) (C:List (FuncId × Contract)) (L:List (Nat × (HS→HAnn))) (fr:List (List HV)) (b0 b1 b2 b3 b4 b5 b6 b7 b8 b9 b10 b12:HB) (c:SI) (q h:Nat→Int) (r:HA) (w:Nat→Int) (a:Nat) (hlt:a<80) (p:Bool) (s0 s1 s2 s3 s4 s5 s6 s7 n0 n4:Int) (h0:n0=realBin .add .u64 (oneS realOps T t (R a) (w a) (fun j=>match j with | 0=>s0 | 1=>s1 | 2=>s2 | 3=>s3 | 4=>s4 | 5=>s5 | 6=>s6 | 7=>s7 | _=>0)) (twoS realOps T t (fun j=>match j with | 0=>s0 | 1=>s1 | 2=>s2 | 3=>s3 | 4=>s4 | 5=>s5 | 6=>s6 | 7=>s7 | _=>0))) (h4:n4=realBin .add .u64 s3 (oneS realOps T t (R a) (w a) (fun j=>match j with | 0=>s0 | 1=>s1 | 2=>s2 | 3=>s3 | 4=>s4 | 5=>s5 | 6=>s6 | 7=>s7 | _=>0))) (Q:Ex→HS→Prop)
  (hQ:∀ v24 v25 v26 v27,Q .normal { fr:=fr,sl:=(List.append [.at (.ptr 11 0 (.lit 10)),.at (.sl 13 0 1 (.lit 0) (.lit 80)),.at (.gsl 12 1 (.lit 0) (.lit 80)),jV,.at (.pl (.int .i64 (.lit 64))),jV,jV,jV,.at (.ptr 14 0 (.lit 0))] (List.append (jn 6) (List.append [.at (.ptr 15 0 (.lit 0)),u64V n0,u64V s0,u64V s1,u64V s2,u64V n4,u64V s4,u64V s5,u64V s6,v24,v25,v26,v27] (List.append (jn 93) (List.append [.at (.gsl 12 1 (.lit 0) (.lit 80)),.at (.pl (.int .i64 (.lit 80))),i64V (Int.ofNat a),.at (.pl (.bool (.sym p)))] (jn 109)))))),bl:=[b0,b1,b2,b3,b4,b5,b6,b7,b8,b9,b10,dgB c q h r,b12,.fix [.pl (.arr .u64 80 w)],.fix [.pl (.arr .i64 12 t)],.fix [.pl (.arr .u64 8 h)]] }) :
  wpH (envS BG A F T t R s C L) sh_cZ.1 { fr:=fr,sl:=(List.append [.at (.ptr 11 0 (.lit 10)),.at (.sl 13 0 1 (.lit 0) (.lit 80)),.at (.gsl 12 1 (.lit 0) (.lit 80)),jV,.at (.pl (.int .i64 (.lit 64))),jV,jV,jV,.at (.ptr 14 0 (.lit 0))] (List.append (jn 6) (List.append [.at (.ptr 15 0 (.lit 0)),u64V s0,u64V s1,u64V s2,u64V s3,u64V s4,u64V s5,u64V s6,u64V s7] (List.append (jn 97) (List.append [.at (.gsl 12 1 (.lit 0) (.lit 80)),.at (.pl (.int .i64 (.lit 80))),i64V (Int.ofNat a),.at (.pl (.bool (.sym p)))] (jn 109)))))),bl:=[b0,b1,b2,b3,b4,b5,b6,b7,b8,b9,b10,dgB c q h r,b12,.fix [.pl (.arr .u64 80 w)],.fix [.pl (.arr .i64 12 t)],.fix [.pl (.arr .u64 8 h)]] } Q:=by
 obtain ⟨bi,cm,un,cv,na,eq⟩:=A
 have hbi:bi=realBin:=congrArg Ops.bin hA
 have hcm:cm=realCmp:=congrArg Ops.cmp hA
 have hun:un=realUn:=congrArg Ops.un hA
 have hna:na=Int.toNat:=congrArg Ops.nat hA
 have hcv:cv=fun k n=>k.wrap n:=congrArg Ops.cnv hA
 clear hA
 have hT:∀ i,i<12→TurnOK (t i) 64:=fun i hi=>⟨(ht i hi).1,(ht i hi).2,by decide⟩
 cbv
 refine ⟨win hlt,⟨?_⟩,hT 3 (by decide),hT 4 (by decide),hT 5 (by decide),win hlt,⟨?_⟩,hT 0 (by decide),hT 1 (by decide),hT 2 (by decide),?_⟩
 ·rw [hna];show a+1≤80;omega
 ·rw [hna];show a+1≤80;omega
 ·rw [hbi,hun,hna]
  rw [h0,h4] at hQ
  exact hQ _ _ _ _
end Go.Proofs.YtjbimeigkklcmaaDoor

/-
  The schedule of a block (shape n).
-/
namespace Go.Proofs.YtjbimeigkklcmaaDoor
open Go Go.Proofs Sx Sy
set_option maxRecDepth 100000
set_option maxHeartbeats 8000000
theorem b0_n (BG:Nat→AV) (A:Ops) (hA:A=realOps) (F:ShF) (T:Int→Int→Int→Int) (t R s:Nat→Int) (hF:F=shF realOps T t R) (ht:∀ i,i<12→0≤t i∧t i≤64) (C:List (FuncId × Contract)) (L:List (Nat × (HS→HAnn))) (fr:List (List HV)) (b0 b1 b2 b3 b4 b5 b6 b7 b8 b9 b10 b12:HB) (c:SI) (q h:Nat→Int) (r:HA) (w:Nat→Int) (hok:OKs [b0,b1,b2,b3,b4,b5,b6,b7,b8,b9,b10,dgB c q h r,b12,.fix [.pl (.arr .u64 80 w)],.fix [.pl (.arr .i64 12 t)]] fr) (Q:Ex→HS→Prop)
  (hQ:∀ v10 v33,Q .normal { fr:=fr,sl:=(List.append [.at (.ptr 11 0 (.lit 10)),.at (.sl 13 0 1 (.lit 0) (.lit 80)),.at (.gsl 12 1 (.lit 0) (.lit 80)),jV,.at (.pl (.int .i64 (.lit 64))),jV,jV,jV,.at (.ptr 14 0 (.lit 0)),jV,v10] (List.append (jn 22) (List.append [v33] (jn 200)))),bl:=[b0,b1,b2,b3,b4,b5,b6,b7,b8,b9,b10,dgB c q h r,b12,.fix [.pl (.arr .u64 80 (F.sched w 80))],.fix [.pl (.arr .i64 12 t)]] }) :
  wpH (envS BG A F T t R s C L) sh_cB0.1 { fr:=fr,sl:=(List.append [.at (.ptr 11 0 (.lit 10)),.at (.sl 13 0 1 (.lit 0) (.lit 80)),.at (.gsl 12 1 (.lit 0) (.lit 80)),.at (.pl (.arr .i64 12 t)),.at (.pl (.int .i64 (.lit 64))),jV,jV,jV,.at (.ptr 14 0 (.lit 0)),jV,.at (.pl (.int .i64 (.lit 16)))] (jn 223)),bl:=[b0,b1,b2,b3,b4,b5,b6,b7,b8,b9,b10,dgB c q h r,b12,.fix [.pl (.arr .u64 80 w)],.fix [.pl (.arr .i64 12 t)]] } Q:=by
 obtain ⟨bi,cm,un,cv,na,eq⟩:=A
 have hbi:bi=realBin:=congrArg Ops.bin hA
 have hcm:cm=realCmp:=congrArg Ops.cmp hA
 have hun:un=realUn:=congrArg Ops.un hA
 have hna:na=Int.toNat:=congrArg Ops.nat hA
 have hcv:cv=fun k n=>k.wrap n:=congrArg Ops.cnv hA
 clear hA
 obtain ⟨Y15,hY15⟩:∃ Y:Nat→Nat,∀ a,Y a=a - 15:=⟨_,fun _=>rfl⟩
 obtain ⟨Y2,hY2⟩:∃ Y:Nat→Nat,∀ a,Y a=a - 2:=⟨_,fun _=>rfl⟩
 obtain ⟨Y16,hY16⟩:∃ Y:Nat→Nat,∀ a,Y a=a - 16:=⟨_,fun _=>rfl⟩
 obtain ⟨Y7,hY7⟩:∃ Y:Nat→Nat,∀ a,Y a=a - 7:=⟨_,fun _=>rfl⟩
 have hT:∀ i,i<12→TurnOK (t i) 64:=fun i hi=>⟨(ht i hi).1,(ht i hi).2,by decide⟩
 have hN:∀ i,i<12→NonNeg (t i):=fun i hi=>⟨(ht i hi).1⟩
 have e1:∀ a:Nat,a≤80→bi .add .i64 (Int.ofNat a) 1=Int.ofNat (a+1):=fun a ha=>by rw [hbi];exact a1 (by omega)
 have e15:∀ a:Nat,16≤a→a≤80→bi .sub .i64 (Int.ofNat a) 15=Int.ofNat (Y15 a):=fun a h1 h2=>by rw [hbi,hY15];exact sb64 rfl (by omega) (by omega)
 have e2:∀ a:Nat,16≤a→a≤80→bi .sub .i64 (Int.ofNat a) 2=Int.ofNat (Y2 a):=fun a h1 h2=>by rw [hbi,hY2];exact sb64 rfl (by omega) (by omega)
 have e16:∀ a:Nat,16≤a→a≤80→bi .sub .i64 (Int.ofNat a) 16=Int.ofNat (Y16 a):=fun a h1 h2=>by rw [hbi,hY16];exact sb64 rfl (by omega) (by omega)
 have e7:∀ a:Nat,16≤a→a≤80→bi .sub .i64 (Int.ofNat a) 7=Int.ofNat (Y7 a):=fun a h1 h2=>by rw [hbi,hY7];exact sb64 rfl (by omega) (by omega)
 have hs:=fun a ha=>sched_s hF w (a:=a) ha (hY15 a) (hY2 a) (hY16 a) (hY7 a)
 cbv
 refine ⟨⟨⟨16,by decide⟩,?_⟩,fun a hwf=>?_⟩
 ·cbv
  exact ⟨⟨rfl,trivial⟩,hok.leArr 13 .u64 80 w _ rfl (fun i _=>sched_0 hF w i)⟩
 ·clear hwf
  cbv
  refine ⟨fun hc=>?_,fun hc=>?_⟩
  ·have hlt:a.1<80:=by rw [hcm] at hc;exact lss_t.1 hc
   have h15:=hY15 a.1
   have h2:=hY2 a.1
   have h16:=hY16 a.1
   have h7:=hY7 a.1
   have k15:=e15 a.1 a.2.1 a.2.2
   have k2:=e2 a.1 a.2.1 a.2.2
   have k16:=e16 a.1 a.2.1 a.2.2
   have k7:=e7 a.1 a.2.1 a.2.2
   have ha1:=a.2.1
   have p15:Y15 a.1<80:=by omega
   have p2:Y2 a.1<80:=by omega
   have p16:Y16 a.1<80:=by omega
   have p7:Y7 a.1<80:=by omega
   have pm:80 - (a.1+1)<80 - a.1:=by omega
   have pa:16≤a.1+1∧a.1+1≤80:=by omega
   cbv
   rw [k15,k2,k16,k7,hna]
   refine ⟨win p15,⟨p15⟩,win p2,⟨p2⟩,hT 6 (by decide),hT 7 (by decide),hN 8 (by decide),hT 9 (by decide),hT 10 (by decide),hN 11 (by decide),win p16,⟨p16⟩,win p7,⟨p7⟩,win hlt,⟨hlt⟩,⟨a.1+1,pa⟩,?_,pm⟩
   cbv
   refine ⟨⟨e1 a.1 a.2.2,trivial⟩,hok.leArr 13 .u64 80 _ _ rfl (fun i _=>?_)⟩
   refine Eq.trans ?_ (hs a.1 a.2.1 i)
   rw [hbi]
   rfl
  ·have hlt:a=⟨80,by decide,by decide⟩:=Subtype.ext (by have h2:=a.2.2;rw [hcm] at hc;exact Nat.le_antisymm h2 (lss_f.1 hc))
   subst hlt
   cbv
   exact hQ _ _
end Go.Proofs.YtjbimeigkklcmaaDoor

/-
  compress (shape n).
-/
namespace Go.Proofs.YtjbimeigkklcmaaDoor
open Go Go.Proofs Sx Sy
set_option maxRecDepth 100000
set_option maxHeartbeats 8000000
theorem compress_n (BG:Nat→AV) (A:Ops) (hA:A=realOps) (F:ShF) (T:Int→Int→Int→Int) (t R s:Nat→Int) (hF:F=shF realOps T t R) (ht:∀ i,i<12→0≤t i∧t i≤64) (C:List (FuncId × Contract)) (L:List (Nat × (HS→HAnn))) (fr:List (List HV)) (b0 b1 b2 b3 b4 b5 b6 b7 b8 b9 b10 b12:HB) (c:SI) (q h:Nat→Int) (r:HA) (w:Nat→Int) (hok:OKs [b0,b1,b2,b3,b4,b5,b6,b7,b8,b9,b10,dgB c q h r,b12,.fix [.pl (.arr .u64 80 w)]] fr) (Q:Ex→HS→Prop)
  (hQ:∀ sl w',Q .normal { fr:=fr,sl:=sl,bl:=[b0,b1,b2,b3,b4,b5,b6,b7,b8,b9,b10,dgB c q (F.last h (F.round (F.sched w 80) 80 h) 8) r,b12,.fix [.pl (.arr .u64 80 w')],.fix [.pl (.arr .i64 12 t)],.fix [.pl (.arr .u64 8 h)]] }) :
  wpH (envS BG A F T t R s C L) (sh_compress sh_cB0.1 sh_cZ.1).1 { fr:=fr,sl:=(List.append [.at (.ptr 11 0 (.lit 10)),.at (.sl 13 0 1 (.lit 0) (.lit 80)),.at (.gsl 12 1 (.lit 0) (.lit 80)),.at (.pl (.arr .i64 12 t)),.at (.pl (.int .i64 (.lit 64)))] (jn 229)),bl:=[b0,b1,b2,b3,b4,b5,b6,b7,b8,b9,b10,dgB c q h r,b12,.fix [.pl (.arr .u64 80 w)]] } Q:=by
 have hB0:=b0_n BG A hA F T t R s hF ht C L fr b0 b1 b2 b3 b4 b5 b6 b7 b8 b9 b10 b12 c q h r
 have hZ:=z_n BG A hA F T t R s hF ht C L fr b0 b1 b2 b3 b4 b5 b6 b7 b8 b9 b10 b12 c q h r
 generalize sh_cB0.1=x at hB0 hZ ⊢
 generalize sh_cZ.1=z at hB0 hZ ⊢
 obtain ⟨bi,cm,un,cv,na,eq⟩:=A
 have hbi:bi=realBin:=congrArg Ops.bin hA
 have hcm:cm=realCmp:=congrArg Ops.cmp hA
 have hun:un=realUn:=congrArg Ops.un hA
 have hna:na=Int.toNat:=congrArg Ops.nat hA
 have hcv:cv=fun k n=>k.wrap n:=congrArg Ops.cnv hA
 clear hA
 have hr0:=round_0 hF (F.sched w 80) h
 have hr:=round_s hF (F.sched w 80) h
 have e1:∀ a:Nat,a≤80→bi .add .i64 (Int.ofNat a) 1=Int.ofNat (a+1):=fun a ha=>by rw [hbi];exact a1 (by omega)
 have hk:OKs ([b0,b1,b2,b3,b4,b5,b6,b7,b8,b9,b10,dgB c q h r,b12,.fix [.pl (.arr .u64 80 w)]] ++ [.fix [.pl (.arr .i64 12 t)]]) fr:=hok.app _ ⟨⟨⟨⟨rfl,rfl,fun _ _=>rfl⟩,trivial⟩,rfl,trivial⟩,trivial⟩
 have hk2:OKs ([b0,b1,b2,b3,b4,b5,b6,b7,b8,b9,b10,dgB c q h r,b12,.fix [.pl (.arr .u64 80 (F.sched w 80))],.fix [.pl (.arr .i64 12 t)]] ++ [.fix [.pl (.arr .u64 8 h)]]) fr:=(hk.arr 13 .u64 80 (F.sched w 80) rfl).app _ ⟨⟨⟨⟨rfl,rfl,fun _ _=>rfl⟩,trivial⟩,rfl,trivial⟩,trivial⟩
 rw [← last_8 hF] at hQ
 cbv
 refine ⟨hB0 w hk _ (fun v10 v33=>?_)⟩
 cbv
 refine ⟨⟨⟨0,by decide⟩,?_⟩,fun a hwf=>?_⟩
 ·cbv
  exact ⟨⟨hr0 0,hr0 1,hr0 2,hr0 3,hr0 4,hr0 5,hr0 6,hr0 7,rfl,trivial⟩,hk2.refl⟩
 ·clear hwf
  cbv
  refine ⟨fun hc=>?_,fun hc=>?_⟩
  ·have hlt:a.1<80:=by rw [hcm] at hc;exact lss_t.1 hc
   have pa:a.1+1≤80:=by omega
   have pm:80 - (a.1+1)<80 - a.1:=by omega
   obtain ⟨r0,r1,r2,r3,r4,r5,r6,r7⟩:=hr a.1
   have e1:=e1 a.1 a.2
   refine ⟨hZ (F.sched w 80) a.1 hlt _ _ _ _ _ _ _ _ _ _ _ r0 r4 _ (fun v24 v25 v26 v27=>?_)⟩
   cbv
   refine ⟨⟨a.1+1,pa⟩,?_,pm⟩
   cbv
   exact ⟨⟨r1.symm,r2.symm,r3.symm,r5.symm,r6.symm,r7.symm,rfl,e1,trivial⟩,hk2.refl⟩
  ·have hlt:a=⟨80,by decide⟩:=Subtype.ext (by have h2:=a.2;rw [hcm] at hc;exact Nat.le_antisymm h2 (lss_f.1 hc))
   subst hlt
   cbv
   rw [hbi]
   exact hQ _ _
end Go.Proofs.YtjbimeigkklcmaaDoor

