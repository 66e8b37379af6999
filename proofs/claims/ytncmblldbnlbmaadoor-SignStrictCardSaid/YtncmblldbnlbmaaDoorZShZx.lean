/-
  The rounds of a block (shape x).
-/
import Derived.Test.YtncmblldbnlbmaaDoorZSha
namespace Go.Proofs.YtncmblldbnlbmaaDoor
open Go Go.Proofs Sx Sy
set_option maxRecDepth 100000
set_option maxHeartbeats 8000000
theorem z_x (BG:Nat→AV) (A:Ops) (hA:A=realOps) (F:ShF) (T:Int→Int→Int→Int) (t R s:Nat→Int) (hF:F=shF realOps T t R) (ht:∀ i,i<12→0≤t i∧t i≤64) (C:List (FuncId × Contract)) (L:List (Nat × (HS→HAnn))) (fr:List (List HV)) (b0 b1 b2 b3 b4 b5 b6 b7 b8 b10:HB) (c:SI) (q h:Nat→Int) (r:HA) (w:Nat→Int) (a:Nat) (hlt:a<80) (p:Bool) (s0 s1 s2 s3 s4 s5 s6 s7 n0 n4:Int) (h0:n0=realBin .add .u64 (oneS realOps T t (R a) (w a) (fun j=>match j with | 0=>s0 | 1=>s1 | 2=>s2 | 3=>s3 | 4=>s4 | 5=>s5 | 6=>s6 | 7=>s7 | _=>0)) (twoS realOps T t (fun j=>match j with | 0=>s0 | 1=>s1 | 2=>s2 | 3=>s3 | 4=>s4 | 5=>s5 | 6=>s6 | 7=>s7 | _=>0))) (h4:n4=realBin .add .u64 s3 (oneS realOps T t (R a) (w a) (fun j=>match j with | 0=>s0 | 1=>s1 | 2=>s2 | 3=>s3 | 4=>s4 | 5=>s5 | 6=>s6 | 7=>s7 | _=>0))) (Q:Ex→HS→Prop)
  (hQ:∀ v24 v25 v26 v27,Q .normal { fr:=fr,sl:=[.at (.ptr 9 0 (.lit 10)),.at (.sl 11 0 1 (.lit 0) (.lit 80)),.at (.gsl 12 1 (.lit 0) (.lit 80)),jV,.at (.pl (.int .i64 (.lit 64))),jV,jV,jV,.at (.ptr 12 0 (.lit 0)),jV,jV,jV,jV,jV,jV,.at (.ptr 13 0 (.lit 0)),u64V n0,u64V s0,u64V s1,u64V s2,u64V n4,u64V s4,u64V s5,u64V s6,v24,v25,v26,v27,jV,jV,jV,jV,jV,jV,jV,jV,jV,jV,jV,jV,jV,jV,jV,jV,jV,jV,jV,jV,jV,jV,jV,jV,jV,jV,jV,jV,jV,jV,jV,jV,jV,jV,jV,jV,jV,jV,jV,jV,jV,jV,jV,jV,jV,jV,jV,jV,jV,jV,jV,jV,jV,jV,jV,jV,jV,jV,jV,jV,jV,jV,jV,jV,jV,jV,jV,jV,jV,jV,jV,jV,jV,jV,jV,jV,jV,jV,jV,jV,jV,jV,jV,jV,jV,jV,jV,jV,jV,jV,jV,jV,jV,.at (.gsl 12 1 (.lit 0) (.lit 80)),.at (.pl (.int .i64 (.lit 80))),i64V (Int.ofNat a),.at (.pl (.bool (.sym p))),jV,jV,jV,jV,jV,jV,jV,jV,jV,jV,jV,jV,jV,jV,jV,jV,jV,jV,jV,jV,jV,jV,jV,jV,jV,jV,jV,jV,jV,jV,jV,jV,jV,jV,jV,jV,jV,jV,jV,jV,jV,jV,jV,jV,jV,jV,jV,jV,jV,jV,jV,jV,jV,jV,jV,jV,jV,jV,jV,jV,jV,jV,jV,jV,jV,jV,jV,jV,jV,jV,jV,jV,jV,jV,jV,jV,jV,jV,jV,jV,jV,jV,jV,jV,jV,jV,jV,jV,jV,jV,jV,jV,jV,jV,jV,jV,jV,jV,jV,jV,jV,jV,jV,jV,jV,jV,jV,jV,jV],bl:=[b0,b1,b2,b3,b4,b5,b6,b7,b8,.fix [.pl (.int .i64 (.lit 512)),.pl (.int .i64 c),.pl (.arr .u32 8 q),.pl (.arr .u64 8 h),r],b10,.fix [.pl (.arr .u64 80 w)],.fix [.pl (.arr .i64 12 t)],.fix [.pl (.arr .u64 8 h)]] }) :
  wpH (envS BG A F T t R s C L) sh_cZ.1 { fr:=fr,sl:=[.at (.ptr 9 0 (.lit 10)),.at (.sl 11 0 1 (.lit 0) (.lit 80)),.at (.gsl 12 1 (.lit 0) (.lit 80)),jV,.at (.pl (.int .i64 (.lit 64))),jV,jV,jV,.at (.ptr 12 0 (.lit 0)),jV,jV,jV,jV,jV,jV,.at (.ptr 13 0 (.lit 0)),u64V s0,u64V s1,u64V s2,u64V s3,u64V s4,u64V s5,u64V s6,u64V s7,jV,jV,jV,jV,jV,jV,jV,jV,jV,jV,jV,jV,jV,jV,jV,jV,jV,jV,jV,jV,jV,jV,jV,jV,jV,jV,jV,jV,jV,jV,jV,jV,jV,jV,jV,jV,jV,jV,jV,jV,jV,jV,jV,jV,jV,jV,jV,jV,jV,jV,jV,jV,jV,jV,jV,jV,jV,jV,jV,jV,jV,jV,jV,jV,jV,jV,jV,jV,jV,jV,jV,jV,jV,jV,jV,jV,jV,jV,jV,jV,jV,jV,jV,jV,jV,jV,jV,jV,jV,jV,jV,jV,jV,jV,jV,jV,jV,.at (.gsl 12 1 (.lit 0) (.lit 80)),.at (.pl (.int .i64 (.lit 80))),i64V (Int.ofNat a),.at (.pl (.bool (.sym p))),jV,jV,jV,jV,jV,jV,jV,jV,jV,jV,jV,jV,jV,jV,jV,jV,jV,jV,jV,jV,jV,jV,jV,jV,jV,jV,jV,jV,jV,jV,jV,jV,jV,jV,jV,jV,jV,jV,jV,jV,jV,jV,jV,jV,jV,jV,jV,jV,jV,jV,jV,jV,jV,jV,jV,jV,jV,jV,jV,jV,jV,jV,jV,jV,jV,jV,jV,jV,jV,jV,jV,jV,jV,jV,jV,jV,jV,jV,jV,jV,jV,jV,jV,jV,jV,jV,jV,jV,jV,jV,jV,jV,jV,jV,jV,jV,jV,jV,jV,jV,jV,jV,jV,jV,jV,jV,jV,jV,jV],bl:=[b0,b1,b2,b3,b4,b5,b6,b7,b8,.fix [.pl (.int .i64 (.lit 512)),.pl (.int .i64 c),.pl (.arr .u32 8 q),.pl (.arr .u64 8 h),r],b10,.fix [.pl (.arr .u64 80 w)],.fix [.pl (.arr .i64 12 t)],.fix [.pl (.arr .u64 8 h)]] } Q:=by
 obtain ⟨bi,cm,un,cv,na,eq⟩:=A
 have hbi:bi=realBin:=congrArg Ops.bin hA
 have hcm:cm=realCmp:=congrArg Ops.cmp hA
 have hun:un=realUn:=congrArg Ops.un hA
 have hna:na=Int.toNat:=congrArg Ops.nat hA
 have hcv:cv=fun k n=>k.wrap n:=congrArg Ops.cnv hA
 clear hA
 have hT:∀ i,i<12→TurnOK (t i) 64:=fun i hi=>⟨(ht i hi).1,(ht i hi).2,by decide⟩
 cbv
 refine ⟨win hlt,⟨?_⟩,hT 3 (by decide),hT 4 (by decide),hT 5 (by decide),win hlt,⟨?_⟩,hT 0 (by decide),hT 1 (by decide),hT 2 (by decide),?_⟩
 ·rw [hna];show a+1≤80;omega
 ·rw [hna];show a+1≤80;omega
 ·rw [hbi,hun,hna]
  rw [h0,h4] at hQ
  exact hQ _ _ _ _
end Go.Proofs.YtncmblldbnlbmaaDoor
