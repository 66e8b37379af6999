/-
  Write: parts of 32 bytes.
-/
import Derived.Test.YtjbimeigkklcmaaDoorZShT
import Derived.Test.YtjbimeigkklcmaaDoorZShMM
set_option linter.unusedVariables false
namespace Go.Proofs.YtjbimeigkklcmaaDoor
open Go Go.Proofs Sx Sy
set_option maxRecDepth 100000
set_option maxHeartbeats 8000000
theorem write_a (BG:Nat→AV) (A:Ops) (hA:A=realOps) (F:ShF) (T:Int→Int→Int→Int) (t R s:Nat→Int) (hF:F=shF realOps T t R) (ht:∀ i,i<12→0≤t i∧t i≤64) (C:List (FuncId × Contract)) (kt:Nat) (G:ShG) (hG:G=shG F) (LL:List (Nat × (HS→HAnn))) (fr:List (List HV)) (b1 b2 b3 b4 b6:HB) (q h:Nat→Int) (f:Nat→Int) (Q:Ex→HS→Prop)
  (hQ:∀ sl,Q .normal { fr:=fr,sl:=sl,bl:=[.fix [.pl (.arr .u8 32 f)],b1,b2,b3,b4,dgB (.lit 32) q h (.ls 7 0 1 (.lit 32)),b6,.row 0 .u8 1 (.lit 32) (fun j=>f (0+j))] }) :
  wpH (envS BG A F T t R s C (loopsG kt G ++ LL)) (sh_write sh_block.1 (sh_mix sh_load.1 (sh_compress sh_cB0.1 sh_cZ.1).1).1).1 { fr:=fr,sl:=(List.append [.at (.ptr 5 0 (.lit 0)),.at (.sl 0 0 1 (.lit 0) (.lit 32))] (jn 99)),bl:=[.fix [.pl (.arr .u8 32 f)],b1,b2,b3,b4,dgB (.lit 0) q h .nil,b6] } Q:=by
 generalize (sh_mix sh_load.1 (sh_compress sh_cB0.1 sh_cZ.1).1).1=cm'
 obtain ⟨bi,cm,un,cv,na,eq⟩:=A
 have hbi:bi=realBin:=congrArg Ops.bin hA
 have hcm:cm=realCmp:=congrArg Ops.cmp hA
 have hun:un=realUn:=congrArg Ops.un hA
 have hna:na=Int.toNat:=congrArg Ops.nat hA
 have hcv:cv=fun k n=>k.wrap n:=congrArg Ops.cnv hA
 clear hA
 cbv
 refine ⟨?_⟩
 cbv
 exact ⟨⟨by decide⟩,hQ _⟩
theorem write_b (BG:Nat→AV) (A:Ops) (hA:A=realOps) (F:ShF) (T:Int→Int→Int→Int) (t R s:Nat→Int) (hF:F=shF realOps T t R) (ht:∀ i,i<12→0≤t i∧t i≤64) (C:List (FuncId × Contract)) (kt:Nat) (G:ShG) (hG:G=shG F) (LL:List (Nat × (HS→HAnn))) (fr:List (List HV)) (b0 b2 b3 b4 b6:HB) (q h:Nat→Int) (f g:Nat→Int) (Q:Ex→HS→Prop)
  (hQ:∀ sl,Q .ret { fr:=fr,sl:=sl,bl:=[b0,.fix [.pl (.arr .u8 32 f)],b2,b3,b4,dgB (.lit 64) q h (.ls 7 1 1 (.lit 64)),b6,.row 1 .u8 1 (.lit 64) (joinF 32 g (fun j=>f (0+j))),.none] }) :
  wpH (envS BG A F T t R s C (loopsG kt G ++ LL)) (sh_write sh_block.1 (sh_mix sh_load.1 (sh_compress sh_cB0.1 sh_cZ.1).1).1).1 { fr:=fr,sl:=(List.append [.at (.ptr 5 0 (.lit 0)),.at (.sl 1 0 1 (.lit 0) (.lit 32))] (jn 99)),bl:=[b0,.fix [.pl (.arr .u8 32 f)],b2,b3,b4,dgB (.lit 32) q h (.ls 7 0 1 (.lit 32)),b6,.row 0 .u8 1 (.lit 32) g] } Q:=by
 generalize (sh_mix sh_load.1 (sh_compress sh_cB0.1 sh_cZ.1).1).1=cm'
 obtain ⟨bi,cm,un,cv,na,eq⟩:=A
 have hbi:bi=realBin:=congrArg Ops.bin hA
 have hcm:cm=realCmp:=congrArg Ops.cmp hA
 have hun:un=realUn:=congrArg Ops.un hA
 have hna:na=Int.toNat:=congrArg Ops.nat hA
 have hcv:cv=fun k n=>k.wrap n:=congrArg Ops.cnv hA
 clear hA
 cbv
 refine ⟨?_⟩
 cbv
 exact ⟨⟨by decide⟩,hQ _⟩
theorem write_e (BG:Nat→AV) (A:Ops) (hA:A=realOps) (F:ShF) (T:Int→Int→Int→Int) (t R s:Nat→Int) (hF:F=shF realOps T t R) (ht:∀ i,i<12→0≤t i∧t i≤64) (C:List (FuncId × Contract)) (kt:Nat) (G:ShG) (hG:G=shG F) (LL:List (Nat × (HS→HAnn))) (fr:List (List HV)) (b0 b2:HB) (q h:Nat→Int) (f:Nat→Int) (Q:Ex→HS→Prop)
  (hQ:∀ sl,Q .normal { fr:=fr,sl:=sl,bl:=[b0,dgB (.lit 32) q h (.ls 3 0 1 (.lit 32)),b2,.row 0 .u8 1 (.lit 32) f] }) :
  wpH (envS BG A F T t R s C (loopsG kt G ++ LL)) (sh_write sh_block.1 (sh_mix sh_load.1 (sh_compress sh_cB0.1 sh_cZ.1).1).1).1 { fr:=fr,sl:=(List.append [.at (.ptr 1 0 (.lit 0)),.at (.xsl .u8 1 (.lit 32) f)] (jn 99)),bl:=[b0,dgB (.lit 0) q h .nil,b2] } Q:=by
 generalize (sh_mix sh_load.1 (sh_compress sh_cB0.1 sh_cZ.1).1).1=cm'
 obtain ⟨bi,cm,un,cv,na,eq⟩:=A
 have hbi:bi=realBin:=congrArg Ops.bin hA
 have hcm:cm=realCmp:=congrArg Ops.cmp hA
 have hun:un=realUn:=congrArg Ops.un hA
 have hna:na=Int.toNat:=congrArg Ops.nat hA
 have hcv:cv=fun k n=>k.wrap n:=congrArg Ops.cnv hA
 clear hA
 cbv
 refine ⟨?_⟩
 cbv
 exact ⟨⟨by decide⟩,hQ _⟩
end Go.Proofs.YtjbimeigkklcmaaDoor

/-
  Write: the message.
-/
namespace Go.Proofs.YtjbimeigkklcmaaDoor
open Go Go.Proofs Sx Sy
set_option maxRecDepth 100000
set_option maxHeartbeats 8000000
theorem write_c (BG:Nat→AV) (A:Ops) (hA:A=realOps) (F:ShF) (T:Int→Int→Int→Int) (t R s:Nat→Int) (hF:F=shF realOps T t R) (ht:∀ i,i<12→0≤t i∧t i≤64) (C:List (FuncId × Contract)) (G:ShG) (hG:G=shG F) (LL:List (Nat × (HS→HAnn))) (fr:List (List HV)) (b0 b1 b2 b3 b4 b6:HB) (q h g:Nat→Int) (n:Nat) (f:Nat→Int) (CN:Int) (hCN:CN=realBin .add .i64 64 (Int.ofNat n)) (kk:Nat) (hkk:kk=Int.toNat (imin (Int.ofNat 64) (Int.ofNat n))) (NB:Nat) (hNB:NB=nsub n kk / 128) (hok:OKs [b0,b1,b2,b3,b4,dgB (.lit 64) q h (.ls 7 1 1 (.lit 64)),b6,.row 1 .u8 1 (.lit 64) g,.none] fr) (Q:Ex→HS→Prop)
  (hQ0:2305843009213693887<n→∀ sl,Q .ret { fr:=fr,sl:=sl,bl:=[b0,b1,b2,b3,b4,dgB (.lit 64) q h (.ls 7 1 1 (.lit 64)),b6,.row 1 .u8 1 (.lit 64) g,.none] })
  (hQ1:n<64→∀ sl,Q .ret { fr:=fr,sl:=sl,bl:=[b0,b1,b2,b3,b4,dgB (.sym CN) q h (.ls 7 2 1 (.sym (nadd 64 kk))),b6,.row 2 .u8 1 (.sym (nadd 64 kk)) (joinF 64 g f),.none,.none] })
  (hQ2:¬ 2305843009213693887<n→64≤n→∀ sl,Q .normal { fr:=fr,sl:=sl,bl:=[b0,b1,b2,b3,b4,dgB (.sym CN) q (G.chain (F.block h (joinF 64 g f)) (fun j=>f (kk+j)) NB) (.ls 7 3 1 (.sym (G.s (nsub n kk) (G.m NB)))),b6,.row 3 .u8 1 (.sym (G.s (nsub n kk) (G.m NB))) (joinF 0 (joinF 64 g f) (fun j=>(fun j=>f (kk+j)) (G.m NB+j))),.none,.none] }) :
  wpH (envS BG A F T t R s C (loopsG 9 G ++ LL)) (sh_write sh_block.1 (sh_mix sh_load.1 (sh_compress sh_cB0.1 sh_cZ.1).1).1).1 { fr:=fr,sl:=(List.append [.at (.ptr 5 0 (.lit 0)),.at (.xsl .u8 1 (.sym n) f)] (jn 99)),bl:=[b0,b1,b2,b3,b4,dgB (.lit 64) q h (.ls 7 1 1 (.lit 64)),b6,.row 1 .u8 1 (.lit 64) g,.none] } Q:=by
 have hm:=fun fr c r h len f hl=>mix_w BG A hA F T t R s hF ht C (loopsG 9 G ++ LL) fr b0 b1 b2 b3 b4 b6 .none .none c q h r 2 len f hl
 have hl:=fun fr c r h row f=>mix_l BG A hA F T t R s hF ht C (loopsG 9 G ++ LL) fr b0 b1 b2 b3 b4 b6 row .none c q h r f
 generalize (sh_mix sh_load.1 (sh_compress sh_cB0.1 sh_cZ.1).1).1=cm' at hm hl ⊢
 obtain ⟨bi,cm,un,cv,na,eq⟩:=A
 have hbi:bi=realBin:=congrArg Ops.bin hA
 have hcm:cm=realCmp:=congrArg Ops.cmp hA
 have hun:un=realUn:=congrArg Ops.un hA
 have hna:na=Int.toNat:=congrArg Ops.nat hA
 have hcv:cv=fun k n=>k.wrap n:=congrArg Ops.cnv hA
 clear hA
 subst hCN
 rw [show realBin=bi from hbi.symm] at hQ1 hQ2
 have hkk2:kk=(na (imin (Int.ofNat 64) (Int.ofNat n))):=by rw [hkk,hna]
 subst hkk2
 clear hkk
 have hmn:=imin_eq (Int.ofNat 64) (Int.ofNat n)
 have hk1:n<64→(na (imin (Int.ofNat 64) (Int.ofNat n)))=n:=fun h=>by rw [hmn,if_pos (by simp only [Int.ofNat_eq_natCast];omega),hna];rfl
 have hk2:64≤n→(na (imin (Int.ofNat 64) (Int.ofNat n)))=64:=fun h=>by rw [hmn,if_neg (by simp only [Int.ofNat_eq_natCast];omega),hna];rfl
 have hk3:(na (imin (Int.ofNat 64) (Int.ofNat n)))≤64∧(na (imin (Int.ofNat 64) (Int.ofNat n)))≤n:=by
  rcases Nat.lt_or_ge n 64 with h | h
  ·rw [hk1 h];omega
  ·rw [hk2 h];omega
 have hk4:imin (Int.ofNat 64) (Int.ofNat n)=Int.ofNat (na (imin (Int.ofNat 64) (Int.ofNat n))):=by
  rw [hmn,hna]
  split
  ·rfl
  ·rfl
 have w1:Upto (imin (Int.ofNat 64) (Int.ofNat n)) n:=by rw [hk4];exact upt hk3.2
 have w2:RoomFor (nadd 64 (na (imin (Int.ofNat 64) (Int.ofNat n)))) 1:=⟨by rw [nadd_eq];omega⟩
 have w3:(nadd 64 (na (imin (Int.ofNat 64) (Int.ofNat n))))=64+(na (imin (Int.ofNat 64) (Int.ofNat n))):=nadd_eq _ _
 have w4:(nsub n (na (imin (Int.ofNat 64) (Int.ofNat n))))=n - (na (imin (Int.ofNat 64) (Int.ofNat n))):=nsub_eq _ _
 have gm:=g_m hG
 have gs:=g_s hG
 have t0:cm .gtr (Int.ofNat n) 2305843009213693887=true→2305843009213693887<n:=fun h=>by
  rw [hcm] at h
  simp only [realCmp,decide_eq_true_eq,Int.ofNat_eq_natCast] at h
  omega
 have t9:cm .gtr (Int.ofNat n) 2305843009213693887=false→¬ 2305843009213693887<n:=fun h=>by
  rw [hcm] at h
  simp only [realCmp,decide_eq_false_iff_not,Int.ofNat_eq_natCast] at h
  omega
 have t1:cm .lss (Int.ofNat (nadd 64 (na (imin (Int.ofNat 64) (Int.ofNat n))))) 128=true→n<64:=fun h=>by
  rw [hcm] at h
  have h:=lss128_t.1 h
  rcases Nat.lt_or_ge n 64 with h2 | h2
  ·exact h2
  ·have:=hk2 h2;omega
 have t2:cm .lss (Int.ofNat (nadd 64 (na (imin (Int.ofNat 64) (Int.ofNat n))))) 128=false→64≤n:=fun h=>by
  rw [hcm] at h
  have h:=lss128_f.1 h
  rcases Nat.lt_or_ge n 64 with h2 | h2
  ·have:=hk1 h2;omega
  ·exact h2
 have hB:∀ c hh r,slfA [b0,b1,b2,b3,b4,.fix [.pl (.int .i64 (.lit 512)),.pl (.int .i64 c),.pl (.arr .u32 8 q),.pl (.arr .u64 8 hh),r],b6,.row 2 .u8 1 (.sym (nadd 64 (na (imin (Int.ofNat 64) (Int.ofNat n))))) (joinF 64 g f),.none] r=true→OKs [b0,b1,b2,b3,b4,.fix [.pl (.int .i64 (.lit 512)),.pl (.int .i64 c),.pl (.arr .u32 8 q),.pl (.arr .u64 8 hh),r],b6,.row 2 .u8 1 (.sym (nadd 64 (na (imin (Int.ofNat 64) (Int.ofNat n))))) (joinF 64 g f),.none] fr:=fun c hh r hr =>
  (hok.setBump 7 1 2 (.row 2 .u8 1 (.sym (nadd 64 (na (imin (Int.ofNat 64) (Int.ofNat n))))) (joinF 64 g f)) rfl rfl (by decide) leB_row).setS 5 [.pl (.int .i64 (.lit 512)),.pl (.int .i64 c),.pl (.arr .u32 8 q),.pl (.arr .u64 8 hh),r] rfl (slf5 hr)
 have m1:∀ a:Nat,G.m a≤(nsub n (na (imin (Int.ofNat 64) (Int.ofNat n))))→cm .geq (Int.ofNat (G.s (nsub n (na (imin (Int.ofNat 64) (Int.ofNat n)))) (G.m a))) 128=true→G.m a+128≤(nsub n (na (imin (Int.ofNat 64) (Int.ofNat n)))):=fun a ha h=>by
  rw [hcm] at h
  have h:=geq128_t.1 h
  rw [gs] at h
  omega
 have m2:∀ a:Nat,G.m a≤(nsub n (na (imin (Int.ofNat 64) (Int.ofNat n))))→cm .geq (Int.ofNat (G.s (nsub n (na (imin (Int.ofNat 64) (Int.ofNat n)))) (G.m a))) 128=false→a=NB:=fun a ha h=>by
  rw [hcm] at h
  have h:=geq128_f.1 h
  rw [gs,gm] at h
  rw [gm] at ha
  omega
 have m4:(nsub n (na (imin (Int.ofNat 64) (Int.ofNat n))))=G.s (nsub n (na (imin (Int.ofNat 64) (Int.ofNat n)))) (G.m 0):=by rw [gs,gm];rfl
 have m6:∀ a:Nat,nsub (G.s (nsub n (na (imin (Int.ofNat 64) (Int.ofNat n)))) (G.m a)) 128=G.s (nsub n (na (imin (Int.ofNat 64) (Int.ofNat n)))) (G.m (a+1)):=fun a=>by rw [nsub_eq (G.s _ _) 128,gs,gs,gm,gm];omega
 have m7:∀ a:Nat,G.m a+128≤(nsub n (na (imin (Int.ofNat 64) (Int.ofNat n))))→Upto 128 (G.s (nsub n (na (imin (Int.ofNat 64) (Int.ofNat n)))) (G.m a)):=fun a h=>⟨by decide,by rw [gs];omega⟩
 have m8:∀ a:Nat,G.m a+128≤(nsub n (na (imin (Int.ofNat 64) (Int.ofNat n))))→G.m (a+1)≤(nsub n (na (imin (Int.ofNat 64) (Int.ofNat n)))):=fun a h=>by rw [gm] at h ⊢;omega
 have m9:∀ a:Nat,F.block (G.chain (F.block h (joinF 64 g f)) (fun j=>f ((na (imin (Int.ofNat 64) (Int.ofNat n)))+j)) a) (fun j=>(fun j=>f ((na (imin (Int.ofNat 64) (Int.ofNat n)))+j)) (G.m a+j))=G.chain (F.block h (joinF 64 g f)) (fun j=>f ((na (imin (Int.ofNat 64) (Int.ofNat n)))+j)) (a+1):=fun a=>chain_s hG (F.block h (joinF 64 g f)) (fun j=>f ((na (imin (Int.ofNat 64) (Int.ofNat n)))+j)) a (fun j=>by rw [gm])
 have m10:∀ a:Nat,G.m a+128≤(nsub n (na (imin (Int.ofNat 64) (Int.ofNat n))))→(nsub n (na (imin (Int.ofNat 64) (Int.ofNat n)))) - G.m (a+1)<(nsub n (na (imin (Int.ofNat 64) (Int.ofNat n)))) - G.m a:=fun a h=>by rw [gm,gm] at *;omega
 have m11:=chain_0 hG (F.block h (joinF 64 g f)) (fun j=>f ((na (imin (Int.ofNat 64) (Int.ofNat n)))+j))
 have m12:G.m NB≤(nsub n (na (imin (Int.ofNat 64) (Int.ofNat n)))):=by rw [gm];omega
 have m0:G.m 0≤(nsub n (na (imin (Int.ofNat 64) (Int.ofNat n)))):=by rw [gm];exact Nat.zero_le _
 have m14:∀ a i,(fun j=>f ((na (imin (Int.ofNat 64) (Int.ofNat n)))+j)) (G.m a+(128+i))=(fun j=>f ((na (imin (Int.ofNat 64) (Int.ofNat n)))+j)) (G.m (a+1)+i):=fun a i=>congrArg (fun j=>f ((na (imin (Int.ofNat 64) (Int.ofNat n)))+j)) (by rw [gm,gm];omega)
 have m15:∀ i,(fun j=>f ((na (imin (Int.ofNat 64) (Int.ofNat n)))+j)) i=(fun j=>f ((na (imin (Int.ofNat 64) (Int.ofNat n)))+j)) (G.m 0+i):=fun i=>congrArg (fun j=>f ((na (imin (Int.ofNat 64) (Int.ofNat n)))+j)) (by rw [gm];omega)
 have m13:RoomFor (G.s (nsub n (na (imin (Int.ofNat 64) (Int.ofNat n)))) (G.m NB)) 1:=⟨by have h9:=gm NB;rw [gs];omega⟩
 cbv
 refine ⟨?_⟩
 cbv
 refine ⟨fun hc=>?_,fun hc=>?_⟩
 ·have h0:=t0 hc
  cbv
  exact hQ0 h0 _
 have hbig:=t9 hc
 clear hc
 cbv
 refine ⟨w1,w2,w1,fun hc=>?_,fun hc=>?_⟩
 ·have hlt:=t1 hc
  cbv
  exact hQ1 hlt _
 ·have hge:=t2 hc
  have hkk:=hk2 hge
  have w5:128≤(nadd 64 (na (imin (Int.ofNat 64) (Int.ofNat n)))):=by omega
  cbv
  refine ⟨hm _ _ (.ls 7 2 1 (.sym (nadd 64 (na (imin (Int.ofNat 64) (Int.ofNat n)))))) h (nadd 64 (na (imin (Int.ofNat 64) (Int.ofNat n)))) (joinF 64 g f) w5 (((hB _ h (.ls 7 2 1 (.sym (nadd 64 (na (imin (Int.ofNat 64) (Int.ofNat n)))))) rfl).app [.none] ⟨trivial,trivial⟩).pushS _ (by cbv)) _ (fun sl w'=>?_)⟩
  cbv
  refine ⟨⟨by decide,Int.natCast_nonneg _⟩,⟨⟨0,m0⟩,?_⟩,fun a hwf=>?_⟩
  ·cbv
   exact ⟨⟨⟨m4,fun i _=>m15 i⟩,trivial⟩,(hB (.sym (bi .add .i64 64 (Int.ofNat n))) (F.block h (joinF 64 g f)) (.ls 7 2 1 (.lit 0)) rfl).leE 5 _ (.fix [.pl (.int .i64 (.lit 512)),.pl (.int .i64 (.sym (bi .add .i64 64 (Int.ofNat n)))),.pl (.arr .u32 8 q),.pl (.arr .u64 8 (G.chain (F.block h (joinF 64 g f)) (fun j=>f ((na (imin (Int.ofNat 64) (Int.ofNat n)))+j)) 0)),.ls 7 2 1 (.lit 0)]) _ rfl rfl ⟨⟨⟨rfl,rfl⟩,⟨rfl,rfl⟩,⟨rfl,rfl,fun _ _=>rfl⟩,⟨rfl,rfl,fun i _=>congrFun m11.symm i⟩,⟨rfl,rfl,rfl,rfl⟩,trivial⟩,rfl,rfl,rfl,rfl,rfl,trivial⟩⟩
  ·clear hwf
   have ha:G.m a.1≤(nsub n (na (imin (Int.ofNat 64) (Int.ofNat n)))):=a.2
   cbv
   refine ⟨fun hc=>?_,fun hc=>?_⟩
   ·have hlt:=m1 a.1 ha hc
    have m6:=m6 a.1
    cbv
    refine ⟨m7 a.1 hlt,⟨hl _ _ _ (G.chain (F.block h (joinF 64 g f)) (fun j=>f ((na (imin (Int.ofNat 64) (Int.ofNat n)))+j)) a.1) _ (fun j=>(fun j=>f ((na (imin (Int.ofNat 64) (Int.ofNat n)))+j)) (G.m a.1+j)) ((hB _ _ (.ls 7 2 1 (.lit 0)) rfl).pushS _ (by cbv)) _ (fun sl w'=>?_)⟩⟩
    cbv
    refine ⟨m7 a.1 hlt,⟨a.1+1,m8 a.1 hlt⟩,?_,m10 a.1 hlt⟩
    cbv
    exact ⟨⟨⟨m6,fun i _=>m14 a.1 i⟩,trivial⟩,(hB (.sym (bi .add .i64 64 (Int.ofNat n))) (F.block h (joinF 64 g f)) (.ls 7 2 1 (.lit 0)) rfl).leE 5 _ (.fix [.pl (.int .i64 (.lit 512)),.pl (.int .i64 (.sym (bi .add .i64 64 (Int.ofNat n)))),.pl (.arr .u32 8 q),.pl (.arr .u64 8 (G.chain (F.block h (joinF 64 g f)) (fun j=>f ((na (imin (Int.ofNat 64) (Int.ofNat n)))+j)) (a.1+1))),.ls 7 2 1 (.lit 0)]) _ rfl rfl ⟨⟨⟨rfl,rfl⟩,⟨rfl,rfl⟩,⟨rfl,rfl,fun _ _=>rfl⟩,⟨rfl,rfl,fun i _=>congrFun (m9 a.1) i⟩,⟨rfl,rfl,rfl,rfl⟩,trivial⟩,rfl,rfl,rfl,rfl,rfl,trivial⟩⟩
   ·have ea:a=⟨NB,m12⟩:=Subtype.ext (m2 a.1 ha hc)
    subst ea
    clear hc ha
    cbv
    exact ⟨m13,hQ2 hbig hge _⟩
end Go.Proofs.YtjbimeigkklcmaaDoor

/-
  Write: a prefix and a message.
-/
namespace Go.Proofs.YtjbimeigkklcmaaDoor
open Go Go.Proofs Sx Sy
set_option maxRecDepth 100000
set_option maxHeartbeats 8000000
theorem write_p (BG:Nat→AV) (A:Ops) (hA:A=realOps) (F:ShF) (T:Int→Int→Int→Int) (t R s:Nat→Int) (hF:F=shF realOps T t R) (ht:∀ i,i<12→0≤t i∧t i≤64) (C:List (FuncId × Contract)) (kt:Nat) (G:ShG) (hG:G=shG F) (LL:List (Nat × (HS→HAnn))) (fr:List (List HV)) (b0 b1 b2 b4 b5 b6 b8:HB) (q h:Nat→Int) (f:Nat→Int) (Q:Ex→HS→Prop)
  (hQ:∀ sl,Q .normal { fr:=fr,sl:=sl,bl:=[b0,b1,b2,.fix [.pl (.arr .u8 32 f)],b4,b5,b6,dgB (.lit 32) q h (.ls 9 0 1 (.lit 32)),b8,.row 0 .u8 1 (.lit 32) (fun j=>f (0+j))] }) :
  wpH (envS BG A F T t R s C (loopsG kt G ++ LL)) (sh_write sh_block.1 (sh_mix sh_load.1 (sh_compress sh_cB0.1 sh_cZ.1).1).1).1 { fr:=fr,sl:=(List.append [.at (.ptr 7 0 (.lit 0)),.at (.sl 3 0 1 (.lit 0) (.lit 32))] (jn 99)),bl:=[b0,b1,b2,.fix [.pl (.arr .u8 32 f)],b4,b5,b6,dgB (.lit 0) q h .nil,b8] } Q:=by
 generalize (sh_mix sh_load.1 (sh_compress sh_cB0.1 sh_cZ.1).1).1=cm'
 obtain ⟨bi,cm,un,cv,na,eq⟩:=A
 have hbi:bi=realBin:=congrArg Ops.bin hA
 have hcm:cm=realCmp:=congrArg Ops.cmp hA
 have hun:un=realUn:=congrArg Ops.un hA
 have hna:na=Int.toNat:=congrArg Ops.nat hA
 have hcv:cv=fun k n=>k.wrap n:=congrArg Ops.cnv hA
 clear hA
 cbv
 refine ⟨?_⟩
 cbv
 exact ⟨⟨by decide⟩,hQ _⟩
theorem write_n (BG:Nat→AV) (A:Ops) (hA:A=realOps) (F:ShF) (T:Int→Int→Int→Int) (t R s:Nat→Int) (hF:F=shF realOps T t R) (ht:∀ i,i<12→0≤t i∧t i≤64) (C:List (FuncId × Contract)) (G:ShG) (hG:G=shG F) (LL:List (Nat × (HS→HAnn))) (fr:List (List HV)) (b0 b1 b2 b3 b4 b5 b6 b8:HB) (q h g:Nat→Int) (n:Nat) (f:Nat→Int) (CN:Int) (hCN:CN=realBin .add .i64 32 (Int.ofNat n)) (kk:Nat) (hkk:kk=Int.toNat (imin (Int.ofNat 96) (Int.ofNat n))) (NB:Nat) (hNB:NB=nsub n kk / 128) (hok:OKs [b0,b1,b2,b3,b4,b5,b6,dgB (.lit 32) q h (.ls 9 0 1 (.lit 32)),b8,.row 0 .u8 1 (.lit 32) g] fr) (Q:Ex→HS→Prop)
  (hQ0:2305843009213693919<n→∀ sl,Q .ret { fr:=fr,sl:=sl,bl:=[b0,b1,b2,b3,b4,b5,b6,dgB (.lit 32) q h (.ls 9 0 1 (.lit 32)),b8,.row 0 .u8 1 (.lit 32) g] })
  (hQ1:n<96→∀ sl,Q .ret { fr:=fr,sl:=sl,bl:=[b0,b1,b2,b3,b4,b5,b6,dgB (.sym CN) q h (.ls 9 1 1 (.sym (nadd 32 kk))),b8,.row 1 .u8 1 (.sym (nadd 32 kk)) (joinF 32 g f),.none] })
  (hQ2:¬ 2305843009213693919<n→96≤n→∀ sl,Q .normal { fr:=fr,sl:=sl,bl:=[b0,b1,b2,b3,b4,b5,b6,dgB (.sym CN) q (G.chain (F.block h (joinF 32 g f)) (fun j=>f (kk+j)) NB) (.ls 9 2 1 (.sym (G.s (nsub n kk) (G.m NB)))),b8,.row 2 .u8 1 (.sym (G.s (nsub n kk) (G.m NB))) (joinF 0 (joinF 32 g f) (fun j=>(fun j=>f (kk+j)) (G.m NB+j))),.none] }) :
  wpH (envS BG A F T t R s C (loopsG 10 G ++ LL)) (sh_write sh_block.1 (sh_mix sh_load.1 (sh_compress sh_cB0.1 sh_cZ.1).1).1).1 { fr:=fr,sl:=(List.append [.at (.ptr 7 0 (.lit 0)),.at (.xsl .u8 1 (.sym n) f)] (jn 99)),bl:=[b0,b1,b2,b3,b4,b5,b6,dgB (.lit 32) q h (.ls 9 0 1 (.lit 32)),b8,.row 0 .u8 1 (.lit 32) g] } Q:=by
 have hm:=fun fr c r h len f hl=>mix_v BG A hA F T t R s hF ht C (loopsG 10 G ++ LL) fr b0 b1 b2 b3 b4 b5 b6 b8 .none c q h r 1 len f hl
 have hl:=fun fr c r h row f=>mix_k BG A hA F T t R s hF ht C (loopsG 10 G ++ LL) fr b0 b1 b2 b3 b4 b5 b6 b8 row c q h r f
 generalize (sh_mix sh_load.1 (sh_compress sh_cB0.1 sh_cZ.1).1).1=cm' at hm hl ⊢
 obtain ⟨bi,cm,un,cv,na,eq⟩:=A
 have hbi:bi=realBin:=congrArg Ops.bin hA
 have hcm:cm=realCmp:=congrArg Ops.cmp hA
 have hun:un=realUn:=congrArg Ops.un hA
 have hna:na=Int.toNat:=congrArg Ops.nat hA
 have hcv:cv=fun k n=>k.wrap n:=congrArg Ops.cnv hA
 clear hA
 subst hCN
 rw [show realBin=bi from hbi.symm] at hQ1 hQ2
 have hkk2:kk=(na (imin (Int.ofNat 96) (Int.ofNat n))):=by rw [hkk,hna]
 subst hkk2
 clear hkk
 have hmn:=imin_eq (Int.ofNat 96) (Int.ofNat n)
 have hk1:n<96→(na (imin (Int.ofNat 96) (Int.ofNat n)))=n:=fun h=>by rw [hmn,if_pos (by simp only [Int.ofNat_eq_natCast];omega),hna];rfl
 have hk2:96≤n→(na (imin (Int.ofNat 96) (Int.ofNat n)))=96:=fun h=>by rw [hmn,if_neg (by simp only [Int.ofNat_eq_natCast];omega),hna];rfl
 have hk3:(na (imin (Int.ofNat 96) (Int.ofNat n)))≤96∧(na (imin (Int.ofNat 96) (Int.ofNat n)))≤n:=by
  rcases Nat.lt_or_ge n 96 with h | h
  ·rw [hk1 h];omega
  ·rw [hk2 h];omega
 have hk4:imin (Int.ofNat 96) (Int.ofNat n)=Int.ofNat (na (imin (Int.ofNat 96) (Int.ofNat n))):=by
  rw [hmn,hna]
  split
  ·rfl
  ·rfl
 have w1:Upto (imin (Int.ofNat 96) (Int.ofNat n)) n:=by rw [hk4];exact upt hk3.2
 have w2:RoomFor (nadd 32 (na (imin (Int.ofNat 96) (Int.ofNat n)))) 1:=⟨by rw [nadd_eq];omega⟩
 have w3:(nadd 32 (na (imin (Int.ofNat 96) (Int.ofNat n))))=32+(na (imin (Int.ofNat 96) (Int.ofNat n))):=nadd_eq _ _
 have w4:(nsub n (na (imin (Int.ofNat 96) (Int.ofNat n))))=n - (na (imin (Int.ofNat 96) (Int.ofNat n))):=nsub_eq _ _
 have gm:=g_m hG
 have gs:=g_s hG
 have t0:cm .gtr (Int.ofNat n) 2305843009213693919=true→2305843009213693919<n:=fun h=>by
  rw [hcm] at h
  simp only [realCmp,decide_eq_true_eq,Int.ofNat_eq_natCast] at h
  omega
 have t9:cm .gtr (Int.ofNat n) 2305843009213693919=false→¬ 2305843009213693919<n:=fun h=>by
  rw [hcm] at h
  simp only [realCmp,decide_eq_false_iff_not,Int.ofNat_eq_natCast] at h
  omega
 have t1:cm .lss (Int.ofNat (nadd 32 (na (imin (Int.ofNat 96) (Int.ofNat n))))) 128=true→n<96:=fun h=>by
  rw [hcm] at h
  have h:=lss128_t.1 h
  rcases Nat.lt_or_ge n 96 with h2 | h2
  ·exact h2
  ·have:=hk2 h2;omega
 have t2:cm .lss (Int.ofNat (nadd 32 (na (imin (Int.ofNat 96) (Int.ofNat n))))) 128=false→96≤n:=fun h=>by
  rw [hcm] at h
  have h:=lss128_f.1 h
  rcases Nat.lt_or_ge n 96 with h2 | h2
  ·have:=hk1 h2;omega
  ·exact h2
 have hB:∀ c hh r,slfA [b0,b1,b2,b3,b4,b5,b6,.fix [.pl (.int .i64 (.lit 512)),.pl (.int .i64 c),.pl (.arr .u32 8 q),.pl (.arr .u64 8 hh),r],b8,.row 1 .u8 1 (.sym (nadd 32 (na (imin (Int.ofNat 96) (Int.ofNat n))))) (joinF 32 g f)] r=true→OKs [b0,b1,b2,b3,b4,b5,b6,.fix [.pl (.int .i64 (.lit 512)),.pl (.int .i64 c),.pl (.arr .u32 8 q),.pl (.arr .u64 8 hh),r],b8,.row 1 .u8 1 (.sym (nadd 32 (na (imin (Int.ofNat 96) (Int.ofNat n))))) (joinF 32 g f)] fr:=fun c hh r hr =>
  (hok.setBump 9 0 1 (.row 1 .u8 1 (.sym (nadd 32 (na (imin (Int.ofNat 96) (Int.ofNat n))))) (joinF 32 g f)) rfl rfl (by decide) leB_row).setS 7 [.pl (.int .i64 (.lit 512)),.pl (.int .i64 c),.pl (.arr .u32 8 q),.pl (.arr .u64 8 hh),r] rfl (slf5 hr)
 have m1:∀ a:Nat,G.m a≤(nsub n (na (imin (Int.ofNat 96) (Int.ofNat n))))→cm .geq (Int.ofNat (G.s (nsub n (na (imin (Int.ofNat 96) (Int.ofNat n)))) (G.m a))) 128=true→G.m a+128≤(nsub n (na (imin (Int.ofNat 96) (Int.ofNat n)))):=fun a ha h=>by
  rw [hcm] at h
  have h:=geq128_t.1 h
  rw [gs] at h
  omega
 have m2:∀ a:Nat,G.m a≤(nsub n (na (imin (Int.ofNat 96) (Int.ofNat n))))→cm .geq (Int.ofNat (G.s (nsub n (na (imin (Int.ofNat 96) (Int.ofNat n)))) (G.m a))) 128=false→a=NB:=fun a ha h=>by
  rw [hcm] at h
  have h:=geq128_f.1 h
  rw [gs,gm] at h
  rw [gm] at ha
  omega
 have m4:(nsub n (na (imin (Int.ofNat 96) (Int.ofNat n))))=G.s (nsub n (na (imin (Int.ofNat 96) (Int.ofNat n)))) (G.m 0):=by rw [gs,gm];rfl
 have m6:∀ a:Nat,nsub (G.s (nsub n (na (imin (Int.ofNat 96) (Int.ofNat n)))) (G.m a)) 128=G.s (nsub n (na (imin (Int.ofNat 96) (Int.ofNat n)))) (G.m (a+1)):=fun a=>by rw [nsub_eq (G.s _ _) 128,gs,gs,gm,gm];omega
 have m7:∀ a:Nat,G.m a+128≤(nsub n (na (imin (Int.ofNat 96) (Int.ofNat n))))→Upto 128 (G.s (nsub n (na (imin (Int.ofNat 96) (Int.ofNat n)))) (G.m a)):=fun a h=>⟨by decide,by rw [gs];omega⟩
 have m8:∀ a:Nat,G.m a+128≤(nsub n (na (imin (Int.ofNat 96) (Int.ofNat n))))→G.m (a+1)≤(nsub n (na (imin (Int.ofNat 96) (Int.ofNat n)))):=fun a h=>by rw [gm] at h ⊢;omega
 have m9:∀ a:Nat,F.block (G.chain (F.block h (joinF 32 g f)) (fun j=>f ((na (imin (Int.ofNat 96) (Int.ofNat n)))+j)) a) (fun j=>(fun j=>f ((na (imin (Int.ofNat 96) (Int.ofNat n)))+j)) (G.m a+j))=G.chain (F.block h (joinF 32 g f)) (fun j=>f ((na (imin (Int.ofNat 96) (Int.ofNat n)))+j)) (a+1):=fun a=>chain_s hG (F.block h (joinF 32 g f)) (fun j=>f ((na (imin (Int.ofNat 96) (Int.ofNat n)))+j)) a (fun j=>by rw [gm])
 have m10:∀ a:Nat,G.m a+128≤(nsub n (na (imin (Int.ofNat 96) (Int.ofNat n))))→(nsub n (na (imin (Int.ofNat 96) (Int.ofNat n)))) - G.m (a+1)<(nsub n (na (imin (Int.ofNat 96) (Int.ofNat n)))) - G.m a:=fun a h=>by rw [gm,gm] at *;omega
 have m11:=chain_0 hG (F.block h (joinF 32 g f)) (fun j=>f ((na (imin (Int.ofNat 96) (Int.ofNat n)))+j))
 have m12:G.m NB≤(nsub n (na (imin (Int.ofNat 96) (Int.ofNat n)))):=by rw [gm];omega
 have m0:G.m 0≤(nsub n (na (imin (Int.ofNat 96) (Int.ofNat n)))):=by rw [gm];exact Nat.zero_le _
 have m14:∀ a i,(fun j=>f ((na (imin (Int.ofNat 96) (Int.ofNat n)))+j)) (G.m a+(128+i))=(fun j=>f ((na (imin (Int.ofNat 96) (Int.ofNat n)))+j)) (G.m (a+1)+i):=fun a i=>congrArg (fun j=>f ((na (imin (Int.ofNat 96) (Int.ofNat n)))+j)) (by rw [gm,gm];omega)
 have m15:∀ i,(fun j=>f ((na (imin (Int.ofNat 96) (Int.ofNat n)))+j)) i=(fun j=>f ((na (imin (Int.ofNat 96) (Int.ofNat n)))+j)) (G.m 0+i):=fun i=>congrArg (fun j=>f ((na (imin (Int.ofNat 96) (Int.ofNat n)))+j)) (by rw [gm];omega)
 have m13:RoomFor (G.s (nsub n (na (imin (Int.ofNat 96) (Int.ofNat n)))) (G.m NB)) 1:=⟨by have h9:=gm NB;rw [gs];omega⟩
 cbv
 refine ⟨?_⟩
 cbv
 refine ⟨fun hc=>?_,fun hc=>?_⟩
 ·have h0:=t0 hc
  cbv
  exact hQ0 h0 _
 have hbig:=t9 hc
 clear hc
 cbv
 refine ⟨w1,w2,w1,fun hc=>?_,fun hc=>?_⟩
 ·have hlt:=t1 hc
  cbv
  exact hQ1 hlt _
 ·have hge:=t2 hc
  have hkk:=hk2 hge
  have w5:128≤(nadd 32 (na (imin (Int.ofNat 96) (Int.ofNat n)))):=by omega
  cbv
  refine ⟨hm _ _ (.ls 9 1 1 (.sym (nadd 32 (na (imin (Int.ofNat 96) (Int.ofNat n)))))) h (nadd 32 (na (imin (Int.ofNat 96) (Int.ofNat n)))) (joinF 32 g f) w5 (((hB _ h (.ls 9 1 1 (.sym (nadd 32 (na (imin (Int.ofNat 96) (Int.ofNat n)))))) rfl).app [.none] ⟨trivial,trivial⟩).pushS _ (by cbv)) _ (fun sl w'=>?_)⟩
  cbv
  refine ⟨⟨by decide,Int.natCast_nonneg _⟩,⟨⟨0,m0⟩,?_⟩,fun a hwf=>?_⟩
  ·cbv
   exact ⟨⟨⟨m4,fun i _=>m15 i⟩,trivial⟩,(hB (.sym (bi .add .i64 32 (Int.ofNat n))) (F.block h (joinF 32 g f)) (.ls 9 1 1 (.lit 0)) rfl).leE 7 _ (.fix [.pl (.int .i64 (.lit 512)),.pl (.int .i64 (.sym (bi .add .i64 32 (Int.ofNat n)))),.pl (.arr .u32 8 q),.pl (.arr .u64 8 (G.chain (F.block h (joinF 32 g f)) (fun j=>f ((na (imin (Int.ofNat 96) (Int.ofNat n)))+j)) 0)),.ls 9 1 1 (.lit 0)]) _ rfl rfl ⟨⟨⟨rfl,rfl⟩,⟨rfl,rfl⟩,⟨rfl,rfl,fun _ _=>rfl⟩,⟨rfl,rfl,fun i _=>congrFun m11.symm i⟩,⟨rfl,rfl,rfl,rfl⟩,trivial⟩,rfl,rfl,rfl,rfl,rfl,trivial⟩⟩
  ·clear hwf
   have ha:G.m a.1≤(nsub n (na (imin (Int.ofNat 96) (Int.ofNat n)))):=a.2
   cbv
   refine ⟨fun hc=>?_,fun hc=>?_⟩
   ·have hlt:=m1 a.1 ha hc
    have m6:=m6 a.1
    cbv
    refine ⟨m7 a.1 hlt,⟨hl _ _ _ (G.chain (F.block h (joinF 32 g f)) (fun j=>f ((na (imin (Int.ofNat 96) (Int.ofNat n)))+j)) a.1) _ (fun j=>(fun j=>f ((na (imin (Int.ofNat 96) (Int.ofNat n)))+j)) (G.m a.1+j)) ((hB _ _ (.ls 9 1 1 (.lit 0)) rfl).pushS _ (by cbv)) _ (fun sl w'=>?_)⟩⟩
    cbv
    refine ⟨m7 a.1 hlt,⟨a.1+1,m8 a.1 hlt⟩,?_,m10 a.1 hlt⟩
    cbv
    exact ⟨⟨⟨m6,fun i _=>m14 a.1 i⟩,trivial⟩,(hB (.sym (bi .add .i64 32 (Int.ofNat n))) (F.block h (joinF 32 g f)) (.ls 9 1 1 (.lit 0)) rfl).leE 7 _ (.fix [.pl (.int .i64 (.lit 512)),.pl (.int .i64 (.sym (bi .add .i64 32 (Int.ofNat n)))),.pl (.arr .u32 8 q),.pl (.arr .u64 8 (G.chain (F.block h (joinF 32 g f)) (fun j=>f ((na (imin (Int.ofNat 96) (Int.ofNat n)))+j)) (a.1+1))),.ls 9 1 1 (.lit 0)]) _ rfl rfl ⟨⟨⟨rfl,rfl⟩,⟨rfl,rfl⟩,⟨rfl,rfl,fun _ _=>rfl⟩,⟨rfl,rfl,fun i _=>congrFun (m9 a.1) i⟩,⟨rfl,rfl,rfl,rfl⟩,trivial⟩,rfl,rfl,rfl,rfl,rfl,trivial⟩⟩
   ·have ea:a=⟨NB,m12⟩:=Subtype.ext (m2 a.1 ha hc)
    subst ea
    clear hc ha
    cbv
    exact ⟨m13,hQ2 hbig hge _⟩
end Go.Proofs.YtjbimeigkklcmaaDoor

