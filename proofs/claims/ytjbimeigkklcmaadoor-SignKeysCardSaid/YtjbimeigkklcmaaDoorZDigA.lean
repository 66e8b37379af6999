/-
  The digits of a number in the non-adjacent form, as package scalar finds them.
-/
import Derived.Test.YtjbimeigkklcmaaDoorZScalA
import Derived.Test.YtjbimeigkklcmaaDoorZMA
set_option linter.unusedVariables false
set_option linter.unusedSimpArgs false
namespace Go.Proofs.YtjbimeigkklcmaaDoor
open Go Go.Proofs Sx
set_option maxRecDepth 100000
set_option maxHeartbeats 4000000
def sc_sdigits:{ c:SC // strip (body Tryd.f58)=c }:=⟨_,by cbv⟩
theorem walk_sdigits (A:Ops) (hA:A=realOps) (G:Nat→AV) (a:Nat→Int) (w:Int) (ha:IsBytes 32 a) (NU:(Nat→Int)→Nat→Int) (hNU:NU=fun b=>numW b 32) (P:(Nat→Int)→(Nat→Int)→Nat→Int) (hP:P=plusW) (M:(Nat→Int)→(Nat→Int)→Nat→Int) (hM:M=minusW) (B:(Nat→Int)→(Nat→Int)→Bool) (hB:B=ltW) (D:(Nat→Int)→Int→Nat→Int) (hD:D=digF) (L:Int→Nat) (hL:L=digL) (F:Int→Int) (hF:F=digE) (YN:Nat→Nat→Int) (hYN:YN=nafW w.toNat (num 32 a)) (HV:(Nat→Int)→Nat→Nat→Int) (hHV:HV=halvF q64)
  (I:{ i:Nat // i≤257 }→St) (hI:I=fun i=>slots 86 [(1,.int .i64 (.sym w)),(6,.own (.arr .u64 5 (YN i.1))),(7,.osl .i8 1 (.lit 257) (fun k=>if k<i.1 then D a w k else 0)),(21,.int .i64 (.lit 257)),(22,.int .i64 (.sym (i.1:Int)))])
  (J:St→{ j:Nat // j≤4 }→St) (hJ:J=fun s j=>slots 86 (keepS s [1,7,21,22] ++ [(6,.own (.arr .u64 5 (HV (arrIn s 6) j.1))),(64,.int .i64 (.sym (j.1:Int)))])) :
  Walk (mkEnv A tab.1 G [(24,loadC NU),(69,lim2C P),(68,lMinusC M B)] [(6,.inv { i:Nat // i≤257 } I fun i=>257 - i.1),(16,.invd { j:Nat // j≤4 } J fun j=>4 - j.1)]) sc_sdigits.1 86 [.tmp 4,.tmp 5] [.arr .u8 32 a,.int .i64 (.sym w)] (.otup .i8 1 (.sym (L w)) (D a w) [.int .i64 (.sym (F w))]):=by
 obtain ⟨bi,cm,un,cv,na,eq⟩:=A
 have hbi:bi=realBin:=congrArg Ops.bin hA
 have hcm:cm=realCmp:=congrArg Ops.cmp hA
 have hna:na=Int.toNat:=congrArg Ops.nat hA
 have hcv:cv=fun k n=>k.wrap n:=congrArg Ops.cnv hA
 have heq:eq=realEqA:=congrArg Ops.eqA hA
 have hun:un=realUn:=congrArg Ops.un hA
 clear hA
 have hN:=num_q256 ha
 refine ⟨?_⟩
 cbv
 refine ⟨fun h=>?_,fun h=>?_⟩
 ·cbv
  have hd:digW w=false:=by
   rw [hcm] at h
   have h2:=(digW_look w).symm.trans h
   simpa using h2
  refine ⟨?_,?_,trivial⟩
  ·show L w=0
   rw [hL,digL,hd];rfl
  ·show 1=F w
   rw [hF,digE,hd];rfl
 ·have hd:digW w=true:=by
   rw [hcm] at h
   have h2:=(digW_look w).symm.trans h
   simpa using h2
  obtain ⟨hW,hw⟩:=digW_wid hd
  have hw':w=Int.ofNat w.toNat:=hw
  have hw8:2≤w∧w≤8:=by have:=hW.h;omega
  have tp:=two_pows hW
  clear h hw
  cbv
  refine ⟨⟨by decide⟩,⟨by decide⟩,⟨by decide⟩,⟨⟨0,by decide⟩,?_⟩,fun i _=>?_⟩
  ·subst hI
   cbv
   refine ⟨fun k hk=>?_,fun k _=>(if_neg (Nat.not_lt_zero k)).symm,rfl,rfl,trivial⟩
   show NU a k=YN 0 k
   rw [hNU,hYN]
   rfl
  ·subst hI
   obtain ⟨i,hi⟩:=i
   cbv
   refine ⟨fun h=>?_,fun h=>?_⟩
   ·cbv
    have hlti:i<257:=by rw [hcm] at h;have hh:=lssT h;simp only [Int.ofNat_eq_natCast] at hh;omega
    have qi:na (Int.ofNat i)=i:=by rw [hna];rfl
    have q4:bi .add .i64 (Int.ofNat i) 1=Int.ofNat (i+1):=by rw [hbi,add_i64 (by simp only [Int.ofNat_eq_natCast];omega)];rfl
    have hm2:bi .and .u64 (YN i 0) 1=nafN w.toNat (num 32 a) i % 2:=by rw [hbi,hYN];exact low_bit _
    have hs1:bi .shl .u64 1 w=2 ^ w.toNat:=by rw [hbi];exact shl_one (.inl rfl) hw' (by omega)
    have hs2:bi .shl .i64 1 w=2 ^ w.toNat:=by rw [hbi];exact shl_one (.inr rfl) hw' (by omega)
    have hs3:bi .shl .i64 1 (bi .sub .i64 w 1)=2 ^ (w.toNat - 1):=by
     rw [hbi]
     exact shl_one (.inr rfl) (n:=w.toNat - 1) (by rw [sub_i64 (by omega)];show w - 1=((w.toNat - 1:Nat):Int);omega) (by omega)
    have hs4:bi .sub .u64 (2 ^ w.toNat) 1=2 ^ w.toNat - 1:=by rw [hbi,sub_u64];omega
    have hd0:cv .i64 (bi .and .u64 (YN i 0) (bi .sub .u64 (bi .shl .u64 1 w) 1))=nafN w.toNat (num 32 a) i % 2 ^ w.toNat:=by
     rw [hs1,hs4,hbi,hYN,hcv]
     show IntKind.wrap .i64 (realBin .and .u64 (dgt q64 (nafN w.toNat (num 32 a) i) 0) (2 ^ w.toNat - 1))=_
     rw [low_bits hW]
     have:=Int.emod_lt_of_pos (nafN w.toNat (num 32 a) i) (show (0:Int)<2 ^ w.toNat by omega)
     have:=Int.emod_nonneg (nafN w.toNat (num 32 a) i) (show (2:Int) ^ w.toNat≠0 by omega)
     exact wrap_i64 (by omega)
    have hr1:=Int.emod_lt_of_pos (nafN w.toNat (num 32 a) i) (show (0:Int)<2 ^ w.toNat by omega)
    have hr0:=Int.emod_nonneg (nafN w.toNat (num 32 a) i) (show (2:Int) ^ w.toNat≠0 by omega)
    refine ⟨fun g1=>?_,fun g1=>?_⟩
    ·cbv
     have hodd:nafN w.toNat (num 32 a) i % 2=1:=by rw [hcm] at g1;exact hm2.symm.trans (eqlT g1)
     refine ⟨⟨by omega⟩,⟨by rw [hbi,sub_i64 (by omega)];omega⟩,fun g2=>?_,fun g2=>?_⟩
     ·cbv
      have hge:2 ^ (w.toNat - 1)≤nafN w.toNat (num 32 a) i % 2 ^ w.toNat:=by
       rw [hcm] at g2
       have:=geqT g2
       rw [hs3] at this
       exact Int.le_trans this (Int.le_of_eq hd0)
      have hz:=naf_high hodd hge
      have hd1:bi .sub .i64 (cv .i64 (bi .and .u64 (YN i 0) (bi .sub .u64 (bi .shl .u64 1 w) 1))) (bi .shl .i64 1 w)=nafD w.toNat (nafN w.toNat (num 32 a) i):=by
       rw [hd0,hs2,hbi,sub_i64 (by omega),hz]
      have dig8:cv .i8 (bi .sub .i64 (cv .i64 (bi .and .u64 (YN i 0) (bi .sub .u64 (bi .shl .u64 1 w) 1))) (bi .shl .i64 1 w))=nafD w.toNat (nafN w.toNat (num 32 a) i):=by
       rw [hd1,hcv]
       exact wrap_i8 (by omega)
      have hneg:cv .u64 (un .neg .i64 (bi .sub .i64 (cv .i64 (bi .and .u64 (YN i 0) (bi .sub .u64 (bi .shl .u64 1 w) 1))) (bi .shl .i64 1 w)))=-nafD w.toNat (nafN w.toNat (num 32 a) i):=by
       rw [hd1,hcv,hun]
       show IntKind.wrap .u64 (IntKind.wrap .i64 (0 - nafD w.toNat (nafN w.toNat (num 32 a) i)))=_
       rw [wrap_i64 (by omega),wrap_u64]
       omega
      have hlf:∀ k,k<257→(if k=na (Int.ofNat i) then cv .i8 (bi .sub .i64 (cv .i64 (bi .and .u64 (YN i 0) (bi .sub .u64 (bi .shl .u64 1 w) 1))) (bi .shl .i64 1 w)) else if k<i then D a w k else 0)=if k<i+1 then D a w k else 0:=by
       intro k _
       rw [qi,dig8]
       by_cases h1:k=i
       ·subst h1
        rw [if_pos rfl,if_pos (by omega),hD]
        rfl
       ·rw [if_neg h1]
        by_cases h2:k<i
        ·rw [if_pos h2,if_pos (by omega)]
        ·rw [if_neg h2,if_neg (by omega)]
      have hfa:∀ k,k<5→(P (YN i) (upd (fun _=>0) 0 (cv .u64 (un .neg .i64 (bi .sub .i64 (cv .i64 (bi .and .u64 (YN i 0) (bi .sub .u64 (bi .shl .u64 1 w) 1))) (bi .shl .i64 1 w)))))) k=dgt q64 (nafN w.toNat (num 32 a) i - nafD w.toNat (nafN w.toNat (num 32 a) i)) k:=by
       intro k hk
       show P (YN i) (oneW (cv .u64 (un .neg .i64 (bi .sub .i64 (cv .i64 (bi .and .u64 (YN i 0) (bi .sub .u64 (bi .shl .u64 1 w) 1))) (bi .shl .i64 1 w))))) k=_
       rw [hneg,hP,hYN]
       exact congrFun (naf_plus hW hN.1 hN.2 i _) k
      have hf5:Is5 (P (YN i) (upd (fun _=>0) 0 (cv .u64 (un .neg .i64 (bi .sub .i64 (cv .i64 (bi .and .u64 (YN i 0) (bi .sub .u64 (bi .shl .u64 1 w) 1))) (bi .shl .i64 1 w)))))):=fun k hk=>by rw [hfa k hk];exact is5_dgt _ k hk
      refine ⟨⟨by omega⟩,(by constructor;(try dsimp only [SI.val,SO.val]);(try simp (disch:=omega) only [hbi,hna,hcv,Int.ofNat_eq_natCast,add_i64,sub_i64,mul_i64,quo_i64,rem_i64,wrap_i64,wrap_u8,Int.toNat_natCast]);omega),⟨by rw [qi];omega⟩,?_⟩
      refine ⟨⟨⟨0,by decide⟩,?_⟩,fun j _=>?_⟩
      ·subst hJ
       cbv
       refine ⟨fun k _=>?_,(by first | exact fun _ _=>rfl | exact ⟨rfl,fun _ _=>rfl⟩),rfl,trivial⟩
       show P (YN i) (upd (fun _=>0) 0 (cv .u64 (un .neg .i64 (bi .sub .i64 (cv .i64 (bi .and .u64 (YN i 0) (bi .sub .u64 (bi .shl .u64 1 w) 1))) (bi .shl .i64 1 w))))) k=HV (P (YN i) (upd (fun _=>0) 0 (cv .u64 (un .neg .i64 (bi .sub .i64 (cv .i64 (bi .and .u64 (YN i 0) (bi .sub .u64 (bi .shl .u64 1 w) 1))) (bi .shl .i64 1 w)))))) 0 k
       rw [hHV,halv_zero]
      ·subst hJ
       obtain ⟨j,hj⟩:=j
       cbv
       have qj:na (Int.ofNat j)=j:=by rw [hna];rfl
       have q5:bi .add .i64 (Int.ofNat j) 1=Int.ofNat (j+1):=by rw [hbi,add_i64 (by simp only [Int.ofNat_eq_natCast];omega)];rfl
       refine ⟨fun g=>?_,fun g=>?_⟩
       ·cbv
        have hltj:j<4:=by rw [hcm] at g;have hh:=lssT g;simp only [Int.ofNat_eq_natCast] at hh;omega
        have e1:bi .add .i64 (Int.ofNat j) 1=Int.ofNat (j+1):=q5
        have e2:na (bi .add .i64 (Int.ofNat j) 1)=j+1:=by rw [e1,hna];rfl
        refine ⟨(by constructor;(try dsimp only [SI.val,SO.val]);(try simp (disch:=omega) only [hbi,hna,hcv,Int.ofNat_eq_natCast,add_i64,sub_i64,mul_i64,quo_i64,rem_i64,wrap_i64,wrap_u8,Int.toNat_natCast]);omega),⟨by rw [qj];omega⟩,⟨by rw [e1];simp only [Int.ofNat_eq_natCast];omega⟩,⟨by rw [e2];omega⟩,(by constructor;(try dsimp only [SI.val,SO.val]);(try simp (disch:=omega) only [hbi,hna,hcv,Int.ofNat_eq_natCast,add_i64,sub_i64,mul_i64,quo_i64,rem_i64,wrap_i64,wrap_u8,Int.toNat_natCast]);omega),⟨by rw [qj];omega⟩,⟨j+1,by omega⟩,?_,by show 4 - (j+1)<4 - j;omega⟩
        cbv
        refine ⟨fun k _=>?_,(by first | exact fun _ _=>rfl | exact ⟨rfl,fun _ _=>rfl⟩),q5,trivial⟩
        show (if k=na (Int.ofNat j) then bi .or .u64 (bi .shr .u64 (HV (P (YN i) (upd (fun _=>0) 0 (cv .u64 (un .neg .i64 (bi .sub .i64 (cv .i64 (bi .and .u64 (YN i 0) (bi .sub .u64 (bi .shl .u64 1 w) 1))) (bi .shl .i64 1 w)))))) j (na (Int.ofNat j))) 1) (bi .shl .u64 (HV (P (YN i) (upd (fun _=>0) 0 (cv .u64 (un .neg .i64 (bi .sub .i64 (cv .i64 (bi .and .u64 (YN i 0) (bi .sub .u64 (bi .shl .u64 1 w) 1))) (bi .shl .i64 1 w)))))) j (na (bi .add .i64 (Int.ofNat j) 1))) 63) else HV (P (YN i) (upd (fun _=>0) 0 (cv .u64 (un .neg .i64 (bi .sub .i64 (cv .i64 (bi .and .u64 (YN i 0) (bi .sub .u64 (bi .shl .u64 1 w) 1))) (bi .shl .i64 1 w)))))) j k)=HV (P (YN i) (upd (fun _=>0) 0 (cv .u64 (un .neg .i64 (bi .sub .i64 (cv .i64 (bi .and .u64 (YN i 0) (bi .sub .u64 (bi .shl .u64 1 w) 1))) (bi .shl .i64 1 w)))))) (j+1) k
        rw [qj,e2]
        exact halv_step hbi hHV hf5 hltj k
       ·cbv
        have heqj:j=4:=by rw [hcm] at g;have hh:=lssF g;simp only [Int.ofNat_eq_natCast] at hh;omega
        subst heqj
        refine ⟨⟨i+1,by omega⟩,?_,by show 257 - (i+1)<257 - i;omega⟩
        cbv
        refine ⟨fun k hk=>?_,fun k hk=>?_,q4,trivial⟩
        ·show (if k=4 then bi .shr .u64 (HV (P (YN i) (upd (fun _=>0) 0 (cv .u64 (un .neg .i64 (bi .sub .i64 (cv .i64 (bi .and .u64 (YN i 0) (bi .sub .u64 (bi .shl .u64 1 w) 1))) (bi .shl .i64 1 w)))))) 4 4) 1 else HV (P (YN i) (upd (fun _=>0) 0 (cv .u64 (un .neg .i64 (bi .sub .i64 (cv .i64 (bi .and .u64 (YN i 0) (bi .sub .u64 (bi .shl .u64 1 w) 1))) (bi .shl .i64 1 w)))))) 4 k)=YN (i+1) k
         exact naf_next' hbi hHV hYN hW hN.1 hN.2 i hfa k hk
        ·exact hlf k hk
     ·cbv
      have hlt:nafN w.toNat (num 32 a) i % 2 ^ w.toNat<2 ^ (w.toNat - 1):=by
       rw [hcm] at g2
       have:=geqF g2
       rw [hs3] at this
       exact Int.lt_of_le_of_lt (Int.le_of_eq hd0.symm) this
      have hz:=naf_low hodd hlt
      have dig8:cv .i8 (cv .i64 (bi .and .u64 (YN i 0) (bi .sub .u64 (bi .shl .u64 1 w) 1)))=nafD w.toNat (nafN w.toNat (num 32 a) i):=by
       rw [hd0,hz,hcv]
       exact wrap_i8 (by omega)
      have hpos:cv .u64 (cv .i64 (bi .and .u64 (YN i 0) (bi .sub .u64 (bi .shl .u64 1 w) 1)))=nafD w.toNat (nafN w.toNat (num 32 a) i):=by
       rw [hd0,hz,hcv]
       show IntKind.wrap .u64 _=_
       rw [wrap_u64]
       omega
      have hlf:∀ k,k<257→(if k=na (Int.ofNat i) then cv .i8 (cv .i64 (bi .and .u64 (YN i 0) (bi .sub .u64 (bi .shl .u64 1 w) 1))) else if k<i then D a w k else 0)=if k<i+1 then D a w k else 0:=by
       intro k _
       rw [qi,dig8]
       by_cases h1:k=i
       ·subst h1
        rw [if_pos rfl,if_pos (by omega),hD]
        rfl
       ·rw [if_neg h1]
        by_cases h2:k<i
        ·rw [if_pos h2,if_pos (by omega)]
        ·rw [if_neg h2,if_neg (by omega)]
      have hfa:∀ k,k<5→(M (YN i) (upd (fun _=>0) 0 (cv .u64 (cv .i64 (bi .and .u64 (YN i 0) (bi .sub .u64 (bi .shl .u64 1 w) 1)))))) k=dgt q64 (nafN w.toNat (num 32 a) i - nafD w.toNat (nafN w.toNat (num 32 a) i)) k:=by
       intro k hk
       show M (YN i) (oneW (cv .u64 (cv .i64 (bi .and .u64 (YN i 0) (bi .sub .u64 (bi .shl .u64 1 w) 1))))) k=_
       rw [hpos,hM,hYN]
       exact congrFun (naf_minus hW hN.1 hN.2 i _) k
      have hf5:Is5 (M (YN i) (upd (fun _=>0) 0 (cv .u64 (cv .i64 (bi .and .u64 (YN i 0) (bi .sub .u64 (bi .shl .u64 1 w) 1)))))):=fun k hk=>by rw [hfa k hk];exact is5_dgt _ k hk
      refine ⟨(by constructor;(try dsimp only [SI.val,SO.val]);(try simp (disch:=omega) only [hbi,hna,hcv,Int.ofNat_eq_natCast,add_i64,sub_i64,mul_i64,quo_i64,rem_i64,wrap_i64,wrap_u8,Int.toNat_natCast]);omega),⟨by rw [qi];omega⟩,?_⟩
      refine ⟨⟨⟨0,by decide⟩,?_⟩,fun j _=>?_⟩
      ·subst hJ
       cbv
       refine ⟨fun k _=>?_,(by first | exact fun _ _=>rfl | exact ⟨rfl,fun _ _=>rfl⟩),rfl,trivial⟩
       show M (YN i) (upd (fun _=>0) 0 (cv .u64 (cv .i64 (bi .and .u64 (YN i 0) (bi .sub .u64 (bi .shl .u64 1 w) 1))))) k=HV (M (YN i) (upd (fun _=>0) 0 (cv .u64 (cv .i64 (bi .and .u64 (YN i 0) (bi .sub .u64 (bi .shl .u64 1 w) 1)))))) 0 k
       rw [hHV,halv_zero]
      ·subst hJ
       obtain ⟨j,hj⟩:=j
       cbv
       have qj:na (Int.ofNat j)=j:=by rw [hna];rfl
       have q5:bi .add .i64 (Int.ofNat j) 1=Int.ofNat (j+1):=by rw [hbi,add_i64 (by simp only [Int.ofNat_eq_natCast];omega)];rfl
       refine ⟨fun g=>?_,fun g=>?_⟩
       ·cbv
        have hltj:j<4:=by rw [hcm] at g;have hh:=lssT g;simp only [Int.ofNat_eq_natCast] at hh;omega
        have e1:bi .add .i64 (Int.ofNat j) 1=Int.ofNat (j+1):=q5
        have e2:na (bi .add .i64 (Int.ofNat j) 1)=j+1:=by rw [e1,hna];rfl
        refine ⟨(by constructor;(try dsimp only [SI.val,SO.val]);(try simp (disch:=omega) only [hbi,hna,hcv,Int.ofNat_eq_natCast,add_i64,sub_i64,mul_i64,quo_i64,rem_i64,wrap_i64,wrap_u8,Int.toNat_natCast]);omega),⟨by rw [qj];omega⟩,⟨by rw [e1];simp only [Int.ofNat_eq_natCast];omega⟩,⟨by rw [e2];omega⟩,(by constructor;(try dsimp only [SI.val,SO.val]);(try simp (disch:=omega) only [hbi,hna,hcv,Int.ofNat_eq_natCast,add_i64,sub_i64,mul_i64,quo_i64,rem_i64,wrap_i64,wrap_u8,Int.toNat_natCast]);omega),⟨by rw [qj];omega⟩,⟨j+1,by omega⟩,?_,by show 4 - (j+1)<4 - j;omega⟩
        cbv
        refine ⟨fun k _=>?_,(by first | exact fun _ _=>rfl | exact ⟨rfl,fun _ _=>rfl⟩),q5,trivial⟩
        show (if k=na (Int.ofNat j) then bi .or .u64 (bi .shr .u64 (HV (M (YN i) (upd (fun _=>0) 0 (cv .u64 (cv .i64 (bi .and .u64 (YN i 0) (bi .sub .u64 (bi .shl .u64 1 w) 1)))))) j (na (Int.ofNat j))) 1) (bi .shl .u64 (HV (M (YN i) (upd (fun _=>0) 0 (cv .u64 (cv .i64 (bi .and .u64 (YN i 0) (bi .sub .u64 (bi .shl .u64 1 w) 1)))))) j (na (bi .add .i64 (Int.ofNat j) 1))) 63) else HV (M (YN i) (upd (fun _=>0) 0 (cv .u64 (cv .i64 (bi .and .u64 (YN i 0) (bi .sub .u64 (bi .shl .u64 1 w) 1)))))) j k)=HV (M (YN i) (upd (fun _=>0) 0 (cv .u64 (cv .i64 (bi .and .u64 (YN i 0) (bi .sub .u64 (bi .shl .u64 1 w) 1)))))) (j+1) k
        rw [qj,e2]
        exact halv_step hbi hHV hf5 hltj k
       ·cbv
        have heqj:j=4:=by rw [hcm] at g;have hh:=lssF g;simp only [Int.ofNat_eq_natCast] at hh;omega
        subst heqj
        refine ⟨⟨i+1,by omega⟩,?_,by show 257 - (i+1)<257 - i;omega⟩
        cbv
        refine ⟨fun k hk=>?_,fun k hk=>?_,q4,trivial⟩
        ·show (if k=4 then bi .shr .u64 (HV (M (YN i) (upd (fun _=>0) 0 (cv .u64 (cv .i64 (bi .and .u64 (YN i 0) (bi .sub .u64 (bi .shl .u64 1 w) 1)))))) 4 4) 1 else HV (M (YN i) (upd (fun _=>0) 0 (cv .u64 (cv .i64 (bi .and .u64 (YN i 0) (bi .sub .u64 (bi .shl .u64 1 w) 1)))))) 4 k)=YN (i+1) k
         exact naf_next' hbi hHV hYN hW hN.1 hN.2 i hfa k hk
        ·exact hlf k hk
    ·cbv
     have heven:nafN w.toNat (num 32 a) i % 2≠1:=by rw [hcm] at g1;exact fun e=>eqlF g1 (hm2.trans e)
     have hz:=naf_even' (w:=w.toNat) heven
     have hlf:∀ k,k<257→(if k<i then D a w k else 0)=if k<i+1 then D a w k else 0:=by
      intro k _
      by_cases h2:k<i
      ·rw [if_pos h2,if_pos (by omega)]
      ·rw [if_neg h2]
       by_cases h1:k<i+1
       ·have h3:k=i:=by omega
        subst h3
        rw [if_pos h1,hD]
        show 0=nafD w.toNat (nafN w.toNat (num 32 a) k)
        rw [hz]
       ·rw [if_neg h1]
     have hfa:∀ k,k<5→(YN i) k=dgt q64 (nafN w.toNat (num 32 a) i - nafD w.toNat (nafN w.toNat (num 32 a) i)) k:=by
      intro k hk
      show YN i k=_
      rw [hYN,hz,Int.sub_zero]
      rfl
     have hf5:Is5 (YN i):=fun k hk=>by rw [hfa k hk];exact is5_dgt _ k hk
     refine ⟨⟨⟨0,by decide⟩,?_⟩,fun j _=>?_⟩
     ·subst hJ
      cbv
      refine ⟨fun k _=>?_,(by first | exact fun _ _=>rfl | exact ⟨rfl,fun _ _=>rfl⟩),rfl,trivial⟩
      show YN i k=HV (YN i) 0 k
      rw [hHV,halv_zero]
     ·subst hJ
      obtain ⟨j,hj⟩:=j
      cbv
      have qj:na (Int.ofNat j)=j:=by rw [hna];rfl
      have q5:bi .add .i64 (Int.ofNat j) 1=Int.ofNat (j+1):=by rw [hbi,add_i64 (by simp only [Int.ofNat_eq_natCast];omega)];rfl
      refine ⟨fun g=>?_,fun g=>?_⟩
      ·cbv
       have hltj:j<4:=by rw [hcm] at g;have hh:=lssT g;simp only [Int.ofNat_eq_natCast] at hh;omega
       have e1:bi .add .i64 (Int.ofNat j) 1=Int.ofNat (j+1):=q5
       have e2:na (bi .add .i64 (Int.ofNat j) 1)=j+1:=by rw [e1,hna];rfl
       refine ⟨(by constructor;(try dsimp only [SI.val,SO.val]);(try simp (disch:=omega) only [hbi,hna,hcv,Int.ofNat_eq_natCast,add_i64,sub_i64,mul_i64,quo_i64,rem_i64,wrap_i64,wrap_u8,Int.toNat_natCast]);omega),⟨by rw [qj];omega⟩,⟨by rw [e1];simp only [Int.ofNat_eq_natCast];omega⟩,⟨by rw [e2];omega⟩,(by constructor;(try dsimp only [SI.val,SO.val]);(try simp (disch:=omega) only [hbi,hna,hcv,Int.ofNat_eq_natCast,add_i64,sub_i64,mul_i64,quo_i64,rem_i64,wrap_i64,wrap_u8,Int.toNat_natCast]);omega),⟨by rw [qj];omega⟩,⟨j+1,by omega⟩,?_,by show 4 - (j+1)<4 - j;omega⟩
       cbv
       refine ⟨fun k _=>?_,(by first | exact fun _ _=>rfl | exact ⟨rfl,fun _ _=>rfl⟩),q5,trivial⟩
       show (if k=na (Int.ofNat j) then bi .or .u64 (bi .shr .u64 (HV (YN i) j (na (Int.ofNat j))) 1) (bi .shl .u64 (HV (YN i) j (na (bi .add .i64 (Int.ofNat j) 1))) 63) else HV (YN i) j k)=HV (YN i) (j+1) k
       rw [qj,e2]
       exact halv_step hbi hHV hf5 hltj k
      ·cbv
       have heqj:j=4:=by rw [hcm] at g;have hh:=lssF g;simp only [Int.ofNat_eq_natCast] at hh;omega
       subst heqj
       refine ⟨⟨i+1,by omega⟩,?_,by show 257 - (i+1)<257 - i;omega⟩
       cbv
       refine ⟨fun k hk=>?_,fun k hk=>?_,q4,trivial⟩
       ·show (if k=4 then bi .shr .u64 (HV (YN i) 4 4) 1 else HV (YN i) 4 k)=YN (i+1) k
        exact naf_next' hbi hHV hYN hW hN.1 hN.2 i hfa k hk
       ·exact hlf k hk
   ·cbv
    have heqi:i=257:=by rw [hcm] at h;have hh:=lssF h;simp only [Int.ofNat_eq_natCast] at hh;omega
    subst heqi
    refine ⟨?_,fun k hk=>if_pos (show k<257 from hk),?_,trivial⟩
    ·show 257=L w
     rw [hL,digL,hd];rfl
    ·show 0=F w
     rw [hF,digE,hd];rfl
theorem ok_sdigits (G:Nat→AV):Sound Tryd.prog G 58 (digitsC digF digL digE):=by
 refine sound_sym (n:=86) (rs:=[.tmp 4,.tmp 5]) (sc:=sc_sdigits.1) mixed Tryd.func58 rfl rfl rfl rfl sc_sdigits.2 ?_
 intro vs cs r h
 unfold digitsC at h
 split at h
 ·rename_i a w
  cases h
  exact ⟨by simp,fun hcs hwf=>⟨_,envOK tabOK ((.cons (ok_wnumber G) (.cons (ok_wplus G) (.cons (ok_wminus G) .nil)))),rfl,walk_sdigits realOps rfl G a w.val (isB (hwf _ (by simp))) _ rfl _ rfl _ rfl _ rfl _ rfl _ rfl _ rfl _ rfl _ rfl _ rfl _ rfl⟩⟩
 ·cases h
end Go.Proofs.YtjbimeigkklcmaaDoor
