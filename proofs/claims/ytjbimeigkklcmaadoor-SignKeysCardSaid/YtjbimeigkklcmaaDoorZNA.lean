/-
  A part of the proof. No condition.
-/
import Derived.Test.YtjbimeigkklcmaaDoorZMA
import Derived.Test.YtjbimeigkklcmaaDoorZEB
import Derived.Test.YtjbimeigkklcmaaDoorZMC
set_option linter.unusedVariables false

namespace Sx
open Go
def cubeL (d:Nat→Int):Nat→Int:=timesF (timesF d d) d
def sevL (d:Nat→Int):Nat→Int:=timesF (timesF (cubeL d) (cubeL d)) d
def rootL (n d e:Nat→Int):Nat→Int:=timesF (timesF n (cubeL d)) (powL (timesF n (sevL d)) e)
def sqrtR (f g:Nat→Int):Nat→Int:=fb (sqrtZ (fe f) (fe g)).1
def sqrtB (f g:Nat→Int):Bool:=(sqrtZ (fe f) (fe g)).2
theorem fb_zero:∀ i,i<32→fb 0 i=0:=by
 have h:fb 0=byt 0:=by rw [← zi_zero,fb_zi];rfl
 rw [h]
 decide
theorem fb_zero' (i:Nat):fb 0 i=0:=by
 have h:fb 0=byt 0:=by rw [← zi_zero,fb_zi];rfl
 rw [h]
 unfold byt
 simp
theorem eqA_zero {g:Nat→Int} {x:Zp} (h:∀ i,i<32→g i=fb x i):realEqA 32 g (fun _=>0)=decide (x=0):=by
 rw [eqA_congr h (fun i _=>(fb_zero' i).symm),fb_inj]
theorem eqA_z {g g':Nat→Int} {x y:Zp} (h:∀ i,i<32→g i=fb x i) (h':∀ i,i<32→g' i=fb y i):realEqA 32 g g'=decide (x=y):=by
 rw [eqA_congr h h',fb_inj]
theorem odd_z {g:Nat→Int} {x:Zp} (h:∀ i,i<32→g i=fb x i):realCmp .eql (realBin .and .u8 (g 0) 1) 1=decide (x.val % 2=1):=by
 rw [h 0 (by decide),and_one_u8 (fb_isBytes x 0 (by decide)),Bool.eq_iff_iff]
 simp only [realCmp,fb,byt,Int.pow_zero,Int.ediv_one,beq_iff_eq,decide_eq_true_eq]
 omega
section
variable {f g:Nat→Int} (hf:IsBytes 32 f) (hg:IsBytes 32 g)
theorem sq_bytes {l:Nat→Int} {x:Zp} (h:lz l=x∧Tidy l):∀ i,i<32→bytesF l i=fb x i:=by
 rw [← h.1]
 exact bytes_lz h.2.fit
theorem sq_neg {l:Nat→Int} {x:Zp} (h:lz l=x∧Tidy l):∀ i,i<32→bytesF (settleF (subP (fun _=>0) l)) i=fb (-x) i:=by
 have h1:=lz_sub lz_zero.2 h.2
 have h2:lz (settleF (subP (fun _=>0) l))=-x:=by rw [h1.1,lz_zero.1,h.1];grind
 exact sq_bytes ⟨h2,h1.2⟩
theorem sq_mul {l m:Nat→Int} {x y:Zp} (h:lz l=x∧Tidy l) (h':lz m=y∧Tidy m):lz (timesF l m)=x*y∧Tidy (timesF l m):=by
 have h1:=lz_times h.2 h'.2
 rw [h.1,h'.1] at h1
 exact h1
include hg in
theorem sq_cube:lz (cubeL (loadF g))=fe g*fe g*fe g∧Tidy (cubeL (loadF g)):=sq_mul (sq_mul (lz_load hg) (lz_load hg)) (lz_load hg)
include hg in
theorem sq_sev:lz (sevL (loadF g))=fe g*fe g*fe g*(fe g*fe g*fe g)*fe g∧Tidy (sevL (loadF g)):=sq_mul (sq_mul (sq_cube hg) (sq_cube hg)) (lz_load hg)
theorem num_eighth:num 32 (byt 7237005577332262213973186563042994240829374041602535252466099000494570602493)=7237005577332262213973186563042994240829374041602535252466099000494570602493:=num_byt 32 _ (by decide) (by decide)
include hf hg in
theorem sq_root {e:Nat→Int} (he:∀ i,i<32→e i=byt 7237005577332262213973186563042994240829374041602535252466099000494570602493 i) :
  lz (rootL (loadF f) (loadF g) e)=fe f*(fe g*fe g*fe g)*zp (fe f*(fe g*fe g*fe g*(fe g*fe g*fe g)*fe g)) eighthN∧Tidy (rootL (loadF f) (loadF g) e):=by
 have h1:=sq_mul (lz_load hf) (sq_sev hg)
 have h2:=lz_pow (l:=timesF (loadF f) (sevL (loadF g))) (e:=byt 7237005577332262213973186563042994240829374041602535252466099000494570602493) h1.2 (byt_isBytes _ 32)
 rw [num_eighth,h1.1] at h2
 unfold rootL
 rw [powL_congr he]
 exact sq_mul (sq_mul (lz_load hf) (sq_cube hg)) h2
theorem rootOne_bytes:fe (byt 19681161376707505956807079304988542015446066515923890162744021073123829784752)=iZ:=fe_byt (by decide) (by decide)
theorem fe_congr {f g:Nat→Int} (h:∀ i,i<32→f i=g i):fe f=fe g:=by
 unfold fe
 rw [num_congr 32 h]
theorem isBytes_congr {f g:Nat→Int} (h:∀ i,i<32→f i=g i) (hg:IsBytes 32 g):IsBytes 32 f:=fun i hi=>by rw [h i hi];exact hg i hi
theorem pow_bytes {f e:Nat→Int} (hf:IsBytes 32 f) (he:IsBytes 32 e):∀ i,i<32→bytesF (powL (loadF f) e) i=fb (zp (fe f) (num 32 e).toNat) i:=by
 have h1:=lz_load hf
 have h2:=lz_pow h1.2 he
 rw [h1.1] at h2
 exact sq_bytes h2
theorem pow_const {f e:Nat→Int} (hf:IsBytes 32 f) {N:Int} {k:Nat} (he:∀ i,i<32→e i=byt N i) (hN:num 32 (byt N)=N) (hk:N.toNat=k):∀ i,i<32→bytesF (powL (loadF f) e) i=fb (zp (fe f) k) i:=by
 have h:=pow_bytes hf (byt_isBytes N 32)
 rw [hN,hk] at h
 rw [powL_congr he]
 exact h
theorem num_two:num 32 (byt 57896044618658097711785492504343953926634992332820282019728792003956564819947)=57896044618658097711785492504343953926634992332820282019728792003956564819947:=num_byt 32 _ (by decide) (by decide)
structure Cand (f g l:Nat→Int) (x:Zp):Prop where
 hit:realEqA 32 (bytesF (timesF (timesF (loadF g) l) l)) (bytesF (loadF f))=decide (fe g*x*x=fe f)
 odd:realCmp .eql (realBin .and .u8 (bytesF l 0) 1) 1=decide (x.val % 2=1)
 out:∀ i,i<32→bytesF l i=fb x i
 neg:∀ i,i<32→bytesF (settleF (subP (fun _=>0) l)) i=fb (-x) i
theorem cand_of {f g l:Nat→Int} {x:Zp} (hf:IsBytes 32 f) (hg:IsBytes 32 g) (h:lz l=x∧Tidy l):Cand f g l x :=
 ⟨eqA_z (sq_bytes (sq_mul (sq_mul (lz_load hg) h) h)) (sq_bytes (lz_load hf)),odd_z (sq_bytes h),sq_bytes h,sq_neg h⟩
theorem sqrt_keys {f g e r:Nat→Int} (hf:IsBytes 32 f) (hg:IsBytes 32 g) (he:∀ i,i<32→e i=byt 7237005577332262213973186563042994240829374041602535252466099000494570602493 i)
  (hr:∀ i,i<32→r i=byt 19681161376707505956807079304988542015446066515923890162744021073123829784752 i) :
  ∃ x y:Zp,realEqA 32 (bytesF (loadF f)) (fun _=>0)=decide (fe f=0)∧Cand f g (rootL (loadF f) (loadF g) e) x∧Cand f g (timesF (rootL (loadF f) (loadF g) e) (loadF r)) y ∧
   sqrtZ (fe f) (fe g)=if fe f=0 then (0,true) else if fe g*x*x=fe f then (evZ x,true) else if fe g*y*y=fe f then (evZ y,true) else (0,false):=by
 have z1:=sq_root hf hg he
 have z2:=sq_mul z1 (lz_load (f:=r) (isBytes_congr hr (byt_isBytes _ _)))
 rw [fe_congr hr,rootOne_bytes] at z2
 exact ⟨_,_,eqA_zero (sq_bytes (lz_load hf)),cand_of hf hg z1,cand_of hf hg z2,rfl⟩
structure SqF (f g:Nat→Int) (L B:(Nat→Int)→Nat→Int) (T M:(Nat→Int)→(Nat→Int)→Nat→Int) (bi:BinOp→IntKind→Int→Int→Int) (cm:BinOp→Int→Int→Bool) (eq:Nat→(Nat→Int)→(Nat→Int)→Bool) (l:Nat→Int) (x:Zp):Prop where
 hit:eq 32 (B (T (T (L g) l) l)) (B (L f))=decide (fe g*x*x=fe f)
 odd:cm .eql (bi .and .u8 (B l 0) 1) 1=decide (x.val % 2=1)
 out:∀ i,i<32→B l i=fb x i
 neg:∀ i,i<32→B (M (fun _=>0) l) i=fb (-x) i
theorem sqrt_open {f g e r:Nat→Int} (hf:IsBytes 32 f) (hg:IsBytes 32 g) (he:∀ i,i<32→e i=byt 7237005577332262213973186563042994240829374041602535252466099000494570602493 i)
  (hr:∀ i,i<32→r i=byt 19681161376707505956807079304988542015446066515923890162744021073123829784752 i)
  {L B:(Nat→Int)→Nat→Int} {T P M:(Nat→Int)→(Nat→Int)→Nat→Int} {bi:BinOp→IntKind→Int→Int→Int} {cm:BinOp→Int→Int→Bool} {eq:Nat→(Nat→Int)→(Nat→Int)→Bool}
  (hL:L=loadF) (hB:B=bytesF) (hT:T=timesF) (hP:P=powL) (hM:M=fun l m=>settleF (subP l m)) (hbi:bi=realBin) (hcm:cm=realCmp) (heq:eq=realEqA) :
  ∃ x y:Zp,eq 32 (B (L f)) (fun _=>0)=decide (fe f=0)∧SqF f g L B T M bi cm eq (T (T (L f) (T (T (L g) (L g)) (L g))) (P (T (L f) (T (T (T (T (L g) (L g)) (L g)) (T (T (L g) (L g)) (L g))) (L g))) e)) x∧SqF f g L B T M bi cm eq (T (T (T (L f) (T (T (L g) (L g)) (L g))) (P (T (L f) (T (T (T (T (L g) (L g)) (L g)) (T (T (L g) (L g)) (L g))) (L g))) e)) (L r)) y ∧
   sqrtZ (fe f) (fe g)=if fe f=0 then (0,true) else if fe g*x*x=fe f then (evZ x,true) else if fe g*y*y=fe f then (evZ y,true) else (0,false):=by
 obtain ⟨x,y,k0,k1,k2,hv⟩:=sqrt_keys hf hg he hr
 subst hL hB hT hP hM hbi hcm heq
 exact ⟨x,y,k0,⟨k1.hit,k1.odd,k1.out,k1.neg⟩,⟨k2.hit,k2.odd,k2.out,k2.neg⟩,hv⟩
theorem sqrt_with {f g e r:Nat→Int} (hf:IsBytes 32 f) (hg:IsBytes 32 g) (he:∀ i,i<32→e i=byt 7237005577332262213973186563042994240829374041602535252466099000494570602493 i)
  (hr:∀ i,i<32→r i=byt 19681161376707505956807079304988542015446066515923890162744021073123829784752 i)
  {L B:(Nat→Int)→Nat→Int} {T P M:(Nat→Int)→(Nat→Int)→Nat→Int} {bi:BinOp→IntKind→Int→Int→Int} {cm:BinOp→Int→Int→Bool} {eq:Nat→(Nat→Int)→(Nat→Int)→Bool}
  {R:(Nat→Int)→(Nat→Int)→Nat→Int} {S:(Nat→Int)→(Nat→Int)→Bool} (hR:R=sqrtR) (hS:S=sqrtB)
  (hL:L=loadF) (hB:B=bytesF) (hT:T=timesF) (hP:P=powL) (hM:M=fun l m=>settleF (subP l m)) (hbi:bi=realBin) (hcm:cm=realCmp) (heq:eq=realEqA) {goal:Prop}
  (H:(eq 32 (B (L f)) (fun _=>0)=true→(∀ i,i<32→0=R f g i)∧true=S f g) →
   (eq 32 (B (L f)) (fun _=>0)=false→eq 32 (B (T (T (L g) (T (T (L f) (T (T (L g) (L g)) (L g))) (P (T (L f) (T (T (T (T (L g) (L g)) (L g)) (T (T (L g) (L g)) (L g))) (L g))) e))) (T (T (L f) (T (T (L g) (L g)) (L g))) (P (T (L f) (T (T (T (T (L g) (L g)) (L g)) (T (T (L g) (L g)) (L g))) (L g))) e)))) (B (L f))=true→cm .eql (bi .and .u8 (B (T (T (L f) (T (T (L g) (L g)) (L g))) (P (T (L f) (T (T (T (T (L g) (L g)) (L g)) (T (T (L g) (L g)) (L g))) (L g))) e)) 0) 1) 1=true→(∀ i,i<32→B (M (fun _=>0) (T (T (L f) (T (T (L g) (L g)) (L g))) (P (T (L f) (T (T (T (T (L g) (L g)) (L g)) (T (T (L g) (L g)) (L g))) (L g))) e))) i=R f g i)∧true=S f g) →
   (eq 32 (B (L f)) (fun _=>0)=false→eq 32 (B (T (T (L g) (T (T (L f) (T (T (L g) (L g)) (L g))) (P (T (L f) (T (T (T (T (L g) (L g)) (L g)) (T (T (L g) (L g)) (L g))) (L g))) e))) (T (T (L f) (T (T (L g) (L g)) (L g))) (P (T (L f) (T (T (T (T (L g) (L g)) (L g)) (T (T (L g) (L g)) (L g))) (L g))) e)))) (B (L f))=true→cm .eql (bi .and .u8 (B (T (T (L f) (T (T (L g) (L g)) (L g))) (P (T (L f) (T (T (T (T (L g) (L g)) (L g)) (T (T (L g) (L g)) (L g))) (L g))) e)) 0) 1) 1=false→(∀ i,i<32→B (T (T (L f) (T (T (L g) (L g)) (L g))) (P (T (L f) (T (T (T (T (L g) (L g)) (L g)) (T (T (L g) (L g)) (L g))) (L g))) e)) i=R f g i)∧true=S f g) →
   (eq 32 (B (L f)) (fun _=>0)=false→eq 32 (B (T (T (L g) (T (T (L f) (T (T (L g) (L g)) (L g))) (P (T (L f) (T (T (T (T (L g) (L g)) (L g)) (T (T (L g) (L g)) (L g))) (L g))) e))) (T (T (L f) (T (T (L g) (L g)) (L g))) (P (T (L f) (T (T (T (T (L g) (L g)) (L g)) (T (T (L g) (L g)) (L g))) (L g))) e)))) (B (L f))=false→eq 32 (B (T (T (L g) (T (T (T (L f) (T (T (L g) (L g)) (L g))) (P (T (L f) (T (T (T (T (L g) (L g)) (L g)) (T (T (L g) (L g)) (L g))) (L g))) e)) (L r))) (T (T (T (L f) (T (T (L g) (L g)) (L g))) (P (T (L f) (T (T (T (T (L g) (L g)) (L g)) (T (T (L g) (L g)) (L g))) (L g))) e)) (L r)))) (B (L f))=true→cm .eql (bi .and .u8 (B (T (T (T (L f) (T (T (L g) (L g)) (L g))) (P (T (L f) (T (T (T (T (L g) (L g)) (L g)) (T (T (L g) (L g)) (L g))) (L g))) e)) (L r)) 0) 1) 1=true→(∀ i,i<32→B (M (fun _=>0) (T (T (T (L f) (T (T (L g) (L g)) (L g))) (P (T (L f) (T (T (T (T (L g) (L g)) (L g)) (T (T (L g) (L g)) (L g))) (L g))) e)) (L r))) i=R f g i)∧true=S f g) →
   (eq 32 (B (L f)) (fun _=>0)=false→eq 32 (B (T (T (L g) (T (T (L f) (T (T (L g) (L g)) (L g))) (P (T (L f) (T (T (T (T (L g) (L g)) (L g)) (T (T (L g) (L g)) (L g))) (L g))) e))) (T (T (L f) (T (T (L g) (L g)) (L g))) (P (T (L f) (T (T (T (T (L g) (L g)) (L g)) (T (T (L g) (L g)) (L g))) (L g))) e)))) (B (L f))=false→eq 32 (B (T (T (L g) (T (T (T (L f) (T (T (L g) (L g)) (L g))) (P (T (L f) (T (T (T (T (L g) (L g)) (L g)) (T (T (L g) (L g)) (L g))) (L g))) e)) (L r))) (T (T (T (L f) (T (T (L g) (L g)) (L g))) (P (T (L f) (T (T (T (T (L g) (L g)) (L g)) (T (T (L g) (L g)) (L g))) (L g))) e)) (L r)))) (B (L f))=true→cm .eql (bi .and .u8 (B (T (T (T (L f) (T (T (L g) (L g)) (L g))) (P (T (L f) (T (T (T (T (L g) (L g)) (L g)) (T (T (L g) (L g)) (L g))) (L g))) e)) (L r)) 0) 1) 1=false→(∀ i,i<32→B (T (T (T (L f) (T (T (L g) (L g)) (L g))) (P (T (L f) (T (T (T (T (L g) (L g)) (L g)) (T (T (L g) (L g)) (L g))) (L g))) e)) (L r)) i=R f g i)∧true=S f g) →
   (eq 32 (B (L f)) (fun _=>0)=false→eq 32 (B (T (T (L g) (T (T (L f) (T (T (L g) (L g)) (L g))) (P (T (L f) (T (T (T (T (L g) (L g)) (L g)) (T (T (L g) (L g)) (L g))) (L g))) e))) (T (T (L f) (T (T (L g) (L g)) (L g))) (P (T (L f) (T (T (T (T (L g) (L g)) (L g)) (T (T (L g) (L g)) (L g))) (L g))) e)))) (B (L f))=false→eq 32 (B (T (T (L g) (T (T (T (L f) (T (T (L g) (L g)) (L g))) (P (T (L f) (T (T (T (T (L g) (L g)) (L g)) (T (T (L g) (L g)) (L g))) (L g))) e)) (L r))) (T (T (T (L f) (T (T (L g) (L g)) (L g))) (P (T (L f) (T (T (T (T (L g) (L g)) (L g)) (T (T (L g) (L g)) (L g))) (L g))) e)) (L r)))) (B (L f))=false→(∀ i,i<32→0=R f g i)∧false=S f g)→goal):goal:=by
 obtain ⟨x,y,c0,k1,k2,hv⟩:=sqrt_open hf hg he hr hL hB hT hP hM hbi hcm heq
 have hr':R f g=fb (sqrtZ (fe f) (fe g)).1:=by rw [hR,sqrtR]
 have hs:S f g=(sqrtZ (fe f) (fe g)).2:=by rw [hS,sqrtB]
 rw [hv] at hr' hs
 clear hv hL hB hT hP hM hR hS
 refine H (fun h0=>?_) (fun h0 h1 h2=>?_) (fun h0 h1 h2=>?_) (fun h0 h1 h2 h3=>?_) (fun h0 h1 h2 h3=>?_) (fun h0 h1 h2=>?_)
 ·rw [if_pos (of_decide_eq_true (c0.symm.trans h0))] at hr' hs
  exact ⟨fun i hi=>by rw [hr'];exact (fb_zero i hi).symm,hs.symm⟩
 ·rw [if_neg (of_decide_eq_false (c0.symm.trans h0)),if_pos (of_decide_eq_true (k1.hit.symm.trans h1))] at hr' hs
  have e:evZ x=-x:=if_pos (of_decide_eq_true (k1.odd.symm.trans h2))
  exact ⟨fun i hi=>by rw [hr',e];exact k1.neg i hi,hs.symm⟩
 ·rw [if_neg (of_decide_eq_false (c0.symm.trans h0)),if_pos (of_decide_eq_true (k1.hit.symm.trans h1))] at hr' hs
  have e:evZ x=x:=if_neg (of_decide_eq_false (k1.odd.symm.trans h2))
  exact ⟨fun i hi=>by rw [hr',e];exact k1.out i hi,hs.symm⟩
 ·rw [if_neg (of_decide_eq_false (c0.symm.trans h0)),if_neg (of_decide_eq_false (k1.hit.symm.trans h1)),if_pos (of_decide_eq_true (k2.hit.symm.trans h2))] at hr' hs
  have e:evZ y=-y:=if_pos (of_decide_eq_true (k2.odd.symm.trans h3))
  exact ⟨fun i hi=>by rw [hr',e];exact k2.neg i hi,hs.symm⟩
 ·rw [if_neg (of_decide_eq_false (c0.symm.trans h0)),if_neg (of_decide_eq_false (k1.hit.symm.trans h1)),if_pos (of_decide_eq_true (k2.hit.symm.trans h2))] at hr' hs
  have e:evZ y=y:=if_neg (of_decide_eq_false (k2.odd.symm.trans h3))
  exact ⟨fun i hi=>by rw [hr',e];exact k2.out i hi,hs.symm⟩
 ·rw [if_neg (of_decide_eq_false (c0.symm.trans h0)),if_neg (of_decide_eq_false (k1.hit.symm.trans h1)),if_neg (of_decide_eq_false (k2.hit.symm.trans h2))] at hr' hs
  exact ⟨fun i hi=>by rw [hr'];exact (fb_zero i hi).symm,hs.symm⟩
end
end Sx

namespace Sx
open Go
theorem zp_pm (x:Zp) (k:Nat) (h:k<2 ^ 256):(zp x k).val=pm pN 256 x.val k:=by rw [zp_val,pm_eq _ _ _ _ h]
theorem z_two_ne:(2:Zp)≠0:=by decide +kernel
theorem zneg_eq {x:Zp} (h:x=-x):x=0:=by
 have h1:2*x=0:=by grind
 rcases zdom prP h1 with h2 | h2
 ·exact absurd h2 z_two_ne
 ·exact h2
theorem zneg_val {x:Zp} (h:x≠0):(-x).val=pN - x.val:=by
 have h1:zi pN (((pN:Nat):Int) - (x.val:Int))=-x:=by
  rw [zi_sub,zi_self,zi_of_val]
  grind
 have h2:((-x).val:Int)=((pN:Nat):Int) - (x.val:Int):=by
  rw [← h1,zi_val]
  have:=x.isLt
  have h3:x.val≠0:=fun e=>h (Fin.ext (by simpa using e))
  exact Int.emod_eq_of_lt (by omega) (by omega)
 have:=x.isLt
 omega
theorem evZ_sq (x:Zp):evZ x*evZ x=x*x:=by
 unfold evZ
 split
 ·grind
 ·rfl
theorem evZ_even (x:Zp):(evZ x).val % 2=0:=by
 unfold evZ
 split
 ·rename_i h
  have h0:x≠0:=fun e=>by subst e;simp at h
  rw [zneg_val h0]
  have:=x.isLt
  simp only [pN] at this ⊢
  omega
 ·rename_i h
  omega
theorem zp_odd7 (v:Zp) (h:v≠0):zp (v*v*v*(v*v*v)*v) halfN=zp v halfN:=by
 have h1:zp v halfN*zp v halfN=1:=(zhalf_sq v).resolve_left h
 rw [mul_zp,mul_zp,mul_zp,mul_zp]
 generalize zp v halfN=w at *
 grind
theorem sqrt_cand (u v:Zp):v*(u*(v*v*v)*zp (u*(v*v*v*(v*v*v)*v)) eighthN)*(u*(v*v*v)*zp (u*(v*v*v*(v*v*v)*v)) eighthN)=u*zp (u*(v*v*v*(v*v*v)*v)) (2*eighthN+1):=by
 rw [zp_succ,zp_sq]
 generalize zp (u*(v*v*v*(v*v*v)*v)) eighthN=w
 grind
theorem sqrt_quarter (u v:Zp) (hv:v≠0):zp (u*(v*v*v*(v*v*v)*v)) (2*eighthN+1)*zp (u*(v*v*v*(v*v*v)*v)) (2*eighthN+1)=zp (u*v) halfN:=by
 rw [← zp_sq]
 have e:2*(2*eighthN+1)=halfN:=by rw [eighthN_eq,halfN_eq]
 rw [e,mul_zp,zp_odd7 v hv,← mul_zp]
theorem sqrt_u0 (v:Zp):sqrtZ 0 v=(0,true):=if_pos rfl
theorem sqrt_v0 {u:Zp} (hu:u≠0):sqrtZ u 0=(0,false):=by
 unfold sqrtZ
 rw [if_neg hu]
 dsimp only
 rw [if_neg (by intro h;apply hu;rw [← h];grind),if_neg (by intro h;apply hu;rw [← h];grind)]
theorem sqrt_some {u v:Zp} (hu:u≠0) (hv:v≠0) (h:zp (u*v) halfN=1):∃ r,sqrtZ u v=(evZ r,true)∧v*r*r=u:=by
 have h1:=sqrt_cand u v
 have h2:=sqrt_quarter u v hv
 rw [h] at h2
 unfold sqrtZ
 rw [if_neg hu]
 dsimp only
 generalize u*(v*v*v)*zp (u*(v*v*v*(v*v*v)*v)) eighthN=r at *
 generalize zp (u*(v*v*v*(v*v*v)*v)) (2*eighthN+1)=c at *
 rcases zsq_one prP h2 with hc | hc
 ·have:v*r*r=u:=by rw [h1,hc];grind
  rw [if_pos this]
  exact ⟨r,rfl,this⟩
 ·have hn:v*r*r≠u:=fun e=>hu (zneg_eq (by rw [h1,hc] at e;grind))
  have hi:=iZ_sq
  have:v*(r*iZ)*(r*iZ)=u:=by
   generalize iZ=i at *
   have:v*(r*i)*(r*i)=v*r*r*(i*i):=by grind
   rw [this,hi,h1,hc]
   grind
  rw [if_neg hn,if_pos this]
  exact ⟨r*iZ,rfl,this⟩
theorem sqrt_no {u v:Zp} (hu:u≠0) (hv:v≠0) (h:zp (u*v) halfN≠1):sqrtZ u v=(0,false):=by
 have h1:=sqrt_cand u v
 have h2:=sqrt_quarter u v hv
 unfold sqrtZ
 rw [if_neg hu]
 dsimp only
 generalize u*(v*v*v)*zp (u*(v*v*v*(v*v*v)*v)) eighthN=r at *
 generalize zp (u*(v*v*v*(v*v*v)*v)) (2*eighthN+1)=c at *
 have hn:v*r*r≠u:=fun e=>by
  rw [h1] at e
  have hc:c=1:=zcancel prP hu (by rw [e];grind)
  apply h
  rw [← h2,hc]
  grind
 have hn2:v*(r*iZ)*(r*iZ)≠u:=fun e=>by
  have hi:=iZ_sq
  generalize iZ=i at *
  have e2:v*(r*i)*(r*i)=v*r*r*(i*i):=by grind
  rw [e2,hi,h1] at e
  have hc:c=-1:=zcancel prP hu (by grind)
  apply h
  rw [← h2,hc]
  grind
 rw [if_neg hn,if_neg hn2]
theorem sqrt_ok {u v:Zp} (hu:u≠0) (hv:v≠0):(sqrtZ u v).2=decide (legZ (u*v)=1):=by
 by_cases h:zp (u*v) halfN=1
 ·obtain ⟨r,h1,_⟩:=sqrt_some hu hv h
  rw [h1,legZ_one.2 h]
  rfl
 ·rw [sqrt_no hu hv h]
  have:¬ legZ (u*v)=1:=fun e=>h (legZ_one.1 e)
  simp [this]
theorem sqrt_root {u v:Zp} (h:(sqrtZ u v).2=true):v*(sqrtZ u v).1*(sqrtZ u v).1=u∧(sqrtZ u v).1.val % 2=0:=by
 by_cases hu:u=0
 ·subst hu
  rw [sqrt_u0]
  exact ⟨by grind,by simp⟩
 ·by_cases hv:v=0
  ·subst hv
   rw [sqrt_v0 hu] at h
   cases h
  ·by_cases h1:zp (u*v) halfN=1
   ·obtain ⟨r,h2,h3⟩:=sqrt_some hu hv h1
    rw [h2]
    refine ⟨?_,evZ_even r⟩
    have:=evZ_sq r
    dsimp only
    generalize evZ r=w at *
    grind
   ·rw [sqrt_no hu hv h1] at h
    cases h
theorem leg_mul (x y:Zp):legZ (x*y)=legZ x*legZ y:=by
 have hm:=mul_zp x y halfN
 rcases legZ_cases x with ⟨h1,h2⟩ | ⟨h1,h2,h3⟩ | ⟨h1,h2,h3⟩
 ·have:x*y=0:=by rw [h1];grind
  rw [legZ_zero.2 this,h2,Int.zero_mul]
 ·rcases legZ_cases y with ⟨h4,h5⟩ | ⟨h4,h5,h6⟩ | ⟨h4,h5,h6⟩
  ·have:x*y=0:=by rw [h4];grind
   rw [legZ_zero.2 this,h5,Int.mul_zero]
  ·rw [h3,h6,legZ_one.2 (by rw [hm,h2,h5];grind)];rfl
  ·rw [h3,h6,legZ_neg.2 (by rw [hm,h2,h5];grind)];rfl
 ·rcases legZ_cases y with ⟨h4,h5⟩ | ⟨h4,h5,h6⟩ | ⟨h4,h5,h6⟩
  ·have:x*y=0:=by rw [h4];grind
   rw [legZ_zero.2 this,h5,Int.mul_zero]
  ·rw [h3,h6,legZ_neg.2 (by rw [hm,h2,h5];grind)];rfl
  ·rw [h3,h6,legZ_one.2 (by rw [hm,h2,h5];grind)];rfl
theorem zp_half_zero:zp (0:Zp) halfN=0:=zero_zp _ (by decide)
theorem canB_fb (x:Zp):canB (fb x)=true:=by
 unfold canB
 rw [num_fb]
 exact decide_eq_true (zval_bounds x).2
end Sx

namespace Sx
open Go
def dZ:Zp:=zi pN 37095705934669439343138083508754565189542113879843219016388785533085940283555
theorem dZ_leg:zp dZ halfN=-1:=by
 apply Fin.ext
 rw [zp_pm _ _ (by decide +kernel)]
 unfold dZ
 decide +kernel
theorem dZ_none (z:Zp):z*z≠dZ:=by
 intro h
 have h1:=dZ_leg
 rw [← h,mul_zp] at h1
 rcases zhalf_sq z with h2 | h2
 ·subst h2
  rw [zp_half_zero] at h1
  exact absurd h1 (by decide +kernel)
 ·rw [h2] at h1
  exact absurd h1 (by decide +kernel)
theorem dZ_ratio {a b:Zp} (h:a*a=dZ*(b*b)):b=0:=by
 by_cases hb:b=0
 ·exact hb
 ·exfalso
  have h1:=mul_zinv prP hb
  refine dZ_none (a*zinv b) ?_
  have e:a*zinv b*(a*zinv b)=a*a*(zinv b*zinv b):=by grind
  rw [e,h]
  have e2:dZ*(b*b)*(zinv b*zinv b)=dZ*(b*zinv b*(b*zinv b)):=by grind
  rw [e2,h1]
  grind
def onE (x y:Zp):Prop:=y*y - x*x=1+dZ*(x*x)*(y*y)
theorem one_ne_z:(1:Zp)≠0:=by decide +kernel
theorem edge_id (i d x1 y1 x2 y2 c:Zp) :
  (i*x1+c*(d*x1*x2*y1*y2*y1))*(i*x1+c*(d*x1*x2*y1*y2*y1))=d*((x1*y1*(i*x2+c*y2))*(x1*y1*(i*x2+c*y2)))
   + (i*i+1)*(x1*x1 - d*x1*x1*y1*y1*x2*x2)+(c*c - 1)*(d*x1*x2*y1*y2*(d*x1*x2*y1*y2)*y1*y1 - d*x1*x1*y1*y1*y2*y2)
   + (d*x1*x2*y1*y2*(d*x1*x2*y1*y2) - 1)*(y1*y1 - 1)+(y1*y1 - x1*x1 - (1+d*(x1*x1)*(y1*y1))) - d*x1*x1*y1*y1*(y2*y2 - x2*x2 - (1+d*(x2*x2)*(y2*y2))):=by grind
theorem z_one_sq:(1:Zp)*1=1:=by grind
theorem z_neg_sq:(-1:Zp) * -1=1:=by grind
theorem z_xy (d x1 x2 y1 y2:Zp):d*x1*x2*y1*y2=x1*y1*(d*x2*y2):=by grind
theorem z_zero_sq (w:Zp):(0:Zp)*w*(0*w)=0:=by grind
theorem z_two_of (i x y:Zp):(i*x+1*y) - (i*x+-1*y)=2*y:=by grind
theorem z_zero_y (d x1 x2 y1:Zp):d*x1*x2*y1*0*(d*x1*x2*y1*0)=0:=by grind
theorem z_sub_self (a:Zp):a - a=0:=by grind
theorem z_neg_add:(-1:Zp)+1=0:=by grind
theorem z_tidy (a u v w z:Zp):a+0*u+0*v+0*w+0 - z*0=a:=by grind
theorem edge_sq {x1 y1 x2 y2:Zp} (h1:onE x1 y1) (h2:onE x2 y2) (hs:dZ*x1*x2*y1*y2*(dZ*x1*x2*y1*y2)=1) (c:Zp) (hc:c*c=1) :
  (iZ*x1+c*(dZ*x1*x2*y1*y2*y1))*(iZ*x1+c*(dZ*x1*x2*y1*y2*y1))=dZ*((x1*y1*(iZ*x2+c*y2))*(x1*y1*(iZ*x2+c*y2))):=by
 unfold onE at h1 h2
 rw [edge_id,iZ_sq,hc,hs,h1,h2,z_neg_add,z_sub_self,z_sub_self,z_sub_self]
 exact z_tidy _ _ _ _ _
theorem edge_ne {x1 y1 x2 y2:Zp} (h1:onE x1 y1) (h2:onE x2 y2):dZ*x1*x2*y1*y2*(dZ*x1*x2*y1*y2)≠1:=by
 intro hs
 have e1:=dZ_ratio (edge_sq h1 h2 hs 1 z_one_sq)
 have e2:=dZ_ratio (edge_sq h1 h2 hs (-1) z_neg_sq)
 have z:∀ {a b:Zp},a*b=0→a=0∨b=0:=fun h=>zdom prP h
 have hxy:x1*y1≠0:=by
  intro e
  rw [z_xy dZ x1 x2 y1 y2,e,z_zero_sq] at hs
  exact one_ne_z hs.symm
 have a1:=(z e1).resolve_left hxy
 have a2:=(z e2).resolve_left hxy
 have hy:=z_two_of iZ x2 y2
 rw [a1,a2,z_sub_self] at hy
 have hy2:y2=0:=(z hy.symm).resolve_left z_two_ne
 rw [hy2,z_zero_y] at hs
 exact one_ne_z hs.symm
end Sx

namespace Sx
open Go
set_option maxRecDepth 100000
theorem ed_on (d x1 y1 x2 y2:Zp) :
  (y1*y2+x1*x2)*(y1*y2+x1*x2)*((1+(d*x1*x2*y1*y2))*(1+(d*x1*x2*y1*y2))) - (x1*y2+x2*y1)*(x1*y2+x2*y1)*((1 - (d*x1*x2*y1*y2))*(1 - (d*x1*x2*y1*y2))) - ((1+(d*x1*x2*y1*y2))*(1 - (d*x1*x2*y1*y2))*((1+(d*x1*x2*y1*y2))*(1 - (d*x1*x2*y1*y2)))+d*((x1*y2+x2*y1)*(x1*y2+x2*y1))*((y1*y2+x1*x2)*(y1*y2+x1*x2)))=(x1*x1*y1*y1*x2*x2*x2*x2*y2*y2*y2*y2*d*d*d - x1*x1*x2*x2*x2*x2*y2*y2*y2*y2*d*d - x1*x1*x2*x2*x2*x2*y2*y2*d+x1*x1*x2*x2*y2*y2*y2*y2*d+y1*y1*x2*x2*x2*x2*y2*y2*y2*y2*d*d+y1*y1*x2*x2*x2*x2*y2*y2*d - y1*y1*x2*x2*y2*y2*y2*y2*d - x2*x2*x2*x2*y2*y2*y2*y2*d*d - 2*x2*x2*x2*x2*y2*y2*y2*y2*d - 2*x2*x2*x2*x2*y2*y2+x2*x2*x2*x2+2*x2*x2*y2*y2*y2*y2 - 2*x2*x2*y2*y2*d - 4*x2*x2*y2*y2+y2*y2*y2*y2)*(y1*y1 - x1*x1 - (1+d*(x1*x1)*(y1*y1)))+(x1*x1*x1*x1*x2*x2*y2*y2*d+2*x1*x1*x2*x2*y2*y2*d+2*x1*x1*x2*x2*y2*y2 - x1*x1*x2*x2+x1*x1*y2*y2+y1*y1*y1*y1*x2*x2*y2*y2*d - 2*y1*y1*x2*x2*y2*y2*d - 2*y1*y1*x2*x2*y2*y2+y1*y1*x2*x2 - y1*y1*y2*y2+x2*x2*y2*y2*d+2*x2*x2*y2*y2 - x2*x2+y2*y2+1)*(y2*y2 - x2*x2 - (1+d*(x2*x2)*(y2*y2))):=by grind
theorem ed_ax (d x1 y1 x2 y2 x3 y3:Zp) :
  ((x1*y2+x2*y1)*(1 - (d*x1*x2*y1*y2))*y3+x3*(y1*y2+x1*x2)*(1+(d*x1*x2*y1*y2)))*((1+(d*x2*x3*y2*y3))*(1 - (d*x2*x3*y2*y3))+d*x1*(x2*y3+x3*y2)*y1*(y2*y3+x2*x3)) - (x1*(y2*y3+x2*x3)*(1+(d*x2*x3*y2*y3))+(x2*y3+x3*y2)*(1 - (d*x2*x3*y2*y3))*y1)*((1+(d*x1*x2*y1*y2))*(1 - (d*x1*x2*y1*y2))+d*(x1*y2+x2*y1)*x3*(y1*y2+x1*x2)*y3)=(- x1*x2*x2*x2*x2*y2*y2*y2*x3*x3*y3*d*d - x1*x2*x2*x2*x2*y2*x3*x3*y3*d - x1*x2*x2*x2*y2*y2*y2*y2*x3*y3*y3*d*d - x1*x2*x2*x2*y2*y2*x3*x3*x3*d - x1*x2*x2*x2*y2*y2*x3*d+x1*x2*x2*y2*y2*y2*y3*y3*y3*d - x1*x2*x2*y2*y2*y2*y3*d+x1*x2*y2*y2*y2*y2*x3*y3*y3*d+y1*x2*x2*x2*x2*y2*y2*y2*x3*y3*y3*d*d+y1*x2*x2*x2*x2*y2*x3*y3*y3*d+y1*x2*x2*x2*y2*y2*y2*y2*x3*x3*y3*d*d+y1*x2*x2*x2*y2*y2*y3*y3*y3*d - y1*x2*x2*x2*y2*y2*y3*d - y1*x2*x2*y2*y2*y2*x3*x3*x3*d - y1*x2*x2*y2*y2*y2*x3*d - y1*x2*y2*y2*y2*y2*x3*x3*y3*d)*(y1*y1 - x1*x1 - (1+d*(x1*x1)*(y1*y1)))+(x1*x1*x1*x2*x2*y2*x3*x3*y3*d+x1*x1*x1*x2*y2*y2*x3*y3*y3*d+x1*x1*x1*x2*x3*x3*x3*y3*y3*d+x1*x1*x1*x2*x3*x3*x3 - x1*x1*x1*x2*x3*y3*y3+x1*x1*x1*x2*x3+x1*x1*x1*y2*x3*x3*y3*y3*y3*d+x1*x1*x1*y2*x3*x3*y3 - x1*x1*x1*y2*y3*y3*y3+x1*x1*x1*y2*y3+x1*x1*y1*x2*x2*y2*x3*x3*x3*y3*y3*d*d - x1*x1*y1*x2*x2*y2*x3*y3*y3*d - x1*x1*y1*x2*y2*y2*x3*x3*y3*y3*y3*d*d - x1*x1*y1*x2*y2*y2*x3*x3*y3*d+x1*x1*y1*x2*x3*x3*y3*y3*y3*d+x1*x1*y1*x2*x3*x3*y3 - x1*x1*y1*x2*y3*y3*y3+x1*x1*y1*x2*y3+x1*x1*y1*y2*x3*x3*x3*y3*y3*d+x1*x1*y1*y2*x3*x3*x3 - x1*x1*y1*y2*x3*y3*y3+x1*x1*y1*y2*x3 - x1*y1*y1*x2*x2*y2*x3*x3*y3*y3*y3*d*d - x1*y1*y1*x2*x2*y2*x3*x3*y3*d+x1*y1*y1*x2*y2*y2*x3*x3*x3*y3*y3*d*d - x1*y1*y1*x2*y2*y2*x3*y3*y3*d - x1*y1*y1*x2*x3*x3*x3*y3*y3*d - x1*y1*y1*x2*x3*x3*x3+x1*y1*y1*x2*x3*y3*y3 - x1*y1*y1*x2*x3 - x1*y1*y1*y2*x3*x3*y3*y3*y3*d - x1*y1*y1*y2*x3*x3*y3+x1*y1*y1*y2*y3*y3*y3 - x1*y1*y1*y2*y3+x1*x2*x2*y2*x3*x3*y3*d+x1*x2*y2*y2*x3*y3*y3*d+x1*x2*x3*x3*x3*y3*y3*d+x1*x2*x3*x3*x3 - x1*x2*x3*y3*y3+x1*x2*x3+x1*y2*x3*x3*y3*y3*y3*d+x1*y2*x3*x3*y3 - x1*y2*y3*y3*y3+x1*y2*y3+y1*y1*y1*x2*x2*y2*x3*y3*y3*d+y1*y1*y1*x2*y2*y2*x3*x3*y3*d - y1*y1*y1*x2*x3*x3*y3*y3*y3*d - y1*y1*y1*x2*x3*x3*y3+y1*y1*y1*x2*y3*y3*y3 - y1*y1*y1*x2*y3 - y1*y1*y1*y2*x3*x3*x3*y3*y3*d - y1*y1*y1*y2*x3*x3*x3+y1*y1*y1*y2*x3*y3*y3 - y1*y1*y1*y2*x3 - y1*x2*x2*y2*x3*y3*y3*d - y1*x2*y2*y2*x3*x3*y3*d+y1*x2*x3*x3*y3*y3*y3*d+y1*x2*x3*x3*y3 - y1*x2*y3*y3*y3+y1*x2*y3+y1*y2*x3*x3*x3*y3*y3*d+y1*y2*x3*x3*x3 - y1*y2*x3*y3*y3+y1*y2*x3)*(y2*y2 - x2*x2 - (1+d*(x2*x2)*(y2*y2)))+(- x1*x1*x1*x2*x2*x2*x3 - x1*x1*x1*x2*x2*y2*y3+x1*x1*x1*x2*y2*y2*x3 - x1*x1*x1*x2*x3+x1*x1*x1*y2*y2*y2*y3 - x1*x1*x1*y2*y3 - x1*x1*y1*x2*x2*x2*y3 - x1*x1*y1*x2*x2*y2*x3*d - x1*x1*y1*x2*x2*y2*x3+x1*x1*y1*x2*y2*y2*y3*d+x1*x1*y1*x2*y2*y2*y3 - x1*x1*y1*x2*y3+x1*x1*y1*y2*y2*y2*x3 - x1*x1*y1*y2*x3+x1*y1*y1*x2*x2*x2*x3+x1*y1*y1*x2*x2*y2*y3*d+x1*y1*y1*x2*x2*y2*y3 - x1*y1*y1*x2*y2*y2*x3*d - x1*y1*y1*x2*y2*y2*x3+x1*y1*y1*x2*x3 - x1*y1*y1*y2*y2*y2*y3+x1*y1*y1*y2*y3 - x1*x2*x2*x2*x3 - x1*x2*x2*y2*y3+x1*x2*y2*y2*x3 - x1*x2*x3+x1*y2*y2*y2*y3 - x1*y2*y3+y1*y1*y1*x2*x2*x2*y3+y1*y1*y1*x2*x2*y2*x3 - y1*y1*y1*x2*y2*y2*y3+y1*y1*y1*x2*y3 - y1*y1*y1*y2*y2*y2*x3+y1*y1*y1*y2*x3 - y1*x2*x2*x2*y3 - y1*x2*x2*y2*x3+y1*x2*y2*y2*y3 - y1*x2*y3+y1*y2*y2*y2*x3 - y1*y2*x3)*(y3*y3 - x3*x3 - (1+d*(x3*x3)*(y3*y3))):=by grind
theorem ed_ay (d x1 y1 x2 y2 x3 y3:Zp) :
  ((y1*y2+x1*x2)*(1+(d*x1*x2*y1*y2))*y3+(x1*y2+x2*y1)*(1 - (d*x1*x2*y1*y2))*x3)*((1+(d*x2*x3*y2*y3))*(1 - (d*x2*x3*y2*y3)) - d*x1*(x2*y3+x3*y2)*y1*(y2*y3+x2*x3)) - (y1*(y2*y3+x2*x3)*(1+(d*x2*x3*y2*y3))+x1*(x2*y3+x3*y2)*(1 - (d*x2*x3*y2*y3)))*((1+(d*x1*x2*y1*y2))*(1 - (d*x1*x2*y1*y2)) - d*(x1*y2+x2*y1)*x3*(y1*y2+x1*x2)*y3)=(x1*x2*x2*x2*x2*y2*y2*y2*x3*y3*y3*d*d+x1*x2*x2*x2*x2*y2*x3*y3*y3*d+x1*x2*x2*x2*y2*y2*y2*y2*x3*x3*y3*d*d+x1*x2*x2*x2*y2*y2*y3*y3*y3*d - x1*x2*x2*x2*y2*y2*y3*d - x1*x2*x2*y2*y2*y2*x3*x3*x3*d - x1*x2*x2*y2*y2*y2*x3*d - x1*x2*y2*y2*y2*y2*x3*x3*y3*d - y1*x2*x2*x2*x2*y2*y2*y2*x3*x3*y3*d*d - y1*x2*x2*x2*x2*y2*x3*x3*y3*d - y1*x2*x2*x2*y2*y2*y2*y2*x3*y3*y3*d*d - y1*x2*x2*x2*y2*y2*x3*x3*x3*d - y1*x2*x2*x2*y2*y2*x3*d+y1*x2*x2*y2*y2*y2*y3*y3*y3*d - y1*x2*x2*y2*y2*y2*y3*d+y1*x2*y2*y2*y2*y2*x3*y3*y3*d)*(y1*y1 - x1*x1 - (1+d*(x1*x1)*(y1*y1)))+(- x1*x1*x1*x2*x2*y2*x3*y3*y3*d - x1*x1*x1*x2*y2*y2*x3*x3*y3*d+x1*x1*x1*x2*x3*x3*y3*y3*y3*d+x1*x1*x1*x2*x3*x3*y3 - x1*x1*x1*x2*y3*y3*y3+x1*x1*x1*x2*y3+x1*x1*x1*y2*x3*x3*x3*y3*y3*d+x1*x1*x1*y2*x3*x3*x3 - x1*x1*x1*y2*x3*y3*y3+x1*x1*x1*y2*x3+x1*x1*y1*x2*x2*y2*x3*x3*y3*y3*y3*d*d+x1*x1*y1*x2*x2*y2*x3*x3*y3*d - x1*x1*y1*x2*y2*y2*x3*x3*x3*y3*y3*d*d+x1*x1*y1*x2*y2*y2*x3*y3*y3*d+x1*x1*y1*x2*x3*x3*x3*y3*y3*d+x1*x1*y1*x2*x3*x3*x3 - x1*x1*y1*x2*x3*y3*y3+x1*x1*y1*x2*x3+x1*x1*y1*y2*x3*x3*y3*y3*y3*d+x1*x1*y1*y2*x3*x3*y3 - x1*x1*y1*y2*y3*y3*y3+x1*x1*y1*y2*y3 - x1*y1*y1*x2*x2*y2*x3*x3*x3*y3*y3*d*d+x1*y1*y1*x2*x2*y2*x3*y3*y3*d+x1*y1*y1*x2*y2*y2*x3*x3*y3*y3*y3*d*d+x1*y1*y1*x2*y2*y2*x3*x3*y3*d - x1*y1*y1*x2*x3*x3*y3*y3*y3*d - x1*y1*y1*x2*x3*x3*y3+x1*y1*y1*x2*y3*y3*y3 - x1*y1*y1*x2*y3 - x1*y1*y1*y2*x3*x3*x3*y3*y3*d - x1*y1*y1*y2*x3*x3*x3+x1*y1*y1*y2*x3*y3*y3 - x1*y1*y1*y2*x3 - x1*x2*x2*y2*x3*y3*y3*d - x1*x2*y2*y2*x3*x3*y3*d+x1*x2*x3*x3*y3*y3*y3*d+x1*x2*x3*x3*y3 - x1*x2*y3*y3*y3+x1*x2*y3+x1*y2*x3*x3*x3*y3*y3*d+x1*y2*x3*x3*x3 - x1*y2*x3*y3*y3+x1*y2*x3 - y1*y1*y1*x2*x2*y2*x3*x3*y3*d - y1*y1*y1*x2*y2*y2*x3*y3*y3*d - y1*y1*y1*x2*x3*x3*x3*y3*y3*d - y1*y1*y1*x2*x3*x3*x3+y1*y1*y1*x2*x3*y3*y3 - y1*y1*y1*x2*x3 - y1*y1*y1*y2*x3*x3*y3*y3*y3*d - y1*y1*y1*y2*x3*x3*y3+y1*y1*y1*y2*y3*y3*y3 - y1*y1*y1*y2*y3+y1*x2*x2*y2*x3*x3*y3*d+y1*x2*y2*y2*x3*y3*y3*d+y1*x2*x3*x3*x3*y3*y3*d+y1*x2*x3*x3*x3 - y1*x2*x3*y3*y3+y1*x2*x3+y1*y2*x3*x3*y3*y3*y3*d+y1*y2*x3*x3*y3 - y1*y2*y3*y3*y3+y1*y2*y3)*(y2*y2 - x2*x2 - (1+d*(x2*x2)*(y2*y2)))+(- x1*x1*x1*x2*x2*x2*y3 - x1*x1*x1*x2*x2*y2*x3+x1*x1*x1*x2*y2*y2*y3 - x1*x1*x1*x2*y3+x1*x1*x1*y2*y2*y2*x3 - x1*x1*x1*y2*x3 - x1*x1*y1*x2*x2*x2*x3 - x1*x1*y1*x2*x2*y2*y3*d - x1*x1*y1*x2*x2*y2*y3+x1*x1*y1*x2*y2*y2*x3*d+x1*x1*y1*x2*y2*y2*x3 - x1*x1*y1*x2*x3+x1*x1*y1*y2*y2*y2*y3 - x1*x1*y1*y2*y3+x1*y1*y1*x2*x2*x2*y3+x1*y1*y1*x2*x2*y2*x3*d+x1*y1*y1*x2*x2*y2*x3 - x1*y1*y1*x2*y2*y2*y3*d - x1*y1*y1*x2*y2*y2*y3+x1*y1*y1*x2*y3 - x1*y1*y1*y2*y2*y2*x3+x1*y1*y1*y2*x3 - x1*x2*x2*x2*y3 - x1*x2*x2*y2*x3+x1*x2*y2*y2*y3 - x1*x2*y3+x1*y2*y2*y2*x3 - x1*y2*x3+y1*y1*y1*x2*x2*x2*x3+y1*y1*y1*x2*x2*y2*y3 - y1*y1*y1*x2*y2*y2*x3+y1*y1*y1*x2*x3 - y1*y1*y1*y2*y2*y2*y3+y1*y1*y1*y2*y3 - y1*x2*x2*x2*x3 - y1*x2*x2*y2*y3+y1*x2*y2*y2*x3 - y1*x2*x3+y1*y2*y2*y2*y3 - y1*y2*y3)*(y3*y3 - x3*x3 - (1+d*(x3*x3)*(y3*y3))):=by grind
end Sx

namespace Sx
open Go
theorem z_frac {a b c e:Zp} (hb:b≠0) (he:e≠0) (h:a*e=c*b):a*zinv b=c*zinv e:=by
 have h1:=mul_zinv prP hb
 have h2:=mul_zinv prP he
 have e1:a*zinv b=a*e*(zinv b*zinv e)+a*zinv b*(1 - e*zinv e):=by grind
 have e2:c*zinv e=c*b*(zinv b*zinv e)+c*zinv e*(1 - b*zinv b):=by grind
 rw [e1,e2,h,h1,h2,z_sub_self]
 grind
theorem z_ne_mul {a b:Zp} (ha:a≠0) (hb:b≠0):a*b≠0:=fun h=>(zdom prP h).elim ha hb
theorem z_inv_one {a:Zp} (h:a≠0):a*zinv a=1:=mul_zinv prP h
def tE (x1 y1 x2 y2:Zp):Zp:=dZ*x1*x2*y1*y2
theorem div_ne {x1 y1 x2 y2:Zp} (h1:onE x1 y1) (h2:onE x2 y2):1+tE x1 y1 x2 y2≠0∧1 - tE x1 y1 x2 y2≠0:=by
 have h:=edge_ne h1 h2
 refine ⟨fun e=>h ?_,fun e=>h ?_⟩
 ·have e1:tE x1 y1 x2 y2=-1:=by
   have:tE x1 y1 x2 y2=(1+tE x1 y1 x2 y2) - 1:=by grind
   rw [this,e];grind
  show tE x1 y1 x2 y2*tE x1 y1 x2 y2=1
  rw [e1];grind
 ·have e1:tE x1 y1 x2 y2=1:=by
   have:tE x1 y1 x2 y2=1 - (1 - tE x1 y1 x2 y2):=by grind
   rw [this,e];grind
  show tE x1 y1 x2 y2*tE x1 y1 x2 y2=1
  rw [e1];grind
def edX (x1 y1 x2 y2:Zp):Zp:=(x1*y2+x2*y1)*zinv (1+tE x1 y1 x2 y2)
def edY (x1 y1 x2 y2:Zp):Zp:=(y1*y2+x1*x2)*zinv (1 - tE x1 y1 x2 y2)
theorem z_onend (w r s:Zp):w+r*(1 - 1*1) - s*(1 - 1*1)=w+(1 - 1*1*(1*1)):=by grind
theorem on_frac {A B u v p q:Zp} (hu:p*u=1) (hv:q*v=1) (h:B*B*(p*p) - A*A*(q*q)=p*q*(p*q)+dZ*(A*A)*(B*B)):onE (A*u) (B*v):=by
 unfold onE
 generalize dZ=d at *
 have e1:B*v*(B*v) - A*u*(A*u)=(B*B*(p*p) - A*A*(q*q))*(u*u*(v*v))+(B*v*(B*v))*(1 - p*u*(p*u)) - A*u*(A*u)*(1 - q*v*(q*v)):=by grind
 have e2:1+d*(A*u*(A*u))*(B*v*(B*v))=(p*q*(p*q)+d*(A*A)*(B*B))*(u*u*(v*v))+(1 - p*u*(p*u)*(q*v*(q*v))):=by grind
 rw [e1,e2,h,hu,hv]
 exact z_onend _ _ _
theorem z_cancel {a b:Zp} (h:a - b=0):a=b:=by
 have e:a=(a - b)+b:=by grind
 rw [e,h];grind
theorem ed_zero2 (q1 q2:Zp):q1*0+q2*0=0:=by grind
theorem ed_zero3 (q1 q2 q3:Zp):q1*0+q2*0+q3*0=0:=by grind
theorem add_on {x1 y1 x2 y2:Zp} (h1:onE x1 y1) (h2:onE x2 y2):onE (edX x1 y1 x2 y2) (edY x1 y1 x2 y2):=by
 obtain ⟨n1,n2⟩:=div_ne h1 h2
 refine on_frac (z_inv_one n1) (z_inv_one n2) ?_
 have e:=ed_on dZ x1 y1 x2 y2
 unfold onE at h1 h2
 rw [h1,h2,z_sub_self,z_sub_self,ed_zero2] at e
 exact z_cancel e
theorem sum3_x {A B u v p q x3 y3:Zp} (hu:p*u=1) (hv:q*v=1) (d:Zp):(A*u*y3+x3*(B*v))*(p*q)=A*q*y3+x3*B*p∧(1+d*(A*u)*x3*(B*v)*y3)*(p*q)=p*q+d*A*x3*B*y3:=by
 constructor
 ·have e:(A*u*y3+x3*(B*v))*(p*q)=A*q*y3*(p*u)+x3*B*p*(q*v):=by grind
  rw [e,hu,hv];grind
 ·have e:(1+d*(A*u)*x3*(B*v)*y3)*(p*q)=p*q+d*A*x3*B*y3*(p*u)*(q*v):=by grind
  rw [e,hu,hv];grind
theorem sum3_y {A B u v p q x3 y3:Zp} (hu:p*u=1) (hv:q*v=1) (d:Zp):(B*v*y3+A*u*x3)*(p*q)=B*p*y3+A*q*x3∧(1 - d*(A*u)*x3*(B*v)*y3)*(p*q)=p*q - d*A*x3*B*y3:=by
 constructor
 ·have e:(B*v*y3+A*u*x3)*(p*q)=B*p*y3*(q*v)+A*q*x3*(p*u):=by grind
  rw [e,hu,hv];grind
 ·have e:(1 - d*(A*u)*x3*(B*v)*y3)*(p*q)=p*q - d*A*x3*B*y3*(p*u)*(q*v):=by grind
  rw [e,hu,hv];grind
theorem z_scale {a b k:Zp} (hb:b≠0) (hk:k≠0):a*zinv b=(a*k)*zinv (b*k):=by
 refine z_frac hb (z_ne_mul hb hk) ?_
 grind
theorem tE_comm (x1 y1 x2 y2:Zp):tE x2 y2 x1 y1=tE x1 y1 x2 y2:=by unfold tE;grind
theorem edX_comm (x1 y1 x2 y2:Zp):edX x1 y1 x2 y2=edX x2 y2 x1 y1:=by
 unfold edX
 rw [tE_comm x1 y1 x2 y2]
 congr 1
 grind
theorem edY_comm (x1 y1 x2 y2:Zp):edY x1 y1 x2 y2=edY x2 y2 x1 y1:=by
 unfold edY
 rw [tE_comm x1 y1 x2 y2]
 congr 1
 grind
end Sx

namespace Sx
open Go
theorem sum3_xr {A B u v p q x1 y1:Zp} (hu:p*u=1) (hv:q*v=1) (d:Zp):(x1*(B*v)+A*u*y1)*(p*q)=x1*B*p+A*q*y1∧(1+d*x1*(A*u)*y1*(B*v))*(p*q)=p*q+d*x1*A*y1*B:=by
 constructor
 ·have e:(x1*(B*v)+A*u*y1)*(p*q)=x1*B*p*(q*v)+A*q*y1*(p*u):=by grind
  rw [e,hu,hv];grind
 ·have e:(1+d*x1*(A*u)*y1*(B*v))*(p*q)=p*q+d*x1*A*y1*B*(p*u)*(q*v):=by grind
  rw [e,hu,hv];grind
theorem sum3_yr {A B u v p q x1 y1:Zp} (hu:p*u=1) (hv:q*v=1) (d:Zp):(y1*(B*v)+x1*(A*u))*(p*q)=y1*B*p+x1*A*q∧(1 - d*x1*(A*u)*y1*(B*v))*(p*q)=p*q - d*x1*A*y1*B:=by
 constructor
 ·have e:(y1*(B*v)+x1*(A*u))*(p*q)=y1*B*p*(q*v)+x1*A*q*(p*u):=by grind
  rw [e,hu,hv];grind
 ·have e:(1 - d*x1*(A*u)*y1*(B*v))*(p*q)=p*q - d*x1*A*y1*B*(p*u)*(q*v):=by grind
  rw [e,hu,hv];grind
section
variable {x1 y1 x2 y2 x3 y3:Zp} (h1:onE x1 y1) (h2:onE x2 y2) (h3:onE x3 y3)
include h1 h2 h3
theorem edX_assoc:edX (edX x1 y1 x2 y2) (edY x1 y1 x2 y2) x3 y3=edX x1 y1 (edX x2 y2 x3 y3) (edY x2 y2 x3 y3):=by
 obtain ⟨n1,n2⟩:=div_ne h1 h2
 obtain ⟨m1,m2⟩:=div_ne h2 h3
 have dl:=(div_ne (add_on h1 h2) h3).1
 have dr:=(div_ne h1 (add_on h2 h3)).1
 have sl:=sum3_x (A:=x1*y2+x2*y1) (B:=y1*y2+x1*x2) (x3:=x3) (y3:=y3) (z_inv_one n1) (z_inv_one n2) dZ
 have sr:=sum3_xr (A:=x2*y3+x3*y2) (B:=y2*y3+x2*x3) (x1:=x1) (y1:=y1) (z_inv_one m1) (z_inv_one m2) dZ
 have kl:=z_ne_mul n1 n2
 have kr:=z_ne_mul m1 m2
 have id:=ed_ax dZ x1 y1 x2 y2 x3 y3
 unfold onE at h1 h2 h3
 rw [h1,h2,h3,z_sub_self,z_sub_self,z_sub_self,ed_zero3] at id
 have id2:=z_cancel id
 have eL:edX (edX x1 y1 x2 y2) (edY x1 y1 x2 y2) x3 y3=((x1*y2+x2*y1)*(1 - tE x1 y1 x2 y2)*y3+x3*(y1*y2+x1*x2)*(1+tE x1 y1 x2 y2))*zinv ((1+tE x1 y1 x2 y2)*(1 - tE x1 y1 x2 y2)+dZ*(x1*y2+x2*y1)*x3*(y1*y2+x1*x2)*y3):=by
  rw [← sl.1,← sl.2]
  exact z_scale dl kl
 have eR:edX x1 y1 (edX x2 y2 x3 y3) (edY x2 y2 x3 y3)=(x1*(y2*y3+x2*x3)*(1+tE x2 y2 x3 y3)+(x2*y3+x3*y2)*(1 - tE x2 y2 x3 y3)*y1)*zinv ((1+tE x2 y2 x3 y3)*(1 - tE x2 y2 x3 y3)+dZ*x1*(x2*y3+x3*y2)*y1*(y2*y3+x2*x3)):=by
  rw [← sr.1,← sr.2]
  exact z_scale dr kr
 rw [eL,eR]
 refine z_frac ?_ ?_ id2
 ·rw [← sl.2]
  exact z_ne_mul dl kl
 ·rw [← sr.2]
  exact z_ne_mul dr kr
theorem edY_assoc:edY (edX x1 y1 x2 y2) (edY x1 y1 x2 y2) x3 y3=edY x1 y1 (edX x2 y2 x3 y3) (edY x2 y2 x3 y3):=by
 obtain ⟨n1,n2⟩:=div_ne h1 h2
 obtain ⟨m1,m2⟩:=div_ne h2 h3
 have dl:=(div_ne (add_on h1 h2) h3).2
 have dr:=(div_ne h1 (add_on h2 h3)).2
 have sl:=sum3_y (A:=x1*y2+x2*y1) (B:=y1*y2+x1*x2) (x3:=x3) (y3:=y3) (z_inv_one n1) (z_inv_one n2) dZ
 have sr:=sum3_yr (A:=x2*y3+x3*y2) (B:=y2*y3+x2*x3) (x1:=x1) (y1:=y1) (z_inv_one m1) (z_inv_one m2) dZ
 have kl:=z_ne_mul n1 n2
 have kr:=z_ne_mul m1 m2
 have id:=ed_ay dZ x1 y1 x2 y2 x3 y3
 unfold onE at h1 h2 h3
 rw [h1,h2,h3,z_sub_self,z_sub_self,z_sub_self,ed_zero3] at id
 have id2:=z_cancel id
 have eL:edY (edX x1 y1 x2 y2) (edY x1 y1 x2 y2) x3 y3=((y1*y2+x1*x2)*(1+tE x1 y1 x2 y2)*y3+(x1*y2+x2*y1)*(1 - tE x1 y1 x2 y2)*x3)*zinv ((1+tE x1 y1 x2 y2)*(1 - tE x1 y1 x2 y2) - dZ*(x1*y2+x2*y1)*x3*(y1*y2+x1*x2)*y3):=by
  rw [← sl.1,← sl.2]
  exact z_scale dl kl
 have eR:edY x1 y1 (edX x2 y2 x3 y3) (edY x2 y2 x3 y3)=(y1*(y2*y3+x2*x3)*(1+tE x2 y2 x3 y3)+x1*(x2*y3+x3*y2)*(1 - tE x2 y2 x3 y3))*zinv ((1+tE x2 y2 x3 y3)*(1 - tE x2 y2 x3 y3) - dZ*x1*(x2*y3+x3*y2)*y1*(y2*y3+x2*x3)):=by
  rw [← sr.1,← sr.2]
  exact z_scale dr kr
 rw [eL,eR]
 refine z_frac ?_ ?_ id2
 ·rw [← sl.2]
  exact z_ne_mul dl kl
 ·rw [← sr.2]
  exact z_ne_mul dr kr
end
structure Pt where
 x:Zp
 y:Zp
 on:onE x y
theorem Pt.ext' {P Q:Pt} (hx:P.x=Q.x) (hy:P.y=Q.y):P=Q:=by
 cases P;cases Q;cases hx;cases hy;rfl
def Pt.add (P Q:Pt):Pt:=⟨edX P.x P.y Q.x Q.y,edY P.x P.y Q.x Q.y,add_on P.on Q.on⟩
def Pt.zero:Pt:=⟨0,1,by unfold onE;grind⟩
def Pt.neg (P:Pt):Pt:=⟨-P.x,P.y,by
 have:=P.on
 unfold onE at this ⊢
 have e:-P.x * -P.x=P.x*P.x:=by grind
 rw [e];exact this⟩
theorem Pt.add_assoc (P Q R:Pt):(P.add Q).add R=P.add (Q.add R):=Pt.ext' (edX_assoc P.on Q.on R.on) (edY_assoc P.on Q.on R.on)
theorem Pt.add_comm (P Q:Pt):P.add Q=Q.add P:=Pt.ext' (edX_comm ..) (edY_comm ..)
theorem z_inv1:zinv (1:Zp)=1:=by
 have h:=z_inv_one one_ne_z
 have e:zinv (1:Zp)=1*zinv 1:=by grind
 rw [e,h]
theorem Pt.zero_add (P:Pt):Pt.zero.add P=P:=by
 have t0:tE 0 1 P.x P.y=0:=by unfold tE;grind
 refine Pt.ext' ?_ ?_
 ·show edX 0 1 P.x P.y=P.x
  unfold edX
  rw [t0,(by grind:(1:Zp)+0=1),z_inv1];grind
 ·show edY 0 1 P.x P.y=P.y
  unfold edY
  rw [t0,(by grind:(1:Zp) - 0=1),z_inv1];grind
theorem Pt.add_zero (P:Pt):P.add Pt.zero=P:=by rw [Pt.add_comm,Pt.zero_add]
theorem Pt.neg_add (P:Pt):P.neg.add P=Pt.zero:=by
 have hd:=(div_ne P.neg.on P.on).2
 refine Pt.ext' ?_ ?_
 ·show edX (-P.x) P.y P.x P.y=0
  unfold edX
  have e:-P.x*P.y+P.x*P.y=0:=by grind
  rw [e];grind
 ·show edY (-P.x) P.y P.x P.y=1
  have h:=P.on
  unfold onE at h
  have e:P.y*P.y+-P.x*P.x=1 - tE (-P.x) P.y P.x P.y:=by
   have e1:P.y*P.y+-P.x*P.x=P.y*P.y - P.x*P.x:=by grind
   rw [e1,h]
   unfold tE
   grind
  unfold edY
  rw [e]
  exact z_inv_one hd
theorem Pt.add_neg (P:Pt):P.add P.neg=Pt.zero:=by rw [Pt.add_comm,Pt.neg_add]
theorem Pt.add4 (a b c e:Pt):(a.add b).add (c.add e)=(a.add c).add (b.add e):=by
 rw [Pt.add_assoc a b,← Pt.add_assoc b c e,Pt.add_comm b c,Pt.add_assoc c b e,← Pt.add_assoc a c]
attribute [irreducible] Pt.add Pt.neg Pt.zero
def Pt.mul:Nat→Pt→Pt
 | 0,_=>Pt.zero
 | n+1,P=>(Pt.mul n P).add P
theorem Pt.mul_zero (P:Pt):Pt.mul 0 P=Pt.zero:=rfl
theorem Pt.mul_succ (n:Nat) (P:Pt):Pt.mul (n+1) P=(Pt.mul n P).add P:=rfl
attribute [irreducible] Pt.mul
theorem Pt.mul_one (P:Pt):Pt.mul 1 P=P:=by
 rw [Pt.mul_succ 0 P,Pt.mul_zero,Pt.zero_add]
theorem Pt.mul_add (m:Nat) (P:Pt) (n:Nat):Pt.mul (m+n) P=(Pt.mul m P).add (Pt.mul n P):=by
 induction n with
 | zero=>rw [Nat.add_zero,Pt.mul_zero,Pt.add_zero]
 | succ n ih=>rw [← Nat.add_assoc,Pt.mul_succ,ih,Pt.add_assoc,← Pt.mul_succ]
theorem Pt.mul_mul (m:Nat) (P:Pt) (n:Nat):Pt.mul (n*m) P=Pt.mul n (Pt.mul m P):=by
 induction n with
 | zero=>rw [Nat.zero_mul,Pt.mul_zero,Pt.mul_zero]
 | succ n ih=>rw [Nat.succ_mul,Pt.mul_add,ih,Pt.mul_succ n]
theorem Pt.mul_of_zero (n:Nat):Pt.mul n Pt.zero=Pt.zero:=by
 induction n with
 | zero=>rw [Pt.mul_zero]
 | succ n ih=>rw [Pt.mul_succ,ih,Pt.zero_add]
theorem Pt.mul_dist (P Q:Pt) (n:Nat):Pt.mul n (P.add Q)=(Pt.mul n P).add (Pt.mul n Q):=by
 induction n with
 | zero=>rw [Pt.mul_zero,Pt.mul_zero,Pt.mul_zero,Pt.zero_add]
 | succ n ih=>rw [Pt.mul_succ,ih,Pt.mul_succ,Pt.mul_succ];exact Pt.add4 _ _ _ _
theorem Pt.mul_neg (P:Pt) (n:Nat):(Pt.mul n P.neg).add (Pt.mul n P)=Pt.zero:=by
 rw [← Pt.mul_dist,Pt.neg_add,Pt.mul_of_zero]
end Sx

namespace Sx
open Go
structure Spd where
 X:Zp
 Y:Zp
 Z:Zp
 T:Zp
def Spd.join (e f g h:Zp):Spd:=⟨e*f,g*h,f*g,e*h⟩
def Spd.sum (s t:Spd):Spd :=
 let a:=(s.Y - s.X)*(t.Y - t.X)
 let b:=(s.Y+s.X)*(t.Y+t.X)
 let c:=(s.T+s.T)*dZ*t.T
 let d:=(s.Z+s.Z)*t.Z
 Spd.join (b - a) (d - c) (d+c) (b+a)
def Spd.twice (s:Spd):Spd :=
 let a:=s.X*s.X
 let b:=s.Y*s.Y
 let c:=s.Z*s.Z
 let h:=a+b
 let e:=h - (s.X+s.Y)*(s.X+s.Y)
 let g:=a - b
 Spd.join e (c+c+g) g h
def Spd.neg (s:Spd):Spd:=⟨-s.X,s.Y,s.Z,-s.T⟩
def Spd.of (x y:Zp):Spd:=⟨x,y,1,x*y⟩
structure Rep (s:Spd) (P:Pt):Prop where
 z:s.Z≠0
 x:s.X=P.x*s.Z
 y:s.Y=P.y*s.Z
 t:s.T=P.x*P.y*s.Z
theorem rep_of (P:Pt):Rep (Spd.of P.x P.y) P:=⟨one_ne_z,by show P.x=P.x*1;grind,by show P.y=P.y*1;grind,by show P.x*P.y=P.x*P.y*1;grind⟩
theorem rep_neg {s:Spd} {P:Pt} (h:Rep s P):Rep s.neg P.neg:=by
 obtain ⟨z,x,y,t⟩:=h
 unfold Pt.neg
 refine ⟨z,?_,y,?_⟩
 ·show -s.X=-P.x*s.Z
  rw [x];grind
 ·show -s.T=-P.x*P.y*s.Z
  rw [t];grind
theorem rep_join {k l n1 n2 t u v e f g h:Zp} (hk:k≠0) (hl:l≠0) (h1:1+t≠0) (h2:1 - t≠0) (hu:(1+t)*u=1) (hv:(1 - t)*v=1)
  (he:e=k*n1) (hf:f=l*(1 - t)) (hg:g=k*(1+t)) (hh:h=l*n2) {P:Pt} (hx:P.x=n1*u) (hy:P.y=n2*v):Rep (Spd.join e f g h) P:=by
 subst he hf hg hh
 refine ⟨z_ne_mul (z_ne_mul hl h2) (z_ne_mul hk h1),?_,?_,?_⟩
 ·show k*n1*(l*(1 - t))=P.x*(l*(1 - t)*(k*(1+t)))
  have e:P.x*(l*(1 - t)*(k*(1+t)))=n1*k*(l*(1 - t))*((1+t)*u):=by rw [hx];grind
  rw [e,hu];grind
 ·show k*(1+t)*(l*n2)=P.y*(l*(1 - t)*(k*(1+t)))
  have e:P.y*(l*(1 - t)*(k*(1+t)))=n2*l*(k*(1+t))*((1 - t)*v):=by rw [hy];grind
  rw [e,hv];grind
 ·show k*n1*(l*n2)=P.x*P.y*(l*(1 - t)*(k*(1+t)))
  have e:P.x*P.y*(l*(1 - t)*(k*(1+t)))=n1*n2*k*l*((1+t)*u)*((1 - t)*v):=by rw [hx,hy];grind
  rw [e,hu,hv];grind
theorem add_x (P Q:Pt):(P.add Q).x=edX P.x P.y Q.x Q.y:=by unfold Pt.add;rfl
theorem add_y (P Q:Pt):(P.add Q).y=edY P.x P.y Q.x Q.y:=by unfold Pt.add;rfl
theorem rep_sum {s r:Spd} {P Q:Pt} (h:Rep s P) (h':Rep r Q):Rep (s.sum r) (P.add Q):=by
 obtain ⟨z,x,y,t⟩:=h
 obtain ⟨z',x',y',t'⟩:=h'
 obtain ⟨n1,n2⟩:=div_ne P.on Q.on
 refine rep_join (k:=2*(s.Z*r.Z)) (l:=2*(s.Z*r.Z)) (n1:=P.x*Q.y+Q.x*P.y) (n2:=P.y*Q.y+P.x*Q.x) (t:=tE P.x P.y Q.x Q.y) (z_ne_mul z_two_ne (z_ne_mul z z')) (z_ne_mul z_two_ne (z_ne_mul z z')) n1 n2 (z_inv_one n1) (z_inv_one n2) ?_ ?_ ?_ ?_ (add_x P Q) (add_y P Q)
 ·rw [x,y,x',y'];grind
 ·rw [t,t'];unfold tE;grind
 ·rw [t,t'];unfold tE;grind
 ·rw [x,y,x',y'];grind
theorem rep_twice {s:Spd} {P:Pt} (h:Rep s P):Rep s.twice (P.add P):=by
 obtain ⟨z,x,y,t⟩:=h
 obtain ⟨n1,n2⟩:=div_ne P.on P.on
 have o:=P.on
 have ht:tE P.x P.y P.x P.y=P.y*P.y - P.x*P.x - 1:=by
  unfold onE at o
  rw [o];unfold tE;grind
 have hk:- (s.Z*s.Z)≠0:=by
  intro e
  refine z_ne_mul z z ?_
  have:s.Z*s.Z=- - (s.Z*s.Z):=by grind
  rw [this,e];grind
 refine rep_join (k:=- (s.Z*s.Z)) (l:=s.Z*s.Z) (n1:=P.x*P.y+P.x*P.y) (n2:=P.y*P.y+P.x*P.x) (t:=tE P.x P.y P.x P.y) hk (z_ne_mul z z) n1 n2 (z_inv_one n1) (z_inv_one n2) ?_ ?_ ?_ ?_ (add_x P P) (add_y P P)
 ·rw [x,y];grind
 ·rw [ht,x,y];grind
 ·rw [ht,x,y];grind
 ·rw [x,y];grind
end Sx

namespace Sx
open Go
def IsM (P:Pt) (v:Int) (Q:Pt):Prop:=∃ a b:Nat,(a:Int) - b=v∧Q.add (Pt.mul b P)=Pt.mul a P
theorem Pt.cancel {A B C:Pt} (h:A.add C=B.add C):A=B:=by
 have h1:=congrArg (fun X=>X.add C.neg) h
 simp only [Pt.add_assoc,Pt.add_neg,Pt.add_zero] at h1
 exact h1
theorem isM_zero (P:Pt):IsM P 0 Pt.zero:=⟨0,0,by omega,by rw [Pt.zero_add]⟩
theorem isM_nat (P:Pt) (n:Nat):IsM P n (Pt.mul n P):=⟨n,0,by omega,by rw [Pt.mul_zero,Pt.add_zero]⟩
theorem isM_add {P Q R:Pt} {v w:Int} (h:IsM P v Q) (h':IsM P w R):IsM P (v+w) (Q.add R):=by
 obtain ⟨a,b,e,h⟩:=h
 obtain ⟨c,d,e',h'⟩:=h'
 refine ⟨a+c,b+d,by omega,?_⟩
 rw [Pt.mul_add,Pt.mul_add,Pt.add4,h,h']
theorem isM_neg {P Q:Pt} {v:Int} (h:IsM P v Q):IsM P (-v) Q.neg:=by
 obtain ⟨a,b,e,h⟩:=h
 refine ⟨b,a,by omega,?_⟩
 rw [← h,← Pt.add_assoc,Pt.neg_add,Pt.zero_add]
theorem isM_eq {P Q:Pt} {n:Nat} (h:IsM P n Q):Q=Pt.mul n P:=by
 obtain ⟨a,b,e,h⟩:=h
 have:a=n+b:=by omega
 subst this
 rw [Pt.mul_add] at h
 exact Pt.cancel h
def RepM (P:Pt) (v:Int) (s:Spd):Prop:=∃ Q,Rep s Q∧IsM P v Q
theorem repM_zero (P:Pt):RepM P 0 (Spd.of 0 1):=⟨Pt.zero,by have h:=rep_of Pt.zero;unfold Pt.zero at h ⊢;exact h,isM_zero P⟩
theorem repM_one {P:Pt} {s:Spd} (h:Rep s P):RepM P 1 s:=⟨P,h,by have:=isM_nat P 1;rw [Pt.mul_one] at this;exact this⟩
theorem repM_sum {P:Pt} {v w:Int} {s r:Spd} (h:RepM P v s) (h':RepM P w r):RepM P (v+w) (s.sum r):=by
 obtain ⟨Q,h1,h2⟩:=h
 obtain ⟨R,h3,h4⟩:=h'
 exact ⟨_,rep_sum h1 h3,isM_add h2 h4⟩
theorem repM_twice {P:Pt} {v:Int} {s:Spd} (h:RepM P v s):RepM P (2*v) s.twice:=by
 obtain ⟨Q,h1,h2⟩:=h
 refine ⟨_,rep_twice h1,?_⟩
 have:=isM_add h2 h2
 rw [show 2*v=v+v from by omega]
 exact this
theorem repM_neg {P:Pt} {v:Int} {s:Spd} (h:RepM P v s):RepM P (-v) s.neg:=by
 obtain ⟨Q,h1,h2⟩:=h
 exact ⟨_,rep_neg h1,isM_neg h2⟩
theorem repM_nat {P:Pt} {n:Nat} {s:Spd} (h:RepM P n s):Rep s (Pt.mul n P):=by
 obtain ⟨Q,h1,h2⟩:=h
 rw [← isM_eq h2]
 exact h1
def oddS (s:Spd):Nat→Spd
 | 0=>s
 | i+1=>(oddS s i).sum s.twice
theorem odd_rep {P:Pt} {s:Spd} (h:RepM P 1 s):∀ i:Nat,RepM P (2*i+1:Int) (oddS s i)
 | 0=>h
 | i+1=>by
  have h1:=repM_sum (odd_rep h i) (repM_twice h)
  have e:(2*((i+1:Nat):Int)+1)=(2*(i:Int)+1)+2*1:=by omega
  rw [e]
  exact h1
def nafS (s r:Spd) (begun:Bool) (d:Int):Spd :=
 let r2:=if begun then r.twice else r
 if 0<d then r2.sum (oddS s (d.toNat / 2)) else if d<0 then r2.sum (oddS s ((-d).toNat / 2)).neg else r2
def nafG (begun:Bool) (d:Int):Bool:=begun || decide (d≠0)
def nafR (s:Spd) (D:Nat→Int):Nat→Spd × Bool
 | 0=>(Spd.of 0 1,false)
 | k+1=>(nafS s (nafR s D k).1 (nafR s D k).2 (D (256 - k)),nafG (nafR s D k).2 (D (256 - k)))
def mulS (D:Nat→Int) (s:Spd):Spd:=(nafR s D 257).1
theorem nafS_rep {P:Pt} {s r:Spd} (h:RepM P 1 s) {v d:Int} {b:Bool} (hr:RepM P v r) (hb:b=false→v=0) (hd:d=0∨d % 2=1) :
  RepM P (2*v+d) (nafS s r b d)∧(nafG b d=false→2*v+d=0):=by
 have h2:RepM P (2*v) (if b then r.twice else r):=by
  cases b
  ·have:=hb rfl
   subst this
   exact hr
  ·exact repM_twice hr
 constructor
 ·unfold nafS
  dsimp only
  by_cases h0:0<d
  ·rw [if_pos h0]
   have e:d=2*((d.toNat / 2:Nat):Int)+1:=by omega
   conv=>lhs;rw [e]
   simpa using repM_sum h2 (odd_rep h (d.toNat / 2))
  ·rw [if_neg h0]
   by_cases h1:d<0
   ·rw [if_pos h1]
    have e:d=-(2*(((-d).toNat / 2:Nat):Int)+1):=by omega
    have h3:=repM_sum h2 (repM_neg (odd_rep h ((-d).toNat / 2)))
    rw [← e] at h3
    exact h3
   ·rw [if_neg h1]
    have:d=0:=by omega
    subst this
    rw [Int.add_zero]
    exact h2
 ·intro hg
  unfold nafG at hg
  simp only [Bool.or_eq_false_iff,decide_eq_false_iff_not,ne_eq,Decidable.not_not] at hg
  rw [hb hg.1,hg.2]
  rfl
end Sx

namespace Sx
open Go
theorem naf_back {w:Nat} (h:Wid w) (N:Int) (i:Nat):2*nafN w N (i+1)+nafF w N i=nafN w N i:=by
 have h2:=(nafD_range h (nafN w N i)).2.2
 show 2*((nafN w N i - nafD w (nafN w N i)) / 2)+nafD w (nafN w N i)=_
 omega
theorem naf_odd {w:Nat} (h:Wid w) (N:Int) (i:Nat):nafF w N i=0∨nafF w N i % 2=1:=(naf_form h (nafN w N i)).elim .inl fun h=>.inr h.1
theorem wid5:Wid 5:=⟨by decide⟩
theorem nafR_rep {P:Pt} {s:Spd} (h:RepM P 1 s) {N:Int} (h0:0≤N) (h1:N<q256):∀ k,k≤257 →
  RepM P (nafN 5 N (257 - k)) (nafR s (nafF 5 N) k).1∧((nafR s (nafF 5 N) k).2=false→nafN 5 N (257 - k)=0)
 | 0,_=>by
  rw [Nat.sub_zero,naf_end wid5 h0 h1]
  exact ⟨repM_zero P,fun _=>rfl⟩
 | k+1,hk=>by
  obtain ⟨h2,h3⟩:=nafR_rep h h0 h1 k (by omega)
  have e1:257 - k=256 - k+1:=by omega
  have e2:257 - (k+1)=256 - k:=by omega
  rw [e1] at h2 h3
  rw [e2,← naf_back wid5 N (256 - k)]
  exact nafS_rep h h2 h3 (naf_odd wid5 N _)
theorem mulS_rep {P:Pt} {s:Spd} (h:RepM P 1 s) {N:Int} (h0:0≤N) (h1:N<q256):RepM P N (mulS (nafF 5 N) s):=by
 have h2:=(nafR_rep h h0 h1 257 (by decide)).1
 rw [Nat.sub_self] at h2
 exact h2
def tabS (s:Spd):Nat→Spd
 | 0=>Spd.of 0 1
 | i+1=>(tabS s i).sum s
theorem tab_rep {P:Pt} {s:Spd} (h:RepM P 1 s):∀ i:Nat,RepM P (i:Int) (tabS s i)
 | 0=>repM_zero P
 | i+1=>by
  have h1:=repM_sum (tab_rep h i) h
  have e:((i+1:Nat):Int)=(i:Int)+1:=by omega
  rw [e]
  exact h1
def shS (s:Spd):Spd:=s.twice.twice.twice.twice
theorem sh_rep {P:Pt} {s:Spd} {v:Int} (h:RepM P v s):RepM P (16*v) (shS s):=by
 have:=repM_twice (repM_twice (repM_twice (repM_twice h)))
 have e:(16*v)=2*(2*(2*(2*v))):=by omega
 rw [e]
 exact this
def hexS (s r:Spd) (x:Int):Spd:=(shS ((shS r).sum (tabS s (x / 16).toNat))).sum (tabS s (x % 16).toNat)
theorem hex_rep {P:Pt} {s r:Spd} (h:RepM P 1 s) {v x:Int} (hr:RepM P v r) (hx:0≤x):RepM P (x+256*v) (hexS s r x):=by
 have h1:=repM_sum (sh_rep (repM_sum (sh_rep hr) (tab_rep h (x / 16).toNat))) (tab_rep h (x % 16).toNat)
 have e:x+256*v=16*(16*v+((x / 16).toNat:Int))+((x % 16).toNat:Int):=by omega
 rw [e]
 exact h1
def bmS (s:Spd) (n:Nat→Int):Nat→Spd
 | 0=>tabS s 0
 | k+1=>hexS s (bmS s n k) (n (31 - k))
theorem bm_rep {P:Pt} {s:Spd} (h:RepM P 1 s) {n:Nat→Int} (hn:IsBytes 32 n):∀ k,k≤32→RepM P (num k fun i=>n (32 - k+i)) (bmS s n k)
 | 0,_=>repM_zero P
 | k+1,hk=>by
  have h1:=hex_rep h (bm_rep h hn k (by omega)) (hn (31 - k) (by omega)).1
  have e:(num (k+1) fun i=>n (32 - (k+1)+i))=n (31 - k)+256*num k fun i=>n (32 - k+i):=by
   simp only [num]
   have e1:32 - (k+1)=31 - k:=by omega
   rw [e1,Nat.add_zero]
   congr 2
   congr 1
   funext i
   congr 1
   omega
  rw [e]
  exact h1
theorem bmS_rep {P:Pt} {s:Spd} (h:RepM P 1 s) {n:Nat→Int} (hn:IsBytes 32 n):RepM P (num 32 n) (bmS s n 32):=by
 have h1:=bm_rep h hn 32 (by decide)
 simp only [Nat.sub_self,Nat.zero_add] at h1
 exact h1
end Sx

namespace Sx
open Go
set_option maxRecDepth 100000
instance (x y:Zp):Decidable (onE x y):=by unfold onE;infer_instance
def zn (n:Nat):Zp:=zi pN n
structure At (P:Pt) (a:Nat × Nat):Prop where
 x:P.x=zn a.1
 y:P.y=zn a.2
theorem At.same {P Q:Pt} {a:Nat × Nat} (h:At P a) (h':At Q a):P=Q:=Pt.ext' (h.x.trans h'.x.symm) (h.y.trans h'.y.symm)
theorem zn_mul (a b:Nat):zn (a*b)=zn a*zn b:=by unfold zn;rw [← zi_mul];congr 1
theorem zn_add (a b:Nat):zn (a+b)=zn a+zn b:=by unfold zn;rw [← zi_add];congr 1
theorem zn_eq {a b:Nat} (h:a % pN=b % pN):zn a=zn b:=by
 unfold zn
 refine zi_eq.2 ?_
 rw [← Int.natCast_emod,← Int.natCast_emod,h]
theorem zn_mod (a:Nat):zn (a % pN)=zn a:=zn_eq (Nat.mod_mod _ _)
theorem zn_one:zn 1=1:=zi_one
theorem zn_zero:zn 0=0:=zi_zero
theorem zn_p:zn pN=0:=by rw [← zn_zero];exact zn_eq (by decide +kernel)
def fc {α:Type} (n:Nat) (k:Nat→α):α :=
 match n with
 | 0=>k 0
 | m+1=>k (m+1)
theorem fc_eq {α:Type} (n:Nat) (k:Nat→α):fc n k=k n:=by cases n <;> rfl
def spN (x y z t:Nat):Spd:=⟨zn x,zn y,zn z,zn t⟩
def dblN {α:Type} (x y z:Nat) (k:Nat→Nat→Nat→Nat→α):α :=
 fc (x*x % pN) fun a=>fc (y*y % pN) fun b=>fc (z*z % pN) fun c=>fc (a+b) fun h =>
 fc ((h+(pN - (x+y)*(x+y) % pN)) % pN) fun e=>fc ((a+(pN - b % pN)) % pN) fun g=>fc ((c+c+g) % pN) fun f =>
 fc (e*f % pN) fun x=>fc (g*h % pN) fun y=>fc (f*g % pN) fun z=>fc (e*h % pN) fun t=>k x y z t
def adN {α:Type} (gx gy gt x y z t:Nat) (k:Nat→Nat→Nat→Nat→α):α :=
 fc ((y+(pN - x % pN))*(gy+(pN - gx % pN)) % pN) fun a=>fc ((y+x)*(gy+gx) % pN) fun b=>fc ((t+t)*37095705934669439343138083508754565189542113879843219016388785533085940283555*gt % pN) fun c=>fc (z+z) fun d =>
 fc (b+(pN - a % pN)) fun e=>fc (d+(pN - c % pN)) fun f=>fc (d+c) fun g=>fc (b+a) fun h =>
 fc (e*f % pN) fun x=>fc (g*h % pN) fun y=>fc (f*g % pN) fun z=>fc (e*h % pN) fun t=>k x y z t
theorem zn_neg (b:Nat):zn (pN - b % pN)=- zn b:=by
 have h:zn (pN - b % pN)+zn b=0:=by
  rw [← zn_mod b,← zn_add,Nat.sub_add_cancel (Nat.le_of_lt (Nat.mod_lt _ (by decide))),zn_p]
 have:zn (pN - b % pN)=(zn (pN - b % pN)+zn b) - zn b:=by grind
 rw [this,h];grind
theorem z_sub (a b:Zp):a - b=a+-b:=by grind
theorem dbl_ok (x y z t:Nat):∃ x2 y2 z2 t2,(∀ {α:Type} (k:Nat→Nat→Nat→Nat→α),dblN x y z k=k x2 y2 z2 t2)∧spN x2 y2 z2 t2=(spN x y z t).twice:=by
 refine ⟨_,_,_,_,fun k=>by simp only [dblN,fc_eq];rfl,?_⟩
 simp only [spN,Spd.twice,Spd.join,zn_neg,zn_mod,zn_mul,zn_add,z_sub]
theorem d_zn:zn 37095705934669439343138083508754565189542113879843219016388785533085940283555=dZ:=rfl
theorem add_ok (gx gy gt x y z t:Nat):∃ x2 y2 z2 t2,(∀ {α:Type} (k:Nat→Nat→Nat→Nat→α),adN gx gy gt x y z t k=k x2 y2 z2 t2)∧spN x2 y2 z2 t2=(spN x y z t).sum ⟨zn gx,zn gy,1,zn gt⟩:=by
 refine ⟨_,_,_,_,fun k=>by simp only [adN,fc_eq];rfl,?_⟩
 have e1:∀ u:Zp,u*1=u:=fun u=>by grind
 simp only [spN,Spd.sum,Spd.join,zn_neg,zn_mod,zn_mul,zn_add,z_sub,d_zn,e1]
def runN (gx gy gt n:Nat):Nat→Nat→Nat→Nat→Nat→Nat × Nat × Nat × Nat
 | 0,x,y,z,t=>(x,y,z,t)
 | i+1,x,y,z,_=>dblN x y z fun x y z t =>
  match n / 2 ^ i % 2 with
  | 0=>runN gx gy gt n i x y z t
  | _+1=>adN gx gy gt x y z t fun x y z t=>runN gx gy gt n i x y z t
theorem run_ok {P:Pt} {gx gy gt:Nat} (hP:At P (gx,gy)) (ht:zn gt=zn gx*zn gy) (n:Nat):∀ (i x y z t:Nat),Rep (spN x y z t) (Pt.mul (n / 2 ^ i) P)→∀ x' y' z' t',runN gx gy gt n i x y z t=(x',y',z',t')→Rep (spN x' y' z' t') (Pt.mul n P)
 | 0,x,y,z,t,h,x',y',z',t',e=>by
  cases e
  rw [Nat.pow_zero,Nat.div_one] at h
  exact h
 | i+1,x,y,z,t,h,x',y',z',t',e=>by
  obtain ⟨x2,y2,z2,t2,h1,h2⟩:=dbl_ok x y z t
  have h3:=rep_twice h
  rw [← h2,← Pt.mul_add] at h3
  unfold runN at e
  rw [h1] at e
  have hd:n / 2 ^ i=n / 2 ^ (i+1)+n / 2 ^ (i+1)+n / 2 ^ i % 2:=by
   rw [Nat.pow_succ,← Nat.div_div_eq_div_mul]
   omega
  have hm:n / 2 ^ i % 2<2:=Nat.mod_lt _ (by decide)
  have key:∀ b,n / 2 ^ i % 2=b→(match b with | 0=>runN gx gy gt n i x2 y2 z2 t2 | _+1=>adN gx gy gt x2 y2 z2 t2 fun x y z t=>runN gx gy gt n i x y z t)=(x',y',z',t')→Rep (spN x' y' z' t') (Pt.mul n P):=by
   intro b hb e
   rw [hb] at hd hm
   match b,hm with
   | 0,_ =>
    refine run_ok hP ht n i x2 y2 z2 t2 ?_ x' y' z' t' e
    rw [hd,Nat.add_zero]
    exact h3
   | 1,_ =>
    obtain ⟨x3,y3,z3,t3,k1,k2⟩:=add_ok gx gy gt x2 y2 z2 t2
    have e:adN gx gy gt x2 y2 z2 t2 (fun x y z t=>runN gx gy gt n i x y z t)=(x',y',z',t'):=e
    rw [k1] at e
    refine run_ok hP ht n i x3 y3 z3 t3 ?_ x' y' z' t' e
    rw [hd,Pt.mul_succ,k2]
    refine rep_sum h3 ?_
    have e2:=rep_of P
    unfold Spd.of at e2
    rw [hP.x,hP.y] at e2
    rw [ht]
    exact e2
  exact key _ rfl e
theorem rep_zero:Rep (spN 0 1 1 0) Pt.zero:=by
 have h:=rep_of Pt.zero
 unfold Spd.of Pt.zero at h
 unfold spN Pt.zero
 rw [zn_zero,zn_one]
 have e:(0:Zp)=0*1:=by grind
 conv=>arg 1;arg 4;rw [e]
 exact h
def isMul (g:Nat × Nat) (n:Nat) (c:Nat × Nat):Bool :=
 match runN g.1 g.2 (g.1*g.2 % pN) n 256 0 1 1 0 with
 | (x,y,z,_)=>x == c.1*z % pN && (y == c.2*z % pN && decide (n<2 ^ 256))
theorem is_mul {P:Pt} {g c:Nat × Nat} (hP:At P g) {n:Nat} (h:isMul g n c=true):At (Pt.mul n P) c:=by
 unfold isMul at h
 obtain ⟨x,y,z,t,e⟩:∃ x y z t,runN g.1 g.2 (g.1*g.2 % pN) n 256 0 1 1 0=(x,y,z,t):=⟨_,_,_,_,rfl⟩
 rw [e] at h
 simp only [Bool.and_eq_true,beq_iff_eq,decide_eq_true_eq] at h
 obtain ⟨h1,h2,h3⟩:=h
 have hr:=run_ok (gt:=g.1*g.2 % pN) (gx:=g.1) (gy:=g.2) ⟨hP.x,hP.y⟩ (by rw [zn_mod,zn_mul]) n 256 0 1 1 0 (by rw [Nat.div_eq_of_lt h3,Pt.mul_zero];exact rep_zero) x y z t e
 obtain ⟨r1,r2,r3,_⟩:=hr
 have r1:zn z≠0:=r1
 have r2:zn x=(Pt.mul n P).x*zn z:=r2
 have r3:zn y=(Pt.mul n P).y*zn z:=r3
 rw [h1,zn_mod,zn_mul] at r2
 rw [h2,zn_mod,zn_mul] at r3
 have can:∀ a b:Zp,a*zn z=b*zn z→b=a:=fun a b h=>by
  have h2:(b - a)*zn z=0:=by
   have e:(b - a)*zn z=b*zn z - a*zn z:=by grind
   rw [e,h];grind
  rcases zdom prP h2 with h3 | h3
  ·exact z_cancel h3
  ·exact absurd h3 r1
 exact ⟨can _ _ r2,can _ _ r3⟩
def baseXY:Nat × Nat:=(15112221349535400772501151409588531511454012693041857206046113283949847762202,46316835694926478169428394003475163141307993866256225615783033603165251855960)
def basePt:Pt:=⟨zn baseXY.1,zn baseXY.2,by decide +kernel⟩
theorem base_at:At basePt baseXY:=⟨rfl,rfl⟩
def lNat:Nat:=7237005577332262213973186563042994240857116359379907606001950938285454250989
theorem zero_at:At Pt.zero (0,1):=by unfold Pt.zero;exact ⟨zn_zero.symm,zn_one.symm⟩
theorem base_order:Pt.mul lNat basePt=Pt.zero:=At.same (is_mul base_at (by decide +kernel)) zero_at
end Sx

namespace Sx
open Go
instance:DecidableEq Pt:=fun P Q=>if h:P.x=Q.x∧P.y=Q.y then isTrue (Pt.ext' h.1 h.2) else isFalse (fun e=>h (by rw [e];exact ⟨rfl,rfl⟩))
def nx (k:Nat) (f:Nat→Int):Nat→Int:=fun j=>f (k+j)
def ptB (x y:Zp):Nat→Int:=fun i=>if i<32 then fb x i else fb y (i - 32)
def pb (P:Pt):Nat→Int:=ptB P.x P.y
def spB (s:Spd):Nat→Int:=fun i=>if i<32 then fb s.X i else if i<64 then fb s.Y (i - 32) else if i<96 then fb s.Z (i - 64) else fb s.T (i - 96)
def spO (f:Nat→Int):Spd:=⟨fe f,fe (nx 32 f),fe (nx 64 f),fe (nx 96 f)⟩
theorem fe_same {f g:Nat→Int} (h:∀ i,i<32→f i=g i):fe f=fe g:=by unfold fe;rw [num_congr 32 h]
theorem fe_of {f:Nat→Int} {x:Zp} (h:∀ i,i<32→f i=fb x i):fe f=x:=by rw [fe_same h,fe_fb]
theorem spO_congr {f g:Nat→Int} (h:∀ i,i<128→f i=g i):spO f=spO g:=by
 unfold spO
 rw [fe_same (f:=f) (g:=g) (fun i hi=>h i (by omega)),fe_same (f:=nx 32 f) (g:=nx 32 g) (fun i hi=>h _ (by omega)),fe_same (f:=nx 64 f) (g:=nx 64 g) (fun i hi=>h _ (by omega)),fe_same (f:=nx 96 f) (g:=nx 96 g) (fun i hi=>h _ (by omega))]
theorem ptB_x (x y:Zp) {i:Nat} (h:i<32):ptB x y i=fb x i:=if_pos h
theorem ptB_y (x y:Zp) (i:Nat):ptB x y (32+i)=fb y i:=by
 unfold ptB
 rw [if_neg (by omega)]
 congr 1
 omega
theorem spB_X (s:Spd) {i:Nat} (h:i<32):spB s i=fb s.X i:=if_pos h
theorem spB_Y (s:Spd) {i:Nat} (h:i<32):spB s (32+i)=fb s.Y i:=by
 unfold spB
 rw [if_neg (by omega),if_pos (by omega)]
 congr 1
 omega
theorem spB_Z (s:Spd) {i:Nat} (h:i<32):spB s (64+i)=fb s.Z i:=by
 unfold spB
 rw [if_neg (by omega),if_neg (by omega),if_pos (by omega)]
 congr 1
 omega
theorem spB_T (s:Spd) {i:Nat} (h:i<32):spB s (96+i)=fb s.T i:=by
 unfold spB
 rw [if_neg (by omega),if_neg (by omega),if_neg (by omega)]
 congr 1
 omega
theorem spO_of {f:Nat→Int} {s:Spd} (h:∀ i,i<128→f i=spB s i):spO f=s:=by
 rw [spO_congr h]
 unfold spO
 rw [fe_of (fun i hi=>spB_X s hi),fe_of (x:=s.Y) (f:=nx 32 (spB s)) (fun i hi=>spB_Y s hi),fe_of (x:=s.Z) (f:=nx 64 (spB s)) (fun i hi=>spB_Z s hi),fe_of (x:=s.T) (f:=nx 96 (spB s)) (fun i hi=>spB_T s hi)]
theorem spO_spB (s:Spd):spO (spB s)=s:=spO_of fun _ _=>rfl
theorem sp4 {s:Spd} {f:Nat→Int} (h1:∀ i,i<32→f i=fb s.X i) (h2:∀ i,i<32→f (32+i)=fb s.Y i) (h3:∀ i,i<32→f (64+i)=fb s.Z i) (h4:∀ i,i<32→f (96+i)=fb s.T i):∀ i,i<128→f i=spB s i:=by
 intro i hi
 by_cases a1:i<32
 ·rw [h1 i a1,spB_X s a1]
 by_cases a2:i<64
 ·have e:i=32+(i - 32):=by omega
  rw [e,h2 _ (by omega),spB_Y s (by omega)]
 by_cases a3:i<96
 ·have e:i=64+(i - 64):=by omega
  rw [e,h3 _ (by omega),spB_Z s (by omega)]
 ·have e:i=96+(i - 96):=by omega
  rw [e,h4 _ (by omega),spB_T s (by omega)]
theorem pt2 {x y:Zp} {f:Nat→Int} (h1:∀ i,i<32→f i=fb x i) (h2:∀ i,i<32→f (32+i)=fb y i):∀ i,i<64→f i=ptB x y i:=by
 intro i hi
 by_cases a1:i<32
 ·rw [h1 i a1,ptB_x x y a1]
 ·have e:i=32+(i - 32):=by omega
  rw [e,h2 _ (by omega),ptB_y]
def onB (f:Nat→Int):Bool:=canB f && canB (nx 32 f) && decide (onE (fe f) (fe (nx 32 f)))
def ptO (f:Nat→Int):Pt:=if h:onE (fe f) (fe (nx 32 f)) then ⟨_,_,h⟩ else Pt.zero
theorem nx_pb (x y:Zp):nx 32 (ptB x y)=fb y:=funext fun i=>ptB_y x y i
theorem fe_ptB (x y:Zp):fe (ptB x y)=x:=fe_of fun _ hi=>ptB_x x y hi
theorem fe_ptB_y (x y:Zp):fe (nx 32 (ptB x y))=y:=by rw [nx_pb,fe_fb]
theorem ptO_pb (P:Pt):ptO (pb P)=P:=by
 unfold ptO pb
 have h:=P.on
 have e1:=fe_ptB P.x P.y
 have e2:=fe_ptB_y P.x P.y
 have h2:onE (fe (ptB P.x P.y)) (fe (nx 32 (ptB P.x P.y))):=by rw [e1,e2];exact h
 rw [dif_pos h2]
 exact Pt.ext' e1 e2
theorem canB_congr {f g:Nat→Int} (h:∀ i,i<32→f i=g i):canB f=canB g:=by unfold canB;rw [num_congr 32 h]
theorem canB_fbE (x:Zp):canB (fb x)=true:=by
 unfold canB
 rw [num_fb]
 exact decide_eq_true (zval_bounds x).2
theorem onB_pb (P:Pt):onB (pb P)=true:=by
 unfold onB pb
 rw [nx_pb,canB_fbE,canB_congr (g:=fb P.x) fun i hi=>ptB_x _ _ hi,canB_fbE,fe_ptB,fe_fb,decide_eq_true P.on]
 rfl
theorem can_fb {f:Nat→Int} (hf:IsBytes 32 f) (h:canB f=true):∀ i,i<32→f i=fb (fe f) i:=by
 have h1:=of_decide_eq_true h
 have hb:=num_bounds 32 f hf
 have e:fb (fe f)=byt (num 32 f):=by
  unfold fe
  rw [fb_zi,Int.emod_eq_of_lt hb.1 h1]
 intro i hi
 rw [e]
 exact (byt_num 32 f hf i hi).symm
theorem onB_is {f:Nat→Int} (hf:IsBytes 64 f) (h:onB f=true):∀ i,i<64→f i=pb (ptO f) i:=by
 unfold onB at h
 simp only [Bool.and_eq_true] at h
 obtain ⟨⟨h1,h2⟩,h3⟩:=h
 have h4:=of_decide_eq_true h3
 have ex:(ptO f).x=fe f:=by unfold ptO;rw [dif_pos h4]
 have ey:(ptO f).y=fe (nx 32 f):=by unfold ptO;rw [dif_pos h4]
 unfold pb
 rw [ex,ey]
 exact pt2 (can_fb (fun i hi=>hf i (by omega)) h1) (can_fb (fun i hi=>hf _ (by omega)) h2)
theorem onB_congr {f g:Nat→Int} (h:∀ i,i<64→f i=g i):onB f=onB g:=by
 unfold onB
 have h2:∀ i,i<32→nx 32 f i=nx 32 g i:=fun i hi=>h _ (by omega)
 have h1:∀ i,i<32→f i=g i:=fun i hi=>h i (by omega)
 rw [canB_congr h1,canB_congr h2,fe_same h1,fe_same h2]
theorem ptO_congr {f g:Nat→Int} (h:∀ i,i<64→f i=g i):ptO f=ptO g:=by
 unfold ptO
 have h2:∀ i,i<32→nx 32 f i=nx 32 g i:=fun i hi=>h _ (by omega)
 have h1:∀ i,i<32→f i=g i:=fun i hi=>h i (by omega)
 rw [fe_same h1,fe_same h2]
theorem ptO_of {f:Nat→Int} {P:Pt} (h:∀ i,i<64→f i=pb P i):ptO f=P:=by rw [ptO_congr h,ptO_pb]
theorem fb_inj' {x y:Zp} (h:∀ i,i<32→fb x i=fb y i):x=y:=by
 have:=fe_of h
 rw [fe_fb] at this
 exact this
theorem pb_eq {P Q:Pt}:realEqA 64 (pb P) (pb Q)=decide (P=Q):=by
 rw [Bool.eq_iff_iff]
 simp only [realEqA,List.all_eq_true,List.mem_range,beq_iff_eq,decide_eq_true_eq]
 constructor
 ·intro h
  have:=ptO_of (f:=pb P) (P:=Q) fun i hi=>h i hi
  rw [ptO_pb] at this
  exact this
 ·rintro rfl i _
  rfl
def plP (s:Spd):Nat→Int:=ptB (s.X*zinv s.Z) (s.Y*zinv s.Z)
theorem rep_plain {s:Spd} {P:Pt} (h:Rep s P):plP s=pb P:=by
 obtain ⟨z,x,y,_⟩:=h
 have hi:=z_inv_one z
 unfold plP pb
 have e1:s.X*zinv s.Z=P.x:=by
  have:s.X*zinv s.Z=P.x*(s.Z*zinv s.Z):=by rw [x];grind
  rw [this,hi];grind
 have e2:s.Y*zinv s.Z=P.y:=by
  have:s.Y*zinv s.Z=P.y*(s.Z*zinv s.Z):=by rw [y];grind
  rw [this,hi];grind
 rw [e1,e2]
end Sx

namespace Sx
open Go
structure IsPt (f:Nat→Int):Prop where
 h:onB f=true
structure IsSp (f:Nat→Int):Prop where
 h:∀ i,i<128→f i=spB (spO f) i
theorem isPt_pb (P:Pt):IsPt (pb P):=⟨onB_pb P⟩
theorem isPt_of {f:Nat→Int} {P:Pt} (h:∀ i,i<64→f i=pb P i):IsPt f:=⟨by rw [onB_congr h];exact onB_pb P⟩
theorem isSp_of {f:Nat→Int} {s:Spd} (h:∀ i,i<128→f i=spB s i):IsSp f:=⟨fun i hi=>by rw [spO_of h];exact h i hi⟩
def spOfC (R:(Nat→Int)→Nat→Int):Contract:=fun vs=>match vs with
 | [.arr .u8 64 f]=>some ([IsPt f],.arr .u8 128 (R f))
 | _=>none
def plC (R:(Nat→Int)→Nat→Int):Contract:=fun vs=>match vs with
 | [.arr .u8 128 f]=>some ([],.arr .u8 64 (R f))
 | _=>none
def joinC (R:(Nat→Int)→(Nat→Int)→(Nat→Int)→(Nat→Int)→Nat→Int):Contract:=fun vs=>match vs with
 | [.arr .u8 32 a,.arr .u8 32 b,.arr .u8 32 c,.arr .u8 32 d]=>some ([],.arr .u8 128 (R a b c d))
 | _=>none
def sp2C (R:(Nat→Int)→(Nat→Int)→Nat→Int):Contract:=fun vs=>match vs with
 | [.arr .u8 128 f,.arr .u8 128 g]=>some ([],.arr .u8 128 (R f g))
 | _=>none
def sp1C (R:(Nat→Int)→Nat→Int):Contract:=fun vs=>match vs with
 | [.arr .u8 128 f]=>some ([],.arr .u8 128 (R f))
 | _=>none
def oppC (R:(Nat→Int)→Nat→Int):Contract:=fun vs=>match vs with
 | [.arr .u8 128 f]=>some ([IsSp f],.arr .u8 128 (R f))
 | _=>none
def tabC (R:(Nat→Int)→Nat→Int):Contract:=fun vs=>match vs with
 | [.arr .u8 128 f]=>some ([],.arr .u8 2048 (R f))
 | _=>none
def multC (R:(Nat→Int)→(Nat→Int)→Nat→Int):Contract:=fun vs=>match vs with
 | [.arr .u8 32 n,.arr .u8 128 f]=>some ([IsSp f],.arr .u8 128 (R n f))
 | _=>none
def bmulC (R:(Nat→Int)→Nat→Int):Contract:=fun vs=>match vs with
 | [.arr .u8 32 n]=>some ([],.arr .u8 128 (R n))
 | _=>none
def ptKC (R:Nat→Int):Contract:=fun vs=>match vs with
 | []=>some ([],.arr .u8 64 R)
 | _=>none
def onPC (R:(Nat→Int)→Bool):Contract:=fun vs=>match vs with
 | [.arr .u8 64 f]=>some ([],.bool (.sym (R f)))
 | _=>none
def encC (R:(Nat→Int)→Nat→Int) (E:(Nat→Int)→Int):Contract:=fun vs=>match vs with
 | [.arr .u8 64 f]=>some ([],.tup [.arr .u8 32 (R f),.int .i64 (.sym (E f))])
 | _=>none
def decC (R:(Nat→Int)→Nat→Int) (E:(Nat→Int)→Int):Contract:=fun vs=>match vs with
 | [.arr .u8 32 f]=>some ([],.tup [.arr .u8 64 (R f),.int .i64 (.sym (E f))])
 | _=>none
def pt1C (R:(Nat→Int)→Nat→Int) (E:(Nat→Int)→Int):Contract:=fun vs=>match vs with
 | [.arr .u8 64 f]=>some ([],.tup [.arr .u8 64 (R f),.int .i64 (.sym (E f))])
 | _=>none
def ptBC (R:(Nat→Int)→Nat→Int):Contract:=fun vs=>match vs with
 | [.arr .u8 32 n]=>some ([],.arr .u8 64 (R n))
 | _=>none
def ptCC (R:(Nat→Int)→(Nat→Int)→(Nat→Int)→Nat→Int) (E:(Nat→Int)→Int):Contract:=fun vs=>match vs with
 | [.arr .u8 32 n,.arr .u8 64 f,.arr .u8 32 m]=>some ([],.tup [.arr .u8 64 (R n f m),.int .i64 (.sym (E f))])
 | _=>none
theorem isB64 {f:Nat→Int} (h:wfV (.arr .u8 64 f)):IsBytes 64 f:=fun i hi=>inR_u8.1 (h i hi)
theorem spl_lo {f g:Nat→Int} {o n i:Nat} (h:i<o):splice f o n g i=f i:=if_pos h
theorem spl_hi {f g:Nat→Int} {o n i:Nat} (h:o+n≤i):splice f o n g i=f i:=by
 unfold splice
 by_cases h1:i<o
 ·rw [if_pos h1]
 ·rw [if_neg h1,if_neg (by omega)]
theorem spl_in {f g:Nat→Int} {o n i:Nat} (h:i<n):splice f o n g (o+i)=g i:=by
 unfold splice
 rw [if_neg (by omega),if_pos (by omega),Nat.add_sub_cancel_left]
theorem spl_in0 {f g:Nat→Int} {n i:Nat} (h:i<n):splice f 0 n g i=g i:=by
 have:=spl_in (f:=f) (g:=g) (o:=0) h
 rw [Nat.zero_add] at this
 exact this
theorem ptl_is {z a b:Nat→Int} {x y:Zp} (h1:∀ i,i<32→a i=fb x i) (h2:∀ i,i<32→b i=fb y i):∀ i,i<64→splice (splice z 0 32 a) 32 32 b i=ptB x y i :=
 pt2 (fun i hi=>by rw [spl_lo hi,spl_in0 hi,h1 i hi]) (fun i hi=>by rw [spl_in hi,h2 i hi])
theorem spl_is {z f g h:Nat→Int} {s:Spd} (h1:∀ i,i<32→f i=fb s.X i) (h2:∀ i,i<32→f (32+i)=fb s.Y i) (h3:∀ i,i<32→g i=fb s.Z i) (h4:∀ i,i<32→h i=fb s.T i) :
  ∀ i,i<128→splice (splice (splice z 0 64 f) 64 32 g) 96 32 h i=spB s i :=
 sp4 (fun i hi=>by rw [spl_lo (by omega),spl_lo (by omega),spl_in0 (by omega),h1 i hi])
  (fun i hi=>by rw [spl_lo (by omega),spl_lo (by omega),spl_in0 (by omega),h2 i hi])
  (fun i hi=>by rw [spl_lo (by omega),spl_in hi,h3 i hi]) (fun i hi=>by rw [spl_in hi,h4 i hi])
theorem opp_is {f a d:Nat→Int} (hf:IsSp f) (h1:∀ i,i<32→a i=fb (-fe f) i) (h4:∀ i,i<32→d i=fb (-fe (nx 96 f)) i):∀ i,i<128→splice (splice f 0 32 a) 96 32 d i=spB (spO f).neg i :=
 sp4 (fun i hi=>by rw [spl_lo (by omega),spl_in0 hi,h1 i hi];rfl)
  (fun i hi=>by rw [spl_lo (by omega),spl_hi (by omega),hf.h _ (by omega),spB_Y _ hi];rfl)
  (fun i hi=>by rw [spl_lo (by omega),spl_hi (by omega),hf.h _ (by omega),spB_Z _ hi];rfl)
  (fun i hi=>by rw [spl_in hi,h4 i hi];rfl)
theorem spB_congr {s t:Spd} (h:s=t):∀ i,i<128→spB s i=spB t i:=fun _ _=>by rw [h]
theorem sum_is {c f g:Nat→Int} (hc:fe c=dZ) :
  Spd.join (fe (fb (fe (fb (fe (fb (fe (nx 32 f)+fe f))*fe (fb (fe (nx 32 g)+fe g)))) - fe (fb (fe (fb (fe (nx 32 f) - fe f))*fe (fb (fe (nx 32 g) - fe g)))))))
   (fe (fb (fe (fb (fe (fb (fe (nx 64 f)+fe (nx 64 f)))*fe (nx 64 g))) - fe (fb (fe (fb (fe (fb (fe (nx 96 f)+fe (nx 96 f)))*fe c))*fe (nx 96 g))))))
   (fe (fb (fe (fb (fe (fb (fe (nx 64 f)+fe (nx 64 f)))*fe (nx 64 g)))+fe (fb (fe (fb (fe (fb (fe (nx 96 f)+fe (nx 96 f)))*fe c))*fe (nx 96 g))))))
   (fe (fb (fe (fb (fe (fb (fe (nx 32 f)+fe f))*fe (fb (fe (nx 32 g)+fe g))))+fe (fb (fe (fb (fe (nx 32 f) - fe f))*fe (fb (fe (nx 32 g) - fe g)))))))
   = Spd.sum (spO f) (spO g):=by
 simp only [fe_fb,hc]
 rfl
theorem twice_is (f:Nat→Int) :
  Spd.join (fe (fb (fe (fb (fe (fb (fe f*fe f))+fe (fb (fe (nx 32 f)*fe (nx 32 f))))) - fe (fb (fe (fb (fe f+fe (nx 32 f)))*fe (fb (fe f+fe (nx 32 f))))))))
   (fe (fb (fe (fb (fe (fb (fe (nx 64 f)*fe (nx 64 f)))+fe (fb (fe (nx 64 f)*fe (nx 64 f)))))+fe (fb (fe (fb (fe f*fe f)) - fe (fb (fe (nx 32 f)*fe (nx 32 f))))))))
   (fe (fb (fe (fb (fe f*fe f)) - fe (fb (fe (nx 32 f)*fe (nx 32 f))))))
   (fe (fb (fe (fb (fe f*fe f))+fe (fb (fe (nx 32 f)*fe (nx 32 f))))))
   = Spd.twice (spO f):=by
 simp only [fe_fb]
 rfl
theorem pt_x {f:Nat→Int} (h:IsPt f):(ptO f).x=fe f∧(ptO f).y=fe (nx 32 f):=by
 have h1:=h.h
 unfold onB at h1
 simp only [Bool.and_eq_true] at h1
 have h2:=of_decide_eq_true h1.2
 unfold ptO
 rw [dif_pos h2]
 exact ⟨rfl,rfl⟩
theorem pt_lo {f:Nat→Int} (h:IsPt f) (hb:IsBytes 64 f):(∀ i,i<32→f i=fb (ptO f).x i)∧(∀ i,i<32→f (32+i)=fb (ptO f).y i):=by
 have e:=onB_is hb h.h
 exact ⟨fun i hi=>by rw [e i (by omega)];exact ptB_x _ _ hi,fun i hi=>by rw [e _ (by omega)];exact ptB_y _ _ i⟩
def offE (f:Nat→Int):Int:=if onB f=true then 0 else 43
def none64:Nat→Int:=fun _=>0
def negF (f:Nat→Int):Nat→Int:=if onB f=true then pb (ptO f).neg else none64
def nN (n:Nat→Int):Nat:=(num 32 n).toNat
def bmulF (n:Nat→Int):Nat→Int:=pb (Pt.mul (nN n) basePt)
def combF (n f m:Nat→Int):Nat→Int:=if onB f=true then pb ((Pt.mul (nN n) (ptO f)).add (Pt.mul (nN m) basePt)) else none64
def formB (x y:Zp):Nat→Int:=fun i=>if i=31 then fb y 31+128*(fb x 0 % 2) else fb y i
def encF (f:Nat→Int):Nat→Int:=if onB f=true then formB (ptO f).x (ptO f).y else fun _=>0
def dcY (b:Nat→Int):Nat→Int:=fun i=>if i=31 then b 31 % 128 else b i
def dcS (b:Nat→Int):Bool:=decide (128≤b 31)
def dcR (b:Nat→Int):Zp × Bool:=let y:=fe (dcY b);sqrtZ (y*y - 1) (dZ*(y*y)+1)
def decE (b:Nat→Int):Int:=if canB (dcY b)=false then 40 else if (dcR b).2=false then 41 else if dcS b=true∧(dcR b).1=0 then 42 else 0
def decF (b:Nat→Int):Nat→Int:=if decE b=0 then ptB (if dcS b=true then -(dcR b).1 else (dcR b).1) (fe (dcY b)) else none64
end Sx

namespace Sx
open Go
theorem fb_top (y:Zp):fb y 31<128:=by
 have h:=zval_bounds y
 show (y.val:Int) / 256 ^ 31 % 256<128
 simp only [p25] at h
 have e:(256:Int) ^ 31=452312848583266388373324160190187140051835877600158453279131187530910662656:=by decide
 rw [e]
 omega
theorem fb_low (x:Zp):fb x 0 % 2=((x.val % 2:Nat):Int):=by
 show (x.val:Int) / 256 ^ 0 % 256 % 2=_
 rw [Int.pow_zero,Int.ediv_one]
 omega
theorem den_ne (y:Zp):dZ*(y*y)+1≠0:=by
 intro h
 have h1:iZ*iZ=dZ*(y*y):=by
  rw [iZ_sq]
  have:dZ*(y*y)=(dZ*(y*y)+1) - 1:=by grind
  rw [this,h];grind
 have hy:=dZ_ratio h1
 rw [hy] at h
 have:(1:Zp)=0:=by
  have e:(1:Zp)=dZ*(0*0)+1:=by grind
  rw [e];exact h
 exact one_ne_z this
theorem on_den {x y:Zp}:onE x y↔(dZ*(y*y)+1)*x*x=y*y - 1:=by
 unfold onE
 constructor
 ·intro h
  have e:(dZ*(y*y)+1)*x*x=(1+dZ*(x*x)*(y*y))+x*x - 1:=by grind
  rw [e,← h];grind
 ·intro h
  have e:y*y - x*x=(y*y - 1)+1 - x*x:=by grind
  rw [e,← h];grind
theorem leg_sq1 {v:Zp} (hv:v≠0):legZ v*legZ v=1:=by
 rcases legZ_cases v with ⟨h,_⟩ | ⟨_,_,h⟩ | ⟨_,_,h⟩
 ·exact absurd h hv
 ·rw [h];rfl
 ·rw [h];rfl
theorem sqrt_pt {x y:Zp} (h:onE x y):(sqrtZ (y*y - 1) (dZ*(y*y)+1)).2=true∧(if x.val % 2=1 then -(sqrtZ (y*y - 1) (dZ*(y*y)+1)).1 else (sqrtZ (y*y - 1) (dZ*(y*y)+1)).1)=x:=by
 have h1:=on_den.1 h
 have hv:=den_ne y
 generalize dZ*(y*y)+1=v at *
 generalize y*y - 1=u at *
 by_cases hx:x=0
 ·subst hx
  have hu:u=0:=by rw [← h1];grind
  subst hu
  rw [sqrt_u0]
  exact ⟨rfl,rfl⟩
 have hu:u≠0:=by
  rw [← h1]
  exact z_ne_mul (z_ne_mul hv hx) hx
 have hl:legZ (u*v)=1:=by
  have e:u*v=(v*x)*(v*x):=by rw [← h1];grind
  rw [e,leg_mul]
  exact leg_sq1 (z_ne_mul hv hx)
 have ht:(sqrtZ u v).2=true:=by rw [sqrt_ok hu hv,hl];rfl
 refine ⟨ht,?_⟩
 obtain ⟨r1,r2⟩:=sqrt_root ht
 generalize (sqrtZ u v).1=r at *
 have hr:r=x∨r=-x:=by
  have e:v*((r - x)*(r+x))=0:=by
   have:v*((r - x)*(r+x))=v*r*r - v*x*x:=by grind
   rw [this,r1,h1];grind
  rcases zdom prP ((zdom prP e).resolve_left hv) with h2 | h2
  ·left
   have:r=(r - x)+x:=by grind
   rw [this,h2];grind
  ·right
   have:r=(r+x) - x:=by grind
   rw [this,h2];grind
 have hn:=zneg_val hx
 have hxl:=x.isLt
 have hp:pN % 2=1:=by decide
 rcases hr with rfl | rfl
 ·rw [if_neg (by omega)]
 ·have e:x.val % 2=1:=by omega
  rw [if_pos e]
  grind
theorem dcY_form {b:Nat→Int} {x y:Zp} (h:∀ i,i<32→b i=formB x y i):∀ i,i<32→dcY b i=fb y i:=by
 intro i hi
 unfold dcY
 have hb:=fb_isBytes y 31 (by decide)
 have ht:=fb_top y
 by_cases e:i=31
 ·subst e
  rw [if_pos rfl,h 31 hi]
  unfold formB
  rw [if_pos rfl]
  omega
 ·rw [if_neg e,h i hi]
  unfold formB
  rw [if_neg e]
theorem dcS_form {b:Nat→Int} {x y:Zp} (h:∀ i,i<32→b i=formB x y i):dcS b=decide (x.val % 2=1):=by
 unfold dcS
 rw [h 31 (by decide)]
 unfold formB
 rw [if_pos rfl,fb_low]
 have hb:=fb_isBytes y 31 (by decide)
 have ht:=fb_top y
 rw [Bool.eq_iff_iff]
 simp only [decide_eq_true_eq]
 omega
theorem dec_form {b:Nat→Int} {P:Pt} (h:∀ i,i<32→b i=formB P.x P.y i):decE b=0∧decF b=pb P:=by
 have hy:=dcY_form h
 have hs:=dcS_form h
 have hfe:fe (dcY b)=P.y:=fe_of hy
 have hc:canB (dcY b)=true:=by rw [canB_congr hy,canB_fb]
 obtain ⟨s1,s2⟩:=sqrt_pt P.on
 have hR:dcR b=sqrtZ (P.y*P.y - 1) (dZ*(P.y*P.y)+1):=by unfold dcR;rw [hfe]
 have hE:decE b=0:=by
  unfold decE
  rw [hc,hR,s1,hs]
  simp only [Bool.true_eq_false,if_false,decide_eq_true_eq]
  rw [if_neg]
  rintro ⟨h1,h2⟩
  rw [if_pos h1,h2] at s2
  have:P.x=0:=by rw [← s2];grind
  rw [this] at h1
  exact absurd h1 (by decide)
 refine ⟨hE,?_⟩
 unfold decF pb
 rw [if_pos hE,hfe,hR,hs]
 simp only [decide_eq_true_eq]
 rw [s2]
theorem dec_is {b:Nat→Int} (hb:IsBytes 32 b) (h:decE b=0):∃ P:Pt,decF b=pb P∧(∀ i,i<32→b i=formB P.x P.y i)∧(∀ i,i<32→dcY b i=fb P.y i)∧decide (P.x.val % 2=1)=dcS b:=by
 have hE:=h
 unfold decE at h
 by_cases c1:canB (dcY b)=false
 ·rw [if_pos c1] at h;cases h
 rw [if_neg c1] at h
 by_cases c2:(dcR b).2=false
 ·rw [if_pos c2] at h;cases h
 rw [if_neg c2] at h
 by_cases c3:dcS b=true∧(dcR b).1=0
 ·rw [if_pos c3] at h;cases h
 have c1':canB (dcY b)=true:=by simpa using c1
 have c2':(dcR b).2=true:=by simpa using c2
 have hR:dcR b=sqrtZ (fe (dcY b)*fe (dcY b) - 1) (dZ*(fe (dcY b)*fe (dcY b))+1):=rfl
 rw [hR] at c2'
 obtain ⟨r1,r2⟩:=sqrt_root c2'
 rw [← hR] at r1 r2
 have hD:IsBytes 32 (dcY b):=by
  intro i hi
  unfold dcY
  split
  ·omega
  ·exact hb i hi
 have hcan:=can_fb hD c1'
 generalize hy:fe (dcY b)=y at *
 generalize hr:(dcR b).1=r at *
 have on1:onE (if dcS b=true then -r else r) y:=by
  rw [on_den]
  split
  ·rw [← r1];grind
  ·exact r1
 have hodd:decide ((if dcS b=true then -r else r).val % 2=1)=dcS b:=by
  cases hs:dcS b with
  | false=>simp only [Bool.false_eq_true,if_false,decide_eq_false_iff_not];omega
  | true =>
   have hne:r≠0:=fun e=>c3 ⟨hs,e⟩
   have hn:=zneg_val hne
   have hrl:=r.isLt
   have hp:pN % 2=1:=by decide
   simp only [if_true,decide_eq_true_eq]
   omega
 refine ⟨⟨_,y,on1⟩,?_,?_,hcan,hodd⟩
 ·unfold decF pb
  rw [if_pos hE,hy,hr]
 ·intro i hi
  show b i=formB (if dcS b=true then -r else r) y i
  unfold formB
  have h31:=hcan 31 (by decide)
  have ht:=fb_top y
  rw [fb_low]
  by_cases e:i=31
  ·subst e
   rw [if_pos rfl,← h31]
   unfold dcY
   rw [if_pos rfl]
   have hb31:=hb 31 hi
   have hsd:dcS b=decide (128≤b 31):=rfl
   rw [hsd] at hodd
   have hodd2:((if dcS b=true then -r else r).val % 2=1)↔128≤b 31:=by
    have:=hodd
    rw [hsd]
    rw [Bool.eq_iff_iff] at this
    simpa using this
   generalize (if dcS b=true then -r else r).val=n at *
   by_cases hc:128≤b 31
   ·have:=hodd2.2 hc
    omega
   ·have:n % 2≠1:=fun e=>hc (hodd2.1 e)
    omega
  ·rw [if_neg e,← hcan i hi]
   unfold dcY
   rw [if_neg e]
end Sx

namespace Sx
open Go
theorem mnot_no {a:Bool} (h:(match a with | true=>false | false=>true)=false):a=true:=by cases a <;> simp_all
theorem mnot_yes {a:Bool} (h:(match a with | true=>false | false=>true)=true):a=false:=by cases a <;> simp_all
theorem mor_no {a b:Bool} (h:(match (match a with | true=>false | false=>true) with | true=>true | false=>match b with | true=>false | false=>true)=false):a=true∧b=true:=by cases a <;> cases b <;> simp_all
theorem mor_yes {a b:Bool} (h:(match (match a with | true=>false | false=>true) with | true=>true | false=>match b with | true=>false | false=>true)=true):¬ (a=true∧b=true):=by cases a <;> cases b <;> simp_all
theorem on_is {c o f:Nat→Int} (hc:fe c=dZ) (ho:fe o=1) (h:canB f=true∧canB (nx 32 f)=true) :
  realEqA 32 (fb (fe (fb (fe (nx 32 f)*fe (nx 32 f))) - fe (fb (fe f*fe f)))) (fb (fe o+fe (fb (fe c*fe (fb (fe (fb (fe f*fe f))*fe (fb (fe (nx 32 f)*fe (nx 32 f)))))))))=onB f:=by
 unfold onB
 rw [h.1,h.2,fb_inj]
 simp only [fe_fb,hc,ho,Bool.and_self,Bool.true_and]
 rw [Bool.eq_iff_iff]
 simp only [decide_eq_true_eq]
 unfold onE
 rw [show dZ*(fe f*fe f*(fe (nx 32 f)*fe (nx 32 f)))=dZ*(fe f*fe f)*(fe (nx 32 f)*fe (nx 32 f)) from by grind]
theorem on_no {f:Nat→Int} (h:¬ (canB f=true∧canB (nx 32 f)=true)):false=onB f:=by
 unfold onB
 cases h1:canB f <;> cases h2:canB (nx 32 f) <;> simp_all
theorem or_top:∀ x:Fin 128,∀ b:Fin 2,realBin .or .u8 (x.val:Int) (realBin .shl .u8 (b.val:Int) 7)=(x.val:Int)+128*(b.val:Int):=by decide +kernel
theorem or_top' {x b:Int} (hx:0≤x∧x<128) (hb:0≤b∧b<2):realBin .or .u8 x (realBin .shl .u8 b 7)=x+128*b:=by
 have h:=or_top ⟨x.toNat,by omega⟩ ⟨b.toNat,by omega⟩
 simp only at h
 rw [Int.toNat_of_nonneg hx.1,Int.toNat_of_nonneg hb.1] at h
 exact h
theorem and_low7:∀ x:Fin 256,realBin .and .u8 (x.val:Int) 127=(x.val:Int) % 128:=by decide +kernel
theorem and_low7' {x:Int} (hx:0≤x∧x<256):realBin .and .u8 x 127=x % 128:=by
 have h:=and_low7 ⟨x.toNat,by omega⟩
 simp only at h
 rw [Int.toNat_of_nonneg hx.1] at h
 exact h
theorem enc_is {f:Nat→Int} (hf:IsPt f) (hb:IsBytes 64 f):∀ i,i<32→upd (nx 32 f) 31 (realBin .or .u8 (f (32+31)) (realBin .shl .u8 (realBin .and .u8 (f 0) 1) 7)) i=encF f i:=by
 intro i hi
 have l:=pt_lo hf hb
 unfold encF
 rw [if_pos hf.h]
 unfold formB upd
 by_cases e:i=31
 ·rw [if_pos e,if_pos e,and_one_u8 (hb 0 (by decide)),l.2 31 (by decide),l.1 0 (by decide)]
  have h1:=fb_isBytes (ptO f).y 31 (by decide)
  have h2:=fb_top (ptO f).y
  exact or_top' ⟨h1.1,h2⟩ ⟨by omega,by omega⟩
 ·rw [if_neg e,if_neg e]
  exact l.2 i hi
theorem off_off {f:Nat→Int} (h:onB f=false):(∀ i,i<32→0=encF f i)∧43=offE f∧True:=by
 unfold encF offE
 rw [h]
 exact ⟨fun _ _=>rfl,rfl,trivial⟩
theorem off_on {f:Nat→Int} (h:onB f=true):0=offE f:=by
 unfold offE
 rw [if_pos h]
theorem dcY_is {f:Nat→Int} (hf:IsBytes 32 f):upd f 31 (realBin .and .u8 (f 31) 127)=dcY f:=by
 funext i
 unfold upd dcY
 rw [and_low7' (hf 31 (by decide))]
theorem dc_sb {c o f:Nat→Int} (hc:fe c=dZ) (ho:fe o=1) :
  sqrtB (fb (fe (fb (fe (dcY f)*fe (dcY f))) - fe o)) (fb (fe (fb (fe c*fe (fb (fe (dcY f)*fe (dcY f)))))+fe o))=(dcR f).2:=by
 unfold sqrtB dcR
 simp only [fe_fb,hc,ho]
theorem dc_sr {c o f:Nat→Int} (hc:fe c=dZ) (ho:fe o=1) :
  sqrtR (fb (fe (fb (fe (dcY f)*fe (dcY f))) - fe o)) (fb (fe (fb (fe c*fe (fb (fe (dcY f)*fe (dcY f)))))+fe o))=fb (dcR f).1:=by
 unfold sqrtR dcR
 simp only [fe_fb,hc,ho]
theorem dec_40 {f:Nat→Int} (h:canB (dcY f)=false):(∀ i,i<64→0=decF f i)∧40=decE f∧True:=by
 have e:decE f=40:=by unfold decE;rw [if_pos h]
 refine ⟨fun i _=>?_,e.symm,trivial⟩
 unfold decF
 rw [e]
 rfl
theorem dec_41 {f:Nat→Int} (h:canB (dcY f)=true) (h1:(dcR f).2=false):(∀ i,i<64→0=decF f i)∧41=decE f∧True:=by
 have e:decE f=41:=by unfold decE;rw [h,h1];rfl
 refine ⟨fun i _=>?_,e.symm,trivial⟩
 unfold decF
 rw [e]
 rfl
theorem dec_42 {f:Nat→Int} (h:canB (dcY f)=true) (h1:(dcR f).2=true) (h2:dcS f=true) (h3:(dcR f).1=0):(∀ i,i<64→0=decF f i)∧42=decE f∧True:=by
 have e:decE f=42:=by unfold decE;rw [h,h1,h2,h3];rfl
 refine ⟨fun i _=>?_,e.symm,trivial⟩
 unfold decF
 rw [e]
 rfl
theorem dec_00 {f:Nat→Int} (hf:IsBytes 32 f) (h:canB (dcY f)=true) (h1:(dcR f).2=true) (h2:¬ (dcS f=true∧(dcR f).1=0)) {x:Nat→Int} (hx:∀ i,i<32→x i=fb (if dcS f=true then -(dcR f).1 else (dcR f).1) i) :
  (∀ i,i<64→splice (splice (fun _=>0) 0 32 x) 32 32 (dcY f) i=decF f i)∧0=decE f∧True:=by
 have e:decE f=0:=by
  unfold decE
  rw [h,h1,if_neg (by simp),if_neg (by simp),if_neg h2]
 have hD:IsBytes 32 (dcY f):=by
  intro i hi
  unfold dcY
  split
  ·omega
  ·exact hf i hi
 refine ⟨?_,e.symm,trivial⟩
 unfold decF
 rw [if_pos e]
 exact ptl_is hx (can_fb hD h)
theorem of_zero32 {x:Zp} {z:Nat→Int} (hz:∀ i,i<32→z i=fb 0 i) (h:realEqA 32 (fb x) z=true):x=0:=by
 refine fb_inj' fun i hi=>?_
 simp only [realEqA,List.all_eq_true,List.mem_range,beq_iff_eq] at h
 rw [h i hi,hz i hi]
theorem of_zero32' {x:Zp} {z:Nat→Int} (hz:∀ i,i<32→z i=fb 0 i) (h:realEqA 32 (fb x) z=false):x≠0:=by
 rintro rfl
 have:realEqA 32 (fb 0) z=true:=by
  simp only [realEqA,List.all_eq_true,List.mem_range,beq_iff_eq]
  exact fun i hi=>(hz i hi).symm
 rw [this] at h
 cases h
end Sx

namespace Sx
open Go
def rowP (T:Nat→Spd) (n:Nat):Nat→Int:=fun c=>if c<128*n then spB (T (c / 128)) (c % 128) else 0
theorem rowP_at {T:Nat→Spd} {n i:Nat} (h:i<n):∀ j,j<128→rowP T n (128*i+j)=spB (T i) j:=by
 intro j hj
 unfold rowP
 rw [if_pos (by omega)]
 have e1:(128*i+j) / 128=i:=by omega
 have e2:(128*i+j) % 128=j:=by omega
 rw [e1,e2]
theorem rowP_sp {T:Nat→Spd} {n i:Nat} (h:i<n):spO (fun j=>rowP T n (128*i+j))=T i:=spO_of (rowP_at h)
theorem rowP_step {T:Nat→Spd} {n:Nat} {g:Nat→Int} (hg:∀ j,j<128→g j=spB (T n) j) (c:Nat):splice (rowP T n) (128*n) 128 g c=rowP T (n+1) c:=by
 unfold splice
 by_cases h1:c<128*n
 ·rw [if_pos h1]
  unfold rowP
  rw [if_pos h1,if_pos (by omega)]
 rw [if_neg h1]
 by_cases h2:c<128*n+128
 ·rw [if_pos h2,hg _ (by omega)]
  unfold rowP
  rw [if_pos (by omega)]
  have e1:c / 128=n:=by omega
  have e2:c % 128=c - 128*n:=by omega
  rw [e1,e2]
 ·rw [if_neg h2]
  unfold rowP
  rw [if_neg h1,if_neg (by omega)]
theorem rowP_zero {T:Nat→Spd} {g:Nat→Int} (hg:∀ j,j<128→g j=spB (T 0) j) (c:Nat):splice (fun _=>0) 0 128 g c=rowP T 1 c:=by
 have h:=rowP_step (n:=0) hg c
 rw [Nat.mul_zero] at h
 rw [← h]
 congr 1
theorem quo_u8 {x:Int} (hx:0≤x∧x<256):realBin .quo .u8 x 16=x / 16:=by
 show IntKind.wrap .u8 (x.tdiv 16)=_
 rw [Int.tdiv_eq_ediv_of_nonneg hx.1,wrap_u8]
 omega
theorem quo_i8 {x:Int} (hx:0≤x∧x<128):realBin .quo .i8 x 2=x / 2:=by
 show IntKind.wrap .i8 (x.tdiv 2)=_
 rw [Int.tdiv_eq_ediv_of_nonneg hx.1,wrap_i8 (by omega)]
theorem neg_i8 {x:Int} (hx:-128<x∧x<128):realUn .neg .i8 x=-x:=by
 show IntKind.wrap .i8 (0 - x)=_
 rw [wrap_i8 (by omega)]
 omega
def dig5 (n:Nat→Int):Nat→Int:=nafF 5 (num 32 n)
theorem dig5_form (n:Nat→Int) (i:Nat):dig5 n i=0∨(dig5 n i % 2=1∧dig5 n i<16∧-16<dig5 n i):=by
 have h:=naf_form wid5 (nafN 5 (num 32 n) i)
 have e:dig5 n i=nafD 5 (nafN 5 (num 32 n) i):=rfl
 rw [e]
 rcases h with h | ⟨h1,h2,h3⟩
 ·exact .inl h
 ·exact .inr ⟨h1,by simpa using h2,by simpa using h3⟩
theorem digL5:digL 5=257:=by decide
section
variable {s:Spd} {D:Nat→Int} {k:Nat}
theorem naf_pos (h:0<D (256 - k)):(nafR s D (k+1)).1=(if (nafR s D k).2=true then (nafR s D k).1.twice else (nafR s D k).1).sum (oddS s ((D (256 - k)).toNat / 2))∧(nafR s D (k+1)).2=true:=by
 constructor
 ·show nafS _ _ _ _=_
  unfold nafS
  rw [if_pos h]
 ·show nafG _ _=true
  unfold nafG
  rw [decide_eq_true (by omega),Bool.or_true]
theorem naf_neg (h:D (256 - k)<0):(nafR s D (k+1)).1=(if (nafR s D k).2=true then (nafR s D k).1.twice else (nafR s D k).1).sum (oddS s ((-D (256 - k)).toNat / 2)).neg∧(nafR s D (k+1)).2=true:=by
 constructor
 ·show nafS _ _ _ _=_
  unfold nafS
  rw [if_neg (by omega),if_pos h]
 ·show nafG _ _=true
  unfold nafG
  rw [decide_eq_true (by omega),Bool.or_true]
theorem naf_nil (h:D (256 - k)=0):(nafR s D (k+1)).1=(if (nafR s D k).2=true then (nafR s D k).1.twice else (nafR s D k).1)∧(nafR s D (k+1)).2=(nafR s D k).2:=by
 constructor
 ·show nafS _ _ _ _=_
  unfold nafS
  rw [if_neg (by omega),if_neg (by omega)]
 ·show nafG _ _=_
  unfold nafG
  rw [decide_eq_false (by omega),Bool.or_false]
end
def mulF (n f:Nat→Int):Nat→Int:=spB (mulS (dig5 n) (spO f))
def baseF (n:Nat→Int):Nat→Int:=spB (bmS (Spd.of basePt.x basePt.y) n 32)
theorem rep_base:Rep (Spd.of basePt.x basePt.y) basePt:=rep_of basePt
theorem baseF_plain {n:Nat→Int} (hn:IsBytes 32 n):plP (spO (baseF n))=pb (Pt.mul (nN n) basePt):=by
 unfold baseF
 rw [spO_spB]
 refine rep_plain (repM_nat ?_)
 have h:=bmS_rep (repM_one rep_base) hn
 have e:num 32 n=(nN n:Int):=(Int.toNat_of_nonneg (num_bounds 32 n hn).1).symm
 rw [e] at h
 exact h
theorem mulF_rep {n f:Nat→Int} (hn:IsBytes 32 n) {P:Pt} (hs:Rep (spO f) P):Rep (spO (mulF n f)) (Pt.mul (nN n) P):=by
 unfold mulF
 rw [spO_spB]
 refine repM_nat ?_
 have hb:=num_q256 hn
 have h:=mulS_rep (repM_one hs) hb.1 hb.2
 have e:num 32 n=(nN n:Int):=(Int.toNat_of_nonneg hb.1).symm
 rw [show dig5 n=nafF 5 (num 32 n) from rfl]
 conv at h=>lhs;rw [e]
 exact h
theorem baseF_rep {n:Nat→Int} (hn:IsBytes 32 n):Rep (spO (baseF n)) (Pt.mul (nN n) basePt):=by
 unfold baseF
 rw [spO_spB]
 refine repM_nat ?_
 have h:=bmS_rep (repM_one rep_base) hn
 have e:num 32 n=(nN n:Int):=(Int.toNat_of_nonneg (num_bounds 32 n hn).1).symm
 rw [e] at h
 exact h
end Sx

namespace Sx
open Go
theorem rep_so (f:Nat→Int):Rep (spO (spB (Spd.of (ptO f).x (ptO f).y))) (ptO f):=by rw [spO_spB];exact rep_of _
theorem sp_so (f:Nat→Int):IsSp (spB (Spd.of (ptO f).x (ptO f).y)):=isSp_of fun _ _=>rfl
theorem add_rep {f g:Nat→Int} {P Q:Pt} (h:Rep (spO f) P) (h':Rep (spO g) Q):Rep (spO (spB (Spd.sum (spO f) (spO g)))) (P.add Q):=by rw [spO_spB];exact rep_sum h h'
theorem plain_rep {f:Nat→Int} {P:Pt} (h:Rep (spO f) P):plP (spO f)=pb P:=rep_plain h
theorem comb_calc {n f m:Nat→Int} (hn:IsBytes 32 n) (hm:IsBytes 32 m) (hf:onB f=true):plP (spO (spB (Spd.sum (spO (mulF n (spB (Spd.of (ptO f).x (ptO f).y)))) (spO (baseF m)))))=combF n f m:=by
 rw [plain_rep (add_rep (mulF_rep hn (rep_so f)) (baseF_rep hm))]
 unfold combF
 rw [if_pos hf]
theorem neg_calc {f:Nat→Int} (hb:IsBytes 64 f) (hf:onB f=true):∀ i,i<64→splice (splice (fun _=>0) 0 32 (fb (-fe f))) 32 32 (nx 32 f) i=negF f i:=by
 have e:=pt_x ⟨hf⟩
 have l:=pt_lo ⟨hf⟩ hb
 unfold negF pb Pt.neg
 rw [if_pos hf]
 exact ptl_is (fun i _=>by show fb (-fe f) i=fb (-(ptO f).x) i;rw [e.1]) l.2
theorem off_neg {f:Nat→Int} (h:onB f=false):(∀ i,i<64→0=negF f i)∧43=offE f∧True:=by unfold negF offE;rw [h];exact ⟨fun _ _=>rfl,rfl,trivial⟩
theorem off_comb {n f m:Nat→Int} (h:onB f=false):(∀ i,i<64→0=combF n f m i)∧43=offE f∧True:=by unfold combF offE;rw [h];exact ⟨fun _ _=>rfl,rfl,trivial⟩
end Sx

namespace Sx
open Go
theorem sameW_int {k:IntKind} {n n':SI} (h:n.val=n'.val):SameWR (.int k n) (.int k n') :=
 ⟨rfl,rfl,fun B w v ⟨_,e2,e3⟩=>⟨rfl,(sameWP_ok (a:=.int k n) (b:=.int k n') ⟨rfl,h⟩).2.2.2 e2,by rw [e3];exact (sameWP_ok (a:=.int k n) (b:=.int k n') ⟨rfl,h⟩).2.2.1⟩⟩
structure IsForm (b:Nat→Int):Prop where
 h:decE b=0
structure Small48 (x:Int):Prop where
 h:0≤x∧x<281474976710656
section
variable {P:Program} {G:Nat→AV} {i:FuncId}
end
theorem base_dbl:Pt.add basePt basePt≠basePt:=by
 intro h
 have h1:basePt=Pt.zero:=by
  have h2:basePt.add basePt=Pt.zero.add basePt:=by rw [h,Pt.zero_add]
  exact Pt.cancel h2
 have h3:=congrArg Pt.x h1
 have h4:zn baseXY.1=zn 0:=h3.trans zero_at.x
 exact absurd h4 (by decide +kernel)
end Sx

namespace Sx
open Go
theorem base_mod (n:Nat):Pt.mul n basePt=Pt.mul (n % lNat) basePt:=by
 conv=>lhs;rw [← Nat.div_add_mod n lNat,Pt.mul_add,Nat.mul_comm,Pt.mul_mul,base_order,Pt.mul_of_zero,Pt.zero_add]
theorem base_ne:basePt≠Pt.zero:=by
 intro h
 refine base_dbl ?_
 conv=>lhs;rw [h,Pt.zero_add]
 exact h.symm
theorem base_zero {m:Nat}:Pt.mul m basePt=Pt.zero↔m % lNat=0:=by
 constructor
 ·intro h
  refine Decidable.byContradiction fun hm=>base_ne ?_
  have hx:zi lN (m:Int)≠0:=by
   intro e
   have h1:=congrArg (fun x:Zl=>(x.val:Int)) e
   simp only [zi_val] at h1
   have h2:((m:Int) % (lN:Int))=0:=h1.trans rfl
   have h3:(lN:Int)=(lNat:Int):=rfl
   rw [h3] at h2
   omega
  have h1:=mul_zinv prL hx
  have e:m*(zinv (zi lN (m:Int)):Zl).val % lNat=1:=by
   have h2:zi lN ((m:Int)*((zinv (zi lN (m:Int)):Zl).val:Int))=zi lN 1:=by rw [zi_mul,zi_of_val,h1,zi_one]
   have h3:=zi_eq.1 h2
   have h4:(lN:Int)=(lNat:Int):=rfl
   rw [h4,← Int.natCast_mul] at h3
   have h5:(1:Int) % (lNat:Int)=1:=by decide
   rw [h5] at h3
   omega
  generalize (zinv (zi lN (m:Int)):Zl).val=k at e
  have h6:=base_mod (m*k)
  rw [e,Pt.mul_one,Nat.mul_comm,Pt.mul_mul,h,Pt.mul_of_zero] at h6
  exact h6.symm
 ·intro h
  rw [base_mod,h,Pt.mul_zero]
theorem nN_int {n:Nat→Int} (h:IsBytes 32 n):(nN n:Int)=num 32 n:=Int.toNat_of_nonneg (num_bounds 32 n h).1
end Sx

namespace Sx
open Go
theorem and_dead {A B X Y:Prop} (hA:¬ A) (hY:B→Y):(A→X)∧(B→Y):=⟨fun h=>(hA h).elim,hY⟩
end Sx

namespace Sx
open Go
noncomputable def verF (K:(Nat→Int)→(Nat→Int)→Nat→(Nat→Int)→Nat→Int) (p:Nat→Int) (n:Nat) (f s:Nat→Int):Int :=
 if canS (fun j=>s (32+j))=false then 50
 else if decE p≠0 then 51
 else if decE s≠0 then 52
 else if realEqA 64 (combF (K s p n f) (negF (decF p)) (fun j=>s (32+j))) (decF s)=true then 0 else 53
def verC (V:(Nat→Int)→Nat→(Nat→Int)→(Nat→Int)→Int):Contract:=fun vs=>match vs with
 | [.arr .u8 32 p,.xsl .u8 1 (.sym n) _ f,.arr .u8 64 s]=>some ([],.int .i64 (.sym (V p n f s)))
 | _=>none
end Sx
namespace Sx
open Go
end Sx
namespace Sx
open Go
section
variable {K:(Nat→Int)→(Nat→Int)→Nat→(Nat→Int)→Nat→Int} {p:Nat→Int} {n:Nat} {f s:Nat→Int}
theorem ver_50 (h:canS (fun j=>s (32+j))=false):50=verF K p n f s:=by unfold verF;rw [if_pos h]
theorem ver_51 (h:canS (fun j=>s (32+j))=true) (h1:decE p≠0):51=verF K p n f s:=by unfold verF;rw [if_neg (by rw [h];decide),if_pos h1]
theorem ver_52 (h:canS (fun j=>s (32+j))=true) (h1:decE p=0) (h2:decE s≠0):52=verF K p n f s:=by unfold verF;rw [if_neg (by rw [h];decide),if_neg (by rw [h1];decide),if_pos h2]
theorem ver_53 (h:canS (fun j=>s (32+j))=true) (h1:decE p=0) (h2:decE s=0) (h3:realEqA 64 (combF (K s p n (fun j=>f (0+j))) (negF (decF p)) (fun j=>s (32+j))) (decF s)=false):53=verF K p n f s:=by
 have e:(fun j=>f (0+j))=f:=funext fun j=>congrArg f (Nat.zero_add j)
 rw [e] at h3
 unfold verF
 rw [if_neg (by rw [h];decide),if_neg (by rw [h1];decide),if_neg (by rw [h2];decide),if_neg (by rw [h3];decide)]
theorem ver_00 (h:canS (fun j=>s (32+j))=true) (h1:decE p=0) (h2:decE s=0) (h3:realEqA 64 (combF (K s p n (fun j=>f (0+j))) (negF (decF p)) (fun j=>s (32+j))) (decF s)=true):0=verF K p n f s:=by
 have e:(fun j=>f (0+j))=f:=funext fun j=>congrArg f (Nat.zero_add j)
 rw [e] at h3
 unfold verF
 rw [if_neg (by rw [h];decide),if_neg (by rw [h1];decide),if_neg (by rw [h2];decide),if_pos h3]
end
end Sx
namespace Sx
open Go
end Sx

namespace Sx
open Go
theorem enc_pb (P:Pt):encF (pb P)=formB P.x P.y:=by unfold encF;rw [if_pos (onB_pb P),ptO_pb]
theorem half_dec (P:Pt) (t:Nat→Int):decE (joinF 32 (encF (pb P)) t)=0∧decF (joinF 32 (encF (pb P)) t)=pb P:=dec_form fun i hi=>by
 rw [enc_pb]
 simp only [joinF]
 rw [if_pos hi]
theorem halves_last (r t:Nat→Int):(fun j=>joinF 32 r t (32+j))=t:=funext fun j=>by
 simp only [joinF]
 rw [if_neg (by omega),show 32+j - 32=j by omega]
end Sx

namespace Sx
open Go
theorem Pt.eq_neg {P Q:Pt} (h:P.add Q=Pt.zero):P=Q.neg:=by
 have h2:(P.add Q).add Q.neg=Pt.zero.add Q.neg:=by rw [h]
 rwa [Pt.add_assoc,Pt.add_neg,Pt.add_zero,Pt.zero_add] at h2
theorem Pt.mul_of_neg (n:Nat) (P:Pt):Pt.mul n P.neg=(Pt.mul n P).neg:=Pt.eq_neg (Pt.mul_neg P n)
theorem Pt.add_cancel {P Q R:Pt} (h:P.add Q=P.add R):Q=R:=by
 have h2:P.neg.add (P.add Q)=P.neg.add (P.add R):=by rw [h]
 rwa [← Pt.add_assoc,← Pt.add_assoc,Pt.neg_add,Pt.zero_add,Pt.zero_add] at h2
theorem Pt.move {P Q R:Pt}:P.neg.add Q=R↔Q=R.add P:=by
 constructor
 ·intro h
  rw [← h,Pt.add_comm P.neg,Pt.add_assoc,Pt.neg_add,Pt.add_zero]
 ·intro h
  rw [h,Pt.add_comm R,← Pt.add_assoc,Pt.neg_add,Pt.zero_add]
theorem dec_enc (P:Pt):decE (encF (pb P))=0∧decF (encF (pb P))=pb P:=dec_form fun i _=>by rw [enc_pb]
theorem dec_join (P:Pt) (t:Nat→Int):decE (joinF 32 (encF (pb P)) t)=0∧decF (joinF 32 (encF (pb P)) t)=pb P:=half_dec P t
theorem comb_neg (k t:Nat→Int) (A:Pt):combF k (negF (pb A)) t=pb ((Pt.mul (nN k) A).neg.add (Pt.mul (nN t) basePt)):=by
 unfold negF
 rw [if_pos (onB_pb _),ptO_pb]
 unfold combF
 rw [if_pos (onB_pb _),ptO_pb,Pt.mul_of_neg]
theorem nN_sb (z:Zl):nN (sb z)=z.val:=by unfold nN;rw [num_sb];rfl
theorem ver_form (K:(Nat→Int)→(Nat→Int)→Nat→(Nat→Int)→Nat→Int) (A R:Pt) (m:Nat) (F:Nat→Int) (z:Zl) {k:Nat→Int} (hk:K (joinF 32 (encF (pb R)) (sb z)) (encF (pb A)) m F=k) :
  verF K (encF (pb A)) m F (joinF 32 (encF (pb R)) (sb z))=if Pt.mul z.val basePt=R.add (Pt.mul (nN k) A) then 0 else 53:=by
 obtain ⟨h1,h2⟩:=dec_enc A
 obtain ⟨h3,h4⟩:=dec_join R (sb z)
 have h5:=halves_last (encF (pb R)) (sb z)
 generalize joinF 32 (encF (pb R)) (sb z)=s at h3 h4 h5 hk ⊢
 generalize encF (pb A)=p at h1 h2 hk ⊢
 unfold verF
 rw [h5,can_sb,if_neg (by decide),h1,if_neg (by decide),h3,if_neg (by decide),h2,hk,comb_neg,h4,nN_sb,pb_eq]
 by_cases h:Pt.mul z.val basePt=R.add (Pt.mul (nN k) A)
 ·rw [if_pos h,decide_eq_true (Pt.move.2 h),if_pos rfl]
 ·rw [if_neg h,decide_eq_false (fun h2=>h (Pt.move.1 h2)),if_neg (by decide)]
theorem zl_val (x:Nat):(zi lN (x:Int)).val=x % lNat:=by
 have h:=zi_val (n:=lN) (x:Int)
 have h2:(((zi lN (x:Int)).val:Nat):Int)=((x % lNat:Nat):Int):=h
 exact Int.ofNat.inj h2
theorem se_zi {f:Nat→Int} (h:IsBytes 32 f):se f=zi lN ((nN f:Nat):Int):=by unfold se;rw [nN_int h]
theorem mul_zi (x:Nat):Pt.mul (zi lN (x:Int)).val basePt=Pt.mul x basePt:=by rw [zl_val,← base_mod]
theorem mul_s {k a n:Nat→Int} (hk:IsBytes 32 k) (ha:IsBytes 32 a) (hn:IsBytes 32 n):Pt.mul (se k*se a+se n).val basePt=(Pt.mul (nN n) basePt).add (Pt.mul (nN k) (Pt.mul (nN a) basePt)):=by
 have e:se k*se a+se n=zi lN ((nN k*nN a+nN n:Nat):Int):=by
  rw [se_zi hk,se_zi ha,se_zi hn,Int.natCast_add,Int.natCast_mul,zi_add,zi_mul]
 rw [e,mul_zi,Pt.mul_add,Pt.mul_mul,Pt.add_comm]
structure Lt8 (t:Int):Prop where
 h:0≤t∧t<8
end Sx

namespace Sx
open Go
def expC (A P:(Nat→Int)→Nat→Int):Contract:=fun vs=>match vs with
 | [.arr .u8 32 f]=>some ([],.tup [.arr .u8 32 (A f),.arr .u8 32 (P f)])
 | _=>none
def formC (R:(Nat→Int)→Nat→Int):Contract:=fun vs=>match vs with
 | [.arr .u8 64 f]=>some ([],.arr .u8 32 (R f))
 | _=>none
def expA (H:(Nat→Int)→Nat→Int) (f:Nat→Int):Nat→Int:=clampF (H f)
def expP (H:(Nat→Int)→Nat→Int) (f:Nat→Int):Nat→Int:=fun j=>H f (32+j)
noncomputable def pubF (H:(Nat→Int)→Nat→Int) (f:Nat→Int):Nat→Int:=encF (bmulF (expA H f))
structure ChalOK (K:(Nat→Int)→(Nat→Int)→Nat→(Nat→Int)→Nat→Int):Prop where
 bytes:∀ r p n f,IsBytes 32 (K r p n f)
 head:∀ r r' p n f,(∀ j,j<32→r j=r' j)→K r p n f=K r' p n f
theorem ChalOK.join {K:(Nat→Int)→(Nat→Int)→Nat→(Nat→Int)→Nat→Int} (h:ChalOK K) (r t p:Nat→Int) (n:Nat) (f:Nat→Int):K (joinF 32 r t) p n f=K r p n f :=
 h.head _ _ _ _ _ fun j hj=>if_pos hj
section
variable {n:Nat→Int} {t:Int} (ht:Lt8 t)
include ht
end
theorem bits_bytes {f:Nat→Int} (hf:∀ j,0≤f j∧f j<256) (L:Nat) (x:Int) (a j:Nat):0≤bitsS f L x a j∧bitsS f L x a j<256:=by
 unfold bitsS
 split
 ·exact hf j
 ·split
  ·rw [wrap_u8]
   omega
  ·omega
theorem lay_bytes (h:Nat→Int):∀ a j,0≤layS h a j∧layS h a j<256
 | 0,_=>by
  show (0:Int)≤0∧(0:Int)<256
  omega
 | a+1,j=>bits_bytes (lay_bytes h a) _ _ _ _
theorem hash32_bytes {F:ShF} {G:ShG} (hG:G=shG F) (s f:Nat→Int) (n:Nat):IsBytes n (hash32S G s f):=by
 intro j _
 unfold hash32S endS
 rw [hG]
 exact lay_bytes _ 8 j
theorem headS_congr {r r':Nat→Int} (h:∀ j,j<32→r j=r' j) (p:Nat→Int):joinF 32 (fun j=>r (0+j)) (fun j=>p (0+j))=joinF 32 (fun j=>r' (0+j)) (fun j=>p (0+j)):=by
 funext j
 simp only [joinF]
 by_cases h1:j<32
 ·rw [if_pos h1,if_pos h1,Nat.zero_add,h j h1]
 ·rw [if_neg h1,if_neg h1]
theorem hashS_head (F:ShF) (G:ShG) (s:Nat→Int) {r r':Nat→Int} (h:∀ j,j<32→r j=r' j) (p:Nat→Int) (n:Nat) (f:Nat→Int):hashS F G s r p n f=hashS F G s r' p n f:=by
 unfold hashS headS
 rw [headS_congr h]
end Sx

namespace Sx
open Go
theorem base_zl {m n:Nat} (h:Pt.mul m basePt=Pt.mul n basePt):zi lN (m:Int)=zi lN (n:Int):=by
 have h1:Pt.mul (m % lNat) basePt=Pt.mul (n % lNat) basePt:=by rw [← base_mod,← base_mod,h]
 have ha:m % lNat<lNat:=Nat.mod_lt _ (by decide)
 have hb:n % lNat<lNat:=Nat.mod_lt _ (by decide)
 have key:∀ x y:Nat,x<lNat→y<lNat→x≤y→Pt.mul x basePt=Pt.mul y basePt→x=y:=fun x y hx hy hxy e=>by
  obtain ⟨d,rfl⟩:=Nat.exists_eq_add_of_le hxy
  have e2:(Pt.mul x basePt).add Pt.zero=(Pt.mul x basePt).add (Pt.mul d basePt):=by rw [Pt.add_zero,← Pt.mul_add];exact e
  have h0:=base_zero.1 (Pt.add_cancel e2).symm
  rw [Nat.mod_eq_of_lt (by omega)] at h0
  omega
 have hm:m % lNat=n % lNat:=by
  rcases Nat.le_total (m % lNat) (n % lNat) with h2 | h2
  ·exact key _ _ ha hb h2 h1
  ·exact (key _ _ hb ha h2 h1.symm).symm
 refine zi_eq.2 ?_
 have h3:((m % lNat:Nat):Int)=((n % lNat:Nat):Int):=by rw [hm]
 exact h3
theorem zl_base {m n:Nat} (h:zi lN (m:Int)=zi lN (n:Int)):Pt.mul m basePt=Pt.mul n basePt:=by
 have h2:m % lNat=n % lNat:=by
  have h3:=zi_eq.1 h
  have h4:((m % lNat:Nat):Int)=((n % lNat:Nat):Int):=h3
  exact Int.ofNat.inj h4
 rw [base_mod,h2,← base_mod]
theorem clamp_range {h:Nat→Int} (hh:IsBytes 32 h):num 32 (clampF h) % 8=0∧28948022309329048855892746252171976963317496166410141009864396001978282409984≤num 32 (clampF h)∧num 32 (clampF h)<57896044618658097711785492504343953926634992332820282019728792003956564819968:=by
 have hb:=clamp_isB hh
 have e0:num 32 (clampF h)=num 31 (clampF h)+256 ^ 31*clampF h 31:=num_last 31 (clampF h)
 have e31:clampF h 31=h 31 % 64+64:=by
  unfold clampF
  rw [if_neg (by decide),if_pos rfl]
 have e1:num 32 (clampF h)=clampF h 0+256*num 31 (fun i=>clampF h (i+1)):=rfl
 have e2:clampF h 0=h 0 / 8*8:=by
  unfold clampF
  rw [if_pos rfl]
 have b1:=num_bounds 31 (clampF h) (fun i hi=>hb i (by omega))
 have hp:(256:Int) ^ 31=452312848583266388373324160190187140051835877600158453279131187530910662656:=by decide
 have hr:=Int.emod_nonneg (h 31) (show (64:Int)≠0 by decide)
 have hr2:=Int.emod_lt_of_pos (h 31) (show (0:Int)<64 by decide)
 rw [hp] at b1 e0
 rw [e31] at e0
 refine ⟨?_,?_,?_⟩
 ·rw [e1,e2]
  generalize num 31 (fun i=>clampF h (i+1))=y
  generalize h 0 / 8=z
  omega
 ·rw [e0]
  generalize num 31 (clampF h)=y at *
  generalize h 31 % 64=z at *
  omega
 ·rw [e0]
  generalize num 31 (clampF h)=y at *
  generalize h 31 % 64=z at *
  omega
theorem clamp_ne {h:Nat→Int} (hh:IsBytes 32 h):se (clampF h)≠0:=by
 obtain ⟨c1,c2,c3⟩:=clamp_range hh
 have hi:=nN_int (clamp_isB hh)
 rw [← hi] at c1 c2 c3
 intro e
 rw [se_zi (clamp_isB hh),← zi_zero] at e
 have e2:nN (clampF h) % lNat=0:=by
  have h3:=zi_eq.1 e
  have h4:((nN (clampF h) % lNat:Nat):Int)=((0:Nat):Int):=h3
  exact Int.ofNat.inj h4
 generalize nN (clampF h)=x at *
 obtain ⟨k,hk⟩:=Nat.dvd_of_mod_eq_zero e2
 have h8:x % 8=0:=by
  have h5:((x % 8:Nat):Int)=((0:Nat):Int):=c1
  exact Int.ofNat.inj h5
 have hd:8 ∣ k:=by
  have hc:Nat.Coprime 8 lNat:=by decide +kernel
  refine hc.dvd_of_dvd_mul_left ?_
  rw [← hk]
  exact Nat.dvd_of_mod_eq_zero h8
 obtain ⟨q,rfl⟩:=hd
 have hx1:x<57896044618658097711785492504343953926634992332820282019728792003956564819968:=Int.ofNat_lt.1 c3
 have hx0:28948022309329048855892746252171976963317496166410141009864396001978282409984≤x:=Int.ofNat_le.1 c2
 rcases Nat.eq_zero_or_pos q with hq | hq
 ·rw [hk,hq] at hx0
  exact absurd hx0 (by decide)
 ·have h6:lNat * (8*1)≤lNat * (8*q):=Nat.mul_le_mul_left _ (Nat.mul_le_mul_left _ hq)
  rw [← hk] at h6
  exact absurd (Nat.lt_of_le_of_lt h6 hx1) (by decide +kernel)
structure ChalZ (K:(Nat→Int)→(Nat→Int)→Nat→(Nat→Int)→Nat→Int):Prop extends ChalOK K where
 can:∀ r p n f,∃ z,K r p n f=sb z
theorem zl_cancel {x y a:Zl} (ha:a≠0) (h:x*a=y*a):x=y:=by
 have h2:(x - y)*a=0:=by
  have e:(x - y)*a=x*a - y*a:=by grind
  rw [e,h];grind
 rcases zdom prL h2 with h3 | h3
 ·grind
 ·exact absurd h3 ha
section
variable {H:(Nat→Int)→Nat→Int} {K N:(Nat→Int)→(Nat→Int)→Nat→(Nat→Int)→Nat→Int}
noncomputable def signR (K:(Nat→Int)→(Nat→Int)→Nat→(Nat→Int)→Nat→Int) (a r:Nat→Int) (n:Nat) (f:Nat→Int):Nat→Int :=
 joinF 32 (encF (bmulF r)) (sb (se (K (encF (bmulF r)) (encF (bmulF a)) n f)*se a+se r))
theorem ver_sign (hK:ChalZ K) {a b r:Nat→Int} (ha:IsBytes 32 a) (hb:IsBytes 32 b) (hr:IsBytes 32 r) (n:Nat) (f:Nat→Int) (m:Nat) (g:Nat→Int) :
  verF K (encF (bmulF b)) m g (signR K a r n f)=if se (K (encF (bmulF r)) (encF (bmulF a)) n f)*se a=se (K (encF (bmulF r)) (encF (bmulF b)) m g)*se b then 0 else 53:=by
 obtain ⟨A,hA⟩:∃ A,A=Pt.mul (nN a) basePt:=⟨_,rfl⟩
 obtain ⟨B,hB⟩:∃ B,B=Pt.mul (nN b) basePt:=⟨_,rfl⟩
 obtain ⟨R,hR⟩:∃ R,R=Pt.mul (nN r) basePt:=⟨_,rfl⟩
 have eA:bmulF a=pb A:=by rw [hA];rfl
 have eB:bmulF b=pb B:=by rw [hB];rfl
 have eR:bmulF r=pb R:=by rw [hR];rfl
 unfold signR
 rw [eA,eB,eR]
 obtain ⟨k,hk⟩:∃ k,K (encF (pb R)) (encF (pb A)) n f=k:=⟨_,rfl⟩
 obtain ⟨j,hj⟩:∃ j,K (encF (pb R)) (encF (pb B)) m g=j:=⟨_,rfl⟩
 have bk:IsBytes 32 k:=hk ▸ hK.bytes _ _ _ _
 have bj:IsBytes 32 j:=hj ▸ hK.bytes _ _ _ _
 rw [hk,hj,ver_form K B R m g (se k*se a+se r) ((hK.join _ _ _ _ _).trans hj),mul_s bk ha hr,← hA,← hR]
 have e1:Pt.mul (nN k) A=Pt.mul (nN k*nN a) basePt:=by rw [hA,Pt.mul_mul]
 have e2:Pt.mul (nN j) B=Pt.mul (nN j*nN b) basePt:=by rw [hB,Pt.mul_mul]
 have z1:se k*se a=zi lN ((nN k*nN a:Nat):Int):=by rw [se_zi bk,se_zi ha,Int.natCast_mul,zi_mul]
 have z2:se j*se b=zi lN ((nN j*nN b:Nat):Int):=by rw [se_zi bj,se_zi hb,Int.natCast_mul,zi_mul]
 rw [e1,e2,z1,z2]
 by_cases h:zi lN ((nN k*nN a:Nat):Int)=zi lN ((nN j*nN b:Nat):Int)
 ·rw [if_pos h,zl_base h]
  exact if_pos rfl
 ·rw [if_neg h]
  exact if_neg fun h2=>h (base_zl (Pt.add_cancel h2))
end
end Sx
namespace Sx
open Go
def cpS (g:Nat→Int) (a:Nat):Nat→Int:=fun j=>if j<a then g j else 0
theorem cp_0 (g:Nat→Int) (j:Nat):0=cpS g 0 j:=(if_neg (Nat.not_lt_zero j)).symm
theorem cp_s (g:Nat→Int) (a j:Nat):upd (cpS g a) a (g a) j=cpS g (a+1) j:=by
 simp only [upd,cpS]
 by_cases h1:j=a
 ·subst h1
  rw [if_pos rfl,if_pos (by omega)]
 ·rw [if_neg h1]
  by_cases h2:j<a
  ·rw [if_pos h2,if_pos (by omega)]
  ·rw [if_neg h2,if_neg (by omega)]
theorem cp_e (g:Nat→Int) (j:Nat) (h:j<32):cpS g 32 j=g j:=if_pos h
def cutC (R:(Nat→Int)→Nat→Int):Contract:=fun vs=>match vs with
 | [.arr .u8 64 f]=>some ([],.arr .u8 32 (R f))
 | _=>none
def cutH (f:Nat→Int):Nat→Int:=f
def cutT (f:Nat→Int):Nat→Int:=fun j=>f (32+j)
def signC (R:(Nat→Int)→Nat→(Nat→Int)→Nat→Int):Contract:=fun vs=>match vs with
 | [.arr .u8 32 z,.xsl .u8 1 (.sym n) _ f]=>some ([],.arr .u8 64 (R z n f))
 | _=>none
noncomputable def signF (H:(Nat→Int)→Nat→Int) (K:(Nat→Int)→(Nat→Int)→Nat→(Nat→Int)→Nat→Int) (N:(Nat→Int)→Nat→(Nat→Int)→Nat→Int) (z:Nat→Int) (n:Nat) (f:Nat→Int):Nat→Int :=
 signR K (expA H z) (N (expP H z) n f) n f
def readyC:Contract:=fun vs=>match vs with
 | []=>some ([],.bool (.lit true))
 | _=>none
end Sx

namespace Sx
open Go
section
variable {H:(Nat→Int)→Nat→Int} {K:(Nat→Int)→(Nat→Int)→Nat→(Nat→Int)→Nat→Int} {N:(Nat→Int)→Nat→(Nat→Int)→Nat→Int}
variable (hK:ChalZ K) (hH:∀ z,IsBytes 32 (H z)) (hN:∀ p n f,IsBytes 32 (N p n f))
include hK hH hN
theorem sign_v (z w:Nat→Int) (n:Nat) (f:Nat→Int) (m:Nat) (g:Nat→Int) :
  verF K (pubF H w) m g (signF H K N z n f)=if se (K (signF H K N z n f) (pubF H z) n f)*se (expA H z)=se (K (signF H K N z n f) (pubF H w) m g)*se (expA H w) then 0 else 53:=by
 have ha:IsBytes 32 (expA H z):=clamp_isB (hH z)
 have hb:IsBytes 32 (expA H w):=clamp_isB (hH w)
 have h:=ver_sign hK ha hb (hN (expP H z) n f) n f m g
 have hj:∀ p m g,K (signF H K N z n f) p m g=K (encF (bmulF (N (expP H z) n f))) p m g:=fun p m g=>hK.join _ _ _ _ _
 rw [hj,hj]
 exact h
theorem oth_v (z:Nat→Int) (n:Nat) (f:Nat→Int) (m:Nat) (g:Nat→Int) :
  verF K (pubF H z) m g (signF H K N z n f)=if realEqA 32 (K (cutH (signF H K N z n f)) (pubF H z) n f) (K (cutH (signF H K N z n f)) (pubF H z) m g)=true then 0 else 53:=by
 rw [sign_v hK hH hN]
 unfold cutH
 generalize signF H K N z n f=s
 obtain ⟨x,hx⟩:=hK.can s (pubF H z) n f
 obtain ⟨y,hy⟩:=hK.can s (pubF H z) m g
 rw [hx,hy,se_sb,se_sb,sb_inj]
 by_cases h:x=y
 ·rw [if_pos (by rw [h]),if_pos (decide_eq_true h)]
 ·have ha:se (expA H z)≠0:=clamp_ne (hH z)
  rw [if_neg (fun e=>h (zl_cancel ha e)),if_neg (by rw [decide_eq_false h];decide)]
theorem key_v (z w:Nat→Int) (n:Nat) (f:Nat→Int) :
  verF K (pubF H w) n f (signF H K N z n f)=if realEqA 32 (sb (se (K (cutH (signF H K N z n f)) (pubF H z) n f)*se (expA H z)+se fun _=>0)) (sb (se (K (cutH (signF H K N z n f)) (pubF H w) n f)*se (expA H w)+se fun _=>0))=true then 0 else 53:=by
 rw [sign_v hK hH hN,se_zero,sb_inj]
 unfold cutH
 generalize se (K (signF H K N z n f) (pubF H z) n f)*se (expA H z)=x
 generalize se (K (signF H K N z n f) (pubF H w) n f)*se (expA H w)=y
 rw [Fin.add_zero,Fin.add_zero]
 by_cases h:x=y
 ·rw [if_pos h,if_pos (decide_eq_true h)]
 ·rw [if_neg h,if_neg (by rw [decide_eq_false h];decide)]
theorem own_v (z:Nat→Int) (n:Nat) (f:Nat→Int):verF K (pubF H z) n f (signF H K N z n f)=0:=by
 rw [sign_v hK hH hN,if_pos rfl]
end
def othC:Contract:=fun vs=>match vs with
 | [.arr .u8 32 _,.xsl .u8 1 (.sym _) _ _,.xsl .u8 1 (.sym _) _ _]=>some ([],.bool (.sym true))
 | _=>none
def keyC:Contract:=fun vs=>match vs with
 | [.arr .u8 32 _,.arr .u8 32 _,.xsl .u8 1 (.sym _) _ _]=>some ([],.bool (.sym true))
 | _=>none
def equC:Contract:=fun vs=>match vs with
 | [.arr .u8 32 _,.xsl .u8 1 (.sym _) _ _,.arr .u8 64 _]=>some ([],.bool (.sym true))
 | _=>none
theorem dec_on {p:Nat→Int} (hp:IsBytes 32 p) (h:decE p=0):offE (negF (decF p))=0:=by
 obtain ⟨P,h1,_⟩:=dec_is hp h
 rw [h1]
 unfold negF
 rw [if_pos (onB_pb _)]
 exact if_pos (onB_pb _)
end Sx
namespace Sx
open Go
def litC (c:Contract):Contract:=fun vs=>c (vs.map symX)
theorem Sound.lits {P:Program} {G:Nat→AV} {i:FuncId} {c:Contract} (h:Sound P G i c):Sound P G i (litC c) :=
 fun vs cs r hc hcs hwf w hG args ha=>h (vs.map symX) cs r hc hcs (fun x hx=>by
  obtain ⟨y,hy,rfl⟩:=List.mem_map.1 hx
  exact symX_wf (hwf y hy)) w hG args (symX_all ha)
def verRC (V:(Nat→Int)→Nat→(Nat→Int)→(Nat→Int)→Int):Contract:=fun vs=>match vs with
 | [.arr .u8 32 p,.xsl .u8 1 (.lit 1) _ f,.arr .u8 64 s]=>(match f 0 with
  | 97=>some ([V p 1 f s=0],.int .i64 (.lit 0))
  | _=>some ([V p 1 f s=53],.int .i64 (.lit 53)))
 | _=>none
theorem ver_R {P:Program} {G:Nat→AV} {i:FuncId} {V:(Nat→Int)→Nat→(Nat→Int)→(Nat→Int)→Int} (h:Sound P G i (verC V)):Sound P G i (verRC V):=h.lits.weak (by
 intro vs cs r h hcs hwf
 unfold verRC at h
 split at h
 ·rename_i p cap f s
  split at h
  ·cases h
   have h1:V p 1 f s=0:=hcs _ (by simp)
   exact ⟨[],.int .i64 (.sym (V p 1 f s)),rfl,by simp,sameW_int h1⟩
  ·cases h
   have h1:V p 1 f s=53:=hcs _ (by simp)
   exact ⟨[],.int .i64 (.sym (V p 1 f s)),rfl,by simp,sameW_int h1⟩
 ·cases h)
end Sx

namespace Sx
open Go
set_option maxRecDepth 100000
def fi {α:Type} (n:Int) (k:Int→α):α :=
 match n with
 | .ofNat m=>fc m fun m=>k (.ofNat m)
 | .negSucc m=>k (.negSucc m)
theorem fi_eq {α:Type} (n:Int) (k:Int→α):fi n k=k n:=by
 cases n with
 | ofNat m=>exact fc_eq m fun m=>k (.ofNat m)
 | negSucc m=>rfl
def fl {α:Type} (l:List Int) (k:List Int→α):α :=
 match l with
 | []=>k []
 | x :: l=>k (x :: l)
theorem fl_eq {α:Type} (l:List Int) (k:List Int→α):fl l k=k l:=by cases l <;> rfl
section
variable (T:Int→Int→Int→Int) (t R:Nat→Int)
def schE:Nat→Nat→List Int→List Int
 | 0,_,l=>l
 | k+1,n,l=>fi (schedV realOps T t (fun j=>l.getD (n - 1 - j) 0) (n - 15) (n - 2) (n - 16) (n - 7)) fun x=>schE k (n+1) (x :: l)
def st8 (s0 s1 s2 s3 s4 s5 s6 s7:Int):Nat→Int:=fun j=>[s0,s1,s2,s3,s4,s5,s6,s7].getD j 0
def rndE (W:Nat→Int):Nat→Nat→Int→Int→Int→Int→Int→Int→Int→Int→List Int
 | 0,_,s0,s1,s2,s3,s4,s5,s6,s7=>[s0,s1,s2,s3,s4,s5,s6,s7]
 | k+1,a,s0,s1,s2,s3,s4,s5,s6,s7 =>
  fi (oneS realOps T t (R a) (W a) (st8 s0 s1 s2 s3 s4 s5 s6 s7)) fun o =>
  fi (realBin .add .u64 o (twoS realOps T t (st8 s0 s1 s2 s3 s4 s5 s6 s7))) fun n0 =>
  fi (realBin .add .u64 s3 o) fun n4=>rndE W k (a+1) n0 s0 s1 s2 n4 s4 s5 s6
def wrdE (f:Nat→Int):Nat→Nat→List Int→List Int
 | 0,_,l=>l
 | k+1,n,l=>fi (wordS realOps (fun i=>f (8*n+i)) 8) fun x=>wrdE f k (n+1) (x :: l)
def blockE (h:List Int) (f:Nat→Int):List Int :=
 fl (wrdE f 16 0 []) fun w=>fl (schE T t 64 16 w) fun W =>
 fl (rndE T t R (fun j=>W.getD (79 - j) 0) 80 0 (h.getD 0 0) (h.getD 1 0) (h.getD 2 0) (h.getD 3 0) (h.getD 4 0) (h.getD 5 0) (h.getD 6 0) (h.getD 7 0)) fun x =>
 (List.range 8).map fun j=>realBin .add .u64 (h.getD j 0) (x.getD j 0)
theorem schedV_congr {w w':Nat→Int} {a b c d:Nat} (h1:w a=w' a) (h2:w b=w' b) (h3:w c=w' c) (h4:w d=w' d):schedV realOps T t w a b c d=schedV realOps T t w' a b c d:=by
 unfold schedV
 rw [h1,h2,h3,h4]
theorem schE_ok (w:Nat→Int):∀ (k a:Nat) (l:List Int),(∀ j,j<16+a→l.getD (16+a - 1 - j) 0=schedS realOps T t w a j)→∀ j,j<16+(a+k)→(schE T t k (16+a) l).getD (16+(a+k) - 1 - j) 0=schedS realOps T t w (a+k) j
 | 0,a,l,h,j,hj=>h j hj
 | k+1,a,l,h,j,hj=>by
  have e:schedV realOps T t (fun j=>l.getD (16+a - 1 - j) 0) (16+a - 15) (16+a - 2) (16+a - 16) (16+a - 7)=schedV realOps T t (schedS realOps T t w a) (a+1) (a+14) a (a+9):=by
   rw [show 16+a - 15=a+1 by omega,show 16+a - 2=a+14 by omega,show 16+a - 16=a by omega,show 16+a - 7=a+9 by omega]
   exact schedV_congr T t (h _ (by omega)) (h _ (by omega)) (h _ (by omega)) (h _ (by omega))
  unfold schE
  rw [fi_eq,e]
  have ih:=schE_ok w k (a+1) (schedV realOps T t (schedS realOps T t w a) (a+1) (a+14) a (a+9) :: l) (fun i hi=>by
   show List.getD _ _ _=if i=16+a then schedV realOps T t (schedS realOps T t w a) (a+1) (a+14) a (a+9) else schedS realOps T t w a i
   by_cases h1:i=16+a
   ·subst h1
    rw [if_pos rfl,show 16+(a+1) - 1 - (16+a)=0 by omega]
    rfl
   ·rw [if_neg h1,show 16+(a+1) - 1 - i=(16+a - 1 - i)+1 by omega]
    exact h i (by omega)) j (by omega)
  rw [show a+1+k=a+(k+1) by omega] at ih
  exact ih
theorem oneS_congr {s s':Nat→Int} (h:∀ i,i<8→s i=s' i) (k w:Int):oneS realOps T t k w s=oneS realOps T t k w s':=by
 unfold oneS
 rw [h 7 (by decide),h 4 (by decide),h 5 (by decide),h 6 (by decide)]
theorem twoS_congr {s s':Nat→Int} (h:∀ i,i<8→s i=s' i):twoS realOps T t s=twoS realOps T t s':=by
 unfold twoS
 rw [h 0 (by decide),h 1 (by decide),h 2 (by decide)]
theorem lt8_all {p:Nat→Prop} (h:p 0∧p 1∧p 2∧p 3∧p 4∧p 5∧p 6∧p 7):∀ i,i<8→p i
 | 0,_=>h.1
 | 1,_=>h.2.1
 | 2,_=>h.2.2.1
 | 3,_=>h.2.2.2.1
 | 4,_=>h.2.2.2.2.1
 | 5,_=>h.2.2.2.2.2.1
 | 6,_=>h.2.2.2.2.2.2.1
 | 7,_=>h.2.2.2.2.2.2.2
 | n+8,h=>absurd h (by omega)
theorem rndE_ok (W w s:Nat→Int):∀ (k a:Nat) (s0 s1 s2 s3 s4 s5 s6 s7:Int),(∀ i,i<a+k→W i=w i)→(∀ i,i<8→st8 s0 s1 s2 s3 s4 s5 s6 s7 i=roundS realOps T t R w a s i) →
  ∀ i,i<8→(rndE T t R W k a s0 s1 s2 s3 s4 s5 s6 s7).getD i 0=roundS realOps T t R w (a+k) s i
 | 0,a,s0,s1,s2,s3,s4,s5,s6,s7,_,h,i,hi=>h i hi
 | k+1,a,s0,s1,s2,s3,s4,s5,s6,s7,hW,h,i,hi=>by
  unfold rndE
  rw [fi_eq,fi_eq,fi_eq,oneS_congr T t h,twoS_congr T t h,hW a (by omega)]
  rw [show a+(k+1)=a+1+k by omega]
  refine rndE_ok W w s k (a+1) _ _ _ _ _ _ _ _ (fun i hi=>hW i (by omega)) (lt8_all ⟨rfl,h 0 (by decide),h 1 (by decide),h 2 (by decide),?_,h 4 (by decide),h 5 (by decide),h 6 (by decide)⟩) i hi
  show realBin .add .u64 s3 _=realBin .add .u64 (roundS realOps T t R w a s 3) _
  rw [show s3=roundS realOps T t R w a s 3 from h 3 (by decide)]
theorem wordS_congr {f g:Nat→Int}:∀ n,(∀ i,i<n→f i=g i)→wordS realOps f n=wordS realOps g n
 | 0,_=>rfl
 | n+1,h=>by
  unfold wordS
  rw [wordS_congr n (fun i hi=>h i (by omega)),h n (by omega)]
theorem wrdE_ok {f g:Nat→Int} (hf:∀ i,i<128→f i=g i):∀ (k n:Nat) (l:List Int),n+k=16→(∀ j,j<n→l.getD (n - 1 - j) 0=wordS realOps (fun i=>g (8*j+i)) 8)→∀ j,j<16→(wrdE f k n l).getD (15 - j) 0=wordS realOps (fun i=>g (8*j+i)) 8
 | 0,n,l,hn,h,j,hj=>by
  have:n=16:=by omega
  subst this
  exact h j hj
 | k+1,n,l,hn,h,j,hj=>by
  unfold wrdE
  rw [fi_eq]
  refine wrdE_ok hf k (n+1) _ (by omega) (fun i hi=>?_) j hj
  by_cases h1:i=n
  ·subst h1
   rw [show i+1 - 1 - i=0 by omega]
   exact wordS_congr 8 fun m hm=>hf _ (by omega)
  ·rw [show n+1 - 1 - i=(n - 1 - i)+1 by omega]
   exact h i (by omega)
theorem blockE_ok {h:List Int} {hf f g:Nat→Int} (h0:∀ i,i<8→h.getD i 0=hf i) (hg:∀ i,i<128→f i=g i):∀ i,i<8→(blockE T t R h f).getD i 0=(shF realOps T t R).block hf g i:=by
 intro i hi
 unfold blockE
 rw [fl_eq,fl_eq,fl_eq]
 have hw:∀ j,j<16→(wrdE f 16 0 []).getD (15 - j) 0=wordsS realOps g (fun _=>0) 16 j:=fun j hj=>by
  rw [wrdE_ok hg 16 0 [] rfl (fun j hj=>absurd hj (by omega)) j hj]
  unfold wordsS
  rw [if_pos hj]
 have hs:∀ j,j<80→(schE T t 64 16 (wrdE f 16 0 [])).getD (79 - j) 0=schedS realOps T t (wordsS realOps g (fun _=>0) 16) 64 j:=fun j hj =>
  schE_ok T t (wordsS realOps g (fun _=>0) 16) 64 0 _ (fun j hj=>hw j (by omega)) j (by omega)
 have hr:=rndE_ok T t R (fun j=>(schE T t 64 16 (wrdE f 16 0 [])).getD (79 - j) 0) (schedS realOps T t (wordsS realOps g (fun _=>0) 16) 64) hf 80 0 (h.getD 0 0) (h.getD 1 0) (h.getD 2 0) (h.getD 3 0) (h.getD 4 0) (h.getD 5 0) (h.getD 6 0) (h.getD 7 0) (fun j hj=>hs j (by omega)) (lt8_all ⟨h0 0 (by decide),h0 1 (by decide),h0 2 (by decide),h0 3 (by decide),h0 4 (by decide),h0 5 (by decide),h0 6 (by decide),h0 7 (by decide)⟩) i hi
 have e:((List.range 8).map fun j=>realBin .add .u64 (h.getD j 0) ((rndE T t R (fun j=>(schE T t 64 16 (wrdE f 16 0 [])).getD (79 - j) 0) 80 0 (h.getD 0 0) (h.getD 1 0) (h.getD 2 0) (h.getD 3 0) (h.getD 4 0) (h.getD 5 0) (h.getD 6 0) (h.getD 7 0)).getD j 0)).getD i 0=realBin .add .u64 (h.getD i 0) ((rndE T t R (fun j=>(schE T t 64 16 (wrdE f 16 0 [])).getD (79 - j) 0) 80 0 (h.getD 0 0) (h.getD 1 0) (h.getD 2 0) (h.getD 3 0) (h.getD 4 0) (h.getD 5 0) (h.getD 6 0) (h.getD 7 0)).getD i 0):=by
  rw [List.getD_eq_getElem?_getD,List.getElem?_map,List.getElem?_range hi]
  rfl
 rw [e,hr,h0 i hi]
 show _=lastS realOps hf (roundS realOps T t R (schedS realOps T t (wordsS realOps g (fun _=>0) 16) (80 - 16)) 80 hf) 8 i
 unfold lastS
 rw [if_pos hi]
 rfl
end
def tailE (bits:Int) (n:Nat) (f:Nat→Int):Nat→Int:=fun j=>if j<n then f j else if j=n then 128 else if j<120 then 0 else IntKind.wrap .u8 (realBin .shr .u64 bits (Int.ofNat (8*(7 - (j - 120)))))
section
variable {F:ShF} {G:ShG} (hG:G=shG F)
include hG
theorem tail_E (bits:Int) {n:Nat} (hn:n≤111) (f:Nat→Int):∀ j,j<128→tailE bits n f j=tailS G bits n (n+1) f j:=by
 intro j hj
 have e1:G.p (n+1) (G.t (n+1))=112:=by
  rw [g_p hG,g_t hG]
  omega
 unfold tailS
 rw [e1,nadd_eq,hG]
 show _=bitsS (joinF 112 (padS (joinF n (joinF 0 (fun _=>0) f) fun j=>upd (fun _=>0) 0 128 (0+j)) (n+1)) fun j=>Z8 (0+j)) (112+8) bits 8 j
 unfold bitsS tailE joinF padS upd
 by_cases h1:j<n
 ·rw [if_pos h1,if_pos (by omega),if_pos (by omega),if_pos (by omega)]
  dsimp only
  rw [if_pos h1,if_neg (by omega)]
  rfl
 ·rw [if_neg h1]
  by_cases h2:j=n
  ·subst h2
   rw [if_pos rfl,if_pos (by omega),if_pos (by omega),if_pos (by omega)]
   dsimp only
   rw [if_neg (by omega),if_pos (by omega)]
  ·rw [if_neg h2]
   by_cases h3:j<112
   ·rw [if_pos (by omega),if_pos (by omega),if_pos (by omega),if_neg (by omega)]
   ·by_cases h4:j<120
    ·rw [if_pos h4,if_pos (by omega),if_neg h3]
     obtain ⟨k,rfl⟩:∃ k,j=112+k:=⟨j - 112,by omega⟩
     have hk:k<8:=by omega
     rw [show 112+k - 112=k by omega]
     have hz:∀ k:Nat,k<8→(0:Int)=Z8 (0+k):=by decide
     exact hz k hk
    ·rw [if_neg h4,if_neg (by omega),if_pos (by omega)]
omit hG in
theorem layS_congr {h h':Nat→Int} (e:∀ i,i<8→h i=h' i):∀ a,a≤8→layS h a=layS h' a
 | 0,_=>rfl
 | a+1,ha=>by
  unfold layS
  rw [layS_congr e a (by omega),e a (by omega)]
theorem end_E {s:Nat→Int} {sl:List Int} {T:Int→Int→Int→Int} {t R:Nat→Int} (hF:F=shF realOps T t R) (hs:∀ i,i<8→sl.getD i 0=s i) (bits:Int) {n:Nat} (hn:n≤111) (f:Nat→Int) :
  endS G s bits n (n+1) f=layS (fun i=>(blockE T t R sl (tailE bits n f)).getD i 0) 8:=by
 unfold endS
 have e1:tlenS G (n+1) / 128=1:=by
  unfold tlenS
  rw [g_p hG,nadd_eq,g_p hG,g_t hG]
  omega
 rw [e1]
 have e2:∀ i,i<8→(blockE T t R sl (tailE bits n f)).getD i 0=G.chain s (tailS G bits n (n+1) f) 1 i:=by
  intro i hi
  rw [blockE_ok T t R hs (tail_E hG bits hn f) i hi,hG,← hF]
  show F.block s (tailS (shG F) bits n (n+1) f) i=F.block s (fun j=>tailS (shG F) bits n (n+1) f (128*0+j)) i
  congr 2
  funext j
  rw [show 128*0+j=j by omega]
 rw [hG]
 show layS _ 8=_
 rw [← hG]
 exact (layS_congr e2 8 (Nat.le_refl _)).symm
end
end Sx

namespace Sx
open Go
set_option maxRecDepth 100000
def tQ:Nat→Int:=fun i=>[28,34,39,14,18,41,1,8,7,19,61,(6:Int)].getD i 0
def rQ:Nat→Int:=fun i=>([4794697086780616226,8158064640168781261,13096744586834688815,16840607885511220156,4131703408338449720,6480981068601479193,10538285296894168987,12329834152419229976,15566598209576043074,1334009975649890238,2608012711638119052,6128411473006802146,8268148722764581231,9286055187155687089,11230858885718282805,13951009754708518548,16472876342353939154,17275323862435702243,1135362057144423861,2597628984639134821,3308224258029322869,5365058923640841347,6679025012923562964,8573033837759648693,10970295158949994411,12119686244451234320,12683024718118986047,13788192230050041572,14330467153632333762,15395433587784984357,489312712824947311,1452737877330783856,2861767655752347644,3322285676063803686,5560940570517711597,5996557281743188959,7280758554555802590,8532644243296465576,9350256976987008742,10552545826968843579,11727347734174303076,12113106623233404929,14000437183269869457,14369950271660146224,15101387698204529176,15463397548674623760,17586052441742319658,1182934255886127544,1847814050463011016,2177327727835720531,2830643537854262169,3796741975233480872,4115178125766777443,5681478168544905931,6601373596472566643,7507060721942968483,8399075790359081724,8693463985226723168,9568029438360202098,10144078919501101548,10430055236837252648,11840083180663258601,13761210420658862357,14299343276471374635,14566680578165727644,15097957966210449927,16922976911328602910,17689382322260857208,500013540394364858,748580250866718886,1242879168328830382,1977374033974150939,2944078676154940804,3659926193048069267,4368137639120453308,4836135668995329356,5532061633213252278,6448918945643986474,6902733635092675308,7801388544844847127]:List Int).getD i 0
def sL:List Int:=[7640891576956012808,13503953896175478587,4354685564936845355,11912009170470909681,5840696475078001361,11170449401992604703,2270897969802886507,6620516959819538809]
def sQ:Nat→Int:=fun i=>sL.getD i 0
def FQ:ShF:=shF realOps turnR tQ rQ
def GQ:ShG:=shG FQ
def z5:Nat→Int:=upd (fun _=>0) 31 5
def f1 (x:Int):Nat→Int:=fun j=>upd (fun _=>0) 0 x (0+j)
def lst (l:List Int):Nat→Int:=fun i=>l.getD i 0
def L1:List Int:=[7728176992599741680,10427523598775218246,2729516622666076588,13156073195382101066,3250656030453010896,11387525001762516719,2439320826122436982,17940516939878308849]
def L2:List Int:=[7752879224902196726,16186964809789768508,8563844740259432705,12146773331142393688,16837317311232978074,11226195246907948739,17771402677850431260,10688393500153934212]
def La:List Int:=[3241270454132800480,15354314190820156534,1349542913949003315,16690957061821241586,14814439039407179885,18305384311759844966,921170085531777883,18359434947380513221]
def Lb:List Int:=[12619644140130345446,16599506480039943852,6325171852761810407,9402089132091027752,8884460311467649928,12885618443854541446,14982361030739044892,7237018479879983601]
def RB:List Int:=[122,39,7,233,55,208,203,62,114,174,192,133,48,16,30,28,150,246,29,233,109,35,251,72,46,51,164,144,191,162,150,31]
def AB:List Int:=[253,228,251,160,48,173,0,47,124,47,125,76,51,31,73,209,63,176,236,116,126,206,235,236,99,79,31,244,203,202,157,239]
theorem end_Q (bits:Int) {n:Nat} (hn:n≤111) (f:Nat→Int):endS GQ sQ bits n (n+1) f=layS (lst (blockE turnR tQ rQ sL (tailE bits n f))) 8 :=
 end_E (F:=FQ) (G:=GQ) rfl rfl (fun _ _=>rfl) bits hn f
theorem blk_congr {bits:Int} {n:Nat} {f g:Nat→Int} (h:∀ j,j<n→f j=g j):∀ j,j<128→tailE bits n f j=tailE bits n g j:=by
 intro j _
 unfold tailE
 by_cases h1:j<n
 ·rw [if_pos h1,if_pos h1,h j h1]
 ·rw [if_neg h1,if_neg h1]
theorem end_L (bits:Int) {n:Nat} (hn:n≤111) {f g:Nat→Int} (h:∀ j,j<n→f j=g j) {l:List Int} (hl:blockE turnR tQ rQ sL (tailE bits n g)=l):endS GQ sQ bits n (n+1) f=layS (lst l) 8:=by
 have e1:∀ i,i<8→lst (blockE turnR tQ rQ sL (tailE bits n f)) i=lst l i:=by
  intro i hi
  rw [← hl]
  have a1:=blockE_ok turnR tQ rQ (h:=sL) (hf:=sQ) (fun _ _=>rfl) (blk_congr (bits:=bits) h) i hi
  have a2:=blockE_ok turnR tQ rQ (h:=sL) (hf:=sQ) (fun _ _=>rfl) (fun j (_:j<128)=>(rfl:tailE bits n g j=tailE bits n g j)) i hi
  exact a1.trans a2.symm
 rw [end_Q bits hn f]
 exact layS_congr e1 8 (Nat.le_refl _)
theorem blk1:blockE turnR tQ rQ sL (tailE 256 32 z5)=L1:=by decide +kernel
theorem h_z5:hash32S GQ sQ z5=layS (lst L1) 8:=by
 unfold hash32S
 exact end_L 256 (by decide) (fun _ _=>rfl) blk1
def aQ:Nat→Int:=clampF (layS (lst L1) 8)
def pQ:Nat→Int:=fun j=>layS (lst L1) 8 (32+j)
theorem kN_1:kN 1=1:=by
 unfold kN
 rw [Sy.imin_eq]
 rfl
theorem kS_1:kS 1=1:=by
 unfold kS
 rw [Sy.imin_eq]
 rfl
theorem blk2:blockE turnR tQ rQ sL (tailE 264 33 (headN pQ (f1 97)))=L2:=by decide +kernel
theorem h_n:hashN FQ GQ sQ pQ 1 (f1 97)=layS (lst L2) 8:=by
 unfold hashN
 rw [if_neg (by decide),if_pos (by decide),kN_1,nadd_eq,nadd_eq]
 exact end_L 264 (by decide) (fun _ _=>rfl) blk2
def rn:Nat:=5113333900344147599983701901093089698275877614390191720987317597228508553434
def rQn:Nat→Int:=sb (zi lN (rn:Int))
theorem sn_L2:sn 64 (layS (lst L2) 8)=zi lN (rn:Int):=by decide +kernel
theorem nN_r:nN rQn=rn:=by unfold rQn;rw [nN_sb];decide +kernel
def an:Nat:=33847109890009328213168582622022668034172168210373214118089025482213193433192
theorem nN_a:nN aQ=an:=by decide +kernel
def RXY:Nat × Nat:=(44903941553820069978179211790623952183857055002253025797024188378556750580030,14287848613288527117615139313940776719467865288967730683877891018019832276858)
def AXY:Nat × Nat:=(21641523492009373520674510910794207100884549987179896706582569775254166514003,50485520833253079977443549740580654494313010778380522090057844067395268502781)
theorem at_R:At (Pt.mul rn basePt) RXY:=is_mul base_at (by decide +kernel)
theorem at_A:At (Pt.mul an basePt) AXY:=is_mul base_at (by decide +kernel)
theorem form_at {P:Pt} {c:Nat × Nat} {l:List Int} (h:At P c) (hl:∀ i,i<32→formB (zn c.1) (zn c.2) i=lst l i):∀ i,i<32→encF (pb P) i=lst l i:=by
 intro i hi
 rw [enc_pb,h.x,h.y]
 exact hl i hi
theorem form_R:∀ i,i<32→encF (bmulF rQn) i=lst RB i:=by
 have h:bmulF rQn=pb (Pt.mul rn basePt):=by unfold bmulF;rw [nN_r]
 rw [h]
 exact form_at at_R (by decide +kernel)
theorem form_A:∀ i,i<32→encF (bmulF aQ) i=lst AB i:=by
 have h:bmulF aQ=pb (Pt.mul an basePt):=by unfold bmulF;rw [nN_a]
 rw [h]
 exact form_at at_A (by decide +kernel)
def mQ (x:Int):Nat→Int:=fun j=>if j<32 then lst RB j else if j<64 then lst AB (j - 32) else x
theorem mQ_ok {r p:Nat→Int} (hr:∀ i,i<32→r i=lst RB i) (hp:∀ i,i<32→p i=lst AB i) (x:Int):∀ j,j<65→headS r p (f1 x) j=mQ x j:=by
 intro j hj
 unfold headS joinF mQ
 by_cases h1:j<32
 ·rw [if_pos (by omega),if_pos h1,if_pos h1]
  dsimp only
  rw [Nat.zero_add]
  exact hr j h1
 ·by_cases h2:j<64
  ·rw [if_pos h2,if_neg h1,if_neg h1,if_pos h2]
   dsimp only
   rw [Nat.zero_add]
   exact hp _ (by omega)
  ·have:j=64:=by omega
   subst this
   rfl
theorem blka:blockE turnR tQ rQ sL (tailE 520 65 (mQ 97))=La:=by decide +kernel
theorem blkb:blockE turnR tQ rQ sL (tailE 520 65 (mQ 98))=Lb:=by decide +kernel
theorem h_k {r p:Nat→Int} (hr:∀ i,i<32→r i=lst RB i) (hp:∀ i,i<32→p i=lst AB i):hashS FQ GQ sQ r p 1 (f1 97)=layS (lst La) 8∧hashS FQ GQ sQ r p 1 (f1 98)=layS (lst Lb) 8:=by
 constructor
 ·unfold hashS
  rw [if_neg (by decide),if_pos (by decide),kS_1,nadd_eq,nadd_eq]
  exact end_L 520 (by decide) (mQ_ok hr hp 97) blka
 ·unfold hashS
  rw [if_neg (by decide),if_pos (by decide),kS_1,nadd_eq,nadd_eq]
  exact end_L 520 (by decide) (mQ_ok hr hp 98) blkb
theorem k_ne:sn 64 (layS (lst La) 8)≠sn 64 (layS (lst Lb) 8):=by decide +kernel
end Sx

