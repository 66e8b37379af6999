/-
  Package point: multiples by signed digits.
-/
import Derived.Test.YtjbimeigkklcmaaDoorZPtC
set_option linter.unusedVariables false
set_option linter.unusedSimpArgs false
namespace Go.Proofs.YtjbimeigkklcmaaDoor
open Go Go.Proofs Sx
set_option maxRecDepth 100000
set_option maxHeartbeats 4000000
def sc_ptmultiple:{ c:SC // strip (body Tryd.f40)=c }:=⟨_,by cbv⟩
theorem walk_ptmultiple (A:Ops) (hA:A=realOps) (n:Nat→Int) (f:Nat→Int) (hn:IsBytes 32 n) (hf:IsSp f) (DD:(Nat→Int)→Int→Nat→Int) (hDD:DD=digF) (TW:(Nat→Int)→Nat→Int) (hTW:TW=fun f=>spB (Spd.twice (spO f))) (SM:(Nat→Int)→(Nat→Int)→Nat→Int) (hSM:SM=fun f g=>spB (Spd.sum (spO f) (spO g))) (ID:Nat→Int) (hID:ID=pb Pt.zero) (SO:(Nat→Int)→Nat→Int) (hSO:SO=fun f=>spB (Spd.of (ptO f).x (ptO f).y)) (OP:(Nat→Int)→Nat→Int) (hOP:OP=fun f=>spB (Spd.neg (spO f))) (LL:Int→Nat) (hLL:LL=digL) (EE:Int→Int) (hEE:EE=digE) (R:(Nat→Int)→(Nat→Int)→Nat→Int) (hR:R=mulF) (OT:Nat→Nat→Int) (hOT:OT=rowP (oddS (spO f))) (RR:Nat→Nat→Int) (hRR:RR=fun k=>spB (nafR (spO f) (dig5 n) k).1) (BG:Nat→Bool) (hBG:BG=fun k=>(nafR (spO f) (dig5 n) k).2) (IX:Nat→Int) (hIX:IX=fun (k:Nat)=>256 - (k:Int)) (I1:{ i:Nat // 1≤i∧i≤8 }→St) (hI1:I1=fun i=>slots 72 [(2,.own (.arr .u8 32 n)),(3,.own (.arr .u8 128 f)),(4,.own (.arr .u8 128 fun _=>0)),(5,.sref 14 1 (.lit 0) (.sym (LL 5)) (.sym (LL 5))),(14,.otup .i8 1 (.sym (LL 5)) (DD n 5) [.int .i64 (.sym (EE 5))]),(7,.own (.arr .u8 1024 (OT i.1))),(8,.own (.arr .u8 128 (TW f))),(9,.int .i64 (.sym (i.1:Int)))]) (I2:{ k:Nat // k≤257 }→St) (hI2:I2=fun k=>slots 72 [(2,.own (.arr .u8 32 n)),(3,.own (.arr .u8 128 f)),(4,.own (.arr .u8 128 fun _=>0)),(5,.sref 14 1 (.lit 0) (.sym (LL 5)) (.sym (LL 5))),(14,.otup .i8 1 (.sym (LL 5)) (DD n 5) [.int .i64 (.sym (EE 5))]),(7,.own (.arr .u8 1024 (OT 8))),(8,.own (.arr .u8 128 (TW f))),(10,.own (.arr .u8 128 (RR k.1))),(11,.bool (.sym (BG k.1))),(12,.int .i64 (.sym (IX k.1)))]) :
  Walk (mkEnv A tab.1 Gpt [(58,digitsC DD LL EE),(59,sp1C TW),(39,sp2C SM),(60,ptKC ID),(41,spOfC SO),(61,oppC OP)] [(6,.inv { i:Nat // 1≤i∧i≤8 } I1 fun i=>8 - i.1),(12,.inv { k:Nat // k≤257 } I2 fun k=>257 - k.1)]) sc_ptmultiple.1 72 [.cell 4 66] [.arr .u8 32 n,.arr .u8 128 f] (.arr .u8 128 (R n f)):=by
 obtain ⟨bi,cm,un,cv,na,eq⟩:=A
 have hbi:bi=realBin:=congrArg Ops.bin hA
 have hcm:cm=realCmp:=congrArg Ops.cmp hA
 have hna:na=Int.toNat:=congrArg Ops.nat hA
 have hcv:cv=fun k n=>k.wrap n:=congrArg Ops.cnv hA
 have heq:eq=realEqA:=congrArg Ops.eqA hA
 have hun:un=realUn:=congrArg Ops.un hA
 clear hA
 have l5:LL 5=257:=by rw [hLL];exact digL5
 have hsp:=hf.h
 have t0:∀ k,splice (fun _=>0) 0 128 f k=OT 1 k:=by
  intro k
  rw [hOT]
  exact rowP_zero hsp k
 have ts:∀ i,1≤i→∀ k,splice (OT i) (128*i) 128 (SM (fun j=>OT i (128*(i - 1)+j)) (TW f)) k=OT (i+1) k:=by
  intro i hi k
  rw [hOT,hSM,hTW]
  refine rowP_step (fun j _=>?_) k
  show spB (Spd.sum (spO (fun j=>rowP (oddS (spO f)) i (128*(i - 1)+j))) (spO (spB (Spd.twice (spO f))))) j=_
  rw [rowP_sp (by omega),spO_spB]
  have e:i=(i - 1)+1:=by omega
  conv=>rhs;rw [e]
  rfl
 have hid:IsPt ID:=by rw [hID];exact isPt_pb _
 have r0:∀ k,SO ID k=RR 0 k:=by
  intro k
  rw [hSO,hID,hRR]
  show spB (Spd.of (ptO (pb Pt.zero)).x (ptO (pb Pt.zero)).y) k=spB (Spd.of 0 1) k
  rw [ptO_pb]
  unfold Pt.zero
  rfl
 have b0:false=BG 0:=by rw [hBG];rfl
 have ix0:bi .sub .i64 (Int.ofNat (LL 5)) 1=IX 0:=by rw [l5,hbi,hIX];rfl
 have ixs:∀ k,k<257→bi .sub .i64 (IX k) 1=IX (k+1):=by
  intro k hk
  rw [hIX,hbi,sub_i64 (by dsimp only;omega)]
  dsimp only
  omega
 have ixn:∀ k,k<257→na (IX k)=256 - k:=by
  intro k hk
  rw [hIX,hna]
  dsimp only
  omega
 have ixw:∀ k,k<257→0≤IX k∧IX k<257:=by
  intro k hk
  rw [hIX]
  dsimp only
  omega
 have ixc:∀ k,k≤257→cm .geq (IX k) 0=decide (k<257):=by
  intro k hk
  rw [hIX,hcm]
  show decide ((0:Int)≤256 - (k:Int))=_
  rw [Bool.eq_iff_iff]
  simp only [decide_eq_true_eq]
  omega
 have hd:∀ i,DD n 5 i=dig5 n i:=by intro i;rw [hDD];rfl
 have te:R n f=RR 257:=by rw [hR,hRR];rfl
 have post:∀ k,k<257→BG k=true→0<dig5 n (256 - k)→(∀ c,SM (TW (RR k)) (fun j=>OT 8 (128*((dig5 n (256 - k)).toNat / 2)+j)) c=RR (k+1) c)∧true=BG (k+1):=by
  intro k hk hb hd
  have hf5:=dig5_form n (256 - k)
  rw [hBG] at hb ⊢
  have hl:=naf_pos (s:=spO f) (D:=dig5 n) (k:=k) hd
  dsimp only at hb
  rw [if_pos hb] at hl
  refine ⟨fun c=>?_,hl.2.symm⟩
  rw [hSM,hTW,hRR]
  dsimp only
  rw [hl.1,spO_spB,spO_spB,hOT,rowP_sp (by omega)]
 have negt:∀ k,k<257→BG k=true→dig5 n (256 - k)<0→(∀ c,SM (TW (RR k)) (OP (fun j=>OT 8 (128*((-dig5 n (256 - k)).toNat / 2)+j))) c=RR (k+1) c)∧true=BG (k+1)∧IsSp (fun j=>OT 8 (128*((-dig5 n (256 - k)).toNat / 2)+j)):=by
  intro k hk hb hd
  have hf5:=dig5_form n (256 - k)
  rw [hBG] at hb ⊢
  have hl:=naf_neg (s:=spO f) (D:=dig5 n) (k:=k) hd
  dsimp only at hb
  rw [if_pos hb] at hl
  refine ⟨fun c=>?_,hl.2.symm,?_⟩
  ·rw [hSM,hOP,hTW,hRR]
   dsimp only
   rw [hl.1,spO_spB,spO_spB,hOT,rowP_sp (by omega),spO_spB]
  ·rw [hOT]
   exact isSp_of (rowP_at (by omega))
 have nilt:∀ k,k<257→BG k=true→dig5 n (256 - k)=0→(∀ c,(TW (RR k)) c=RR (k+1) c)∧BG k=BG (k+1):=by
  intro k hk hb hd
  rw [hBG] at hb ⊢
  have hl:=naf_nil (s:=spO f) (D:=dig5 n) (k:=k) hd
  dsimp only at hb
  rw [if_pos hb] at hl
  refine ⟨fun c=>?_,hl.2.symm⟩
  rw [hTW,hRR]
  dsimp only
  rw [hl.1,spO_spB]
 have posf:∀ k,k<257→BG k=false→0<dig5 n (256 - k)→(∀ c,SM (RR k) (fun j=>OT 8 (128*((dig5 n (256 - k)).toNat / 2)+j)) c=RR (k+1) c)∧true=BG (k+1):=by
  intro k hk hb hd
  have hf5:=dig5_form n (256 - k)
  rw [hBG] at hb ⊢
  have hl:=naf_pos (s:=spO f) (D:=dig5 n) (k:=k) hd
  dsimp only at hb
  rw [if_neg (by rw [hb];decide)] at hl
  refine ⟨fun c=>?_,hl.2.symm⟩
  rw [hSM,hRR]
  dsimp only
  rw [hl.1,spO_spB,hOT,rowP_sp (by omega)]
 have negf:∀ k,k<257→BG k=false→dig5 n (256 - k)<0→(∀ c,SM (RR k) (OP (fun j=>OT 8 (128*((-dig5 n (256 - k)).toNat / 2)+j))) c=RR (k+1) c)∧true=BG (k+1)∧IsSp (fun j=>OT 8 (128*((-dig5 n (256 - k)).toNat / 2)+j)):=by
  intro k hk hb hd
  have hf5:=dig5_form n (256 - k)
  rw [hBG] at hb ⊢
  have hl:=naf_neg (s:=spO f) (D:=dig5 n) (k:=k) hd
  dsimp only at hb
  rw [if_neg (by rw [hb];decide)] at hl
  refine ⟨fun c=>?_,hl.2.symm,?_⟩
  ·rw [hSM,hOP,hRR]
   dsimp only
   rw [hl.1,spO_spB,hOT,rowP_sp (by omega),spO_spB]
  ·rw [hOT]
   exact isSp_of (rowP_at (by omega))
 have nilf:∀ k,k<257→BG k=false→dig5 n (256 - k)=0→(∀ c,RR k c=RR (k+1) c)∧BG k=BG (k+1):=by
  intro k hk hb hd
  rw [hBG] at hb ⊢
  have hl:=naf_nil (s:=spO f) (D:=dig5 n) (k:=k) hd
  dsimp only at hb
  rw [if_neg (by rw [hb];decide)] at hl
  refine ⟨fun c=>?_,hl.2.symm⟩
  rw [hRR]
  dsimp only
  rw [hl.1]
 refine ⟨?_⟩
 cbv
 refine ⟨⟨⟨1,by decide⟩,?_⟩,fun i _=>?_⟩
 ·subst hI1
  cbv
  exact ⟨fun _ _=>rfl,fun _ _=>rfl,fun _ _=>rfl,rfl,fun k _=>t0 k,fun _ _=>rfl,rfl,⟨rfl,fun _ _=>rfl,rfl⟩,trivial⟩
 ·subst hI1
  cbv
  obtain ⟨i,hi,hi2⟩:=i
  refine ⟨fun h=>?_,fun h=>?_⟩
  ·cbv
   rw [hcm] at h
   have hlt:=lss_yes h
   simp only [Int.ofNat_eq_natCast] at hlt
   have qi:na (Int.ofNat i)=i:=by rw [hna];rfl
   have p4:bi .add .i64 (Int.ofNat i) 1=Int.ofNat (i+1):=by rw [hbi,add_i64 (by simp only [Int.ofNat_eq_natCast];omega)];rfl
   have q1:bi .sub .i64 (Int.ofNat i) 1=Int.ofNat (i - 1):=by rw [hbi,sub_i64 (by simp only [Int.ofNat_eq_natCast];omega)];simp only [Int.ofNat_eq_natCast];omega
   have n1:na (bi .sub .i64 (Int.ofNat i) 1)=i - 1:=by rw [q1,hna];rfl
   have m0:(Classical.choice seal_mul).1 (na (Int.ofNat i)) 128=128*i:=by rw [choice_mul,qi];omega
   have m1:(Classical.choice seal_mul).1 (na (bi .sub .i64 (Int.ofNat i) 1)) 128=128*(i - 1):=by rw [choice_mul,n1];omega
   have w1:Within (bi .sub .i64 (Int.ofNat i) 1) 8:=⟨by rw [q1];constructor <;> simp only [Int.ofNat_eq_natCast] <;> omega⟩
   have f1:FitsIn ((Classical.choice seal_mul).1 (na (bi .sub .i64 (Int.ofNat i) 1)) 128) 128 1024:=⟨by rw [m1];omega⟩
   have w0:Within (Int.ofNat i) 8:=⟨by constructor <;> simp only [Int.ofNat_eq_natCast] <;> omega⟩
   have f0:FitsIn ((Classical.choice seal_mul).1 (na (Int.ofNat i)) 128) 128 1024:=⟨by rw [m0];omega⟩
   refine ⟨w1,f1,w0,f0,⟨i+1,by omega,by omega⟩,?_,by show 8 - (i+1)<8 - i;omega⟩
   cbv
   refine ⟨fun _ _=>rfl,fun _ _=>rfl,fun _ _=>rfl,fun k _=>?_,fun _ _=>rfl,p4,⟨fun _ _=>rfl,trivial⟩,trivial⟩
   show splice (OT i) ((Classical.choice seal_mul).1 (na (Int.ofNat i)) 128) 128 (SM (fun j=>OT i ((Classical.choice seal_mul).1 (na (bi .sub .i64 (Int.ofNat i) 1)) 128+j)) (TW f)) k=OT (i+1) k
   rw [m0,m1]
   exact ts i hi k
  ·cbv
   have hN:i=8:=by
    rw [hcm] at h
    have:=lss_no h
    simp only [Int.ofNat_eq_natCast] at this
    omega
   subst hN
   refine ⟨hid,⟨⟨0,by decide⟩,?_⟩,fun k _=>?_⟩
   ·subst hI2
    cbv
    exact ⟨fun _ _=>rfl,fun _ _=>rfl,fun _ _=>rfl,fun _ _=>rfl,fun _ _=>rfl,fun k _=>r0 k,b0,ix0,⟨fun _ _=>rfl,trivial⟩,trivial⟩
   ·subst hI2
    cbv
    obtain ⟨k,hk⟩:=k
    have hc:=ixc k hk
    refine ⟨fun h=>?_,fun h=>?_⟩
    ·cbv
     have hk2:k<257:=by rw [hc] at h;exact of_decide_eq_true h
     have hdk:DD n 5 (na (IX k))=dig5 n (256 - k):=by rw [ixn k hk2,hd]
     have hf5:=dig5_form n (256 - k)
     have wI:Within (IX k) (LL 5):=⟨by have:=ixw k hk2;rw [l5];omega⟩
     have fI:FitsMul (na (IX k)) 1 (LL 5) 1:=⟨by rw [l5,ixn k hk2];omega⟩
     refine ⟨fun hb=>?_,fun hb=>?_⟩
     ·cbv
      refine ⟨wI,fI,fun g=>?_,fun g=>?_⟩
      ·have gd:0<dig5 n (256 - k):=by have g':cm .gtr (DD n 5 (na (IX k))) 0=true:=g;rw [hcm,hdk] at g';exact of_decide_eq_true g'
       have hq:bi .quo .i8 (DD n 5 (na (IX k))) 2=dig5 n (256 - k) / 2:=by rw [hdk,hbi];exact quo_i8 (by omega)
       have m0:(Classical.choice seal_mul).1 (na (bi .quo .i8 (DD n 5 (na (IX k))) 2)) 128=128*((dig5 n (256 - k)).toNat / 2):=by rw [choice_mul,hq,hna];omega
       have w2:Within (bi .quo .i8 (DD n 5 (na (IX k))) 2) 8:=⟨by rw [hq];omega⟩
       have f2:FitsIn ((Classical.choice seal_mul).1 (na (bi .quo .i8 (DD n 5 (na (IX k))) 2)) 128) 128 1024:=⟨by rw [m0];omega⟩
       have hl:=post k hk2 hb gd
       cbv
       refine ⟨w2,f2,⟨k+1,by omega⟩,?_,by show 257 - (k+1)<257 - k;omega⟩
       cbv
       refine ⟨fun _ _=>rfl,fun _ _=>rfl,fun _ _=>rfl,fun _ _=>rfl,fun _ _=>rfl,fun c _=>?_,hl.2,ixs k hk2,⟨fun _ _=>rfl,trivial⟩,trivial⟩
       show SM (TW (RR k)) (fun j=>OT 8 ((Classical.choice seal_mul).1 (na (bi .quo .i8 (DD n 5 (na (IX k))) 2)) 128+j)) c=RR (k+1) c
       rw [m0]
       exact hl.1 c
      ·have gd:¬ 0<dig5 n (256 - k):=by have g':cm .gtr (DD n 5 (na (IX k))) 0=false:=g;rw [hcm,hdk] at g';exact of_decide_eq_false g'
       cbv
       refine ⟨fun g2=>?_,fun g2=>?_⟩
       ·have gd2:dig5 n (256 - k)<0:=by have g':cm .lss (DD n 5 (na (IX k))) 0=true:=g2;rw [hcm,hdk] at g';exact of_decide_eq_true g'
        have hq:bi .quo .i8 (un .neg .i8 (DD n 5 (na (IX k)))) 2=-dig5 n (256 - k) / 2:=by rw [hdk,hun,neg_i8 (by omega),hbi];exact quo_i8 (by omega)
        have m0:(Classical.choice seal_mul).1 (na (bi .quo .i8 (un .neg .i8 (DD n 5 (na (IX k)))) 2)) 128=128*((-dig5 n (256 - k)).toNat / 2):=by rw [choice_mul,hq,hna];omega
        have w2:Within (bi .quo .i8 (un .neg .i8 (DD n 5 (na (IX k)))) 2) 8:=⟨by rw [hq];omega⟩
        have f2:FitsIn ((Classical.choice seal_mul).1 (na (bi .quo .i8 (un .neg .i8 (DD n 5 (na (IX k)))) 2)) 128) 128 1024:=⟨by rw [m0];omega⟩
        have hl:=negt k hk2 hb gd2
        have s2:IsSp (fun j=>OT 8 ((Classical.choice seal_mul).1 (na (bi .quo .i8 (un .neg .i8 (DD n 5 (na (IX k)))) 2)) 128+j)):=by rw [m0];exact hl.2.2
        cbv
        refine ⟨w2,f2,s2,⟨k+1,by omega⟩,?_,by show 257 - (k+1)<257 - k;omega⟩
        cbv
        refine ⟨fun _ _=>rfl,fun _ _=>rfl,fun _ _=>rfl,fun _ _=>rfl,fun _ _=>rfl,fun c _=>?_,hl.2.1,ixs k hk2,⟨fun _ _=>rfl,trivial⟩,trivial⟩
        show SM (TW (RR k)) (OP (fun j=>OT 8 ((Classical.choice seal_mul).1 (na (bi .quo .i8 (un .neg .i8 (DD n 5 (na (IX k)))) 2)) 128+j))) c=RR (k+1) c
        rw [m0]
        exact hl.1 c
       ·have gd2:¬ dig5 n (256 - k)<0:=by have g':cm .lss (DD n 5 (na (IX k))) 0=false:=g2;rw [hcm,hdk] at g';exact of_decide_eq_false g'
        have hl:=nilt k hk2 hb (by omega)
        cbv
        refine ⟨⟨k+1,by omega⟩,?_,by show 257 - (k+1)<257 - k;omega⟩
        cbv
        exact ⟨fun _ _=>rfl,fun _ _=>rfl,fun _ _=>rfl,fun _ _=>rfl,fun _ _=>rfl,fun c _=>hl.1 c,hl.2,ixs k hk2,⟨fun _ _=>rfl,trivial⟩,trivial⟩
     ·cbv
      refine ⟨wI,fI,fun g=>?_,fun g=>?_⟩
      ·have gd:0<dig5 n (256 - k):=by have g':cm .gtr (DD n 5 (na (IX k))) 0=true:=g;rw [hcm,hdk] at g';exact of_decide_eq_true g'
       have hq:bi .quo .i8 (DD n 5 (na (IX k))) 2=dig5 n (256 - k) / 2:=by rw [hdk,hbi];exact quo_i8 (by omega)
       have m0:(Classical.choice seal_mul).1 (na (bi .quo .i8 (DD n 5 (na (IX k))) 2)) 128=128*((dig5 n (256 - k)).toNat / 2):=by rw [choice_mul,hq,hna];omega
       have w2:Within (bi .quo .i8 (DD n 5 (na (IX k))) 2) 8:=⟨by rw [hq];omega⟩
       have f2:FitsIn ((Classical.choice seal_mul).1 (na (bi .quo .i8 (DD n 5 (na (IX k))) 2)) 128) 128 1024:=⟨by rw [m0];omega⟩
       have hl:=posf k hk2 hb gd
       cbv
       refine ⟨w2,f2,⟨k+1,by omega⟩,?_,by show 257 - (k+1)<257 - k;omega⟩
       cbv
       refine ⟨fun _ _=>rfl,fun _ _=>rfl,fun _ _=>rfl,fun _ _=>rfl,fun _ _=>rfl,fun c _=>?_,hl.2,ixs k hk2,⟨fun _ _=>rfl,trivial⟩,trivial⟩
       show SM (RR k) (fun j=>OT 8 ((Classical.choice seal_mul).1 (na (bi .quo .i8 (DD n 5 (na (IX k))) 2)) 128+j)) c=RR (k+1) c
       rw [m0]
       exact hl.1 c
      ·have gd:¬ 0<dig5 n (256 - k):=by have g':cm .gtr (DD n 5 (na (IX k))) 0=false:=g;rw [hcm,hdk] at g';exact of_decide_eq_false g'
       cbv
       refine ⟨fun g2=>?_,fun g2=>?_⟩
       ·have gd2:dig5 n (256 - k)<0:=by have g':cm .lss (DD n 5 (na (IX k))) 0=true:=g2;rw [hcm,hdk] at g';exact of_decide_eq_true g'
        have hq:bi .quo .i8 (un .neg .i8 (DD n 5 (na (IX k)))) 2=-dig5 n (256 - k) / 2:=by rw [hdk,hun,neg_i8 (by omega),hbi];exact quo_i8 (by omega)
        have m0:(Classical.choice seal_mul).1 (na (bi .quo .i8 (un .neg .i8 (DD n 5 (na (IX k)))) 2)) 128=128*((-dig5 n (256 - k)).toNat / 2):=by rw [choice_mul,hq,hna];omega
        have w2:Within (bi .quo .i8 (un .neg .i8 (DD n 5 (na (IX k)))) 2) 8:=⟨by rw [hq];omega⟩
        have f2:FitsIn ((Classical.choice seal_mul).1 (na (bi .quo .i8 (un .neg .i8 (DD n 5 (na (IX k)))) 2)) 128) 128 1024:=⟨by rw [m0];omega⟩
        have hl:=negf k hk2 hb gd2
        have s2:IsSp (fun j=>OT 8 ((Classical.choice seal_mul).1 (na (bi .quo .i8 (un .neg .i8 (DD n 5 (na (IX k)))) 2)) 128+j)):=by rw [m0];exact hl.2.2
        cbv
        refine ⟨w2,f2,s2,⟨k+1,by omega⟩,?_,by show 257 - (k+1)<257 - k;omega⟩
        cbv
        refine ⟨fun _ _=>rfl,fun _ _=>rfl,fun _ _=>rfl,fun _ _=>rfl,fun _ _=>rfl,fun c _=>?_,hl.2.1,ixs k hk2,⟨fun _ _=>rfl,trivial⟩,trivial⟩
        show SM (RR k) (OP (fun j=>OT 8 ((Classical.choice seal_mul).1 (na (bi .quo .i8 (un .neg .i8 (DD n 5 (na (IX k)))) 2)) 128+j))) c=RR (k+1) c
        rw [m0]
        exact hl.1 c
       ·have gd2:¬ dig5 n (256 - k)<0:=by have g':cm .lss (DD n 5 (na (IX k))) 0=false:=g2;rw [hcm,hdk] at g';exact of_decide_eq_false g'
        have hl:=nilf k hk2 hb (by omega)
        cbv
        refine ⟨⟨k+1,by omega⟩,?_,by show 257 - (k+1)<257 - k;omega⟩
        cbv
        exact ⟨fun _ _=>rfl,fun _ _=>rfl,fun _ _=>rfl,fun _ _=>rfl,fun _ _=>rfl,fun c _=>hl.1 c,hl.2,ixs k hk2,⟨fun _ _=>rfl,trivial⟩,trivial⟩
    ·cbv
     have hk2:k=257:=by rw [hc] at h;have:=of_decide_eq_false h;omega
     subst hk2
     rw [te]
     exact fun _ _=>rfl
theorem ok_ptmultiple:Sound Tryd.prog Gpt 40 (multC mulF):=by
 refine sound_each (n:=72) (rs:=[.cell 4 66]) (sc:=sc_ptmultiple.1) mixed Tryd.func40 rfl rfl rfl rfl sc_ptmultiple.2 ?_
 intro vs cs r h
 unfold multC at h
 split at h
 ·rename_i n f
  cases h
  exact ⟨by simp,fun hcs hwf=>⟨_,envOK tabOK ((.cons (ok_sdigits Gpt) (.cons (ok_pttwice) (.cons (ok_ptsum) (.cons (ok_ptid) (.cons (ok_ptof) (.cons (ok_ptopp) .nil))))))),rfl,walk_ptmultiple realOps rfl n f (isB (hwf _ (by simp))) (hcs _ (by simp)) _ rfl _ rfl _ rfl _ rfl _ rfl _ rfl _ rfl _ rfl _ rfl _ rfl _ rfl _ rfl _ rfl _ rfl _ rfl⟩⟩
 ·cases h
end Go.Proofs.YtjbimeigkklcmaaDoor
