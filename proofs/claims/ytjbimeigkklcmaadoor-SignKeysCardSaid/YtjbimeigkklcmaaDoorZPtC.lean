/-
  Package point: tables and multiples.
-/
import Derived.Test.YtjbimeigkklcmaaDoorZPtB
import Derived.Test.YtjbimeigkklcmaaDoorZDigA
import Derived.Test.YtjbimeigkklcmaaDoorZNA
namespace Go.Proofs.YtjbimeigkklcmaaDoor
open Go Go.Proofs Sx
set_option maxRecDepth 100000
set_option maxHeartbeats 4000000
def sc_ptmultiples:{ c:SC // strip (body Tryd.f62)=c }:=⟨_,by cbv⟩
theorem walk_ptmultiples (A:Ops) (hA:A=realOps) (f:Nat→Int)  (ID:Nat→Int) (hID:ID=pb Pt.zero) (SO:(Nat→Int)→Nat→Int) (hSO:SO=fun f=>spB (Spd.of (ptO f).x (ptO f).y)) (SM:(Nat→Int)→(Nat→Int)→Nat→Int) (hSM:SM=fun f g=>spB (Spd.sum (spO f) (spO g))) (R:(Nat→Int)→Nat→Int) (hR:R=fun f=>rowP (tabS (spO f)) 16) (TB:Nat→Nat→Int) (hTB:TB=rowP (tabS (spO f))) (I:{ i:Nat // 1≤i∧i≤16 }→St) (hI:I=fun i=>slots 21 [(1,.own (.arr .u8 128 f)),(2,.own (.arr .u8 2048 fun _=>0)),(3,.own (.arr .u8 2048 (TB i.1))),(4,.int .i64 (.sym (i.1:Int)))]) :
  Walk (mkEnv A tab.1 Gpt [(60,ptKC ID),(41,spOfC SO),(39,sp2C SM)] [(4,.inv { i:Nat // 1≤i∧i≤16 } I fun i=>16 - i.1)]) sc_ptmultiples.1 21 [.cell 2 93] [.arr .u8 128 f] (.arr .u8 2048 (R f)):=by
 obtain ⟨bi,cm,un,cv,na,eq⟩:=A
 have hbi:bi=realBin:=congrArg Ops.bin hA
 have hcm:cm=realCmp:=congrArg Ops.cmp hA
 have hna:na=Int.toNat:=congrArg Ops.nat hA
 have hcv:cv=fun k n=>k.wrap n:=congrArg Ops.cnv hA
 have heq:eq=realEqA:=congrArg Ops.eqA hA
 clear hA
 have hid:IsPt ID:=by rw [hID];exact isPt_pb _
 have t0:∀ k,splice (fun _=>0) 0 128 (SO ID) k=TB 1 k:=by
  intro k
  rw [hTB,hSO,hID]
  refine rowP_zero (fun j _=>?_) k
  show spB (Spd.of (ptO (pb Pt.zero)).x (ptO (pb Pt.zero)).y) j=spB (Spd.of 0 1) j
  rw [ptO_pb]
  unfold Pt.zero
  rfl
 have ts:∀ i,1≤i→∀ k,splice (TB i) (128*i) 128 (SM (fun j=>TB i (128*(i - 1)+j)) f) k=TB (i+1) k:=by
  intro i hi k
  rw [hTB,hSM]
  refine rowP_step (fun j _=>?_) k
  show spB (Spd.sum (spO (fun j=>rowP (tabS (spO f)) i (128*(i - 1)+j))) (spO f)) j=_
  rw [rowP_sp (by omega)]
  have e:i=(i - 1)+1:=by omega
  conv=>rhs;rw [e]
  rfl
 have te:R f=TB 16:=by rw [hR,hTB]
 clear hSO hSM hTB hR
 refine ⟨?_⟩
 cbv
 refine ⟨hid,⟨⟨1,by decide⟩,?_⟩,fun i _=>?_⟩
 ·subst hI
  cbv
  exact ⟨fun _ _=>rfl,fun _ _=>rfl,fun k _=>t0 k,rfl,trivial⟩
 ·subst hI
  cbv
  obtain ⟨i,hi,hi2⟩:=i
  refine ⟨fun h=>?_,fun h=>?_⟩
  ·cbv
   rw [hcm] at h
   have hlt:=lss_yes h
   simp only [Int.ofNat_eq_natCast] at hlt
   have qi:na (Int.ofNat i)=i:=by rw [hna];rfl
   have p4:bi .add .i64 (Int.ofNat i) 1=Int.ofNat (i+1):=by rw [hbi,add_i64 (by simp only [Int.ofNat_eq_natCast];omega)];rfl
   have q1:bi .sub .i64 (Int.ofNat i) 1=Int.ofNat (i - 1):=by rw [hbi,sub_i64 (by simp only [Int.ofNat_eq_natCast];omega)];simp only [Int.ofNat_eq_natCast];omega
   have n1:na (bi .sub .i64 (Int.ofNat i) 1)=i - 1:=by rw [q1,hna];rfl
   have m0:(Classical.choice seal_mul).1 (na (Int.ofNat i)) 128=128*i:=by rw [choice_mul,qi];omega
   have m1:(Classical.choice seal_mul).1 (na (bi .sub .i64 (Int.ofNat i) 1)) 128=128*(i - 1):=by rw [choice_mul,n1];omega
   have w1:Within (bi .sub .i64 (Int.ofNat i) 1) 16:=⟨by rw [q1];constructor <;> simp only [Int.ofNat_eq_natCast] <;> omega⟩
   have f1:FitsIn ((Classical.choice seal_mul).1 (na (bi .sub .i64 (Int.ofNat i) 1)) 128) 128 2048:=⟨by rw [m1];omega⟩
   have w0:Within (Int.ofNat i) 16:=⟨by constructor <;> simp only [Int.ofNat_eq_natCast] <;> omega⟩
   have f0:FitsIn ((Classical.choice seal_mul).1 (na (Int.ofNat i)) 128) 128 2048:=⟨by rw [m0];omega⟩
   refine ⟨w1,f1,w0,f0,⟨i+1,by omega,by omega⟩,?_,by show 16 - (i+1)<16 - i;omega⟩
   cbv
   refine ⟨fun _ _=>rfl,fun _ _=>rfl,fun k _=>?_,p4,trivial⟩
   show splice (TB i) ((Classical.choice seal_mul).1 (na (Int.ofNat i)) 128) 128 (SM (fun j=>TB i ((Classical.choice seal_mul).1 (na (bi .sub .i64 (Int.ofNat i) 1)) 128+j)) f) k=TB (i+1) k
   rw [m0,m1]
   exact ts i hi k
  ·cbv
   have hN:i=16:=by
    rw [hcm] at h
    have:=lss_no h
    simp only [Int.ofNat_eq_natCast] at this
    omega
   subst hN
   rw [te]
   exact fun _ _=>rfl
theorem ok_ptmultiples:Sound Tryd.prog Gpt 62 (tabC (fun f=>rowP (tabS (spO f)) 16)):=by
 refine sound_each (n:=21) (rs:=[.cell 2 93]) (sc:=sc_ptmultiples.1) mixed Tryd.func62 rfl rfl rfl rfl sc_ptmultiples.2 ?_
 intro vs cs r h
 unfold tabC at h
 split at h
 ·rename_i f
  cases h
  exact ⟨by simp,fun hcs hwf=>⟨_,envOK tabOK ((.cons (ok_ptid) (.cons (ok_ptof) (.cons (ok_ptsum) .nil)))),rfl,walk_ptmultiples realOps rfl f  _ rfl _ rfl _ rfl _ rfl _ rfl _ rfl⟩⟩
 ·cases h
def sc_ptbasem:{ c:SC // strip (body Tryd.f42)=c }:=⟨_,by cbv⟩
theorem walk_ptbasem (A:Ops) (hA:A=realOps) (n:Nat→Int) (hn:IsBytes 32 n) (SO:(Nat→Int)→Nat→Int) (hSO:SO=fun f=>spB (Spd.of (ptO f).x (ptO f).y)) (MT:(Nat→Int)→Nat→Int) (hMT:MT=fun f=>rowP (tabS (spO f)) 16) (SH:(Nat→Int)→Nat→Int) (hSH:SH=fun f=>spB (shS (spO f))) (SM:(Nat→Int)→(Nat→Int)→Nat→Int) (hSM:SM=fun f g=>spB (Spd.sum (spO f) (spO g))) (R:(Nat→Int)→Nat→Int) (hR:R=baseF) (TT:Nat→Int) (hTT:TT=MT (SO (fun i=>v_ptbase.2.2.getD i 0))) (BK:Nat→Nat→Int) (hBK:BK=fun k=>spB (bmS (Spd.of basePt.x basePt.y) n k)) (I:{ i:Nat // i≤32 }→St) (hI:I=fun i=>slots 35 [(1,.own (.arr .u8 32 n)),(2,.own (.arr .u8 128 fun _=>0)),(3,.own (.arr .u8 2048 TT)),(4,.own (.arr .u8 128 (BK i.1))),(12,.int .i64 (.sym (i.1:Int)))]) :
  Walk (mkEnv A tab.1 Gpt [(41,spOfC SO),(62,tabC MT),(63,sp1C SH),(39,sp2C SM)] [(4,.inv { i:Nat // i≤32 } I fun i=>32 - i.1)]) sc_ptbasem.1 35 [.cell 2 66] [.arr .u8 32 n] (.arr .u8 128 (R n)):=by
 obtain ⟨bi,cm,un,cv,na,eq⟩:=A
 have hbi:bi=realBin:=congrArg Ops.bin hA
 have hcm:cm=realCmp:=congrArg Ops.cmp hA
 have hna:na=Int.toNat:=congrArg Ops.nat hA
 have hcv:cv=fun k n=>k.wrap n:=congrArg Ops.cnv hA
 have heq:eq=realEqA:=congrArg Ops.eqA hA
 clear hA
 have hbp:IsPt (fun i=>v_ptbase.2.2.getD i 0):=isPt_of pt_base
 have es:spO (SO (fun i=>v_ptbase.2.2.getD i 0))=Spd.of basePt.x basePt.y:=by
  rw [hSO]
  show spO (spB (Spd.of (ptO (fun i=>v_ptbase.2.2.getD i 0)).x (ptO (fun i=>v_ptbase.2.2.getD i 0)).y))=_
  rw [ptO_of pt_base,spO_spB]
 have ht:∀ i,i<16→spO (fun j=>MT (SO (fun i=>v_ptbase.2.2.getD i 0)) (128*i+j))=tabS (Spd.of basePt.x basePt.y) i:=by
  intro i hi
  rw [hMT]
  show spO (fun j=>rowP (tabS (spO (SO (fun i=>v_ptbase.2.2.getD i 0)))) 16 (128*i+j))=_
  rw [es,rowP_sp hi]
 have t0:∀ k,k<128→MT (SO (fun i=>v_ptbase.2.2.getD i 0)) k=BK 0 k:=by
  intro k hk
  rw [hMT,hBK]
  show rowP (tabS (spO (SO (fun i=>v_ptbase.2.2.getD i 0)))) 16 k=_
  rw [es]
  have h:=rowP_at (T:=tabS (Spd.of basePt.x basePt.y)) (n:=16) (i:=0) (by decide) k hk
  rw [Nat.mul_zero,Nat.zero_add] at h
  exact h
 have ts:∀ i,i<32→∀ k,SM (SH (SM (SH (BK i)) (fun j=>MT (SO (fun i=>v_ptbase.2.2.getD i 0)) (128*(n (31 - i) / 16).toNat+j)))) (fun j=>MT (SO (fun i=>v_ptbase.2.2.getD i 0)) (128*(n (31 - i) % 16).toNat+j)) k=BK (i+1) k:=by
  intro i hi k
  have hx:=hn (31 - i) (by omega)
  rw [hSM]
  dsimp only
  rw [ht _ (by omega),hSH]
  dsimp only
  rw [spO_spB,spO_spB,spO_spB,ht _ (by omega),hBK]
  dsimp only
  rw [spO_spB]
  rfl
 have te:R n=BK 32:=by rw [hR,hBK];rfl
 rw [← hTT] at t0 ts
 replace hTT:=hTT.symm
 clear hSO hSM hSH hBK hR hMT ht es
 refine ⟨?_⟩
 cbv
 refine ⟨hbp,⟨⟨0,by decide⟩,?_⟩,fun i _=>?_⟩
 ·subst hI
  cbv
  exact ⟨fun _ _=>rfl,fun _ _=>rfl,fun k _=>congrFun hTT k,fun k hk=>(congrFun hTT k).trans (t0 k hk),rfl,trivial⟩
 ·subst hI
  cbv
  obtain ⟨i,hi⟩:=i
  refine ⟨fun h=>?_,fun h=>?_⟩
  ·cbv
   rw [hcm] at h
   have hlt:=lss_yes h
   simp only [Int.ofNat_eq_natCast] at hlt
   have qi:na (Int.ofNat i)=i:=by rw [hna];rfl
   have p4:bi .add .i64 (Int.ofNat i) 1=Int.ofNat (i+1):=by rw [hbi,add_i64 (by simp only [Int.ofNat_eq_natCast];omega)];rfl
   have hi32:i<32:=by omega
   have q1:bi .sub .i64 31 (Int.ofNat i)=Int.ofNat (31 - i):=by rw [hbi,sub_i64 (by simp only [Int.ofNat_eq_natCast];omega)];simp only [Int.ofNat_eq_natCast];omega
   have n1:na (bi .sub .i64 31 (Int.ofNat i))=31 - i:=by rw [q1,hna];rfl
   have hx:=hn (31 - i) (by omega)
   have hq:bi .quo .u8 (n (na (bi .sub .i64 31 (Int.ofNat i)))) 16=n (31 - i) / 16:=by rw [n1,hbi];exact quo_u8 hx
   have hr:bi .rem .u8 (n (na (bi .sub .i64 31 (Int.ofNat i)))) 16=n (31 - i) % 16:=by rw [n1,hbi];exact rem_i64 hx.1
   have m0:(Classical.choice seal_mul).1 (na (bi .quo .u8 (n (na (bi .sub .i64 31 (Int.ofNat i)))) 16)) 128=128*(n (31 - i) / 16).toNat:=by rw [choice_mul,hq,hna];omega
   have m1:(Classical.choice seal_mul).1 (na (bi .rem .u8 (n (na (bi .sub .i64 31 (Int.ofNat i)))) 16)) 128=128*(n (31 - i) % 16).toNat:=by rw [choice_mul,hr,hna];omega
   have w1:Within (bi .sub .i64 31 (Int.ofNat i)) 32:=⟨by rw [q1];constructor <;> simp only [Int.ofNat_eq_natCast] <;> omega⟩
   have f1:FitsIn (na (bi .sub .i64 31 (Int.ofNat i))) 1 32:=⟨by rw [n1];omega⟩
   have w2:Within (bi .quo .u8 (n (na (bi .sub .i64 31 (Int.ofNat i)))) 16) 16:=⟨by rw [hq];omega⟩
   have f2:FitsIn ((Classical.choice seal_mul).1 (na (bi .quo .u8 (n (na (bi .sub .i64 31 (Int.ofNat i)))) 16)) 128) 128 2048:=⟨by rw [m0];omega⟩
   have w3:Within (bi .rem .u8 (n (na (bi .sub .i64 31 (Int.ofNat i)))) 16) 16:=⟨by rw [hr];omega⟩
   have f3:FitsIn ((Classical.choice seal_mul).1 (na (bi .rem .u8 (n (na (bi .sub .i64 31 (Int.ofNat i)))) 16)) 128) 128 2048:=⟨by rw [m1];omega⟩
   refine ⟨w1,f1,w2,f2,w3,f3,⟨i+1,by omega⟩,?_,by show 32 - (i+1)<32 - i;omega⟩
   cbv
   refine ⟨fun _ _=>rfl,fun _ _=>rfl,fun _ _=>rfl,fun k _=>?_,p4,trivial⟩
   show SM (SH (SM (SH (BK i)) (fun j=>TT ((Classical.choice seal_mul).1 (na (bi .quo .u8 (n (na (bi .sub .i64 31 (Int.ofNat i)))) 16)) 128+j)))) (fun j=>TT ((Classical.choice seal_mul).1 (na (bi .rem .u8 (n (na (bi .sub .i64 31 (Int.ofNat i)))) 16)) 128+j)) k=BK (i+1) k
   rw [m0,m1]
   exact ts i hi32 k
  ·cbv
   have hN:i=32:=by
    rw [hcm] at h
    have:=lss_no h
    simp only [Int.ofNat_eq_natCast] at this
    omega
   subst hN
   rw [te]
   exact fun _ _=>rfl
theorem ok_ptbasem:Sound Tryd.prog Gpt 42 (bmulC baseF):=by
 refine sound_each (n:=35) (rs:=[.cell 2 66]) (sc:=sc_ptbasem.1) mixed Tryd.func42 rfl rfl rfl rfl sc_ptbasem.2 ?_
 intro vs cs r h
 unfold bmulC at h
 split at h
 ·rename_i n
  cases h
  exact ⟨by simp,fun hcs hwf=>⟨_,envOK tabOK ((.cons (ok_ptof) (.cons (ok_ptmultiples) (.cons (ok_ptshift) (.cons (ok_ptsum) .nil))))),rfl,walk_ptbasem realOps rfl n (isB (hwf _ (by simp))) _ rfl _ rfl _ rfl _ rfl _ rfl _ rfl _ rfl _ rfl⟩⟩
 ·cases h
end Go.Proofs.YtjbimeigkklcmaaDoor
