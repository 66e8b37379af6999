/-
  SignStrict holds for every input: the walk.
-/
import Derived.Test.YtncmblldbnlbmaaDoorZSgE
import Derived.Test.YtncmblldbnlbmaaDoorZNA
namespace Go.Proofs.YtncmblldbnlbmaaDoor
open Go Go.Proofs Sx
set_option maxRecDepth 100000
set_option maxHeartbeats 4000000
def sc_strict:{ c:SC // strip (body Tryd.f4)=c }:=⟨_,by cbv⟩
theorem walk_strict (mem:Mem) (X:Acc) (hX:X=realAcc mem) (A:Ops) (hA:A=realOps) (v:Value) (ho:RecOK mem 66 forgF v) (EA:(Nat→Int)→Nat→Int) (hEA:EA=expA h32R) (PU:(Nat→Int)→Nat→Int) (hPU:PU=pubF h32R) (SM:Int→Nat→Int) (hSM:SM=smB) (DC:(Nat→Int)→Nat→Int) (hDC:DC=decF) (BM:(Nat→Int)→Nat→Int) (hBM:BM=bmulF) (AD:(Nat→Int)→(Nat→Int)→Nat→Int) (hAD:AD=ptAddF) (EN:(Nat→Int)→Nat→Int) (hEN:EN=encF) (KC:(Nat→Int)→(Nat→Int)→Nat→(Nat→Int)→Nat→Int) (hKC:KC=kR) (MA:(Nat→Int)→(Nat→Int)→(Nat→Int)→Nat→Int) (hMA:MA=fun a b c=>sb (se a*se b+se c)) (HA:(Nat→Int)→(Nat→Int)→Nat→Int) (hHA:HA=joinF 32) (VF:(Nat→Int)→Nat→(Nat→Int)→(Nat→Int)→Int) (hVF:VF=verF kR) (EP:(Nat→Int)→Nat→Int) (hEP:EP=expP h32R) (DX:(Nat→Int)→Int) (hDX:DX=decE) (AX:(Nat→Int)→(Nat→Int)→Int) (hAX:AX=ptAddE) (EX:(Nat→Int)→Int) (hEX:EX=offE)  :
  Walk (mkEnvM X mem A tab.1 Gsg [(11,expC EA EP),(12,un32C PU),(9,smC SM),(13,decC DC DX),(6,ptBC BM),(14,pt2C AD AX),(5,encC EN EX),(15,chalC KC),(16,tri32C MA),(10,halC HA),(8,verC VF)] []) sc_strict.1 82 [.tmp 2] [.opq v] (.bool (.sym true)):=by
 obtain ⟨bi,cm,un,cv,na,eq⟩:=A
 have hbi:bi=realBin:=congrArg Ops.bin hA
 have hcm:cm=realCmp:=congrArg Ops.cmp hA
 have hna:na=Int.toNat:=congrArg Ops.nat hA
 have hcv:cv=fun k n=>k.wrap n:=congrArg Ops.cnv hA
 have heq:eq=realEqA:=congrArg Ops.eqA hA
 clear hA
 obtain ⟨cl,nu,ln,cp,ad,gt,ls⟩:=X
 have hcl:cl=rCell:=congrArg Acc.cell hX
 have hnu:nu=rNum:=congrArg Acc.num hX
 clear hX
 have hS:IsRec v 66:=ho.size
 have hA0:IsNums .u8 32 fun j=>cl v (0+j):=by rw [hcl];exact ho.flds (0,.arr 32 .u8) (by simp [forgF])
 have hN0:IsNums .u8 32 fun j=>cl v (32+j):=by rw [hcl];exact ho.flds (32,.arr 32 .u8) (by simp [forgF])
 have hK:IsNum .i64 (cl v 64):=by rw [hcl];exact ho.flds (64,.int .i64) (by simp [forgF])
 have hM:IsSl (cl v 65)∧IsList mem .u8 1 (cl v 65):=by rw [hcl];exact ho.flds (65,.sl .u8) (by simp [forgF])
 have hn:IsBytes 32 fun j=>nu (cl v (32+j)):=by
  rw [hcl,hnu]
  intro j hj
  obtain ⟨z,hz,hr⟩:=(ho.flds (32,.arr 32 .u8) (by simp [forgF])).h j hj
  have hz2:rCell v (32+j)=Value.int .u8 z:=hz
  show 0≤rNum (rCell v (32+j))∧rNum (rCell v (32+j))<256
  rw [hz2]
  exact inR_u8.1 hr
 clear ho hcl hnu
 have g1:∀ x,Lt8 (bi .rem .i64 (bi .add .i64 (bi .rem .i64 x 8) 8) 8):=by rw [hbi];exact lt8_go
 obtain ⟨I,hI⟩:∃ I,bi .rem .i64 (bi .add .i64 (bi .rem .i64 (nu (cl v 64)) 8) 8) 8=I:=⟨_,rfl⟩
 have g0:Lt8 I:=hI ▸ g1 _
 obtain ⟨N,hN⟩:∃ N,N=fun j=>nu (cl v (32+j)):=⟨_,rfl⟩
 rw [← hN] at hn
 have d1:cm .neq (DX (SM I)) 0=false:=by rw [hcm,hDX,hSM,(sm_dec g0).1];rfl
 have d2:cm .neq (AX (BM N) (DC (SM I))) 0=false:=by rw [hcm,hAX,hBM,hDC,hSM,str_f g0];rfl
 have d3:cm .neq (EX (AD (BM N) (DC (SM I)))) 0=false:=by rw [hcm,hEX,hAD,hBM,hDC,hSM,str_g g0];rfl
 have d4:∀ s m F,VF (PU s) m F (HA (EN (AD (BM N) (DC (SM I)))) (MA (KC (EN (AD (BM N) (DC (SM I)))) (PU s) m F) (EA s) N))=if I=0 then 0 else 53:=by
  intro s m F
  rw [hVF,hPU,hHA,hEN,hAD,hBM,hDC,hSM,hMA,hKC,hEA]
  exact str_v g0 kR_ok (expA_bytes s) hn m F
 have d5:∀ s m F,cm .eql I 0=true→cm .eql (VF (PU s) m F (HA (EN (AD (BM N) (DC (SM I)))) (MA (KC (EN (AD (BM N) (DC (SM I)))) (PU s) m F) (EA s) N))) 0=true:=by
  intro s m F h
  have h0:I=0:=by rw [hcm] at h;exact eq_of_beq h
  rw [d4,if_pos h0,hcm]
  rfl
 have d6:∀ s m F,cm .eql I 0=false→cm .eql (VF (PU s) m F (HA (EN (AD (BM N) (DC (SM I)))) (MA (KC (EN (AD (BM N) (DC (SM I)))) (PU s) m F) (EA s) N))) 53=true:=by
  intro s m F h
  have h0:I≠0:=by rw [hcm] at h;exact fun e=>by rw [e] at h;cases h
  rw [d4,if_neg h0,hcm]
  rfl
 rw [← hI] at d1
 rw [← hI,hN] at d2 d3
 rw [← hI,hN] at d5 d6
 clear hDX hAX hEX hVF hPU hHA hEN hAD hBM hDC hSM hMA hKC hEA hEP d4
 refine ⟨?_⟩
 cbv
 repeat (first | refine ⟨hS,?_⟩ | refine ⟨hA0,?_⟩ | refine ⟨hN0,?_⟩ | refine ⟨hK,?_⟩ | refine ⟨hM.1,?_⟩ | refine ⟨hM.2,?_⟩ | refine ⟨g1 _,?_⟩)
 refine and_dead (by (try dsimp only [SI.val,SO.val]);simp [d1,d2,d3]) (fun _=>?_)
 cbv
 repeat (first | refine ⟨hS,?_⟩ | refine ⟨hA0,?_⟩ | refine ⟨hN0,?_⟩ | refine ⟨hK,?_⟩ | refine ⟨hM.1,?_⟩ | refine ⟨hM.2,?_⟩ | refine ⟨g1 _,?_⟩)
 refine ⟨fun h=>?_,fun h=>?_⟩
 ·have d5:=fun s m F=>d5 s m F h
  cbv
  exact d5 _ _ _
 ·have d6:=fun s m F=>d6 s m F h
  cbv
  exact d6 _ _ _
theorem ok_law_strict (mem:Mem):SoundM Tryd.prog mem Gsg 4 (strC mem):=by
 refine sound_eachM (mem:=mem) (n:=82) (rs:=[.tmp 2]) (sc:=sc_strict.1) mixed Tryd.func4 rfl rfl rfl rfl sc_strict.2 ?_
 intro vs cs r h
 unfold strC at h
 split at h
 ·rename_i v
  cases h
  exact ⟨by simp,fun hcs hwf=>⟨_,envOKM tabOK ((.cons ((ok_expand).toM mem) (.cons ((ok_public).toM mem) (.cons ((ok_small.sub sub_g0e).toM mem) (.cons ((ok_ptdec.sub sub_pt).toM mem) (.cons ((ok_ptbmul.sub sub_pt).toM mem) (.cons ((ok_ptadd.sub sub_pt).toM mem) (.cons ((ok_ptenc.sub sub_pt).toM mem) (.cons ((ok_chal.sub sub_rs).toM mem) (.cons ((ok_muladd.sub sub_ml).toM mem) (.cons ((ok_hal.sub sub_g0e).toM mem) (.cons ((ok_ver).toM mem) .nil)))))))))))),rfl,rfl,walk_strict mem _ rfl realOps rfl v (hcs _ (by simp)) _ rfl _ rfl _ rfl _ rfl _ rfl _ rfl _ rfl _ rfl _ rfl _ rfl _ rfl _ rfl _ rfl _ rfl _ rfl ⟩⟩
 ·cases h
end Go.Proofs.YtncmblldbnlbmaaDoor
