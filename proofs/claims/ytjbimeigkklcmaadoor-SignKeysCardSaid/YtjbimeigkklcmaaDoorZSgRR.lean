/-
  Sign.
-/
import Derived.Test.YtjbimeigkklcmaaDoorZShSS
import Derived.Test.YtjbimeigkklcmaaDoorZShWW
import Derived.Test.YtjbimeigkklcmaaDoorZShKK
import Derived.Test.YtjbimeigkklcmaaDoorZMC
import Derived.Test.YtjbimeigkklcmaaDoorZNA
import Derived.Test.YtjbimeigkklcmaaDoorZBase
import Derived.Test.YtjbimeigkklcmaaDoorZEB
import Derived.Test.YtjbimeigkklcmaaDoorZSgVV
set_option linter.unusedVariables false
namespace Go.Proofs.YtjbimeigkklcmaaDoor
open Go Go.Proofs Sx Sy
set_option maxRecDepth 100000
set_option maxHeartbeats 8000000
def sh_sign (ch:HC):{ c:HC // stripH (lookF [(21,⟨26,[.cell 2 22],1,ch⟩)]) none 8800 (body Tryd.f8)=c }:=⟨_,by cbv⟩
theorem spl32 (f g:Nat→Int) (i:Nat) (hi:i<64):splice (splice (fun _=>0) 0 32 (fun j=>f (0+j))) 32 32 (fun j=>g (0+j)) i=joinF 32 f g i:=by
 show (if i<32 then (if i<0 then (0:Int) else if i<0+32 then f (0+(i - 0)) else 0) else if i<32+32 then g (0+(i - 32)) else (if i<0 then (0:Int) else if i<0+32 then f (0+(i - 0)) else 0))=(if i<32 then f i else g (i - 32))
 by_cases h1:i<32
 ·exact (if_pos h1).trans ((if_neg (Nat.not_lt_zero i)).trans ((if_pos (show i<0+32 by omega)).trans ((congrArg f (Nat.zero_add (i - 0))).trans (if_pos h1).symm)))
 ·exact (if_neg h1).trans ((if_pos (show i<32+32 by omega)).trans ((congrArg g (Nat.zero_add (i - 32))).trans (if_neg h1).symm))
theorem walk_sign (BG:Nat→AV) (A:Ops) (hA:A=realOps) (F:ShF) (T:Int→Int→Int→Int) (t R s:Nat→Int) (hF:F=shF realOps T t R) (ht:∀ i,i<12→0≤t i∧t i≤64) (G:ShG) (hG:G=shG F) (RD EA EP BM FO:(Nat→Int)→Nat→Int) (KC:(Nat→Int)→(Nat→Int)→Nat→(Nat→Int)→Nat→Int) (MA:(Nat→Int)→(Nat→Int)→(Nat→Int)→Nat→Int) (z f:Nat→Int) (n:Nat) (cap:SO) (X K:Nat→Int) (hX:X=(RD (fun j=>hashN F G s (EP z) n f (0+j)))) (hK:K=joinF 32 (FO (BM X)) (MA (KC (FO (BM X)) (FO (BM (EA z))) n f) (EA z) X)) :
  WalkH (envS BG A F T t R s [(27,un64C RD),(12,expC EA EP),(20,ptBC BM),(19,formC FO),(9,chalC KC),(13,tri32C MA)] (loopsG 10 G ++ [])) (sh_sign (sh_hashed (sh_new sh_start.1).1 (sh_write sh_block.1 (sh_mix sh_load.1 (sh_compress sh_cB0.1 sh_cZ.1).1).1).1 (sh_sum sh_block.1 (sh_mix sh_load.1 (sh_compress sh_cB0.1 sh_cZ.1).1).1 (sh_words (sh_lay sh_layI.1).1).1).1).1).1 41 [.cell 4 26] [.arr .u8 32 z,.xsl .u8 1 (.sym n) cap f] (.arr .u8 64 K):=by
 have ha:=write_p BG A hA F T t R s hF ht [(27,un64C RD),(12,expC EA EP),(20,ptBC BM),(19,formC FO),(9,chalC KC),(13,tri32C MA)] 10 G hG []
 have hc:=write_n BG A hA F T t R s hF ht [(27,un64C RD),(12,expC EA EP),(20,ptBC BM),(19,formC FO),(9,chalC KC),(13,tri32C MA)] G hG []
 have hs:=sum_n BG A hA F T t R s hF ht [(27,un64C RD),(12,expC EA EP),(20,ptBC BM),(19,formC FO),(9,chalC KC),(13,tri32C MA)] 10 G hG []
 have hx:=sum_y BG A hA F T t R s hF ht [(27,un64C RD),(12,expC EA EP),(20,ptBC BM),(19,formC FO),(9,chalC KC),(13,tri32C MA)] 10 G hG []
 generalize (sh_write sh_block.1 (sh_mix sh_load.1 (sh_compress sh_cB0.1 sh_cZ.1).1).1).1=cw at ha hc ⊢
 generalize (sh_sum sh_block.1 (sh_mix sh_load.1 (sh_compress sh_cB0.1 sh_cZ.1).1).1 (sh_words (sh_lay sh_layI.1).1).1).1=cs at hs hx ⊢
 obtain ⟨kk,hkk⟩:∃ k:Nat,k=kN n:=⟨_,rfl⟩
 obtain ⟨CN,hCN⟩:∃ k:Int,k=realBin .add .i64 32 (Int.ofNat n):=⟨_,rfl⟩
 obtain ⟨BT,hBT⟩:∃ k:Int,k=realBin .shl .u64 (IntKind.wrap .u64 CN) 3:=⟨_,rfl⟩
 obtain ⟨NB,hNB⟩:∃ k:Nat,k=nsub n kk / 128:=⟨_,rfl⟩
 obtain ⟨N1,hN1⟩:∃ k:Nat,k=tlenS G (nadd (nadd 32 kk) 1) / 128:=⟨_,rfl⟩
 obtain ⟨N2,hN2⟩:∃ k:Nat,k=tlenS G (nadd (G.s (nsub n kk) (G.m NB)) 1) / 128:=⟨_,rfl⟩
 obtain ⟨N3,hN3⟩:∃ k:Nat,k=tlenS G 33 / 128:=⟨_,rfl⟩
 have k1:n<96→kk=n:=fun h=>by
  rw [hkk]
  unfold kN
  rw [imin_eq,if_pos (by simp only [Int.ofNat_eq_natCast];omega)]
  rfl
 have k2:96≤n→kk=96:=fun h=>by
  rw [hkk]
  unfold kN
  rw [imin_eq,if_neg (by simp only [Int.ofNat_eq_natCast];omega)]
  rfl
 have b1:n<96→nadd 32 kk≤127:=fun h=>by rw [nadd_eq,k1 h];omega
 have b2:G.s (nsub n kk) (G.m NB)≤127:=by rw [g_s hG,g_m hG,hNB,nsub_eq];omega
 have e1:LeqN 64 (G.e 8):=⟨by rw [g_e hG];decide⟩
 have e2:∀ x:Nat,x=64→FitsIn 0 64 (match 0,x with | a,Nat.zero=>a | a,Nat.succ b=>(a.add b).succ):=fun x hx=>by subst hx;exact ⟨by decide⟩
 have K0:2305843009213693919<n→RD (fun j=>G.lay (G.chain s (tailS G 256 32 33 (fun j=>EP z (0+j))) N3) 8 (0+j))=X:=fun h=>by
  rw [hX]
  congr 1
  funext j
  unfold hashN
  rw [if_pos h,hN3]
  rfl
 have hsml:n<96→¬ 2305843009213693919<n:=fun h=>by omega
 have K1:n<96→RD (fun j=>G.lay (G.chain s (tailS G BT (nadd 32 kk) (nadd (nadd 32 kk) 1) (headN (EP z) f)) N1) 8 (0+j))=X:=fun h=>by
  rw [hX]
  congr 1
  funext j
  unfold hashN
  rw [if_neg (hsml h),if_pos h,hN1,hBT,hCN,hkk]
  rfl
 have K2:¬ 2305843009213693919<n→96≤n→RD (fun j=>G.lay (G.chain (G.chain (F.block s (headN (EP z) f)) (fun j=>f (kk+j)) NB) (tailS G BT (G.s (nsub n kk) (G.m NB)) (nadd (G.s (nsub n kk) (G.m NB)) 1) (joinF 0 (headN (EP z) f) (fun j=>(fun j=>f (kk+j)) (G.m NB+j)))) N2) 8 (0+j))=X:=fun hh h=>by
  rw [hX]
  congr 1
  funext j
  unfold hashN
  rw [if_neg hh,if_neg (by omega),hN2,hBT,hCN,hNB,hkk]
  rfl
 clear hX
 have hf:∀ Y,Y=X→∀ i,i<64→splice (splice (fun _=>0) 0 32 (fun j=>FO (BM Y) (0+j))) 32 32 (fun j=>MA (KC (FO (BM Y)) (FO (BM (EA z))) n f) (EA z) Y (0+j)) i=K i:=fun Y hY i hi=>by
  rw [hK,hY]
  exact spl32 (FO (BM X)) (MA (KC (FO (BM X)) (FO (BM (EA z))) n f) (EA z) X) i hi
 obtain ⟨bi,cm,un,cv,na,eq⟩:=A
 have hbi:bi=realBin:=congrArg Ops.bin hA
 have hcm:cm=realCmp:=congrArg Ops.cmp hA
 have hun:un=realUn:=congrArg Ops.un hA
 have hna:na=Int.toNat:=congrArg Ops.nat hA
 have hcv:cv=fun k n=>k.wrap n:=congrArg Ops.cnv hA
 clear hA
 refine ⟨?_⟩
 cbv
 refine ⟨?_⟩
 cbv
 refine ⟨?_⟩
 cbv
 refine ⟨?_⟩
 cbv
 refine ⟨ha _ _ _ _ _ _ _ _ _ _ _ _ (fun sl=>?_)⟩
 cbv
 refine ⟨hc _ _ _ _ _ _ _ _ _ _ _ _ _ _ CN hCN kk hkk NB hNB (OKs.ofS (by cbv) (by cbv)) _ (fun hbig sl=>?_) (fun hlt sl=>?_) (fun hbig hge sl=>?_)⟩
 ·have K0:=K0 hbig
  cbv
  refine ⟨hx _ _ _ _ _ _ _ _ _ _ _ _ N3 hN3 (OKs.ofS (by cbv) (by cbv)) _ (fun _ _ _ _ _ _ _ _ _ _ _ _ _ _ _ _ _ _ _ _ _ _ _ _ _ _ _ _ _ _ _ _ _ _ _ _ _ _ _ _ _ _ _ _ _ _ _ _ _ _ _ _ _ _ _ _ _ _ _ _ _ _ _ _ _ _ _ _ _ _ _ _ _ _ _ _ _ _ Be Bt=>?_)⟩
  cbv
  exact ⟨e1,e2 (G.e 8) (g_e hG 8),hf _ K0⟩
 ·have b1:=b1 hlt
  have K1:=K1 hlt
  cbv
  refine ⟨hs _ _ _ _ _ _ _ _ _ _ _ _ _ _ _ _ b1 BT hBT N1 hN1 (OKs.ofS (by cbv) (by cbv)) _ (fun _ _ _ _ _ _ _ _ _ _ _ _ _ _ _ _ _ _ _ _ _ _ _ _ _ _ _ _ _ _ _ _ _ _ _ _ _ _ _ _ _ _ _ _ _ _ _ _ _ _ _ _ _ _ _ _ _ _ _ _ _ _ _ _ _ _ _ _ _ _ _ _ _ _ _ _ _ _ Be Bt=>?_)⟩
  cbv
  exact ⟨e1,e2 (G.e 8) (g_e hG 8),hf _ K1⟩
 ·have K2:=K2 hbig hge
  cbv
  refine ⟨hs _ _ _ _ _ _ _ _ _ _ _ _ _ _ _ _ b2 BT hBT N2 hN2 (OKs.ofS (by cbv) (by cbv)) _ (fun _ _ _ _ _ _ _ _ _ _ _ _ _ _ _ _ _ _ _ _ _ _ _ _ _ _ _ _ _ _ _ _ _ _ _ _ _ _ _ _ _ _ _ _ _ _ _ _ _ _ _ _ _ _ _ _ _ _ _ _ _ _ _ _ _ _ _ _ _ _ _ _ _ _ _ _ _ _ Be Bt=>?_)⟩
  cbv
  exact ⟨e1,e2 (G.e 8) (g_e hG 8),hf _ K2⟩
end Go.Proofs.YtjbimeigkklcmaaDoor

/-
  The law's helpers: the first 32 bytes of 64, the last.
-/
namespace Go.Proofs.YtjbimeigkklcmaaDoor
open Go Go.Proofs Sx
set_option maxRecDepth 100000
set_option maxHeartbeats 4000000
def sc_head:{ c:SC // strip (body Tryd.f10)=c }:=⟨_,by cbv⟩
theorem walk_head (A:Ops) (hA:A=realOps) (f:Nat→Int) (C:(Nat→Int)→Nat→Nat→Int) (hC:C=cpS) (R:(Nat→Int)→Nat→Int) (hR:R=cutH) (I:{ i:Nat // i≤32 }→St) (hI:I=fun i=>slots 15 [(1,.own (.arr .u8 64 f)),(2,.own (.arr .u8 32 fun _=>0)),(3,.own (.arr .u8 32 (C (R f) i.1))),(4,.int .i64 (.sym (Int.ofNat i.1)))]) :
  Walk (mkEnv A tab.1 G0 [] [(3,.inv { i:Nat // i≤32 } I fun i=>32 - i.1)]) sc_head.1 15 [.cell 2 22] [.arr .u8 64 f] (.arr .u8 32 (R f)):=by
 obtain ⟨bi,cm,un,cv,na,eq⟩:=A
 have hbi:bi=realBin:=congrArg Ops.bin hA
 have hcm:cm=realCmp:=congrArg Ops.cmp hA
 have hna:na=Int.toNat:=congrArg Ops.nat hA
 have e2:∀ a:Nat,a<32→bi .add .i64 (Int.ofNat a) 1=Int.ofNat (a+1):=fun a h=>by rw [hbi];exact a1 (by omega)
 have c0:∀ j,0=C (R f) 0 j:=fun j=>by rw [hC];exact cp_0 _ j
 have cs:∀ a j,upd (C (R f) a) a (R f a) j=C (R f) (a+1) j:=fun a j=>by rw [hC];exact cp_s _ a j
 have ce:∀ j,j<32→C (R f) 32 j=R f j:=fun j hj=>by rw [hC];exact cp_e _ j hj
 have cr:∀ a,f a=R f a:=fun a=>by rw [hR];rfl
 clear hC hR
 refine ⟨?_⟩
 cbv
 subst hI
 refine ⟨⟨⟨0,by decide⟩,?_⟩,fun a hwf=>?_⟩
 ·cbv
  exact ⟨fun _ _=>rfl,fun _ _=>rfl,fun i _=>c0 i,rfl,trivial⟩
 ·clear hwf
  obtain ⟨a,ha⟩:=a
  cbv
  refine ⟨fun hc=>?_,fun hc=>?_⟩
  ·have hlt:a<32:=by rw [hcm] at hc;exact lss_t.1 hc
   skip
   have e2:=e2 a hlt
   have cs:=cs a
   have cr:=cr a
   skip
   cbv
   rw [hna]
   refine ⟨win (by omega),⟨by show a+1≤64;omega⟩,win hlt,⟨hlt⟩,⟨a+1,hlt⟩,?_,by show 32 - (a+1)<32 - a;omega⟩
   cbv
   refine ⟨fun _ _=>rfl,fun _ _=>rfl,fun i _=>?_,e2,trivial⟩
   have cs:=cs i
   rw [← cr] at cs
   exact cs
  ·have hlt:a=32:=by rw [hcm] at hc;have:=(lss_f (b:=32)).1 hc;omega
   subst hlt
   cbv
   exact ce
theorem ok_head:Sound Tryd.prog G0 10 (cutC cutH):=by
 refine sound_each (n:=15) (rs:=[.cell 2 22]) (sc:=sc_head.1) mixed Tryd.func10 rfl rfl rfl rfl sc_head.2 ?_
 intro vs cs r h
 unfold cutC at h
 split at h
 ·rename_i f
  cases h
  exact ⟨by simp,fun hcs hwf=>⟨_,envOK tabOK (.nil),rfl,walk_head realOps rfl f _ rfl _ rfl _ rfl⟩⟩
 ·cases h
def sc_tail:{ c:SC // strip (body Tryd.f14)=c }:=⟨_,by cbv⟩
theorem walk_tail (A:Ops) (hA:A=realOps) (f:Nat→Int) (C:(Nat→Int)→Nat→Nat→Int) (hC:C=cpS) (R:(Nat→Int)→Nat→Int) (hR:R=cutT) (I:{ i:Nat // i≤32 }→St) (hI:I=fun i=>slots 16 [(1,.own (.arr .u8 64 f)),(2,.own (.arr .u8 32 fun _=>0)),(3,.own (.arr .u8 32 (C (R f) i.1))),(4,.int .i64 (.sym (Int.ofNat i.1)))]) :
  Walk (mkEnv A tab.1 G0 [] [(3,.inv { i:Nat // i≤32 } I fun i=>32 - i.1)]) sc_tail.1 16 [.cell 2 22] [.arr .u8 64 f] (.arr .u8 32 (R f)):=by
 obtain ⟨bi,cm,un,cv,na,eq⟩:=A
 have hbi:bi=realBin:=congrArg Ops.bin hA
 have hcm:cm=realCmp:=congrArg Ops.cmp hA
 have hna:na=Int.toNat:=congrArg Ops.nat hA
 obtain ⟨Y,hY⟩:∃ Y:Nat→Nat,∀ a,Y a=32+a:=⟨_,fun _=>rfl⟩
 have e1:∀ a:Nat,a<32→bi .add .i64 32 (Int.ofNat a)=Int.ofNat (Y a):=fun a h=>by
  rw [hbi,hY,add_i64 (by simp only [Int.ofNat_eq_natCast];omega)]
  simp only [Int.ofNat_eq_natCast]
  omega
 have e2:∀ a:Nat,a<32→bi .add .i64 (Int.ofNat a) 1=Int.ofNat (a+1):=fun a h=>by rw [hbi];exact a1 (by omega)
 have c0:∀ j,0=C (R f) 0 j:=fun j=>by rw [hC];exact cp_0 _ j
 have cs:∀ a j,upd (C (R f) a) a (R f a) j=C (R f) (a+1) j:=fun a j=>by rw [hC];exact cp_s _ a j
 have ce:∀ j,j<32→C (R f) 32 j=R f j:=fun j hj=>by rw [hC];exact cp_e _ j hj
 have cr:∀ a,f (Y a)=R f a:=fun a=>by rw [hR,hY];rfl
 clear hC hR
 refine ⟨?_⟩
 cbv
 subst hI
 refine ⟨⟨⟨0,by decide⟩,?_⟩,fun a hwf=>?_⟩
 ·cbv
  exact ⟨fun _ _=>rfl,fun _ _=>rfl,fun i _=>c0 i,rfl,trivial⟩
 ·clear hwf
  obtain ⟨a,ha⟩:=a
  cbv
  refine ⟨fun hc=>?_,fun hc=>?_⟩
  ·have hlt:a<32:=by rw [hcm] at hc;exact lss_t.1 hc
   have e1:=e1 a hlt
   have e2:=e2 a hlt
   have cs:=cs a
   have cr:=cr a
   have e3:=hY a
   cbv
   rw [e1,hna]
   refine ⟨win (by omega),⟨by show (Y a)+1≤64;omega⟩,win hlt,⟨hlt⟩,⟨a+1,hlt⟩,?_,by show 32 - (a+1)<32 - a;omega⟩
   cbv
   refine ⟨fun _ _=>rfl,fun _ _=>rfl,fun i _=>?_,e2,trivial⟩
   have cs:=cs i
   rw [← cr] at cs
   exact cs
  ·have hlt:a=32:=by rw [hcm] at hc;have:=(lss_f (b:=32)).1 hc;omega
   subst hlt
   cbv
   exact ce
theorem ok_tail:Sound Tryd.prog G0 14 (cutC cutT):=by
 refine sound_each (n:=16) (rs:=[.cell 2 22]) (sc:=sc_tail.1) mixed Tryd.func14 rfl rfl rfl rfl sc_tail.2 ?_
 intro vs cs r h
 unfold cutC at h
 split at h
 ·rename_i f
  cases h
  exact ⟨by simp,fun hcs hwf=>⟨_,envOK tabOK (.nil),rfl,walk_tail realOps rfl f _ rfl _ rfl _ rfl⟩⟩
 ·cases h
end Go.Proofs.YtjbimeigkklcmaaDoor

/-
  Sign, and what the laws ask before all: their contracts.
-/
namespace Go.Proofs.YtjbimeigkklcmaaDoor
open Go Go.Proofs Sx Sy
set_option maxRecDepth 100000
set_option maxHeartbeats 8000000
def gX:Nat→AV:=gSha Gsg tR rR sR
theorem gX_eq:gX=Gsg:=by
 funext g
 unfold gX gSha
 split
 ·rename_i h;rw [h];rfl
 ·split
  ·rename_i h;rw [h];rfl
  ·split
   ·rename_i h;rw [h];rfl
   ·rfl
theorem toX {f:FuncId} {c:Contract} (h:Sound Tryd.prog Gsg f c):Sound Tryd.prog gX f c:=by
 rw [gX_eq]
 exact h
noncomputable def hX:HE:=envS Gsg realOps fR turnR tR rR sR [(27,un64C rdR),(12,expC (expA h32R) (expP h32R)),(20,ptBC bmulF),(19,formC encF),(9,chalC kR),(13,tri32C (fun a b c=>sb (se a*se b+se c)))] (loopsG 10 ggR ++ [])
theorem hX_ok:HEOK Tryd.prog hX:=mkH_ok (envOK (G:=gX) tabSOK (.cons (ok_turn gX) (.cons (toX (ok_reduceS.sub sub_ml)) (.cons (toX ok_expand) (.cons (toX (ok_ptbmul.sub sub_pt)) (.cons (toX ok_form) (.cons (toX (ok_chal.sub sub_rs)) (.cons (toX (ok_muladd.sub sub_ml)) .nil)))))))).ok zSOK nSOK pSOK
noncomputable def nR (p:Nat→Int) (n:Nat) (f:Nat→Int):Nat→Int:=rdR (fun j=>hashN fR ggR sR p n f (0+j))
theorem nR_bytes (p:Nat→Int) (n:Nat) (f:Nat→Int):IsBytes 32 (nR p n f):=by
 unfold nR
 exact sb_isBytes _
theorem kR_okZ:ChalZ kR where
 bytes:=kR_ok.bytes
 head:=kR_ok.head
 can:=fun _ _ _ _=>⟨_,rfl⟩
theorem ok_signX:Sound Tryd.prog gX 8 (signC (signF h32R kR nR)):=by
 refine soundH_each (n:=41) (rs:=[.cell 4 26]) mixed Tryd.func8 rfl rfl rfl rfl (sh_sign (sh_hashed (sh_new sh_start.1).1 (sh_write sh_block.1 (sh_mix sh_load.1 (sh_compress sh_cB0.1 sh_cZ.1).1).1).1 (sh_sum sh_block.1 (sh_mix sh_load.1 (sh_compress sh_cB0.1 sh_cZ.1).1).1 (sh_words (sh_lay sh_layI.1).1).1).1).1).2 ?_
 intro vs cs r h
 unfold signC at h
 split at h
 ·rename_i z n cap f
  cases h
  exact ⟨by simp,fun hcs hwf=>⟨hX,hX_ok,rfl,rfl,.cons (s_hashed hX_ok) .nil,walk_sign Gsg realOps rfl fR turnR tR rR sR rfl tR_ok ggR rfl rdR (expA h32R) (expP h32R) bmulF encF kR (fun a b c=>sb (se a*se b+se c)) z f n cap _ _ rfl rfl⟩⟩
 ·cases h
theorem ok_sign:Sound Tryd.prog Gsg 8 (signC (signF h32R kR nR)):=by
 have h:=ok_signX
 rw [gX_eq] at h
 exact h
/-! ready. -/
theorem fR_Q:fR=FQ:=rfl
theorem rdR_off (g:Nat→Int):rdR (fun j=>g (0+j))=sb (sn 64 g):=by
 have e:(fun j=>g (0+j))=g:=funext fun j=>congrArg g (Nat.zero_add j)
 rw [e]
 rfl
theorem gR_Q:ggR=GQ:=rfl
theorem sR_Q:sR=sQ:=rfl
theorem kR_Q (s p f:Nat→Int):kR s p 1 f=sb (sn 64 (hashS FQ GQ sQ s p 1 f)):=by
 unfold kR
 rw [rdR_off (hashS fR ggR sR s p 1 f),fR_Q,gR_Q,sR_Q]
theorem h32_z5:h32R z5=layS (lst L1) 8:=by
 have e:h32R z5=hash32S ggR sR z5:=by
  funext j
  unfold h32R
  rw [Nat.zero_add]
 rw [e]
 exact h_z5
theorem expA_z5:expA h32R z5=aQ:=by
 unfold expA
 rw [h32_z5]
 rfl
theorem nR_z5:nR (expP h32R z5) 1 (f1 97)=rQn:=by
 have e:expP h32R z5=pQ:=by
  unfold expP
  rw [h32_z5]
  rfl
 rw [e]
 unfold nR
 rw [rdR_off (hashN fR ggR sR pQ 1 (f1 97)),fR_Q,gR_Q,sR_Q,h_n,sn_L2]
 rfl
theorem ready_a:verF kR (pubF h32R z5) 1 (f1 97) (signF h32R kR nR z5 1 (f1 97))=0:=own_v kR_okZ h32_32 nR_bytes z5 1 (f1 97)
theorem ready_b:verF kR (pubF h32R z5) 1 (f1 98) (signF h32R kR nR z5 1 (f1 97))=53:=by
 rw [oth_v kR_okZ h32_32 nR_bytes]
 refine if_neg ?_
 have hp:∀ i,i<32→pubF h32R z5 i=lst AB i:=by
  intro i hi
  unfold pubF
  rw [expA_z5]
  exact form_A i hi
 have hr:∀ i,i<32→cutH (signF h32R kR nR z5 1 (f1 97)) i=lst RB i:=by
  intro i hi
  unfold cutH signF signR
  rw [nR_z5]
  unfold joinF
  rw [if_pos hi]
  exact form_R i hi
 generalize cutH (signF h32R kR nR z5 1 (f1 97))=s at hr ⊢
 generalize pubF h32R z5=p at hp ⊢
 obtain ⟨ha,hb⟩:=h_k hr hp
 have e:∀ f,kR s p 1 f=sb (sn 64 (hashS FQ GQ sQ s p 1 f)):=fun f=>kR_Q s p f
 rw [e,e,ha,hb,sb_inj,decide_eq_false k_ne]
 decide
def sh_ready:{ c:HC // stripH (lookF []) none 9900 (body Tryd.f6)=c }:=⟨_,by cbv⟩
theorem walk_ready (A:Ops) (hA:A=realOps) (BG:Nat→AV) (PU:(Nat→Int)→Nat→Int) (hPU:PU=pubF h32R) (SI:(Nat→Int)→Nat→(Nat→Int)→Nat→Int) (hSI:SI=signF h32R kR nR) (VF:(Nat→Int)→Nat→(Nat→Int)→(Nat→Int)→Int) (hVF:VF=verF kR) :
  WalkH (mkH (mkEnv A tabS.1 BG [(8,litC (signC SI)),(7,un32C PU),(11,verRC VF)] []) zS nS pS []) sh_ready.1 28 [.tmp 0] [] (.bool (.lit true)):=by
 have d1:VF (PU z5) 1 (f1 97) (SI z5 1 (f1 97))=0:=by rw [hVF,hPU,hSI];exact ready_a
 have d2:VF (PU z5) 1 (f1 98) (SI z5 1 (f1 97))=53:=by rw [hVF,hPU,hSI];exact ready_b
 clear hPU hSI hVF
 obtain ⟨bi,cm,un,cv,na,eq⟩:=A
 have hbi:bi=realBin:=congrArg Ops.bin hA
 have hcm:cm=realCmp:=congrArg Ops.cmp hA
 have hun:un=realUn:=congrArg Ops.un hA
 have hna:na=Int.toNat:=congrArg Ops.nat hA
 have hcv:cv=fun k n=>k.wrap n:=congrArg Ops.cnv hA
 clear hA
 refine ⟨?_⟩
 cbv
 exact ⟨d1,d2,trivial⟩
theorem ok_ready:Sound Tryd.prog Gsg 6 readyC:=by
 refine soundH_each (n:=28) (rs:=[.tmp 0]) mixed Tryd.func6 rfl rfl rfl rfl sh_ready.2 ?_
 intro vs cs r h
 unfold readyC at h
 split at h
 ·cases h
  exact ⟨by simp,fun hcs hwf=>⟨_,mkH_ok (envOK (G:=Gsg) tabSOK (.cons ok_sign.lits (.cons ok_public (.cons (ver_R ok_ver) .nil)))).ok zSOK nSOK pSOK,rfl,rfl,.nil,walk_ready realOps rfl Gsg _ rfl _ rfl _ rfl⟩⟩
 ·cases h
end Go.Proofs.YtjbimeigkklcmaaDoor

