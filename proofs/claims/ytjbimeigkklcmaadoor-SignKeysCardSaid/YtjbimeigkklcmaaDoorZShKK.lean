/-
  The challenge.
-/
import Derived.Test.YtjbimeigkklcmaaDoorZShSS
import Derived.Test.YtjbimeigkklcmaaDoorZShWW
import Derived.Test.YtjbimeigkklcmaaDoorZMC
import Derived.Test.YtjbimeigkklcmaaDoorZEB
namespace Go.Proofs.YtjbimeigkklcmaaDoor
open Go Go.Proofs Sx Sy
set_option maxRecDepth 100000
set_option maxHeartbeats 8000000
def sh_hashed (cn cw cs:HC):{ c:HC // stripH (lookF [(44,⟨15,[.tmp 2,.tmp 3],1,cn⟩),(45,⟨101,[],2,cw⟩),(46,⟨79,[.tmp 2],1,cs⟩)]) none 3900 (body Tryd.f21)=c }:=⟨_,by cbv⟩
def sh_chal (ch:HC):{ c:HC // stripH (lookF [(21,⟨26,[.cell 2 22],1,ch⟩)]) none 1500 (body Tryd.f9)=c }:=⟨_,by cbv⟩
theorem walk_chal (BG:Nat→AV) (A:Ops) (hA:A=realOps) (F:ShF) (T:Int→Int→Int→Int) (t R s:Nat→Int) (hF:F=shF realOps T t R) (ht:∀ i,i<12→0≤t i∧t i≤64) (G:ShG) (hG:G=shG F) (RD:(Nat→Int)→Nat→Int) (r p f:Nat→Int) (n:Nat) (cap:SO) (K:Nat→Int) (hK:K=RD (fun j=>hashS F G s r p n f (0+j))) :
  WalkH (envS BG A F T t R s [(27,un64C RD)] (loopsG 9 G ++ [])) (sh_chal (sh_hashed (sh_new sh_start.1).1 (sh_write sh_block.1 (sh_mix sh_load.1 (sh_compress sh_cB0.1 sh_cZ.1).1).1).1 (sh_sum sh_block.1 (sh_mix sh_load.1 (sh_compress sh_cB0.1 sh_cZ.1).1).1 (sh_words (sh_lay sh_layI.1).1).1).1).1).1 12 [.cell 6 22] [.arr .u8 32 r,.arr .u8 32 p,.xsl .u8 1 (.sym n) cap f] (.arr .u8 32 K):=by
 have ha:=write_a BG A hA F T t R s hF ht [(27,un64C RD)] 9 G hG []
 have hb:=write_b BG A hA F T t R s hF ht [(27,un64C RD)] 9 G hG []
 have hc:=write_c BG A hA F T t R s hF ht [(27,un64C RD)] G hG []
 have hs:=sum_s BG A hA F T t R s hF ht [(27,un64C RD)] 9 G hG []
 have hx:=sum_x BG A hA F T t R s hF ht [(27,un64C RD)] 9 G hG []
 generalize (sh_write sh_block.1 (sh_mix sh_load.1 (sh_compress sh_cB0.1 sh_cZ.1).1).1).1=cw at ha hb hc ⊢
 generalize (sh_sum sh_block.1 (sh_mix sh_load.1 (sh_compress sh_cB0.1 sh_cZ.1).1).1 (sh_words (sh_lay sh_layI.1).1).1).1=cs at hs hx ⊢
 obtain ⟨kk,hkk⟩:∃ k:Nat,k=kS n:=⟨_,rfl⟩
 obtain ⟨CN,hCN⟩:∃ k:Int,k=realBin .add .i64 64 (Int.ofNat n):=⟨_,rfl⟩
 obtain ⟨BT,hBT⟩:∃ k:Int,k=realBin .shl .u64 (IntKind.wrap .u64 CN) 3:=⟨_,rfl⟩
 obtain ⟨NB,hNB⟩:∃ k:Nat,k=nsub n kk / 128:=⟨_,rfl⟩
 obtain ⟨N1,hN1⟩:∃ k:Nat,k=tlenS G (nadd (nadd 64 kk) 1) / 128:=⟨_,rfl⟩
 obtain ⟨N2,hN2⟩:∃ k:Nat,k=tlenS G (nadd (G.s (nsub n kk) (G.m NB)) 1) / 128:=⟨_,rfl⟩
 obtain ⟨N3,hN3⟩:∃ k:Nat,k=tlenS G 65 / 128:=⟨_,rfl⟩
 have k1:n<64→kk=n:=fun h=>by
  rw [hkk]
  unfold kS
  rw [imin_eq,if_pos (by simp only [Int.ofNat_eq_natCast];omega)]
  rfl
 have k2:64≤n→kk=64:=fun h=>by
  rw [hkk]
  unfold kS
  rw [imin_eq,if_neg (by simp only [Int.ofNat_eq_natCast];omega)]
  rfl
 have b1:n<64→nadd 64 kk≤127:=fun h=>by rw [nadd_eq,k1 h];omega
 have b2:G.s (nsub n kk) (G.m NB)≤127:=by rw [g_s hG,g_m hG,hNB,nsub_eq];omega
 have e1:LeqN 64 (G.e 8):=⟨by rw [g_e hG];decide⟩
 have e2:∀ x:Nat,x=64→FitsIn 0 64 (match 0,x with | a,Nat.zero=>a | a,Nat.succ b=>(a.add b).succ):=fun x hx=>by subst hx;exact ⟨by decide⟩
 have K0:2305843009213693887<n→RD (fun j=>G.lay (G.chain s (tailS G 512 64 65 (joinF 32 (fun j=>r (0+j)) (fun j=>p (0+j)))) N3) 8 (0+j))=K:=fun h=>by
  rw [hK]
  congr 1
  funext j
  unfold hashS
  rw [if_pos h,hN3]
  rfl
 have hsml:n<64→¬ 2305843009213693887<n:=fun h=>by omega
 have K1:n<64→RD (fun j=>G.lay (G.chain s (tailS G BT (nadd 64 kk) (nadd (nadd 64 kk) 1) (headS r p f)) N1) 8 (0+j))=K:=fun h=>by
  rw [hK]
  congr 1
  funext j
  unfold hashS
  rw [if_neg (hsml h),if_pos h,hN1,hBT,hCN,hkk]
  rfl
 have K2:¬ 2305843009213693887<n→64≤n→RD (fun j=>G.lay (G.chain (G.chain (F.block s (headS r p f)) (fun j=>f (kk+j)) NB) (tailS G BT (G.s (nsub n kk) (G.m NB)) (nadd (G.s (nsub n kk) (G.m NB)) 1) (joinF 0 (headS r p f) (fun j=>(fun j=>f (kk+j)) (G.m NB+j)))) N2) 8 (0+j))=K:=fun hh h=>by
  rw [hK]
  congr 1
  funext j
  unfold hashS
  rw [if_neg hh,if_neg (by omega),hN2,hBT,hCN,hNB,hkk]
  rfl
 obtain ⟨bi,cm,un,cv,na,eq⟩:=A
 have hbi:bi=realBin:=congrArg Ops.bin hA
 have hcm:cm=realCmp:=congrArg Ops.cmp hA
 have hun:un=realUn:=congrArg Ops.un hA
 have hna:na=Int.toNat:=congrArg Ops.nat hA
 have hcv:cv=fun k n=>k.wrap n:=congrArg Ops.cnv hA
 clear hA
 refine ⟨?_⟩
 cbv
 refine ⟨?_⟩
 cbv
 refine ⟨?_⟩
 cbv
 refine ⟨?_⟩
 cbv
 refine ⟨ha _ _ _ _ _ _ _ _ _ _ (fun sl=>?_)⟩
 cbv
 refine ⟨hb _ _ _ _ _ _ _ _ _ _ _ (fun sl=>?_)⟩
 cbv
 refine ⟨hc _ _ _ _ _ _ _ _ _ _ _ _ CN hCN kk hkk NB hNB (OKs.ofS (by cbv) (by cbv)) _ (fun hbig sl=>?_) (fun hlt sl=>?_) (fun hbig hge sl=>?_)⟩
 ·have K0:=K0 hbig
  cbv
  refine ⟨hx _ _ _ _ _ _ _ _ _ _ _ N3 hN3 (OKs.ofS (by cbv) (by cbv)) _ (fun _ _ _ _ _ _ _ _ _ _ _ _ _ _ _ _ _ _ _ _ _ _ _ _ _ _ _ _ _ _ _ _ _ _ _ _ _ _ _ _ _ _ _ _ _ _ _ _ _ _ _ _ _ _ _ _ _ _ _ _ _ _ _ _ _ _ _ _ _ _ _ _ _ _ _ _ _ _ Be Bt=>?_)⟩
  cbv
  exact ⟨e1,e2 (G.e 8) (g_e hG 8),fun i _=>congrFun K0 i⟩
 ·have b1:=b1 hlt
  have K1:=K1 hlt
  cbv
  refine ⟨hs _ _ _ _ _ _ _ _ _ _ _ _ _ _ _ b1 BT hBT N1 hN1 (OKs.ofS (by cbv) (by cbv)) _ (fun _ _ _ _ _ _ _ _ _ _ _ _ _ _ _ _ _ _ _ _ _ _ _ _ _ _ _ _ _ _ _ _ _ _ _ _ _ _ _ _ _ _ _ _ _ _ _ _ _ _ _ _ _ _ _ _ _ _ _ _ _ _ _ _ _ _ _ _ _ _ _ _ _ _ _ _ _ _ Be Bt=>?_)⟩
  cbv
  exact ⟨e1,e2 (G.e 8) (g_e hG 8),fun i _=>congrFun K1 i⟩
 ·have K2:=K2 hbig hge
  cbv
  refine ⟨hs _ _ _ _ _ _ _ _ _ _ _ _ _ _ _ b2 BT hBT N2 hN2 (OKs.ofS (by cbv) (by cbv)) _ (fun _ _ _ _ _ _ _ _ _ _ _ _ _ _ _ _ _ _ _ _ _ _ _ _ _ _ _ _ _ _ _ _ _ _ _ _ _ _ _ _ _ _ _ _ _ _ _ _ _ _ _ _ _ _ _ _ _ _ _ _ _ _ _ _ _ _ _ _ _ _ _ _ _ _ _ _ _ _ Be Bt=>?_)⟩
  cbv
  exact ⟨e1,e2 (G.e 8) (g_e hG 8),fun i _=>congrFun K2 i⟩
end Go.Proofs.YtjbimeigkklcmaaDoor

/-
  SHA-512 of 32 bytes.
-/
namespace Go.Proofs.YtjbimeigkklcmaaDoor
open Go Go.Proofs Sx Sy
set_option maxRecDepth 100000
set_option maxHeartbeats 8000000
def sh_s512 (cn cw cs:HC):{ c:HC // stripH (lookF [(44,⟨15,[.tmp 2,.tmp 3],1,cn⟩),(45,⟨101,[],2,cw⟩),(46,⟨79,[.tmp 2],1,cs⟩)]) none 2700 (body Tryd.f22)=c }:=⟨_,by cbv⟩
theorem walk_s512 (BG:Nat→AV) (A:Ops) (hA:A=realOps) (F:ShF) (T:Int→Int→Int→Int) (t R s:Nat→Int) (hF:F=shF realOps T t R) (ht:∀ i,i<12→0≤t i∧t i≤64) (C:List (FuncId × Contract)) (G:ShG) (hG:G=shG F) (f:Nat→Int) (cap:SO) (K:Nat→Int) (hK:K=fun j=>hash32S G s f (0+j)) :
  WalkH (envS BG A F T t R s C (loopsG 9 G ++ [])) (sh_s512 (sh_new sh_start.1).1 (sh_write sh_block.1 (sh_mix sh_load.1 (sh_compress sh_cB0.1 sh_cZ.1).1).1).1 (sh_sum sh_block.1 (sh_mix sh_load.1 (sh_compress sh_cB0.1 sh_cZ.1).1).1 (sh_words (sh_lay sh_layI.1).1).1).1).1 16 [.cell 2 26] [.xsl .u8 1 (.lit 32) cap f] (.arr .u8 64 K):=by
 have ha:=write_e BG A hA F T t R s hF ht C 9 G hG []
 have hs:=sum_e BG A hA F T t R s hF ht C 9 G hG []
 generalize (sh_write sh_block.1 (sh_mix sh_load.1 (sh_compress sh_cB0.1 sh_cZ.1).1).1).1=cw at ha ⊢
 generalize (sh_sum sh_block.1 (sh_mix sh_load.1 (sh_compress sh_cB0.1 sh_cZ.1).1).1 (sh_words (sh_lay sh_layI.1).1).1).1=cs at hs ⊢
 obtain ⟨N1,hN1⟩:∃ k:Nat,k=tlenS G 33 / 128:=⟨_,rfl⟩
 have e1:LeqN 64 (G.e 8):=⟨by rw [g_e hG];decide⟩
 have e2:∀ x:Nat,x=64→FitsIn 0 64 (match 0,x with | a,Nat.zero=>a | a,Nat.succ b=>(a.add b).succ):=fun x hx=>by subst hx;exact ⟨by decide⟩
 have K1:∀ j,G.lay (G.chain s (tailS G 256 32 33 f) N1) 8 (0+j)=K j:=fun j=>by
  rw [hK,hN1]
  rfl
 obtain ⟨bi,cm,un,cv,na,eq⟩:=A
 have hbi:bi=realBin:=congrArg Ops.bin hA
 have hcm:cm=realCmp:=congrArg Ops.cmp hA
 have hun:un=realUn:=congrArg Ops.un hA
 have hna:na=Int.toNat:=congrArg Ops.nat hA
 have hcv:cv=fun k n=>k.wrap n:=congrArg Ops.cnv hA
 clear hA
 refine ⟨?_⟩
 cbv
 refine ⟨?_⟩
 cbv
 refine ⟨?_⟩
 cbv
 refine ⟨ha _ _ _ _ _ _ _ (fun sl=>?_)⟩
 cbv
 refine ⟨hs _ _ _ _ _ _ N1 hN1 (OKs.ofS (by cbv) (by cbv)) _ (fun _ _ _ _ _ _ _ _ _ _ _ _ _ _ _ _ _ _ _ _ _ _ _ _ _ _ _ _ _ _ _ _ _ _ _ _ _ _ _ _ _ _ _ _ _ _ _ _ _ _ _ _ _ _ _ _ _ _ _ _ _ _ _ _ _ _ _ _ _ _ _ _ _ _ _ _ _ _ Be Bt=>?_)⟩
 cbv
 exact ⟨e1,e2 (G.e 8) (g_e hG 8),fun i _=>K1 i⟩
end Go.Proofs.YtjbimeigkklcmaaDoor

/-
  The challenge: its contract.
-/
namespace Go.Proofs.YtjbimeigkklcmaaDoor
open Go Go.Proofs Sx Sy
set_option maxRecDepth 100000
set_option maxHeartbeats 8000000
def v_starts:Nat × IntKind × List Int:=(9,.u64,[7640891576956012808,13503953896175478587,4354685564936845355,11912009170470909681,5840696475078001361,11170449401992604703,2270897969802886507,6620516959819538809])
def v_rounds:Nat × IntKind × List Int:=(12,.u64,[4794697086780616226,8158064640168781261,13096744586834688815,16840607885511220156,4131703408338449720,6480981068601479193,10538285296894168987,12329834152419229976,15566598209576043074,1334009975649890238,2608012711638119052,6128411473006802146,8268148722764581231,9286055187155687089,11230858885718282805,13951009754708518548,16472876342353939154,17275323862435702243,1135362057144423861,2597628984639134821,3308224258029322869,5365058923640841347,6679025012923562964,8573033837759648693,10970295158949994411,12119686244451234320,12683024718118986047,13788192230050041572,14330467153632333762,15395433587784984357,489312712824947311,1452737877330783856,2861767655752347644,3322285676063803686,5560940570517711597,5996557281743188959,7280758554555802590,8532644243296465576,9350256976987008742,10552545826968843579,11727347734174303076,12113106623233404929,14000437183269869457,14369950271660146224,15101387698204529176,15463397548674623760,17586052441742319658,1182934255886127544,1847814050463011016,2177327727835720531,2830643537854262169,3796741975233480872,4115178125766777443,5681478168544905931,6601373596472566643,7507060721942968483,8399075790359081724,8693463985226723168,9568029438360202098,10144078919501101548,10430055236837252648,11840083180663258601,13761210420658862357,14299343276471374635,14566680578165727644,15097957966210449927,16922976911328602910,17689382322260857208,500013540394364858,748580250866718886,1242879168328830382,1977374033974150939,2944078676154940804,3659926193048069267,4368137639120453308,4836135668995329356,5532061633213252278,6448918945643986474,6902733635092675308,7801388544844847127])
def v_turns:Nat × IntKind × List Int:=(13,.i64,[28,34,39,14,18,41,1,8,7,19,61,6])
def tR:Nat→Int:=fun i=>v_turns.2.2.getD i 0
def rR:Nat→Int:=fun i=>v_rounds.2.2.getD i 0
def sR:Nat→Int:=fun i=>v_starts.2.2.getD i 0
def gR:Nat→AV:=gSha Gmul tR rR sR
theorem tR_ok:∀ i,i<12→0≤tR i∧tR i≤64:=by decide
theorem sub_mul:Sub Gmul gR:=by
 intro g
 unfold gR gSha
 split
 ·rename_i h;left;rw [h];rfl
 ·split
  ·rename_i h;left;rw [h];rfl
  ·split
   ·rename_i h;left;rw [h];rfl
   ·right;rfl
def fR:ShF:=shF realOps turnR tR rR
def ggR:ShG:=shG fR
def rdR:(Nat→Int)→Nat→Int:=fun f=>sb (sn 64 f)
noncomputable def hR (L:List (Nat × (HS→HAnn))):HE:=envS Gmul realOps fR turnR tR rR sR [(27,un64C rdR)] (loopsG 9 ggR ++ L)
theorem hR_ok (L:List (Nat × (HS→HAnn))):HEOK Tryd.prog (hR L):=mkH_ok (envOK (G:=gR) tabSOK (.cons (ok_turn gR) (.cons (ok_reduceS.sub sub_mul) .nil))).ok zSOK nSOK pSOK
section
variable {H:HE} (hH:HEOK Tryd.prog H)
include hH
theorem s_load:HSnd Tryd.prog H 75 ⟨40,[],3,sh_load.1⟩ :=
 hsnd_of hH mixed (AllH.get (AllH.nil (P:=Tryd.prog) (H:=H))) Tryd.func75 rfl rfl sh_load.2
theorem s_compress:HSnd Tryd.prog H 76 ⟨234,[],5,(sh_compress sh_cB0.1 sh_cZ.1).1⟩ :=
 hsnd_like (hsnd_of hH mixed (AllH.get (AllH.nil (P:=Tryd.prog) (H:=H))) Tryd.func76 rfl rfl rfl) (sh_compressE H)
theorem s_mix:HSnd Tryd.prog H 66 ⟨33,[],2,(sh_mix sh_load.1 (sh_compress sh_cB0.1 sh_cZ.1).1).1⟩ :=
 hsnd_of hH mixed (AllH.get (AllH.cons (s_load hH) (AllH.cons (s_compress hH) (AllH.nil (P:=Tryd.prog) (H:=H))))) Tryd.func66 rfl rfl (sh_mix sh_load.1 (sh_compress sh_cB0.1 sh_cZ.1).1).2
theorem s_block:HSnd Tryd.prog H 65 ⟨13,[.tmp 2],1,sh_block.1⟩ :=
 hsnd_of hH mixed (AllH.get (AllH.nil (P:=Tryd.prog) (H:=H))) Tryd.func65 rfl rfl sh_block.2
theorem s_lay:HSnd Tryd.prog H 78 ⟨32,[.tmp 6],3,(sh_lay sh_layI.1).1⟩ :=
 hsnd_like (hsnd_of hH mixed (AllH.get (AllH.nil (P:=Tryd.prog) (H:=H))) Tryd.func78 rfl rfl rfl) (sh_layE H)
theorem s_words:HSnd Tryd.prog H 67 ⟨22,[.tmp 2],1,(sh_words (sh_lay sh_layI.1).1).1⟩ :=
 hsnd_of hH mixed (AllH.get (AllH.cons (s_lay hH) (AllH.nil (P:=Tryd.prog) (H:=H)))) Tryd.func67 rfl rfl (sh_words (sh_lay sh_layI.1).1).2
theorem s_sum:HSnd Tryd.prog H 46 ⟨79,[.tmp 2],1,(sh_sum sh_block.1 (sh_mix sh_load.1 (sh_compress sh_cB0.1 sh_cZ.1).1).1 (sh_words (sh_lay sh_layI.1).1).1).1⟩ :=
 hsnd_of hH mixed (AllH.get (AllH.cons (s_block hH) (AllH.cons (s_mix hH) (AllH.cons (s_words hH) (AllH.nil (P:=Tryd.prog) (H:=H)))))) Tryd.func46 rfl rfl (sh_sum sh_block.1 (sh_mix sh_load.1 (sh_compress sh_cB0.1 sh_cZ.1).1).1 (sh_words (sh_lay sh_layI.1).1).1).2
theorem s_write:HSnd Tryd.prog H 45 ⟨101,[],2,(sh_write sh_block.1 (sh_mix sh_load.1 (sh_compress sh_cB0.1 sh_cZ.1).1).1).1⟩ :=
 hsnd_of hH mixed (AllH.get (AllH.cons (s_block hH) (AllH.cons (s_mix hH) (AllH.nil (P:=Tryd.prog) (H:=H))))) Tryd.func45 rfl rfl (sh_write sh_block.1 (sh_mix sh_load.1 (sh_compress sh_cB0.1 sh_cZ.1).1).1).2
theorem s_start:HSnd Tryd.prog H 64 ⟨23,[.cell 2 98],1,sh_start.1⟩ :=
 hsnd_of hH mixed (AllH.get (AllH.nil (P:=Tryd.prog) (H:=H))) Tryd.func64 rfl rfl sh_start.2
theorem s_new:HSnd Tryd.prog H 44 ⟨15,[.tmp 2,.tmp 3],1,(sh_new sh_start.1).1⟩ :=
 hsnd_of hH mixed (AllH.get (AllH.cons (s_start hH) (AllH.nil (P:=Tryd.prog) (H:=H)))) Tryd.func44 rfl rfl (sh_new sh_start.1).2
theorem s_hashed:HSnd Tryd.prog H 21 ⟨26,[.cell 2 22],1,(sh_hashed (sh_new sh_start.1).1 (sh_write sh_block.1 (sh_mix sh_load.1 (sh_compress sh_cB0.1 sh_cZ.1).1).1).1 (sh_sum sh_block.1 (sh_mix sh_load.1 (sh_compress sh_cB0.1 sh_cZ.1).1).1 (sh_words (sh_lay sh_layI.1).1).1).1).1⟩ :=
 hsnd_of hH mixed (AllH.get (AllH.cons (s_new hH) (AllH.cons (s_write hH) (AllH.cons (s_sum hH) (AllH.nil (P:=Tryd.prog) (H:=H)))))) Tryd.func21 rfl rfl (sh_hashed (sh_new sh_start.1).1 (sh_write sh_block.1 (sh_mix sh_load.1 (sh_compress sh_cB0.1 sh_cZ.1).1).1).1 (sh_sum sh_block.1 (sh_mix sh_load.1 (sh_compress sh_cB0.1 sh_cZ.1).1).1 (sh_words (sh_lay sh_layI.1).1).1).1).2
end
noncomputable def kR (r p:Nat→Int) (n:Nat) (f:Nat→Int):Nat→Int:=rdR (fun j=>hashS fR ggR sR r p n f (0+j))
theorem ok_chal:Sound Tryd.prog gR 9 (chalC kR):=by
 refine soundH_each (n:=12) (rs:=[.cell 6 22]) mixed Tryd.func9 rfl rfl rfl rfl (sh_chal (sh_hashed (sh_new sh_start.1).1 (sh_write sh_block.1 (sh_mix sh_load.1 (sh_compress sh_cB0.1 sh_cZ.1).1).1).1 (sh_sum sh_block.1 (sh_mix sh_load.1 (sh_compress sh_cB0.1 sh_cZ.1).1).1 (sh_words (sh_lay sh_layI.1).1).1).1).1).2 ?_
 intro vs cs r h
 unfold chalC at h
 split at h
 ·rename_i r p n cap f
  cases h
  exact ⟨by simp,fun hcs hwf=>⟨hR [],hR_ok [],rfl,rfl,.cons (s_hashed (hR_ok [])) .nil,walk_chal Gmul realOps rfl fR turnR tR rR sR rfl tR_ok ggR rfl rdR r p f n cap _ rfl⟩⟩
 ·cases h
noncomputable def h32R (f:Nat→Int):Nat→Int:=fun j=>hash32S ggR sR f (0+j)
theorem ok_s512:Sound Tryd.prog gR 22 (sum32C h32R):=by
 refine soundH_each (n:=16) (rs:=[.cell 2 26]) mixed Tryd.func22 rfl rfl rfl rfl (sh_s512 (sh_new sh_start.1).1 (sh_write sh_block.1 (sh_mix sh_load.1 (sh_compress sh_cB0.1 sh_cZ.1).1).1).1 (sh_sum sh_block.1 (sh_mix sh_load.1 (sh_compress sh_cB0.1 sh_cZ.1).1).1 (sh_words (sh_lay sh_layI.1).1).1).1).2 ?_
 intro vs cs r h
 unfold sum32C at h
 split at h
 ·rename_i cap f
  cases h
  exact ⟨by simp,fun hcs hwf=>⟨hR [],hR_ok [],rfl,rfl,.cons (s_new (hR_ok [])) (.cons (s_write (hR_ok [])) (.cons (s_sum (hR_ok [])) .nil)),walk_s512 Gmul realOps rfl fR turnR tR rR sR rfl tR_ok [(27,un64C rdR)] ggR rfl f cap _ rfl⟩⟩
 ·cases h
end Go.Proofs.YtjbimeigkklcmaaDoor

