/-
  The law's helpers: two halves, the first small point.
-/
import Derived.Test.YtjbimeigkklcmaaDoorZBase
import Derived.Test.YtjbimeigkklcmaaDoorZNA
import Derived.Test.YtjbimeigkklcmaaDoorZEB
import Derived.Test.YtjbimeigkklcmaaDoorZShKK
import Derived.Test.YtjbimeigkklcmaaDoorZPtE
import Derived.Test.YtjbimeigkklcmaaDoorZScalK
import Derived.Test.YtjbimeigkklcmaaDoorZScalC
set_option linter.unusedVariables false
namespace Go.Proofs.YtjbimeigkklcmaaDoor
open Go Go.Proofs Sx
set_option maxRecDepth 100000
set_option maxHeartbeats 8000000
end Go.Proofs.YtjbimeigkklcmaaDoor

/-
  Package sign.
-/
namespace Go.Proofs.YtjbimeigkklcmaaDoor
open Go Go.Proofs Sx
set_option maxRecDepth 100000
set_option maxHeartbeats 8000000
def v_r256:Nat × IntKind × List Int:=(10,.u32,[1116352408,1899447441,3049323471,3921009573,961987163,1508970993,2453635748,2870763221,3624381080,310598401,607225278,1426881987,1925078388,2162078206,2614888103,3248222580,3835390401,4022224774,264347078,604807628,770255983,1249150122,1555081692,1996064986,2554220882,2821834349,2952996808,3210313671,3336571891,3584528711,113926993,338241895,666307205,773529912,1294757372,1396182291,1695183700,1986661051,2177026350,2456956037,2730485921,2820302411,3259730800,3345764771,3516065817,3600352804,4094571909,275423344,430227734,506948616,659060556,883997877,958139571,1322822218,1537002063,1747873779,1955562222,2024104815,2227730452,2361852424,2428436474,2756734187,3204031479,3329325298])
def v_t256:Nat × IntKind × List Int:=(11,.i64,[2,13,22,6,11,25,7,18,3,17,19,10])
def gl_sg:GL:=[v_twice,v_two,v_eighth,v_root,v_ptzero,v_ptone,v_ptcurve,v_ptbase,v_mult,v_starts,v_rounds,v_turns,v_r256,v_t256]
abbrev Gsg:Nat→AV:=lookGL gl_sg
theorem sub_pt:Sub Gpt Gsg:=sub_of (by decide)
theorem sub_ml:Sub Gmul Gsg:=sub_of (by decide)
def sc_ver:{ c:SC // strip (body Tryd.f11)=c }:=⟨_,by cbv⟩
theorem walk_ver (A:Ops) (hA:A=realOps) (p f s:Nat→Int) (n:Nat) (cap:SO) (CA:(Nat→Int)→Bool) (DF:(Nat→Int)→Nat→Int) (DX:(Nat→Int)→Int) (NF:(Nat→Int)→Nat→Int) (NX:(Nat→Int)→Int) (KC:(Nat→Int)→(Nat→Int)→Nat→(Nat→Int)→Nat→Int) (CF:(Nat→Int)→(Nat→Int)→(Nat→Int)→Nat→Int) (CX:(Nat→Int)→Int) (V:Int) (v50:CA (fun j=>s (32+j))=false→50=V) (v51:CA (fun j=>s (32+j))=true→DX p≠0→51=V) (v52:CA (fun j=>s (32+j))=true→DX p=0→DX s≠0→52=V) (v53:CA (fun j=>s (32+j))=true→DX p=0→DX s=0→realEqA 64 (CF (KC s p n (fun j=>f (0+j))) (NF (DF p)) (fun j=>s (32+j))) (DF s)=false→53=V) (v00:CA (fun j=>s (32+j))=true→DX p=0→DX s=0→realEqA 64 (CF (KC s p n (fun j=>f (0+j))) (NF (DF p)) (fun j=>s (32+j))) (DF s)=true→0=V) :
  Walk (mkEnv A tab.1 Gsg [(15,bool32C CA),(16,decC DF DX),(17,pt1C NF NX),(9,chalC KC),(18,ptCC CF CX)] []) sc_ver.1 57 [.tmp 6] [.arr .u8 32 p,.xsl .u8 1 (.sym n) cap f,.arr .u8 64 s] (.int .i64 (.sym V)):=by
 obtain ⟨bi,cm,un,cv,na,eq⟩:=A
 have hcm:cm=realCmp:=congrArg Ops.cmp hA
 have heq:eq=realEqA:=congrArg Ops.eqA hA
 clear hA
 have nt:∀ x:Int,cm .neq x 0=true→x≠0:=fun x h=>by rw [hcm] at h;simpa [realCmp] using h
 have nf:∀ x:Int,cm .neq x 0=false→x=0:=fun x h=>by rw [hcm] at h;simpa [realCmp] using h
 refine ⟨?_⟩
 cbv
 refine ⟨fun h0=>?_,fun h0=>?_⟩
 ·cbv
  exact v50 (mnot_yes h0)
 ·have h0:=mnot_no h0
  cbv
  refine ⟨fun h1=>?_,fun h1=>?_⟩
  ·cbv
   exact v51 h0 (nt _ h1)
  ·cbv
   refine ⟨fun h2=>?_,fun h2=>?_⟩
   ·cbv
    exact v52 h0 (nf _ h1) (nt _ h2)
   ·cbv
    refine ⟨⟨Nat.le_refl _⟩,fun h3=>?_,fun h3=>?_⟩
    ·cbv
     exact v53 h0 (nf _ h1) (nf _ h2) (heq ▸ mnot_yes h3)
    ·cbv
     exact v00 h0 (nf _ h1) (nf _ h2) (heq ▸ mnot_no h3)
theorem sub_rs:Sub gR Gsg:=by
 intro g
 by_cases h9:g=9
 ·right;rw [h9];rfl
 by_cases h12:g=12
 ·right;rw [h12];rfl
 by_cases h13:g=13
 ·right;rw [h13];rfl
 have e:gR g=Gmul g:=by
  unfold gR gSha
  rw [if_neg h9,if_neg h12,if_neg h13]
 rw [e]
 exact sub_ml g
theorem ok_ver:Sound Tryd.prog Gsg 11 (verC (verF kR)):=by
 refine sound_each (n:=57) (rs:=[.tmp 6]) (sc:=sc_ver.1) mixed Tryd.func11 rfl rfl rfl rfl sc_ver.2 ?_
 intro vs cs r h
 unfold verC at h
 split at h
 ·rename_i p n cap f s
  cases h
  exact ⟨by simp,fun hcs hwf=>⟨_,envOK tabOK (.cons (ok_canonS.sub sub_ml) (.cons (ok_ptdec.sub sub_pt) (.cons (ok_ptneg.sub sub_pt) (.cons (ok_chal.sub sub_rs) (.cons (ok_ptcomb.sub sub_pt) .nil))))),rfl,walk_ver realOps rfl p f s n cap canS decF decE negF offE kR combF offE _ ver_50 ver_51 ver_52 ver_53 ver_00⟩⟩
 ·cases h
end Go.Proofs.YtjbimeigkklcmaaDoor

/-
  A seed's halves and its key; the small points' forms.
-/
namespace Go.Proofs.YtjbimeigkklcmaaDoor
open Go Go.Proofs Sx
set_option maxRecDepth 100000
set_option maxHeartbeats 4000000
theorem sub_g0e:Sub G0 Gsg:=fun g=>.inl rfl
theorem gl_ggR:ggR=shG fR:=rfl
theorem h32_bytes (f:Nat→Int):IsBytes 64 (h32R f):=by
 have h:=hash32_bytes gl_ggR sR f 64
 have e:h32R f=hash32S ggR sR f:=by
  funext j
  unfold h32R
  rw [Nat.zero_add]
 rw [e]
 exact h
theorem h32_32 (f:Nat→Int):IsBytes 32 (h32R f):=fun i hi=>h32_bytes f i (by omega)
theorem kR_ok:ChalOK kR where
 bytes:=fun r p n f=>by
  unfold kR
  exact sb_isBytes _
 head:=fun r r' p n f h=>by
  unfold kR
  rw [hashS_head fR ggR sR h p n f]
def sc_clamped:{ c:SC // strip (body Tryd.f23)=c }:=⟨_,by cbv⟩
theorem walk_clamped (A:Ops) (hA:A=realOps) (f:Nat→Int)  (C:(Nat→Int)→Nat→Int) (hC:C=clampF) (R:(Nat→Int)→Nat→Int) (hR:R=clampF) :
  Walk (mkEnv A tab.1 Gsg [(47,un32C C)] []) sc_clamped.1 5 [.cell 2 22] [.arr .u8 32 f] (.arr .u8 32 (R f)):=by
 obtain ⟨bi,cm,un,cv,na,eq⟩:=A
 have hbi:bi=realBin:=congrArg Ops.bin hA
 have hcm:cm=realCmp:=congrArg Ops.cmp hA
 have hna:na=Int.toNat:=congrArg Ops.nat hA
 have hcv:cv=fun k n=>k.wrap n:=congrArg Ops.cnv hA
 have heq:eq=realEqA:=congrArg Ops.eqA hA
 clear hA
 rw [← hC] at hR
 subst hR
 refine ⟨?_⟩
 cbv
 exact fun _ _=>rfl
theorem ok_clamped:Sound Tryd.prog Gsg 23 (un32C clampF):=by
 refine sound_each (n:=5) (rs:=[.cell 2 22]) (sc:=sc_clamped.1) mixed Tryd.func23 rfl rfl rfl rfl sc_clamped.2 ?_
 intro vs cs r h
 unfold un32C at h
 split at h
 ·rename_i f
  cases h
  exact ⟨by simp,fun hcs hwf=>⟨_,envOK tabOK ((.cons (ok_clampF Gsg) .nil)),rfl,walk_clamped realOps rfl f  _ rfl _ rfl⟩⟩
 ·cases h
def sc_expand:{ c:SC // strip (body Tryd.f12)=c }:=⟨_,by cbv⟩
theorem walk_expand (A:Ops) (hA:A=realOps) (f:Nat→Int)  (H:(Nat→Int)→Nat→Int) (hH:H=h32R) (CL:(Nat→Int)→Nat→Int) (hCL:CL=clampF) (EA:(Nat→Int)→Nat→Int) (hEA:EA=expA h32R) (EP:(Nat→Int)→Nat→Int) (hEP:EP=expP h32R)  :
  Walk (mkEnv A tab.1 Gsg [(22,sum32C H),(23,un32C CL)] []) sc_expand.1 14 [.cell 2 22,.cell 3 22] [.arr .u8 32 f] (.tup [.arr .u8 32 (EA f),.arr .u8 32 (EP f)]):=by
 obtain ⟨bi,cm,un,cv,na,eq⟩:=A
 have hbi:bi=realBin:=congrArg Ops.bin hA
 have hcm:cm=realCmp:=congrArg Ops.cmp hA
 have hna:na=Int.toNat:=congrArg Ops.nat hA
 have hcv:cv=fun k n=>k.wrap n:=congrArg Ops.cnv hA
 have heq:eq=realEqA:=congrArg Ops.eqA hA
 clear hA
 have e0:(fun j=>f ((SO.lit 0).val+j))=f:=funext fun j=>congrArg f (Nat.zero_add j)
 have e1:∀ i,CL (H f) i=EA f i:=by
  intro i
  rw [hCL,hH,hEA]
  rfl
 have e2:∀ i,H f ((SO.lit 32).val+i)=EP f i:=by
  intro i
  rw [hH,hEP]
  rfl
 clear hCL hH hEA hEP
 refine ⟨?_⟩
 cbv
 rw [e0]
 exact ⟨fun i _=>e1 i,fun i _=>e2 i,trivial⟩
theorem ok_expand:Sound Tryd.prog Gsg 12 (expC (expA h32R) (expP h32R)):=by
 refine sound_each (n:=14) (rs:=[.cell 2 22,.cell 3 22]) (sc:=sc_expand.1) mixed Tryd.func12 rfl rfl rfl rfl sc_expand.2 ?_
 intro vs cs r h
 unfold expC at h
 split at h
 ·rename_i f
  cases h
  exact ⟨by simp,fun hcs hwf=>⟨_,envOK tabOK ((.cons (ok_s512.sub sub_rs) (.cons (ok_clamped) .nil))),rfl,walk_expand realOps rfl f  _ rfl _ rfl _ rfl _ rfl ⟩⟩
 ·cases h
def sc_form:{ c:SC // strip (body Tryd.f19)=c }:=⟨_,by cbv⟩
theorem walk_form (A:Ops) (hA:A=realOps) (f:Nat→Int)  (EN:(Nat→Int)→Nat→Int) (hEN:EN=encF) (EX:(Nat→Int)→Int) (hEX:EX=offE)  :
  Walk (mkEnv A tab.1 Gsg [(43,encC EN EX)] []) sc_form.1 11 [.cell 2 22] [.arr .u8 64 f] (.arr .u8 32 (EN f)):=by
 obtain ⟨bi,cm,un,cv,na,eq⟩:=A
 have hbi:bi=realBin:=congrArg Ops.bin hA
 have hcm:cm=realCmp:=congrArg Ops.cmp hA
 have hna:na=Int.toNat:=congrArg Ops.nat hA
 have hcv:cv=fun k n=>k.wrap n:=congrArg Ops.cnv hA
 have heq:eq=realEqA:=congrArg Ops.eqA hA
 clear hA
 refine ⟨?_⟩
 cbv
 exact fun _ _=>rfl
theorem ok_form:Sound Tryd.prog Gsg 19 (formC encF):=by
 refine sound_each (n:=11) (rs:=[.cell 2 22]) (sc:=sc_form.1) mixed Tryd.func19 rfl rfl rfl rfl sc_form.2 ?_
 intro vs cs r h
 unfold formC at h
 split at h
 ·rename_i f
  cases h
  exact ⟨by simp,fun hcs hwf=>⟨_,envOK tabOK ((.cons (ok_ptenc.sub sub_pt) .nil)),rfl,walk_form realOps rfl f  _ rfl _ rfl ⟩⟩
 ·cases h
def sc_public:{ c:SC // strip (body Tryd.f7)=c }:=⟨_,by cbv⟩
theorem walk_public (A:Ops) (hA:A=realOps) (f:Nat→Int)  (EA:(Nat→Int)→Nat→Int) (hEA:EA=expA h32R) (BM:(Nat→Int)→Nat→Int) (hBM:BM=bmulF) (FO:(Nat→Int)→Nat→Int) (hFO:FO=encF) (EP:(Nat→Int)→Nat→Int) (hEP:EP=expP h32R) (R:(Nat→Int)→Nat→Int) (hR:R=pubF h32R)  :
  Walk (mkEnv A tab.1 Gsg [(12,expC EA EP),(20,ptBC BM),(19,formC FO)] []) sc_public.1 13 [.cell 2 22] [.arr .u8 32 f] (.arr .u8 32 (R f)):=by
 obtain ⟨bi,cm,un,cv,na,eq⟩:=A
 have hbi:bi=realBin:=congrArg Ops.bin hA
 have hcm:cm=realCmp:=congrArg Ops.cmp hA
 have hna:na=Int.toNat:=congrArg Ops.nat hA
 have hcv:cv=fun k n=>k.wrap n:=congrArg Ops.cnv hA
 have heq:eq=realEqA:=congrArg Ops.eqA hA
 clear hA
 have e1:∀ i,FO (BM (EA f)) i=R f i:=by
  intro i
  rw [hFO,hBM,hEA,hR]
  rfl
 clear hFO hBM hEA hR hEP
 refine ⟨?_⟩
 cbv
 exact fun i _=>e1 i
theorem ok_public:Sound Tryd.prog Gsg 7 (un32C (pubF h32R)):=by
 refine sound_each (n:=13) (rs:=[.cell 2 22]) (sc:=sc_public.1) mixed Tryd.func7 rfl rfl rfl rfl sc_public.2 ?_
 intro vs cs r h
 unfold un32C at h
 split at h
 ·rename_i f
  cases h
  exact ⟨by simp,fun hcs hwf=>⟨_,envOK tabOK ((.cons (ok_expand) (.cons (ok_ptbmul.sub sub_pt) (.cons (ok_form) .nil)))),rfl,walk_public realOps rfl f  _ rfl _ rfl _ rfl _ rfl _ rfl ⟩⟩
 ·cases h
end Go.Proofs.YtjbimeigkklcmaaDoor

