/-
  A seed's halves and its key; the small points' forms.
-/
import Derived.Test.YtncmblldbnlbmaaDoorZSgVV
import Derived.Test.YtncmblldbnlbmaaDoorZScalK
import Derived.Test.YtncmblldbnlbmaaDoorZScalC
import Derived.Test.YtncmblldbnlbmaaDoorZNA
namespace Go.Proofs.YtncmblldbnlbmaaDoor
open Go Go.Proofs Sx
set_option maxRecDepth 100000
set_option maxHeartbeats 4000000
theorem sub_g0e:Sub G0 Gsg:=fun g=>.inl rfl
theorem gl_ggR:ggR=shG fR:=rfl
theorem h32_bytes (f:Nat→Int):IsBytes 64 (h32R f):=by
 have h:=hash32_bytes gl_ggR sR f 64
 have e:h32R f=hash32S ggR sR f:=by
  funext j
  unfold h32R
  rw [Nat.zero_add]
 rw [e]
 exact h
theorem h32_32 (f:Nat→Int):IsBytes 32 (h32R f):=fun i hi=>h32_bytes f i (by omega)
theorem kR_ok:ChalOK kR where
 bytes:=fun r p n f=>by
  unfold kR
  exact sb_isBytes _
 head:=fun r r' p n f h=>by
  unfold kR
  rw [hashS_head fR ggR sR h p n f]
theorem expA_bytes (f:Nat→Int):IsBytes 32 (expA h32R f):=clamp_isB (h32_32 f)
def sc_clamped:{ c:SC // strip (body Tryd.f28)=c }:=⟨_,by cbv⟩
theorem walk_clamped (A:Ops) (hA:A=realOps) (f:Nat→Int)  (C:(Nat→Int)→Nat→Int) (hC:C=clampF) (R:(Nat→Int)→Nat→Int) (hR:R=clampF) :
  Walk (mkEnv A tab.1 Gsg [(53,un32C C)] []) sc_clamped.1 5 [.cell 2 22] [.arr .u8 32 f] (.arr .u8 32 (R f)):=by
 obtain ⟨bi,cm,un,cv,na,eq⟩:=A
 have hbi:bi=realBin:=congrArg Ops.bin hA
 have hcm:cm=realCmp:=congrArg Ops.cmp hA
 have hna:na=Int.toNat:=congrArg Ops.nat hA
 have hcv:cv=fun k n=>k.wrap n:=congrArg Ops.cnv hA
 have heq:eq=realEqA:=congrArg Ops.eqA hA
 clear hA
 rw [← hC] at hR
 subst hR
 refine ⟨?_⟩
 cbv
 exact fun _ _=>rfl
theorem ok_clamped:Sound Tryd.prog Gsg 28 (un32C clampF):=by
 refine sound_each (n:=5) (rs:=[.cell 2 22]) (sc:=sc_clamped.1) mixed Tryd.func28 rfl rfl rfl rfl sc_clamped.2 ?_
 intro vs cs r h
 unfold un32C at h
 split at h
 ·rename_i f
  cases h
  exact ⟨by simp,fun hcs hwf=>⟨_,envOK tabOK ((.cons (ok_clampF Gsg) .nil)),rfl,walk_clamped realOps rfl f  _ rfl _ rfl⟩⟩
 ·cases h
def sc_expand:{ c:SC // strip (body Tryd.f11)=c }:=⟨_,by cbv⟩
theorem walk_expand (A:Ops) (hA:A=realOps) (f:Nat→Int)  (H:(Nat→Int)→Nat→Int) (hH:H=h32R) (CL:(Nat→Int)→Nat→Int) (hCL:CL=clampF) (EA:(Nat→Int)→Nat→Int) (hEA:EA=expA h32R) (EP:(Nat→Int)→Nat→Int) (hEP:EP=expP h32R)  :
  Walk (mkEnv A tab.1 Gsg [(27,sum32C H),(28,un32C CL)] []) sc_expand.1 14 [.cell 2 22,.cell 3 22] [.arr .u8 32 f] (.tup [.arr .u8 32 (EA f),.arr .u8 32 (EP f)]):=by
 obtain ⟨bi,cm,un,cv,na,eq⟩:=A
 have hbi:bi=realBin:=congrArg Ops.bin hA
 have hcm:cm=realCmp:=congrArg Ops.cmp hA
 have hna:na=Int.toNat:=congrArg Ops.nat hA
 have hcv:cv=fun k n=>k.wrap n:=congrArg Ops.cnv hA
 have heq:eq=realEqA:=congrArg Ops.eqA hA
 clear hA
 have e0:(fun j=>f ((SO.lit 0).val+j))=f:=funext fun j=>congrArg f (Nat.zero_add j)
 have e1:∀ i,CL (H f) i=EA f i:=by
  intro i
  rw [hCL,hH,hEA]
  rfl
 have e2:∀ i,H f ((SO.lit 32).val+i)=EP f i:=by
  intro i
  rw [hH,hEP]
  rfl
 clear hCL hH hEA hEP
 refine ⟨?_⟩
 cbv
 rw [e0]
 exact ⟨fun i _=>e1 i,fun i _=>e2 i,trivial⟩
theorem ok_expand:Sound Tryd.prog Gsg 11 (expC (expA h32R) (expP h32R)):=by
 refine sound_each (n:=14) (rs:=[.cell 2 22,.cell 3 22]) (sc:=sc_expand.1) mixed Tryd.func11 rfl rfl rfl rfl sc_expand.2 ?_
 intro vs cs r h
 unfold expC at h
 split at h
 ·rename_i f
  cases h
  exact ⟨by simp,fun hcs hwf=>⟨_,envOK tabOK ((.cons (ok_s512.sub sub_rs) (.cons (ok_clamped) .nil))),rfl,walk_expand realOps rfl f  _ rfl _ rfl _ rfl _ rfl ⟩⟩
 ·cases h
def sc_form:{ c:SC // strip (body Tryd.f29)=c }:=⟨_,by cbv⟩
theorem walk_form (A:Ops) (hA:A=realOps) (f:Nat→Int)  (EN:(Nat→Int)→Nat→Int) (hEN:EN=encF) (EX:(Nat→Int)→Int) (hEX:EX=offE)  :
  Walk (mkEnv A tab.1 Gsg [(5,encC EN EX)] []) sc_form.1 11 [.cell 2 22] [.arr .u8 64 f] (.arr .u8 32 (EN f)):=by
 obtain ⟨bi,cm,un,cv,na,eq⟩:=A
 have hbi:bi=realBin:=congrArg Ops.bin hA
 have hcm:cm=realCmp:=congrArg Ops.cmp hA
 have hna:na=Int.toNat:=congrArg Ops.nat hA
 have hcv:cv=fun k n=>k.wrap n:=congrArg Ops.cnv hA
 have heq:eq=realEqA:=congrArg Ops.eqA hA
 clear hA
 refine ⟨?_⟩
 cbv
 exact fun _ _=>rfl
theorem ok_form:Sound Tryd.prog Gsg 29 (formC encF):=by
 refine sound_each (n:=11) (rs:=[.cell 2 22]) (sc:=sc_form.1) mixed Tryd.func29 rfl rfl rfl rfl sc_form.2 ?_
 intro vs cs r h
 unfold formC at h
 split at h
 ·rename_i f
  cases h
  exact ⟨by simp,fun hcs hwf=>⟨_,envOK tabOK ((.cons (ok_ptenc.sub sub_pt) .nil)),rfl,walk_form realOps rfl f  _ rfl _ rfl ⟩⟩
 ·cases h
def sc_public:{ c:SC // strip (body Tryd.f12)=c }:=⟨_,by cbv⟩
theorem walk_public (A:Ops) (hA:A=realOps) (f:Nat→Int)  (EA:(Nat→Int)→Nat→Int) (hEA:EA=expA h32R) (BM:(Nat→Int)→Nat→Int) (hBM:BM=bmulF) (FO:(Nat→Int)→Nat→Int) (hFO:FO=encF) (EP:(Nat→Int)→Nat→Int) (hEP:EP=expP h32R) (R:(Nat→Int)→Nat→Int) (hR:R=pubF h32R)  :
  Walk (mkEnv A tab.1 Gsg [(11,expC EA EP),(6,ptBC BM),(29,formC FO)] []) sc_public.1 13 [.cell 2 22] [.arr .u8 32 f] (.arr .u8 32 (R f)):=by
 obtain ⟨bi,cm,un,cv,na,eq⟩:=A
 have hbi:bi=realBin:=congrArg Ops.bin hA
 have hcm:cm=realCmp:=congrArg Ops.cmp hA
 have hna:na=Int.toNat:=congrArg Ops.nat hA
 have hcv:cv=fun k n=>k.wrap n:=congrArg Ops.cnv hA
 have heq:eq=realEqA:=congrArg Ops.eqA hA
 clear hA
 have e1:∀ i,FO (BM (EA f)) i=R f i:=by
  intro i
  rw [hFO,hBM,hEA,hR]
  rfl
 clear hFO hBM hEA hR hEP
 refine ⟨?_⟩
 cbv
 exact fun i _=>e1 i
theorem ok_public:Sound Tryd.prog Gsg 12 (un32C (pubF h32R)):=by
 refine sound_each (n:=13) (rs:=[.cell 2 22]) (sc:=sc_public.1) mixed Tryd.func12 rfl rfl rfl rfl sc_public.2 ?_
 intro vs cs r h
 unfold un32C at h
 split at h
 ·rename_i f
  cases h
  exact ⟨by simp,fun hcs hwf=>⟨_,envOK tabOK ((.cons (ok_expand) (.cons (ok_ptbmul.sub sub_pt) (.cons (ok_form) .nil)))),rfl,walk_public realOps rfl f  _ rfl _ rfl _ rfl _ rfl _ rfl ⟩⟩
 ·cases h
theorem walk_small0 (A:Ops) (hA:A=realOps) (R:Nat→Int) (hR:R=smB 0) :
  Walk (mkEnv A tab.1 G0 [] []) sc_sm.1 45 [.cell 2 22] [.int .i64 (.lit 0)] (.arr .u8 32 R):=by
 obtain ⟨bi,cm,un,cv,na,eq⟩:=A
 have hbi:bi=realBin:=congrArg Ops.bin hA
 clear hA
 refine ⟨?_⟩
 cbv
 rw [hR]
 skip
 clear hR
 decide +kernel
theorem walk_small1 (A:Ops) (hA:A=realOps) (R:Nat→Int) (hR:R=smB 1) :
  Walk (mkEnv A tab.1 G0 [] []) sc_sm.1 45 [.cell 2 22] [.int .i64 (.lit 1)] (.arr .u8 32 R):=by
 obtain ⟨bi,cm,un,cv,na,eq⟩:=A
 have hbi:bi=realBin:=congrArg Ops.bin hA
 clear hA
 refine ⟨?_⟩
 cbv
 rw [hR]
 skip
 clear hR
 decide +kernel
theorem walk_small2 (A:Ops) (hA:A=realOps) (R:Nat→Int) (hR:R=smB 2) :
  Walk (mkEnv A tab.1 G0 [] []) sc_sm.1 45 [.cell 2 22] [.int .i64 (.lit 2)] (.arr .u8 32 R):=by
 obtain ⟨bi,cm,un,cv,na,eq⟩:=A
 have hbi:bi=realBin:=congrArg Ops.bin hA
 clear hA
 refine ⟨?_⟩
 cbv
 rw [hR]
 skip
 clear hR
 decide +kernel
theorem walk_small3 (A:Ops) (hA:A=realOps) (R:Nat→Int) (hR:R=smB 3) :
  Walk (mkEnv A tab.1 G0 [] []) sc_sm.1 45 [.cell 2 22] [.int .i64 (.lit 3)] (.arr .u8 32 R):=by
 obtain ⟨bi,cm,un,cv,na,eq⟩:=A
 have hbi:bi=realBin:=congrArg Ops.bin hA
 clear hA
 refine ⟨?_⟩
 cbv
 rw [hR]
 skip
 clear hR
 decide +kernel
theorem walk_small4 (A:Ops) (hA:A=realOps) (R:Nat→Int) (hR:R=smB 4) :
  Walk (mkEnv A tab.1 G0 [] []) sc_sm.1 45 [.cell 2 22] [.int .i64 (.lit 4)] (.arr .u8 32 R):=by
 obtain ⟨bi,cm,un,cv,na,eq⟩:=A
 have hbi:bi=realBin:=congrArg Ops.bin hA
 clear hA
 refine ⟨?_⟩
 cbv
 rw [hR]
 skip
 clear hR
 decide +kernel
theorem walk_small5 (A:Ops) (hA:A=realOps) (R:Nat→Int) (hR:R=smB 5) :
  Walk (mkEnv A tab.1 G0 [] []) sc_sm.1 45 [.cell 2 22] [.int .i64 (.lit 5)] (.arr .u8 32 R):=by
 obtain ⟨bi,cm,un,cv,na,eq⟩:=A
 have hbi:bi=realBin:=congrArg Ops.bin hA
 clear hA
 refine ⟨?_⟩
 cbv
 rw [hR]
 rw [hbi]
 clear hR
 decide +kernel
theorem walk_small6 (A:Ops) (hA:A=realOps) (R:Nat→Int) (hR:R=smB 6) :
  Walk (mkEnv A tab.1 G0 [] []) sc_sm.1 45 [.cell 2 22] [.int .i64 (.lit 6)] (.arr .u8 32 R):=by
 obtain ⟨bi,cm,un,cv,na,eq⟩:=A
 have hbi:bi=realBin:=congrArg Ops.bin hA
 clear hA
 refine ⟨?_⟩
 cbv
 rw [hR]
 skip
 clear hR
 decide +kernel
theorem walk_small7 (A:Ops) (hA:A=realOps) (R:Nat→Int) (hR:R=smB 7) :
  Walk (mkEnv A tab.1 G0 [] []) sc_sm.1 45 [.cell 2 22] [.int .i64 (.lit 7)] (.arr .u8 32 R):=by
 obtain ⟨bi,cm,un,cv,na,eq⟩:=A
 have hbi:bi=realBin:=congrArg Ops.bin hA
 clear hA
 refine ⟨?_⟩
 cbv
 rw [hR]
 rw [hbi]
 clear hR
 decide +kernel
theorem ok_smallL:Sound Tryd.prog G0 9 (smLC smB):=by
 refine sound_each (n:=45) (rs:=[.cell 2 22]) (sc:=sc_sm.1) mixed Tryd.func9 rfl rfl rfl rfl sc_sm.2 ?_
 intro vs cs r h
 unfold smLC at h
 split at h
 ·rename_i n
  cases h
  refine ⟨by simp,fun hcs hwf=>?_⟩
  obtain ⟨h0,h8⟩:=(hcs (Lt8 n) (by simp)).h
  have hc:n=0∨n=1∨n=2∨n=3∨n=4∨n=5∨n=6∨n=7:=by omega
  rcases hc with rfl | rfl | rfl | rfl | rfl | rfl | rfl | rfl
  ·exact ⟨_,envOK tabOK (.nil),rfl,walk_small0 realOps rfl _ rfl⟩
  ·exact ⟨_,envOK tabOK (.nil),rfl,walk_small1 realOps rfl _ rfl⟩
  ·exact ⟨_,envOK tabOK (.nil),rfl,walk_small2 realOps rfl _ rfl⟩
  ·exact ⟨_,envOK tabOK (.nil),rfl,walk_small3 realOps rfl _ rfl⟩
  ·exact ⟨_,envOK tabOK (.nil),rfl,walk_small4 realOps rfl _ rfl⟩
  ·exact ⟨_,envOK tabOK (.nil),rfl,walk_small5 realOps rfl _ rfl⟩
  ·exact ⟨_,envOK tabOK (.nil),rfl,walk_small6 realOps rfl _ rfl⟩
  ·exact ⟨_,envOK tabOK (.nil),rfl,walk_small7 realOps rfl _ rfl⟩
 ·cases h
theorem ok_small:Sound Tryd.prog G0 9 (smC smB):=sm_sym ok_smallL
end Go.Proofs.YtncmblldbnlbmaaDoor
