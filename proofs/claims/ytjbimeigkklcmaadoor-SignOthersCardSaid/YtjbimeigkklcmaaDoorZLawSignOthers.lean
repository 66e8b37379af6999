/-
  SignOthers holds for every input: the walk.
-/
import Derived.Test.YtjbimeigkklcmaaDoorZSgRR
import Derived.Test.YtjbimeigkklcmaaDoorZNA
set_option linter.unusedVariables false
namespace Go.Proofs.YtjbimeigkklcmaaDoor
open Go Go.Proofs Sx
set_option maxRecDepth 100000
set_option maxHeartbeats 4000000
def sc_others:{ c:SC // strip (body Tryd.f3)=c }:=⟨_,by cbv⟩
theorem walk_others (A:Ops) (hA:A=realOps) (z:Nat→Int) (n:Nat) (cn:SO) (f:Nat→Int) (m:Nat) (cm:SO) (g:Nat→Int)  (PU:(Nat→Int)→Nat→Int) (hPU:PU=pubF h32R) (SI:(Nat→Int)→Nat→(Nat→Int)→Nat→Int) (hSI:SI=signF h32R kR nR) (HD:(Nat→Int)→Nat→Int) (hHD:HD=cutH) (KC:(Nat→Int)→(Nat→Int)→Nat→(Nat→Int)→Nat→Int) (hKC:KC=kR) (VF:(Nat→Int)→Nat→(Nat→Int)→(Nat→Int)→Int) (hVF:VF=verF kR)  :
  Walk (mkEnv A tab.1 Gsg [(6,readyC),(7,un32C PU),(8,signC SI),(10,cutC HD),(9,chalC KC),(11,verC VF)] []) sc_others.1 40 [.tmp 6] [.arr .u8 32 z,.xsl .u8 1 (.sym n) cn f,.xsl .u8 1 (.sym m) cm g] (.bool (.sym true)):=by
 obtain ⟨bi,cm,un,cv,na,eq⟩:=A
 have hbi:bi=realBin:=congrArg Ops.bin hA
 have hcm:cm=realCmp:=congrArg Ops.cmp hA
 have hna:na=Int.toNat:=congrArg Ops.nat hA
 have hcv:cv=fun k n=>k.wrap n:=congrArg Ops.cnv hA
 have heq:eq=realEqA:=congrArg Ops.eqA hA
 clear hA
 have d1:∀ F G,eq 32 (KC (HD (SI z n F)) (PU z) n F) (KC (HD (SI z n F)) (PU z) m G)=true→cm .eql (VF (PU z) m G (SI z n F)) 0=true:=by
  intro F G h
  rw [hcm,hVF,hPU,hSI]
  rw [heq,hKC,hHD,hPU,hSI] at h
  rw [oth_v kR_okZ h32_32 nR_bytes,if_pos h]
  rfl
 have d2:∀ F G,eq 32 (KC (HD (SI z n F)) (PU z) n F) (KC (HD (SI z n F)) (PU z) m G)=false→cm .eql (VF (PU z) m G (SI z n F)) 53=true:=by
  intro F G h
  rw [hcm,hVF,hPU,hSI]
  rw [heq,hKC,hHD,hPU,hSI] at h
  rw [oth_v kR_okZ h32_32 nR_bytes,if_neg (by rw [h];decide)]
  rfl
 clear hVF hPU hSI hKC hHD
 refine ⟨?_⟩
 cbv
 repeat (first | refine ⟨⟨Nat.le_refl _⟩,?_⟩ | refine ⟨⟨by decide⟩,?_⟩)
 refine ⟨fun h=>?_,fun h=>?_⟩
 ·have d1:=d1 _ _ h
  cbv
  repeat (first | refine ⟨⟨Nat.le_refl _⟩,?_⟩ | refine ⟨⟨by decide⟩,?_⟩)
  exact d1
 ·have d2:=d2 _ _ h
  cbv
  repeat (first | refine ⟨⟨Nat.le_refl _⟩,?_⟩ | refine ⟨⟨by decide⟩,?_⟩)
  exact d2
theorem ok_law_others:Sound Tryd.prog Gsg 3 (othC):=by
 refine sound_each (n:=40) (rs:=[.tmp 6]) (sc:=sc_others.1) mixed Tryd.func3 rfl rfl rfl rfl sc_others.2 ?_
 intro vs cs r h
 unfold othC at h
 split at h
 ·rename_i z n cn f m cm g
  cases h
  exact ⟨by simp,fun hcs hwf=>⟨_,envOK tabOK ((.cons (ok_ready) (.cons (ok_public) (.cons (ok_sign) (.cons (ok_head.sub sub_g0e) (.cons (ok_chal.sub sub_rs) (.cons (ok_ver) .nil))))))),rfl,walk_others realOps rfl z n cn f m cm g  _ rfl _ rfl _ rfl _ rfl _ rfl ⟩⟩
 ·cases h
end Go.Proofs.YtjbimeigkklcmaaDoor
