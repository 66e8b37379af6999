/-
  SignKeys holds for every input: the walk.
-/
import Derived.Test.YtjbimeigkklcmaaDoorZSgRR
import Derived.Test.YtjbimeigkklcmaaDoorZNA
set_option linter.unusedVariables false
namespace Go.Proofs.YtjbimeigkklcmaaDoor
open Go Go.Proofs Sx
set_option maxRecDepth 100000
set_option maxHeartbeats 4000000
def sc_keys:{ c:SC // strip (body Tryd.f4)=c }:=⟨_,by cbv⟩
theorem walk_keys (A:Ops) (hA:A=realOps) (z:Nat→Int) (w:Nat→Int) (n:Nat) (cn:SO) (f:Nat→Int)  (SI:(Nat→Int)→Nat→(Nat→Int)→Nat→Int) (hSI:SI=signF h32R kR nR) (PU:(Nat→Int)→Nat→Int) (hPU:PU=pubF h32R) (EA:(Nat→Int)→Nat→Int) (hEA:EA=expA h32R) (HD:(Nat→Int)→Nat→Int) (hHD:HD=cutH) (KC:(Nat→Int)→(Nat→Int)→Nat→(Nat→Int)→Nat→Int) (hKC:KC=kR) (MA:(Nat→Int)→(Nat→Int)→(Nat→Int)→Nat→Int) (hMA:MA=fun a b c=>sb (se a*se b+se c)) (VF:(Nat→Int)→Nat→(Nat→Int)→(Nat→Int)→Int) (hVF:VF=verF kR) (EP:(Nat→Int)→Nat→Int) (hEP:EP=expP h32R)  :
  Walk (mkEnv A tab.1 Gsg [(6,readyC),(8,signC SI),(7,un32C PU),(12,expC EA EP),(10,cutC HD),(9,chalC KC),(13,tri32C MA),(11,verC VF)] []) sc_keys.1 64 [.tmp 6] [.arr .u8 32 z,.arr .u8 32 w,.xsl .u8 1 (.sym n) cn f] (.bool (.sym true)):=by
 obtain ⟨bi,cm,un,cv,na,eq⟩:=A
 have hbi:bi=realBin:=congrArg Ops.bin hA
 have hcm:cm=realCmp:=congrArg Ops.cmp hA
 have hna:na=Int.toNat:=congrArg Ops.nat hA
 have hcv:cv=fun k n=>k.wrap n:=congrArg Ops.cnv hA
 have heq:eq=realEqA:=congrArg Ops.eqA hA
 clear hA
 have d1:∀ F,eq 32 (MA (KC (HD (SI z n F)) (PU z) n F) (EA z) fun _=>0) (MA (KC (HD (SI z n F)) (PU w) n F) (EA w) fun _=>0)=true→cm .eql (VF (PU w) n F (SI z n F)) 0=true:=by
  intro F h
  rw [hcm,hVF,hPU,hSI]
  rw [heq,hMA,hKC,hHD,hPU,hSI,hEA] at h
  rw [key_v kR_okZ h32_32 nR_bytes,if_pos h]
  rfl
 have d2:∀ F,eq 32 (MA (KC (HD (SI z n F)) (PU z) n F) (EA z) fun _=>0) (MA (KC (HD (SI z n F)) (PU w) n F) (EA w) fun _=>0)=false→cm .eql (VF (PU w) n F (SI z n F)) 53=true:=by
  intro F h
  rw [hcm,hVF,hPU,hSI]
  rw [heq,hMA,hKC,hHD,hPU,hSI,hEA] at h
  rw [key_v kR_okZ h32_32 nR_bytes,if_neg (by rw [h];decide)]
  rfl
 clear hVF hPU hSI hKC hHD hMA hEA hEP
 refine ⟨?_⟩
 cbv
 repeat (first | refine ⟨⟨Nat.le_refl _⟩,?_⟩ | refine ⟨⟨by decide⟩,?_⟩)
 refine ⟨fun h=>?_,fun h=>?_⟩
 ·have d1:=d1 _ h
  cbv
  repeat (first | refine ⟨⟨Nat.le_refl _⟩,?_⟩ | refine ⟨⟨by decide⟩,?_⟩)
  exact d1
 ·have d2:=d2 _ h
  cbv
  repeat (first | refine ⟨⟨Nat.le_refl _⟩,?_⟩ | refine ⟨⟨by decide⟩,?_⟩)
  exact d2
theorem ok_law_keys:Sound Tryd.prog Gsg 4 (keyC):=by
 refine sound_each (n:=64) (rs:=[.tmp 6]) (sc:=sc_keys.1) mixed Tryd.func4 rfl rfl rfl rfl sc_keys.2 ?_
 intro vs cs r h
 unfold keyC at h
 split at h
 ·rename_i z w n cn f
  cases h
  exact ⟨by simp,fun hcs hwf=>⟨_,envOK tabOK ((.cons (ok_ready) (.cons (ok_sign) (.cons (ok_public) (.cons (ok_expand) (.cons (ok_head.sub sub_g0e) (.cons (ok_chal.sub sub_rs) (.cons (ok_muladd.sub sub_ml) (.cons (ok_ver) .nil))))))))),rfl,walk_keys realOps rfl z w n cn f  _ rfl _ rfl _ rfl _ rfl _ rfl _ rfl _ rfl _ rfl ⟩⟩
 ·cases h
end Go.Proofs.YtjbimeigkklcmaaDoor
