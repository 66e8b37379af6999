/-
  Package point: the test, forms, tables.
-/
import Derived.Test.YtjbimeigkklcmaaDoorZPtA
import Derived.Test.YtjbimeigkklcmaaDoorZNA
set_option linter.unusedVariables false
set_option linter.unusedSimpArgs false
namespace Go.Proofs.YtjbimeigkklcmaaDoor
open Go Go.Proofs Sx
set_option maxRecDepth 100000
set_option maxHeartbeats 4000000
def sc_pton:{ c:SC // strip (body Tryd.f37)=c }:=⟨_,by cbv⟩
theorem walk_pton (A:Ops) (hA:A=realOps) (f:Nat→Int) (hb:IsBytes 64 f) (CA:(Nat→Int)→Bool) (hCA:CA=canB) (SQ:(Nat→Int)→Nat→Int) (hSQ:SQ=fun f=>fb (fe f*fe f)) (MU:(Nat→Int)→(Nat→Int)→Nat→Int) (hMU:MU=fun f g=>fb (fe f*fe g)) (AD:(Nat→Int)→(Nat→Int)→Nat→Int) (hAD:AD=fun f g=>fb (fe f+fe g)) (SU:(Nat→Int)→(Nat→Int)→Nat→Int) (hSU:SU=fun f g=>fb (fe f - fe g)) (R:(Nat→Int)→Bool) (hR:R=onB)  :
  Walk (mkEnv A tab.1 Gpt [(30,bool32C CA),(31,un32C SQ),(35,bin32C MU),(34,bin32C AD),(33,bin32C SU)] []) sc_pton.1 34 [.tmp 2] [.arr .u8 64 f] (.bool (.sym (R f))):=by
 obtain ⟨bi,cm,un,cv,na,eq⟩:=A
 have hbi:bi=realBin:=congrArg Ops.bin hA
 have hcm:cm=realCmp:=congrArg Ops.cmp hA
 have hna:na=Int.toNat:=congrArg Ops.nat hA
 have hcv:cv=fun k n=>k.wrap n:=congrArg Ops.cnv hA
 have heq:eq=realEqA:=congrArg Ops.eqA hA
 clear hA
 refine ⟨?_⟩
 cbv
 refine ⟨fun h=>?_,fun h=>?_⟩
 ·cbv
  have hh:=mor_yes (a:=CA f) (b:=CA (nx 32 f)) h
  subst hCA hR
  exact on_no hh
 ·cbv
  have hh:=mor_no (a:=CA f) (b:=CA (nx 32 f)) h
  subst hCA hR hSQ hMU hAD hSU heq
  exact on_is (fe_of pt_curve) (fe_of pt_one) hh
theorem ok_pton:Sound Tryd.prog Gpt 37 (onPC onB):=by
 refine sound_each (n:=34) (rs:=[.tmp 2]) (sc:=sc_pton.1) mixed Tryd.func37 rfl rfl rfl rfl sc_pton.2 ?_
 intro vs cs r h
 unfold onPC at h
 split at h
 ·rename_i f
  cases h
  exact ⟨by simp,fun hcs hwf=>⟨_,envOK tabOK ((.cons (ok_canonF Gpt) (.cons (ok_squareZ Gpt) (.cons (ok_mulZ Gpt) (.cons (ok_addZ Gpt) (.cons (ok_subZ Gpt (ok_less.sub (sub_of (by decide)))) .nil)))))),rfl,walk_pton realOps rfl f (isB64 (hwf _ (by simp))) _ rfl _ rfl _ rfl _ rfl _ rfl _ rfl ⟩⟩
 ·cases h
def sc_ptenc:{ c:SC // strip (body Tryd.f43)=c }:=⟨_,by cbv⟩
theorem walk_ptenc (A:Ops) (hA:A=realOps) (f:Nat→Int) (hb:IsBytes 64 f) (ON:(Nat→Int)→Bool) (hON:ON=onB) (R:(Nat→Int)→Nat→Int) (hR:R=encF) (E:(Nat→Int)→Int) (hE:E=offE)  :
  Walk (mkEnv A tab.1 Gpt [(37,onPC ON)] []) sc_ptenc.1 21 [.cell 2 22,.tmp 3] [.arr .u8 64 f] (.tup [.arr .u8 32 (R f),.int .i64 (.sym (E f))]):=by
 obtain ⟨bi,cm,un,cv,na,eq⟩:=A
 have hbi:bi=realBin:=congrArg Ops.bin hA
 have hcm:cm=realCmp:=congrArg Ops.cmp hA
 have hna:na=Int.toNat:=congrArg Ops.nat hA
 have hcv:cv=fun k n=>k.wrap n:=congrArg Ops.cnv hA
 have heq:eq=realEqA:=congrArg Ops.eqA hA
 clear hA
 refine ⟨?_⟩
 cbv
 refine ⟨fun h=>?_,fun h=>?_⟩
 ·cbv
  have hh:=mnot_yes (a:=ON f) h
  subst hON hR hE
  exact off_off hh
 ·cbv
  have hh:=mnot_no (a:=ON f) h
  subst hON hR hE hbi
  exact ⟨enc_is ⟨hh⟩ hb,off_on hh,trivial⟩
theorem ok_ptenc:Sound Tryd.prog Gpt 43 (encC encF offE):=by
 refine sound_each (n:=21) (rs:=[.cell 2 22,.tmp 3]) (sc:=sc_ptenc.1) mixed Tryd.func43 rfl rfl rfl rfl sc_ptenc.2 ?_
 intro vs cs r h
 unfold encC at h
 split at h
 ·rename_i f
  cases h
  exact ⟨by simp,fun hcs hwf=>⟨_,envOK tabOK ((.cons (ok_pton) .nil)),rfl,walk_ptenc realOps rfl f (isB64 (hwf _ (by simp))) _ rfl _ rfl _ rfl ⟩⟩
 ·cases h
def sc_ptdec:{ c:SC // strip (body Tryd.f16)=c }:=⟨_,by cbv⟩
theorem walk_ptdec (A:Ops) (hA:A=realOps) (f:Nat→Int) (hb:IsBytes 32 f) (CA:(Nat→Int)→Bool) (hCA:CA=canB) (SQ:(Nat→Int)→Nat→Int) (hSQ:SQ=fun f=>fb (fe f*fe f)) (SU:(Nat→Int)→(Nat→Int)→Nat→Int) (hSU:SU=fun f g=>fb (fe f - fe g)) (MU:(Nat→Int)→(Nat→Int)→Nat→Int) (hMU:MU=fun f g=>fb (fe f*fe g)) (AD:(Nat→Int)→(Nat→Int)→Nat→Int) (hAD:AD=fun f g=>fb (fe f+fe g)) (SR:(Nat→Int)→(Nat→Int)→Nat→Int) (hSR:SR=sqrtR) (NE:(Nat→Int)→Nat→Int) (hNE:NE=fun f=>fb (- fe f)) (SB:(Nat→Int)→(Nat→Int)→Bool) (hSB:SB=sqrtB) (R:(Nat→Int)→Nat→Int) (hR:R=decF) (E:(Nat→Int)→Int) (hE:E=decE)  :
  Walk (mkEnv A tab.1 Gpt [(30,bool32C CA),(31,un32C SQ),(33,bin32C SU),(35,bin32C MU),(34,bin32C AD),(32,sqrtC SR SB),(36,un32C NE)] []) sc_ptdec.1 48 [.cell 2 39,.tmp 3] [.arr .u8 32 f] (.tup [.arr .u8 64 (R f),.int .i64 (.sym (E f))]):=by
 obtain ⟨bi,cm,un,cv,na,eq⟩:=A
 have hbi:bi=realBin:=congrArg Ops.bin hA
 have hcm:cm=realCmp:=congrArg Ops.cmp hA
 have hna:na=Int.toNat:=congrArg Ops.nat hA
 have hcv:cv=fun k n=>k.wrap n:=congrArg Ops.cnv hA
 have heq:eq=realEqA:=congrArg Ops.eqA hA
 clear hA
 refine ⟨?_⟩
 have hy:upd f 31 (bi .and .u8 (f 31) 127)=dcY f:=by rw [hbi];exact dcY_is hb
 have eb:SB (SU (SQ (dcY f)) (fun i=>v_ptone.2.2.getD i 0)) (AD (MU (fun i=>v_ptcurve.2.2.getD i 0) (SQ (dcY f))) (fun i=>v_ptone.2.2.getD i 0))=(dcR f).2:=by
  rw [hSB,hSU,hSQ,hAD,hMU]
  exact dc_sb (fe_of pt_curve) (fe_of pt_one)
 have er:SR (SU (SQ (dcY f)) (fun i=>v_ptone.2.2.getD i 0)) (AD (MU (fun i=>v_ptcurve.2.2.getD i 0) (SQ (dcY f))) (fun i=>v_ptone.2.2.getD i 0))=fb (dcR f).1:=by
  rw [hSR,hSU,hSQ,hAD,hMU]
  exact dc_sr (fe_of pt_curve) (fe_of pt_one)
 rw [← hy] at eb er
 have c40:=@dec_40 f
 have c41:=@dec_41 f
 have c42:=@dec_42 f
 have c00:=@dec_00 f hb
 rw [← hy,← hCA] at c40 c41 c42 c00
 rw [← hR,← hE] at c40 c41 c42 c00
 cbv
 refine ⟨fun h0=>?_,fun h0=>?_⟩
 ·cbv
  exact c40 (mnot_yes h0)
 ·have h0:=mnot_no h0
  cbv
  refine ⟨fun h1=>?_,fun h1=>?_⟩
  ·cbv
   exact c41 h0 (eb ▸ mnot_yes h1)
  ·have h1:(dcR f).2=true:=eb ▸ mnot_no h1
   cbv
   refine ⟨fun h2=>?_,fun h2=>?_⟩
   ·have h2:dcS f=true:=by rw [hcm] at h2;exact h2
    cbv
    refine ⟨fun h3=>?_,fun h3=>?_⟩
    ·cbv
     have h3:(dcR f).1=0:=by
      have h3':eq 32 (fb (dcR f).1) (fun i=>v_ptzero.2.2.getD i 0)=true:=by rw [← er];exact h3
      rw [heq] at h3'
      exact of_zero32 pt_zero h3'
     exact c42 h0 h1 h2 h3
    ·cbv
     have h3:(dcR f).1≠0:=by
      have h3':eq 32 (fb (dcR f).1) (fun i=>v_ptzero.2.2.getD i 0)=false:=by rw [← er];exact h3
      rw [heq] at h3'
      exact of_zero32' pt_zero h3'
     refine c00 h0 h1 (fun h=>h3 h.2) (fun i _=>?_)
     have e:NE (fb (dcR f).1) i=fb (if dcS f=true then -(dcR f).1 else (dcR f).1) i:=by rw [hNE,if_pos h2];show fb (- fe (fb (dcR f).1)) i=_;rw [fe_fb]
     rw [← er] at e
     exact e
   ·have h2:dcS f=false:=by rw [hcm] at h2;exact h2
    cbv
    refine c00 h0 h1 (fun h=>by rw [h2] at h;exact absurd h.1 (by decide)) (fun i _=>?_)
    have e:fb (dcR f).1 i=fb (if dcS f=true then -(dcR f).1 else (dcR f).1) i:=by rw [if_neg (by rw [h2];decide)]
    rw [← er] at e
    exact e
theorem ok_ptdec:Sound Tryd.prog Gpt 16 (decC decF decE):=by
 refine sound_each (n:=48) (rs:=[.cell 2 39,.tmp 3]) (sc:=sc_ptdec.1) mixed Tryd.func16 rfl rfl rfl rfl sc_ptdec.2 ?_
 intro vs cs r h
 unfold decC at h
 split at h
 ·rename_i f
  cases h
  exact ⟨by simp,fun hcs hwf=>⟨_,envOK tabOK ((.cons (ok_canonF Gpt) (.cons (ok_squareZ Gpt) (.cons (ok_subZ Gpt (ok_less.sub (sub_of (by decide)))) (.cons (ok_mulZ Gpt) (.cons (ok_addZ Gpt) (.cons (ok_sqrtF.sub (sub_of (by decide))) (.cons (ok_negZ Gpt (ok_less.sub (sub_of (by decide)))) .nil)))))))),rfl,walk_ptdec realOps rfl f (isB (hwf _ (by simp))) _ rfl _ rfl _ rfl _ rfl _ rfl _ rfl _ rfl _ rfl _ rfl _ rfl ⟩⟩
 ·cases h
end Go.Proofs.YtjbimeigkklcmaaDoor
