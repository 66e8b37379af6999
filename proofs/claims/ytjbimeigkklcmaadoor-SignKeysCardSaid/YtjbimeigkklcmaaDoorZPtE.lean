/-
  Package point's calls.
-/
import Derived.Test.YtjbimeigkklcmaaDoorZPtD
import Derived.Test.YtjbimeigkklcmaaDoorZNA
set_option linter.unusedVariables false
set_option linter.unusedSimpArgs false
namespace Go.Proofs.YtjbimeigkklcmaaDoor
open Go Go.Proofs Sx
set_option maxRecDepth 100000
set_option maxHeartbeats 4000000
def sc_ptneg:{ c:SC // strip (body Tryd.f17)=c }:=⟨_,by cbv⟩
theorem walk_ptneg (A:Ops) (hA:A=realOps) (f:Nat→Int) (hf:IsBytes 64 f) (ON:(Nat→Int)→Bool) (hON:ON=onB) (NE:(Nat→Int)→Nat→Int) (hNE:NE=fun f=>fb (- fe f)) (R:(Nat→Int)→Nat→Int) (hR:R=negF) (E:(Nat→Int)→Int) (hE:E=offE)  :
  Walk (mkEnv A tab.1 Gpt [(37,onPC ON),(36,un32C NE)] []) sc_ptneg.1 14 [.cell 2 39,.tmp 3] [.arr .u8 64 f] (.tup [.arr .u8 64 (R f),.int .i64 (.sym (E f))]):=by
 obtain ⟨bi,cm,un,cv,na,eq⟩:=A
 have hbi:bi=realBin:=congrArg Ops.bin hA
 have hcm:cm=realCmp:=congrArg Ops.cmp hA
 have hna:na=Int.toNat:=congrArg Ops.nat hA
 have hcv:cv=fun k n=>k.wrap n:=congrArg Ops.cnv hA
 have heq:eq=realEqA:=congrArg Ops.eqA hA
 clear hA
 refine ⟨?_⟩
 cbv
 refine ⟨fun h=>?_,fun h=>?_⟩
 ·have hh:=mnot_yes (a:=ON f) h
  rw [hON] at hh
  cbv
  subst hR hE
  exact off_neg hh
 ·have hh:=mnot_no (a:=ON f) h
  rw [hON] at hh
  cbv
  subst hNE hR hE
  exact ⟨neg_calc hf hh,off_on hh,trivial⟩
theorem ok_ptneg:Sound Tryd.prog Gpt 17 (pt1C negF offE):=by
 refine sound_each (n:=14) (rs:=[.cell 2 39,.tmp 3]) (sc:=sc_ptneg.1) mixed Tryd.func17 rfl rfl rfl rfl sc_ptneg.2 ?_
 intro vs cs r h
 unfold pt1C at h
 split at h
 ·rename_i f
  cases h
  exact ⟨by simp,fun hcs hwf=>⟨_,envOK tabOK ((.cons (ok_pton) (.cons (ok_negZ Gpt (ok_less.sub (sub_of (by decide)))) .nil))),rfl,walk_ptneg realOps rfl f (isB64 (hwf _ (by simp))) _ rfl _ rfl _ rfl _ rfl ⟩⟩
 ·cases h
def sc_ptbmul:{ c:SC // strip (body Tryd.f20)=c }:=⟨_,by cbv⟩
theorem walk_ptbmul (A:Ops) (hA:A=realOps) (n:Nat→Int) (hn:IsBytes 32 n) (BM:(Nat→Int)→Nat→Int) (hBM:BM=baseF) (PL:(Nat→Int)→Nat→Int) (hPL:PL=fun f=>plP (spO f)) (R:(Nat→Int)→Nat→Int) (hR:R=bmulF)  :
  Walk (mkEnv A tab.1 Gpt [(42,bmulC BM),(38,plC PL)] []) sc_ptbmul.1 6 [.cell 2 39] [.arr .u8 32 n] (.arr .u8 64 (R n)):=by
 refine ⟨?_⟩
 cbv
 subst hBM hPL hR
 exact fun i _=>congrFun (baseF_plain hn) i
theorem ok_ptbmul:Sound Tryd.prog Gpt 20 (ptBC bmulF):=by
 refine sound_each (n:=6) (rs:=[.cell 2 39]) (sc:=sc_ptbmul.1) mixed Tryd.func20 rfl rfl rfl rfl sc_ptbmul.2 ?_
 intro vs cs r h
 unfold ptBC at h
 split at h
 ·rename_i n
  cases h
  exact ⟨by simp,fun hcs hwf=>⟨_,envOK tabOK ((.cons (ok_ptbasem) (.cons (ok_ptplain) .nil))),rfl,walk_ptbmul realOps rfl n (isB (hwf _ (by simp))) _ rfl _ rfl _ rfl ⟩⟩
 ·cases h
def sc_ptcomb:{ c:SC // strip (body Tryd.f18)=c }:=⟨_,by cbv⟩
theorem walk_ptcomb (A:Ops) (hA:A=realOps) (n:Nat→Int) (f:Nat→Int) (m:Nat→Int) (hn:IsBytes 32 n) (hf:IsBytes 64 f) (hm:IsBytes 32 m) (ON:(Nat→Int)→Bool) (hON:ON=onB) (SO:(Nat→Int)→Nat→Int) (hSO:SO=fun f=>spB (Spd.of (ptO f).x (ptO f).y)) (ML:(Nat→Int)→(Nat→Int)→Nat→Int) (hML:ML=mulF) (BM:(Nat→Int)→Nat→Int) (hBM:BM=baseF) (SM:(Nat→Int)→(Nat→Int)→Nat→Int) (hSM:SM=fun f g=>spB (Spd.sum (spO f) (spO g))) (PL:(Nat→Int)→Nat→Int) (hPL:PL=fun f=>plP (spO f)) (R:(Nat→Int)→(Nat→Int)→(Nat→Int)→Nat→Int) (hR:R=combF) (E:(Nat→Int)→Int) (hE:E=offE)  :
  Walk (mkEnv A tab.1 Gpt [(37,onPC ON),(41,spOfC SO),(40,multC ML),(42,bmulC BM),(39,sp2C SM),(38,plC PL)] []) sc_ptcomb.1 20 [.cell 6 39,.tmp 7] [.arr .u8 32 n,.arr .u8 64 f,.arr .u8 32 m] (.tup [.arr .u8 64 (R n f m),.int .i64 (.sym (E f))]):=by
 obtain ⟨bi,cm,un,cv,na,eq⟩:=A
 have hbi:bi=realBin:=congrArg Ops.bin hA
 have hcm:cm=realCmp:=congrArg Ops.cmp hA
 have hna:na=Int.toNat:=congrArg Ops.nat hA
 have hcv:cv=fun k n=>k.wrap n:=congrArg Ops.cnv hA
 have heq:eq=realEqA:=congrArg Ops.eqA hA
 clear hA
 refine ⟨?_⟩
 cbv
 refine ⟨fun h=>?_,fun h=>?_⟩
 ·have hh:=mnot_yes (a:=ON f) h
  rw [hON] at hh
  cbv
  subst hR hE
  exact off_comb hh
 ·have hh:=mnot_no (a:=ON f) h
  rw [hON] at hh
  cbv
  subst hSO hML hBM hSM hPL hR hE
  exact ⟨⟨hh⟩,sp_so f,fun i _=>congrFun (comb_calc hn hm hh) i,off_on hh,trivial⟩
theorem ok_ptcomb:Sound Tryd.prog Gpt 18 (ptCC combF offE):=by
 refine sound_each (n:=20) (rs:=[.cell 6 39,.tmp 7]) (sc:=sc_ptcomb.1) mixed Tryd.func18 rfl rfl rfl rfl sc_ptcomb.2 ?_
 intro vs cs r h
 unfold ptCC at h
 split at h
 ·rename_i n f m
  cases h
  exact ⟨by simp,fun hcs hwf=>⟨_,envOK tabOK ((.cons (ok_pton) (.cons (ok_ptof) (.cons (ok_ptmultiple) (.cons (ok_ptbasem) (.cons (ok_ptsum) (.cons (ok_ptplain) .nil))))))),rfl,walk_ptcomb realOps rfl n f m (isB (hwf _ (by simp))) (isB64 (hwf _ (by simp))) (isB (hwf _ (by simp))) _ rfl _ rfl _ rfl _ rfl _ rfl _ rfl _ rfl _ rfl ⟩⟩
 ·cases h
end Go.Proofs.YtjbimeigkklcmaaDoor
