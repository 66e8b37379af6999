/-
  Package point: pairs and points with a denominator.
-/
import Derived.Test.YtjbimeigkklcmaaDoorZFieldC
import Derived.Test.YtjbimeigkklcmaaDoorZFieldP
import Derived.Test.YtjbimeigkklcmaaDoorZFieldS
import Derived.Test.YtjbimeigkklcmaaDoorZNA
import Derived.Test.YtjbimeigkklcmaaDoorZFieldL
set_option linter.unusedVariables false
set_option linter.unusedSimpArgs false
namespace Go.Proofs.YtjbimeigkklcmaaDoor
open Go Go.Proofs Sx
set_option maxRecDepth 100000
set_option maxHeartbeats 4000000
abbrev Gpt:Nat→AV:=lookGL [v_twice,v_two,v_eighth,v_root,v_ptzero,v_ptone,v_ptcurve,v_ptbase]
theorem pt_one:∀ i,i<32→(fun i=>v_ptone.2.2.getD i 0) i=fb 1 i:=by decide +kernel
theorem pt_zero:∀ i,i<32→(fun i=>v_ptzero.2.2.getD i 0) i=fb 0 i:=by decide +kernel
theorem pt_curve:∀ i,i<32→(fun i=>v_ptcurve.2.2.getD i 0) i=fb dZ i:=by decide +kernel
theorem pt_base:∀ i,i<64→(fun i=>v_ptbase.2.2.getD i 0) i=pb basePt i:=by decide +kernel
def sc_ptid:{ c:SC // strip (body Tryd.f60)=c }:=⟨_,by cbv⟩
theorem walk_ptid (A:Ops) (hA:A=realOps)   (R:Nat→Int) (hR:R=pb Pt.zero)  :
  Walk (mkEnv A tab.1 Gpt [] []) sc_ptid.1 4 [.cell 0 39] [] (.arr .u8 64 R):=by
 refine ⟨?_⟩
 cbv
 subst hR
 unfold Pt.zero
 exact ptl_is pt_zero pt_one
theorem ok_ptid:Sound Tryd.prog Gpt 60 (ptKC (pb Pt.zero)):=by
 refine sound_each (n:=4) (rs:=[.cell 0 39]) (sc:=sc_ptid.1) mixed Tryd.func60 rfl rfl rfl rfl sc_ptid.2 ?_
 intro vs cs r h
 unfold ptKC at h
 split at h
 ·cases h
  exact ⟨by simp,fun hcs hwf=>⟨_,envOK tabOK ( .nil),rfl,walk_ptid realOps rfl   _ rfl ⟩⟩
 ·cases h
def sc_ptjoin:{ c:SC // strip (body Tryd.f57)=c }:=⟨_,by cbv⟩
theorem walk_ptjoin (A:Ops) (hA:A=realOps) (a:Nat→Int) (b:Nat→Int) (c:Nat→Int) (d:Nat→Int)  (MU:(Nat→Int)→(Nat→Int)→Nat→Int) (hMU:MU=fun f g=>fb (fe f*fe g)) (R:(Nat→Int)→(Nat→Int)→(Nat→Int)→(Nat→Int)→Nat→Int) (hR:R=fun a b c d=>spB (Spd.join (fe a) (fe b) (fe c) (fe d)))  :
  Walk (mkEnv A tab.1 Gpt [(35,bin32C MU)] []) sc_ptjoin.1 23 [.cell 8 66] [.arr .u8 32 a,.arr .u8 32 b,.arr .u8 32 c,.arr .u8 32 d] (.arr .u8 128 (R a b c d)):=by
 refine ⟨?_⟩
 cbv
 subst hMU hR
 exact spl_is (fun i hi=>spl_lo hi ▸ spl_in0 hi) (fun i hi=>spl_in hi) (fun _ _=>rfl) (fun _ _=>rfl)
theorem ok_ptjoin:Sound Tryd.prog Gpt 57 (joinC (fun a b c d=>spB (Spd.join (fe a) (fe b) (fe c) (fe d)))):=by
 refine sound_each (n:=23) (rs:=[.cell 8 66]) (sc:=sc_ptjoin.1) mixed Tryd.func57 rfl rfl rfl rfl sc_ptjoin.2 ?_
 intro vs cs r h
 unfold joinC at h
 split at h
 ·rename_i a b c d
  cases h
  exact ⟨by simp,fun hcs hwf=>⟨_,envOK tabOK ((.cons (ok_mulZ Gpt) .nil)),rfl,walk_ptjoin realOps rfl a b c d  _ rfl _ rfl ⟩⟩
 ·cases h
def sc_ptsum:{ c:SC // strip (body Tryd.f39)=c }:=⟨_,by cbv⟩
theorem walk_ptsum (A:Ops) (hA:A=realOps) (f:Nat→Int) (g:Nat→Int)  (MU:(Nat→Int)→(Nat→Int)→Nat→Int) (hMU:MU=fun f g=>fb (fe f*fe g)) (AD:(Nat→Int)→(Nat→Int)→Nat→Int) (hAD:AD=fun f g=>fb (fe f+fe g)) (SU:(Nat→Int)→(Nat→Int)→Nat→Int) (hSU:SU=fun f g=>fb (fe f - fe g)) (JN:(Nat→Int)→(Nat→Int)→(Nat→Int)→(Nat→Int)→Nat→Int) (hJN:JN=fun a b c d=>spB (Spd.join (fe a) (fe b) (fe c) (fe d))) (R:(Nat→Int)→(Nat→Int)→Nat→Int) (hR:R=fun f g=>spB (Spd.sum (spO f) (spO g)))  :
  Walk (mkEnv A tab.1 Gpt [(35,bin32C MU),(34,bin32C AD),(33,bin32C SU),(57,joinC JN)] []) sc_ptsum.1 70 [.cell 4 66] [.arr .u8 128 f,.arr .u8 128 g] (.arr .u8 128 (R f g)):=by
 refine ⟨?_⟩
 cbv
 subst hMU hAD hSU hJN hR
 exact spB_congr (sum_is (fe_of pt_curve))
theorem ok_ptsum:Sound Tryd.prog Gpt 39 (sp2C (fun f g=>spB (Spd.sum (spO f) (spO g)))):=by
 refine sound_each (n:=70) (rs:=[.cell 4 66]) (sc:=sc_ptsum.1) mixed Tryd.func39 rfl rfl rfl rfl sc_ptsum.2 ?_
 intro vs cs r h
 unfold sp2C at h
 split at h
 ·rename_i f g
  cases h
  exact ⟨by simp,fun hcs hwf=>⟨_,envOK tabOK ((.cons (ok_mulZ Gpt) (.cons (ok_addZ Gpt) (.cons (ok_subZ Gpt (ok_less.sub (sub_of (by decide)))) (.cons (ok_ptjoin) .nil))))),rfl,walk_ptsum realOps rfl f g  _ rfl _ rfl _ rfl _ rfl _ rfl ⟩⟩
 ·cases h
def sc_pttwice:{ c:SC // strip (body Tryd.f59)=c }:=⟨_,by cbv⟩
theorem walk_pttwice (A:Ops) (hA:A=realOps) (f:Nat→Int)  (SQ:(Nat→Int)→Nat→Int) (hSQ:SQ=fun f=>fb (fe f*fe f)) (AD:(Nat→Int)→(Nat→Int)→Nat→Int) (hAD:AD=fun f g=>fb (fe f+fe g)) (SU:(Nat→Int)→(Nat→Int)→Nat→Int) (hSU:SU=fun f g=>fb (fe f - fe g)) (JN:(Nat→Int)→(Nat→Int)→(Nat→Int)→(Nat→Int)→Nat→Int) (hJN:JN=fun a b c d=>spB (Spd.join (fe a) (fe b) (fe c) (fe d))) (R:(Nat→Int)→Nat→Int) (hR:R=fun f=>spB (Spd.twice (spO f)))  :
  Walk (mkEnv A tab.1 Gpt [(31,un32C SQ),(34,bin32C AD),(33,bin32C SU),(57,joinC JN)] []) sc_pttwice.1 45 [.cell 2 66] [.arr .u8 128 f] (.arr .u8 128 (R f)):=by
 refine ⟨?_⟩
 cbv
 subst hSQ hAD hSU hJN hR
 exact spB_congr (twice_is f)
theorem ok_pttwice:Sound Tryd.prog Gpt 59 (sp1C (fun f=>spB (Spd.twice (spO f)))):=by
 refine sound_each (n:=45) (rs:=[.cell 2 66]) (sc:=sc_pttwice.1) mixed Tryd.func59 rfl rfl rfl rfl sc_pttwice.2 ?_
 intro vs cs r h
 unfold sp1C at h
 split at h
 ·rename_i f
  cases h
  exact ⟨by simp,fun hcs hwf=>⟨_,envOK tabOK ((.cons (ok_squareZ Gpt) (.cons (ok_addZ Gpt) (.cons (ok_subZ Gpt (ok_less.sub (sub_of (by decide)))) (.cons (ok_ptjoin) .nil))))),rfl,walk_pttwice realOps rfl f  _ rfl _ rfl _ rfl _ rfl _ rfl ⟩⟩
 ·cases h
def sc_ptopp:{ c:SC // strip (body Tryd.f61)=c }:=⟨_,by cbv⟩
theorem walk_ptopp (A:Ops) (hA:A=realOps) (f:Nat→Int) (hf:IsSp f) (NE:(Nat→Int)→Nat→Int) (hNE:NE=fun f=>fb (- fe f)) (R:(Nat→Int)→Nat→Int) (hR:R=fun f=>spB (Spd.neg (spO f)))  :
  Walk (mkEnv A tab.1 Gpt [(36,un32C NE)] []) sc_ptopp.1 14 [.cell 2 66] [.arr .u8 128 f] (.arr .u8 128 (R f)):=by
 refine ⟨?_⟩
 cbv
 subst hNE hR
 exact opp_is hf (fun _ _=>rfl) (fun _ _=>rfl)
theorem ok_ptopp:Sound Tryd.prog Gpt 61 (oppC (fun f=>spB (Spd.neg (spO f)))):=by
 refine sound_each (n:=14) (rs:=[.cell 2 66]) (sc:=sc_ptopp.1) mixed Tryd.func61 rfl rfl rfl rfl sc_ptopp.2 ?_
 intro vs cs r h
 unfold oppC at h
 split at h
 ·rename_i f
  cases h
  exact ⟨by simp,fun hcs hwf=>⟨_,envOK tabOK ((.cons (ok_negZ Gpt (ok_less.sub (sub_of (by decide)))) .nil)),rfl,walk_ptopp realOps rfl f (hcs _ (by simp)) _ rfl _ rfl ⟩⟩
 ·cases h
def sc_ptshift:{ c:SC // strip (body Tryd.f63)=c }:=⟨_,by cbv⟩
theorem walk_ptshift (A:Ops) (hA:A=realOps) (f:Nat→Int)  (TW:(Nat→Int)→Nat→Int) (hTW:TW=fun f=>spB (Spd.twice (spO f))) (R:(Nat→Int)→Nat→Int) (hR:R=fun f=>spB (shS (spO f)))  :
  Walk (mkEnv A tab.1 Gpt [(59,sp1C TW)] []) sc_ptshift.1 8 [.cell 2 66] [.arr .u8 128 f] (.arr .u8 128 (R f)):=by
 refine ⟨?_⟩
 cbv
 subst hTW hR
 intro i _
 dsimp only
 rw [spO_spB,spO_spB,spO_spB]
 rfl
theorem ok_ptshift:Sound Tryd.prog Gpt 63 (sp1C (fun f=>spB (shS (spO f)))):=by
 refine sound_each (n:=8) (rs:=[.cell 2 66]) (sc:=sc_ptshift.1) mixed Tryd.func63 rfl rfl rfl rfl sc_ptshift.2 ?_
 intro vs cs r h
 unfold sp1C at h
 split at h
 ·rename_i f
  cases h
  exact ⟨by simp,fun hcs hwf=>⟨_,envOK tabOK ((.cons (ok_pttwice) .nil)),rfl,walk_ptshift realOps rfl f  _ rfl _ rfl ⟩⟩
 ·cases h
def sc_ptof:{ c:SC // strip (body Tryd.f41)=c }:=⟨_,by cbv⟩
theorem walk_ptof (A:Ops) (hA:A=realOps) (f:Nat→Int) (hf:IsPt f) (hb:IsBytes 64 f) (MU:(Nat→Int)→(Nat→Int)→Nat→Int) (hMU:MU=fun f g=>fb (fe f*fe g)) (R:(Nat→Int)→Nat→Int) (hR:R=fun f=>spB (Spd.of (ptO f).x (ptO f).y))  :
  Walk (mkEnv A tab.1 Gpt [(35,bin32C MU)] []) sc_ptof.1 11 [.cell 2 66] [.arr .u8 64 f] (.arr .u8 128 (R f)):=by
 refine ⟨?_⟩
 cbv
 subst hMU hR
 have e:=pt_x hf
 have l:=pt_lo hf hb
 exact spl_is l.1 l.2 pt_one (fun i _=>by show fb (fe f*fe (nx 32 f)) i=fb ((ptO f).x*(ptO f).y) i;rw [e.1,e.2])
theorem ok_ptof:Sound Tryd.prog Gpt 41 (spOfC (fun f=>spB (Spd.of (ptO f).x (ptO f).y))):=by
 refine sound_each (n:=11) (rs:=[.cell 2 66]) (sc:=sc_ptof.1) mixed Tryd.func41 rfl rfl rfl rfl sc_ptof.2 ?_
 intro vs cs r h
 unfold spOfC at h
 split at h
 ·rename_i f
  cases h
  exact ⟨by simp,fun hcs hwf=>⟨_,envOK tabOK ((.cons (ok_mulZ Gpt) .nil)),rfl,walk_ptof realOps rfl f (hcs _ (by simp)) (isB64 (hwf _ (by simp))) _ rfl _ rfl ⟩⟩
 ·cases h
def sc_ptplain:{ c:SC // strip (body Tryd.f38)=c }:=⟨_,by cbv⟩
theorem walk_ptplain (A:Ops) (hA:A=realOps) (f:Nat→Int)  (MU:(Nat→Int)→(Nat→Int)→Nat→Int) (hMU:MU=fun f g=>fb (fe f*fe g)) (IV:(Nat→Int)→Nat→Int) (hIV:IV=fun f=>fb (zinv (fe f))) (R:(Nat→Int)→Nat→Int) (hR:R=fun f=>plP (spO f))  :
  Walk (mkEnv A tab.1 Gpt [(35,bin32C MU),(56,un32C IV)] []) sc_ptplain.1 18 [.cell 2 39] [.arr .u8 128 f] (.arr .u8 64 (R f)):=by
 refine ⟨?_⟩
 cbv
 subst hMU hIV hR
 exact ptl_is (fun i _=>by show fb (fe f*fe (fb (zinv (fe (nx 64 f))))) i=_;rw [fe_fb];rfl) (fun i _=>by show fb (fe (nx 32 f)*fe (fb (zinv (fe (nx 64 f))))) i=_;rw [fe_fb];rfl)
theorem ok_ptplain:Sound Tryd.prog Gpt 38 (plC (fun f=>plP (spO f))):=by
 refine sound_each (n:=18) (rs:=[.cell 2 39]) (sc:=sc_ptplain.1) mixed Tryd.func38 rfl rfl rfl rfl sc_ptplain.2 ?_
 intro vs cs r h
 unfold plC at h
 split at h
 ·rename_i f
  cases h
  exact ⟨by simp,fun hcs hwf=>⟨_,envOK tabOK ((.cons (ok_mulZ Gpt) (.cons (ok_invertF.sub (sub_of (by decide))) .nil))),rfl,walk_ptplain realOps rfl f  _ rfl _ rfl _ rfl ⟩⟩
 ·cases h
end Go.Proofs.YtjbimeigkklcmaaDoor
