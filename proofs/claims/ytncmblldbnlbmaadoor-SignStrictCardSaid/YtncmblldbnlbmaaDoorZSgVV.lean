/-
  The law's helpers: two halves, the first small point.
-/
import Derived.Test.YtncmblldbnlbmaaDoorZBase
import Derived.Test.YtncmblldbnlbmaaDoorZNA
import Derived.Test.YtncmblldbnlbmaaDoorZEB
import Derived.Test.YtncmblldbnlbmaaDoorZShKK
import Derived.Test.YtncmblldbnlbmaaDoorZPtE
namespace Go.Proofs.YtncmblldbnlbmaaDoor
open Go Go.Proofs Sx
set_option maxRecDepth 100000
set_option maxHeartbeats 8000000
def sc_hal:{ c:SC // strip (body Tryd.f10)=c }:=⟨_,by cbv⟩
theorem walk_hal (A:Ops) (hA:A=realOps) (f g:Nat→Int) (H:(Nat→Int)→(Nat→Int)→Nat→Nat→Int) (hH:H=halS) (R:(Nat→Int)→(Nat→Int)→Nat→Int) (hR:R=joinF 32) (I:{ i:Nat // i≤32 }→St) (hI:I=fun i=>slots 23 [(2,.own (.arr .u8 32 f)),(3,.own (.arr .u8 32 g)),(4,.own (.arr .u8 64 fun _=>0)),(5,.own (.arr .u8 64 (H f g i.1))),(6,.int .i64 (.sym (Int.ofNat i.1)))]) :
  Walk (mkEnv A tab.1 G0 [] [(3,.inv { i:Nat // i≤32 } I fun i=>32 - i.1)]) sc_hal.1 23 [.cell 4 33] [.arr .u8 32 f,.arr .u8 32 g] (.arr .u8 64 (R f g)):=by
 obtain ⟨bi,cm,un,cv,na,eq⟩:=A
 have hbi:bi=realBin:=congrArg Ops.bin hA
 have hcm:cm=realCmp:=congrArg Ops.cmp hA
 have hna:na=Int.toNat:=congrArg Ops.nat hA
 obtain ⟨Y,hY⟩:∃ Y:Nat→Nat,∀ a,Y a=32+a:=⟨_,fun _=>rfl⟩
 have e1:∀ a:Nat,a<32→bi .add .i64 32 (Int.ofNat a)=Int.ofNat (Y a):=fun a h=>by
  rw [hbi,hY,add_i64 (by simp only [Int.ofNat_eq_natCast];omega)]
  simp only [Int.ofNat_eq_natCast]
  omega
 have e2:∀ a:Nat,a<32→bi .add .i64 (Int.ofNat a) 1=Int.ofNat (a+1):=fun a h=>by rw [hbi];exact a1 (by omega)
 refine ⟨?_⟩
 cbv
 subst hI
 refine ⟨⟨⟨0,by decide⟩,?_⟩,fun a hwf=>?_⟩
 ·cbv
  exact ⟨fun _ _=>rfl,fun _ _=>rfl,fun _ _=>rfl,fun i _=>by rw [hH];exact hal_0 f g i,rfl,trivial⟩
 ·clear hwf
  obtain ⟨a,ha⟩:=a
  cbv
  refine ⟨fun hc=>?_,fun hc=>?_⟩
  ·have hlt:a<32:=by rw [hcm] at hc;exact lss_t.1 hc
   have e1:=e1 a hlt
   have e2:=e2 a hlt
   have e3:=hY a
   have hs:=fun i=>hal_s f g hlt i
   cbv
   rw [e1,hna]
   refine ⟨win hlt,⟨hlt⟩,win (by omega),⟨by show a+1≤64;omega⟩,win hlt,⟨hlt⟩,win (by omega),⟨by show Y a+1≤64;omega⟩,⟨a+1,hlt⟩,?_,by show 32 - (a+1)<32 - a;omega⟩
   cbv
   refine ⟨fun _ _=>rfl,fun _ _=>rfl,fun _ _=>rfl,fun i _=>?_,e2,trivial⟩
   show upd (upd (H f g a) a (f a)) (Y a) (g a) i=H f g (a+1) i
   rw [hY,hH]
   exact hs i
  ·have hlt:a=32:=by rw [hcm] at hc;have:=(lss_f (b:=32)).1 hc;omega
   subst hlt
   cbv
   intro i hi
   show H f g 32 i=R f g i
   rw [hH,hR]
   exact hal_e f g i hi
theorem ok_hal:Sound Tryd.prog G0 10 (halC (joinF 32)):=by
 refine sound_each (n:=23) (rs:=[.cell 4 33]) (sc:=sc_hal.1) mixed Tryd.func10 rfl rfl rfl rfl sc_hal.2 ?_
 intro vs cs r h
 unfold halC at h
 split at h
 ·rename_i f g
  cases h
  exact ⟨by simp,fun hcs hwf=>⟨_,envOK tabOK (.nil),rfl,walk_hal realOps rfl f g _ rfl _ rfl _ rfl⟩⟩
 ·cases h
def sc_sm:{ c:SC // strip (body Tryd.f9)=c }:=⟨_,by cbv⟩
end Go.Proofs.YtncmblldbnlbmaaDoor

/-
  Package sign.
-/
namespace Go.Proofs.YtncmblldbnlbmaaDoor
open Go Go.Proofs Sx
set_option maxRecDepth 100000
set_option maxHeartbeats 8000000
def v_r256:Nat × IntKind × List Int:=(10,.u32,[1116352408,1899447441,3049323471,3921009573,961987163,1508970993,2453635748,2870763221,3624381080,310598401,607225278,1426881987,1925078388,2162078206,2614888103,3248222580,3835390401,4022224774,264347078,604807628,770255983,1249150122,1555081692,1996064986,2554220882,2821834349,2952996808,3210313671,3336571891,3584528711,113926993,338241895,666307205,773529912,1294757372,1396182291,1695183700,1986661051,2177026350,2456956037,2730485921,2820302411,3259730800,3345764771,3516065817,3600352804,4094571909,275423344,430227734,506948616,659060556,883997877,958139571,1322822218,1537002063,1747873779,1955562222,2024104815,2227730452,2361852424,2428436474,2756734187,3204031479,3329325298])
def v_t256:Nat × IntKind × List Int:=(11,.i64,[2,13,22,6,11,25,7,18,3,17,19,10])
def gl_sg:GL:=[v_twice,v_two,v_eighth,v_root,v_ptzero,v_ptone,v_ptcurve,v_ptbase,v_mult,v_starts,v_rounds,v_turns,v_r256,v_t256]
abbrev Gsg:Nat→AV:=lookGL gl_sg
theorem sub_pt:Sub Gpt Gsg:=sub_of (by decide)
theorem sub_ml:Sub Gmul Gsg:=sub_of (by decide)
def sc_ver:{ c:SC // strip (body Tryd.f8)=c }:=⟨_,by cbv⟩
theorem walk_ver (A:Ops) (hA:A=realOps) (p f s:Nat→Int) (n:Nat) (cap:SO) (CA:(Nat→Int)→Bool) (DF:(Nat→Int)→Nat→Int) (DX:(Nat→Int)→Int) (NF:(Nat→Int)→Nat→Int) (NX:(Nat→Int)→Int) (KC:(Nat→Int)→(Nat→Int)→Nat→(Nat→Int)→Nat→Int) (CF:(Nat→Int)→(Nat→Int)→(Nat→Int)→Nat→Int) (CX:(Nat→Int)→Int) (V:Int) (v50:CA (fun j=>s (32+j))=false→50=V) (v51:CA (fun j=>s (32+j))=true→DX p≠0→51=V) (v52:CA (fun j=>s (32+j))=true→DX p=0→DX s≠0→52=V) (v53:CA (fun j=>s (32+j))=true→DX p=0→DX s=0→realEqA 64 (CF (KC s p n (fun j=>f (0+j))) (NF (DF p)) (fun j=>s (32+j))) (DF s)=false→53=V) (v00:CA (fun j=>s (32+j))=true→DX p=0→DX s=0→realEqA 64 (CF (KC s p n (fun j=>f (0+j))) (NF (DF p)) (fun j=>s (32+j))) (DF s)=true→0=V) :
  Walk (mkEnv A tab.1 Gsg [(24,bool32C CA),(13,decC DF DX),(25,pt1C NF NX),(15,chalC KC),(26,ptCC CF CX)] []) sc_ver.1 57 [.tmp 6] [.arr .u8 32 p,.xsl .u8 1 (.sym n) cap f,.arr .u8 64 s] (.int .i64 (.sym V)):=by
 obtain ⟨bi,cm,un,cv,na,eq⟩:=A
 have hcm:cm=realCmp:=congrArg Ops.cmp hA
 have heq:eq=realEqA:=congrArg Ops.eqA hA
 clear hA
 have nt:∀ x:Int,cm .neq x 0=true→x≠0:=fun x h=>by rw [hcm] at h;simpa [realCmp] using h
 have nf:∀ x:Int,cm .neq x 0=false→x=0:=fun x h=>by rw [hcm] at h;simpa [realCmp] using h
 refine ⟨?_⟩
 cbv
 refine ⟨fun h0=>?_,fun h0=>?_⟩
 ·cbv
  exact v50 (mnot_yes h0)
 ·have h0:=mnot_no h0
  cbv
  refine ⟨fun h1=>?_,fun h1=>?_⟩
  ·cbv
   exact v51 h0 (nt _ h1)
  ·cbv
   refine ⟨fun h2=>?_,fun h2=>?_⟩
   ·cbv
    exact v52 h0 (nf _ h1) (nt _ h2)
   ·cbv
    refine ⟨⟨Nat.le_refl _⟩,fun h3=>?_,fun h3=>?_⟩
    ·cbv
     exact v53 h0 (nf _ h1) (nf _ h2) (heq ▸ mnot_yes h3)
    ·cbv
     exact v00 h0 (nf _ h1) (nf _ h2) (heq ▸ mnot_no h3)
theorem sub_rs:Sub gR Gsg:=by
 intro g
 by_cases h9:g=9
 ·right;rw [h9];rfl
 by_cases h12:g=12
 ·right;rw [h12];rfl
 by_cases h13:g=13
 ·right;rw [h13];rfl
 have e:gR g=Gmul g:=by
  unfold gR gSha
  rw [if_neg h9,if_neg h12,if_neg h13]
 rw [e]
 exact sub_ml g
theorem ok_ver:Sound Tryd.prog Gsg 8 (verC (verF kR)):=by
 refine sound_each (n:=57) (rs:=[.tmp 6]) (sc:=sc_ver.1) mixed Tryd.func8 rfl rfl rfl rfl sc_ver.2 ?_
 intro vs cs r h
 unfold verC at h
 split at h
 ·rename_i p n cap f s
  cases h
  exact ⟨by simp,fun hcs hwf=>⟨_,envOK tabOK (.cons (ok_canonS.sub sub_ml) (.cons (ok_ptdec.sub sub_pt) (.cons (ok_ptneg.sub sub_pt) (.cons (ok_chal.sub sub_rs) (.cons (ok_ptcomb.sub sub_pt) .nil))))),rfl,walk_ver realOps rfl p f s n cap canS decF decE negF offE kR combF offE _ ver_50 ver_51 ver_52 ver_53 ver_00⟩⟩
 ·cases h
end Go.Proofs.YtncmblldbnlbmaaDoor

