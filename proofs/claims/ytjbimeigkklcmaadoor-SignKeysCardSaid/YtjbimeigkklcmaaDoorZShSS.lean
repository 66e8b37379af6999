/-
  Sum (shape s).
-/
import Derived.Test.YtjbimeigkklcmaaDoorZShLL
import Derived.Test.YtjbimeigkklcmaaDoorZShMM
namespace Go.Proofs.YtjbimeigkklcmaaDoor
open Go Go.Proofs Sx Sy
set_option maxRecDepth 100000
set_option maxHeartbeats 8000000
theorem sum_s (BG:Nat→AV) (A:Ops) (hA:A=realOps) (F:ShF) (T:Int→Int→Int→Int) (t R s:Nat→Int) (hF:F=shF realOps T t R) (ht:∀ i,i<12→0≤t i∧t i≤64) (C:List (FuncId × Contract)) (kt:Nat) (G:ShG) (hG:G=shG F) (LL:List (Nat × (HS→HAnn))) (fr:List (List HV)) (b0 b1 b2 b3 b4 b6 b8 b9:HB) (cc:Int) (v:Nat) (q h:Nat→Int) (n:Nat) (f:Nat→Int) (hn:n≤127) (BT:Int) (hBT:BT=(realBin .shl .u64 (IntKind.wrap .u64 cc) 3)) (NB:Nat) (hNB:NB=(G.p (nadd (G.p (nadd n 1) (G.t (nadd n 1))) 8) 8) / 128) (hok:OKs [b0,b1,b2,b3,b4,dgB (.sym cc) q h (.ls 7 v 1 (.sym n)),b6,.row v .u8 1 (.sym n) f,b8,b9] fr) (Q:Ex→HS→Prop)
  (hQ:∀ w0 w1 w3 w4 w5 w6 w7 w8 w9 w10 w11 w12 w13 w14 w15 w16 w17 w18 w19 w20 w21 w22 w23 w24 w25 w26 w27 w28 w29 w30 w31 w32 w33 w34 w35 w36 w37 w38 w39 w40 w41 w42 w43 w44 w45 w46 w47 w48 w49 w50 w51 w52 w53 w54 w55 w56 w57 w58 w59 w60 w61 w62 w63 w64 w65 w66 w67 w68 w69 w70 w71 w72 w73 w74 w75 w76 w77 w78,∀ Be Bt,Q .ret { fr:=fr,sl:=[w0,w1,.at (.ls 12 8 1 (.sym (G.e 8))),w3,w4,w5,w6,w7,w8,w9,w10,w11,w12,w13,w14,w15,w16,w17,w18,w19,w20,w21,w22,w23,w24,w25,w26,w27,w28,w29,w30,w31,w32,w33,w34,w35,w36,w37,w38,w39,w40,w41,w42,w43,w44,w45,w46,w47,w48,w49,w50,w51,w52,w53,w54,w55,w56,w57,w58,w59,w60,w61,w62,w63,w64,w65,w66,w67,w68,w69,w70,w71,w72,w73,w74,w75,w76,w77,w78],bl:=[b0,b1,b2,b3,b4,dgB (.sym cc) q h (.ls 7 v 1 (.sym n)),b6,.row v .u8 1 (.sym n) f,b8,b9,Be,Bt,.row 8 .u8 1 (.sym (G.e 8)) (G.lay (G.chain h (tlQ G BT n (nadd n 1) f) NB) 8)] }) :
  wpH (envS BG A F T t R s C (loopsG kt G ++ LL)) (sh_sum sh_block.1 (sh_mix sh_load.1 (sh_compress sh_cB0.1 sh_cZ.1).1).1 (sh_words (sh_lay sh_layI.1).1).1).1 { fr:=fr,sl:=(List.append [.at (.ptr 5 0 (.lit 0))] (jn 78)),bl:=[b0,b1,b2,b3,b4,dgB (.sym cc) q h (.ls 7 v 1 (.sym n)),b6,.row v .u8 1 (.sym n) f,b8,b9] } Q:=by
 have hm:=fun fr o g ff hl=>mix_s BG A hA F T t R s hF ht C (loopsG kt G ++ LL) fr b0 b1 b2 b3 b4 (dgB (.sym cc) q h (.ls 7 v 1 (.sym n))) b6 (.row v .u8 1 (.sym n) f) b8 b9 (.lit 0) q g .nil 5 (G.p (nadd (G.p (nadd n 1) (G.t (nadd n 1))) 8) 8) o ff hl
 have hw:=fun fr g ff=>words_s BG A hA F T t R s hF ht C kt G hG LL fr b0 b1 b2 b3 b4 (dgB (.sym cc) q h (.ls 7 v 1 (.sym n))) b6 (.row v .u8 1 (.sym n) f) b8 b9 (.row 5 .u8 1 (.sym (G.p (nadd (G.p (nadd n 1) (G.t (nadd n 1))) 8) 8)) ff) (.lit 0) q g .nil
 have gm:=g_m hG
 have gs:=g_s hG
 have gp:=g_p hG
 have gt:=g_t hG
 have gi:=g_i hG
 have en:(nadd n 1)=n+1:=nadd_eq n 1
 have hN:(nadd n 1)≤1000:=by omega
 have hT:=gt (nadd n 1)
 have el:(G.p (nadd n 1) (G.t (nadd n 1)))=(nadd n 1)+G.t (nadd n 1):=gp _ _
 have e3:(nadd (G.p (nadd n 1) (G.t (nadd n 1))) 8)=(G.p (nadd n 1) (G.t (nadd n 1)))+8:=nadd_eq _ 8
 have e4:(G.p (nadd (G.p (nadd n 1) (G.t (nadd n 1))) 8) 8)=(nadd (G.p (nadd n 1) (G.t (nadd n 1))) 8)+8:=gp _ _
 have hL3:(nadd (G.p (nadd n 1) (G.t (nadd n 1))) 8)≤2000:=by omega
 have hk:OKs ([b0,b1,b2,b3,b4,dgB (.sym cc) q h (.ls 7 v 1 (.sym n)),b6,.row v .u8 1 (.sym n) f,b8,b9] ++ [dgB (.lit 0) q h .nil,.row 2 .u8 1 (.sym (nadd n 1)) (oneQ n f)]) fr:=hok.app _ ⟨leB_self rfl,leB_row,trivial⟩
 have hk5:∀ g ff,OKs [b0,b1,b2,b3,b4,dgB (.sym cc) q h (.ls 7 v 1 (.sym n)),b6,.row v .u8 1 (.sym n) f,b8,b9,dgB (.lit 0) q g .nil,.row 5 .u8 1 (.sym (G.p (nadd (G.p (nadd n 1) (G.t (nadd n 1))) 8) 8)) ff] fr:=fun g ff=>(hk.setBump 11 2 5 (.row 5 .u8 1 (.sym (G.p (nadd (G.p (nadd n 1) (G.t (nadd n 1))) 8) 8)) ff) rfl rfl (by decide) leB_row).setS 10 _ rfl rfl
 generalize (sh_mix sh_load.1 (sh_compress sh_cB0.1 sh_cZ.1).1).1=cm' at hm ⊢
 generalize (sh_words (sh_lay sh_layI.1).1).1=cw' at hw ⊢
 obtain ⟨bi,cm,un,cv,na,eq⟩:=A
 have hbi:bi=realBin:=congrArg Ops.bin hA
 have hcm:cm=realCmp:=congrArg Ops.cmp hA
 have hun:un=realUn:=congrArg Ops.un hA
 have hna:na=Int.toNat:=congrArg Ops.nat hA
 have hcv:cv=fun k n=>k.wrap n:=congrArg Ops.cnv hA
 clear hA
 have eb:bi .shl .u64 (cv .u64 cc) 3=(realBin .shl .u64 (IntKind.wrap .u64 cc) 3):=by rw [hbi,hcv]
 rw [hBT,← eb] at hQ
 have t1:∀ a:Nat,a≤G.t (nadd n 1)→cm .neq (bi .rem .i64 (Int.ofNat (G.p (nadd n 1) a)) 128) 112=true→a<G.t (nadd n 1):=fun a ha h=>by rw [hcm,hbi] at h;exact pad_true hG (nadd n 1) a hN ha h
 have t2:∀ a:Nat,a≤G.t (nadd n 1)→cm .neq (bi .rem .i64 (Int.ofNat (G.p (nadd n 1) a)) 128) 112=false→a=G.t (nadd n 1):=fun a ha h=>by rw [hcm,hbi] at h;exact pad_false hG (nadd n 1) a hN ha h
 have t3:∀ a:Nat,a≤G.t (nadd n 1)→RoomFor (nadd (G.p (nadd n 1) a) 1) 1:=fun a ha=>⟨by rw [nadd_eq (G.p (nadd n 1) a) 1,gp (nadd n 1) a];omega⟩
 have t4:∀ a:Nat,nadd (G.p (nadd n 1) a) 1=G.p (nadd n 1) (a+1):=fun a=>by rw [nadd_eq (G.p (nadd n 1) a) 1,gp (nadd n 1) a,gp (nadd n 1) (a+1)];omega
 have t5:(nadd n 1)=G.p (nadd n 1) 0:=(gp _ 0).symm
 have t6:∀ j,j<(nadd n 1)*1→(oneQ n f) j=(padQ G n (nadd n 1) f) j:=fun j hj=>pad_0 hG (oneQ n f) (nadd n 1) j (by rw [Nat.mul_one] at hj;exact hj)
 have t7:∀ a j,j<nadd (G.p (nadd n 1) a) 1*1→joinF (G.p (nadd n 1) a) (padQ G n (nadd n 1) f) (fun j=>upd (fun _=>0) 0 0 (0+j)) j=(padQ G n (nadd n 1) f) j:=fun a j hj=>by
  rw [Nat.mul_one,t4 a,gp (nadd n 1) (a+1)] at hj
  exact pad_s hG (oneQ n f) (nadd n 1) a (g:=fun j=>upd (fun _=>0) 0 0 (0+j)) rfl j hj
 have r3:RoomFor (nadd (G.p (nadd n 1) (G.t (nadd n 1))) 8) 1:=⟨by omega⟩
 have u0:(7:Int)=G.i 0:=by rw [gi];rfl
 have u1:∀ a:Nat,a≤8→bi .sub .i64 (G.i a) 1=G.i (a+1):=fun a ha=>by
  rw [hbi,gi,gi,sub_i64 (by simp only [Int.ofNat_eq_natCast];omega)]
  simp only [Int.ofNat_eq_natCast]
  omega
 have u2:∀ a:Nat,a<8→bi .mul .i64 8 (G.i a)=Int.ofNat (8*(7 - a)):=fun a ha=>by
  rw [hbi,gi,mul_i64 (by simp only [Int.ofNat_eq_natCast];omega)]
  simp only [Int.ofNat_eq_natCast]
  omega
 have u3:∀ a:Nat,a<8→NonNeg (bi .mul .i64 8 (G.i a)):=fun a ha=>by rw [u2 a ha];exact ⟨Int.natCast_nonneg _⟩
 have u4:∀ a:Nat,a<8→RoomFor (nadd (G.p (nadd (G.p (nadd n 1) (G.t (nadd n 1))) 8) a) 1) 1:=fun a ha=>⟨by rw [nadd_eq (G.p (nadd (G.p (nadd n 1) (G.t (nadd n 1))) 8) a) 1,gp (nadd (G.p (nadd n 1) (G.t (nadd n 1))) 8) a];omega⟩
 have u5:∀ a:Nat,cm .geq (G.i a) 0=true→a<8:=fun a h=>by
  rw [hcm,gi] at h
  simp only [realCmp,decide_eq_true_eq,Int.ofNat_eq_natCast] at h
  omega
 have u6:∀ a:Nat,cm .geq (G.i a) 0=false→8≤a:=fun a h=>by
  rw [hcm,gi] at h
  simp only [realCmp,decide_eq_false_iff_not,Int.ofNat_eq_natCast] at h
  omega
 have u7:∀ a:Nat,nadd (G.p (nadd (G.p (nadd n 1) (G.t (nadd n 1))) 8) a) 1=G.p (nadd (G.p (nadd n 1) (G.t (nadd n 1))) 8) (a+1):=fun a=>by rw [nadd_eq (G.p (nadd (G.p (nadd n 1) (G.t (nadd n 1))) 8) a) 1,gp (nadd (G.p (nadd n 1) (G.t (nadd n 1))) 8) a,gp (nadd (G.p (nadd n 1) (G.t (nadd n 1))) 8) (a+1)];omega
 have u8:(nadd (G.p (nadd n 1) (G.t (nadd n 1))) 8)=G.p (nadd (G.p (nadd n 1) (G.t (nadd n 1))) 8) 0:=(gp _ 0).symm
 have u9:∀ j,j<(nadd (G.p (nadd n 1) (G.t (nadd n 1))) 8)*1→(preQ G n (nadd n 1) f) j=G.bits (preQ G n (nadd n 1) f) (nadd (G.p (nadd n 1) (G.t (nadd n 1))) 8) (bi .shl .u64 (cv .u64 cc) 3) 0 j:=fun j hj=>bits_0 hG _ _ _ j (by rw [Nat.mul_one] at hj;exact hj)
 have u10:∀ a j,a<8→j<nadd (G.p (nadd (G.p (nadd n 1) (G.t (nadd n 1))) 8) a) 1*1→joinF (G.p (nadd (G.p (nadd n 1) (G.t (nadd n 1))) 8) a) (G.bits (preQ G n (nadd n 1) f) (nadd (G.p (nadd n 1) (G.t (nadd n 1))) 8) (bi .shl .u64 (cv .u64 cc) 3) a) (fun j=>upd (fun _=>0) 0 (cv .u8 (bi .shr .u64 (bi .shl .u64 (cv .u64 cc) 3) (bi .mul .i64 8 (G.i a)))) (0+j)) j=G.bits (preQ G n (nadd n 1) f) (nadd (G.p (nadd n 1) (G.t (nadd n 1))) 8) (bi .shl .u64 (cv .u64 cc) 3) (a+1) j:=fun a j ha hj=>by
  rw [Nat.mul_one,u7 a,gp (nadd (G.p (nadd n 1) (G.t (nadd n 1))) 8) (a+1)] at hj
  refine Eq.trans ?_ (bits_s hG (preQ G n (nadd n 1) f) (nadd (G.p (nadd n 1) (G.t (nadd n 1))) 8) (bi .shl .u64 (cv .u64 cc) 3) a (g:=fun j=>upd (fun _=>0) 0 (cv .u8 (bi .shr .u64 (bi .shl .u64 (cv .u64 cc) 3) (bi .mul .i64 8 (G.i a)))) (0+j)) (by rw [u2 a ha,hbi,hcv];rfl) j hj)
  rw [gp (nadd (G.p (nadd n 1) (G.t (nadd n 1))) 8) a]
 have m1:∀ a:Nat,G.m a≤(G.p (nadd (G.p (nadd n 1) (G.t (nadd n 1))) 8) 8)→cm .geq (Int.ofNat (G.s (G.p (nadd (G.p (nadd n 1) (G.t (nadd n 1))) 8) 8) (G.m a))) 128=true→G.m a+128≤(G.p (nadd (G.p (nadd n 1) (G.t (nadd n 1))) 8) 8):=fun a ha h=>by
  rw [hcm,gs] at h
  simp only [realCmp,decide_eq_true_eq,Int.ofNat_eq_natCast] at h
  omega
 have m2:∀ a:Nat,G.m a≤(G.p (nadd (G.p (nadd n 1) (G.t (nadd n 1))) 8) 8)→cm .geq (Int.ofNat (G.s (G.p (nadd (G.p (nadd n 1) (G.t (nadd n 1))) 8) 8) (G.m a))) 128=false→a=NB:=fun a ha h=>by
  rw [hcm,gs,gm] at h
  rw [gm] at ha
  simp only [realCmp,decide_eq_false_iff_not,Int.ofNat_eq_natCast] at h
  omega
 have m3:0=G.m 0:=(gm 0).symm
 have m4:(G.p (nadd (G.p (nadd n 1) (G.t (nadd n 1))) 8) 8)=G.s (G.p (nadd (G.p (nadd n 1) (G.t (nadd n 1))) 8) 8) (G.m 0):=by rw [gs,gm];rfl
 have m5:∀ a:Nat,nadd (G.m a) 128=G.m (a+1):=fun a=>by rw [nadd_eq,gm,gm];omega
 have m6:∀ a:Nat,nsub (G.s (G.p (nadd (G.p (nadd n 1) (G.t (nadd n 1))) 8) 8) (G.m a)) 128=G.s (G.p (nadd (G.p (nadd n 1) (G.t (nadd n 1))) 8) 8) (G.m (a+1)):=fun a=>by rw [nsub_eq,gs,gs,gm,gm];omega
 have m7:∀ a:Nat,G.m a+128≤(G.p (nadd (G.p (nadd n 1) (G.t (nadd n 1))) 8) 8)→Upto 128 (G.s (G.p (nadd (G.p (nadd n 1) (G.t (nadd n 1))) 8) 8) (G.m a)):=fun a h=>⟨by decide,by rw [gs];omega⟩
 have m8:∀ a:Nat,G.m a+128≤(G.p (nadd (G.p (nadd n 1) (G.t (nadd n 1))) 8) 8)→G.m (a+1)≤(G.p (nadd (G.p (nadd n 1) (G.t (nadd n 1))) 8) 8):=fun a h=>by rw [gm] at h ⊢;omega
 have m9:∀ a:Nat,F.block (G.chain h (tlQ G (bi .shl .u64 (cv .u64 cc) 3) n (nadd n 1) f) a) (fun j=>(tlQ G (bi .shl .u64 (cv .u64 cc) 3) n (nadd n 1) f) (G.m a+j))=G.chain h (tlQ G (bi .shl .u64 (cv .u64 cc) 3) n (nadd n 1) f) (a+1):=fun a=>chain_s hG h (tlQ G (bi .shl .u64 (cv .u64 cc) 3) n (nadd n 1) f) a (fun j=>by rw [gm])
 have m10:∀ a:Nat,G.m a+128≤(G.p (nadd (G.p (nadd n 1) (G.t (nadd n 1))) 8) 8)→(G.p (nadd (G.p (nadd n 1) (G.t (nadd n 1))) 8) 8) - G.m (a+1)<(G.p (nadd (G.p (nadd n 1) (G.t (nadd n 1))) 8) 8) - G.m a:=fun a h=>by rw [gm,gm] at *;omega
 have m11:=chain_0 hG h (tlQ G (bi .shl .u64 (cv .u64 cc) 3) n (nadd n 1) f)
 have m12:G.m (NB)≤(G.p (nadd (G.p (nadd n 1) (G.t (nadd n 1))) 8) 8):=by rw [gm];omega
 cbv
 refine ⟨?_⟩
 cbv
 refine ⟨⟨by decide⟩,⟨by decide⟩,⟨by decide⟩,⟨by omega⟩,(⟨by rw [nadd_eq];omega⟩:RoomFor (nadd n 1) 1),⟨⟨0,Nat.zero_le _⟩,?_⟩,fun a hwf=>?_⟩
 ·cbv
  exact ⟨⟨t5,trivial⟩,hk.bump 11 2 3 _ (.row 3 .u8 1 (.sym (G.p (nadd n 1) 0)) (padQ G n (nadd n 1) f)) _ rfl rfl (by decide) ⟨rfl,rfl,t5,t6⟩⟩
 ·clear hwf
  have ha:a.1≤G.t (nadd n 1):=a.2
  cbv
  refine ⟨fun hc=>?_,fun hc=>?_⟩
  ·have hlt:=t1 a.1 ha hc
   have pm:G.t (nadd n 1) - (a.1+1)<G.t (nadd n 1) - a.1:=by omega
   cbv
   refine ⟨t3 a.1 ha,⟨a.1+1,hlt⟩,?_,pm⟩
   cbv
   exact ⟨⟨t4 a.1,trivial⟩,hk.bump 11 2 3 _ (.row 3 .u8 1 (.sym (G.p (nadd n 1) (a.1+1))) (padQ G n (nadd n 1) f)) _ rfl rfl (by decide) ⟨rfl,rfl,t4 a.1,t7 a.1⟩⟩
  ·have ea:a=⟨G.t (nadd n 1),Nat.le_refl _⟩:=Subtype.ext (t2 a.1 ha hc)
   subst ea
   clear hc ha
   cbv
   refine ⟨r3,⟨⟨0,by decide⟩,?_⟩,fun a hwf=>?_⟩
   ·cbv
    exact ⟨⟨u8,u0,trivial⟩,hk.bump 11 2 5 _ (.row 5 .u8 1 (.sym (G.p (nadd (G.p (nadd n 1) (G.t (nadd n 1))) 8) 0)) (G.bits (preQ G n (nadd n 1) f) (nadd (G.p (nadd n 1) (G.t (nadd n 1))) 8) (bi .shl .u64 (cv .u64 cc) 3) 0)) _ rfl rfl (by decide) ⟨rfl,rfl,u8,u9⟩⟩
   ·clear hwf
    cbv
    refine ⟨fun hc=>?_,fun hc=>?_⟩
    ·have hlt:=u5 a.1 hc
     have pm:8 - (a.1+1)<8 - a.1:=by omega
     have u1:=u1 a.1 a.2
     cbv
     refine ⟨u3 a.1 hlt,u4 a.1 hlt,⟨a.1+1,hlt⟩,?_,pm⟩
     cbv
     exact ⟨⟨u7 a.1,u1,trivial⟩,hk.bump 11 2 5 _ (.row 5 .u8 1 (.sym (G.p (nadd (G.p (nadd n 1) (G.t (nadd n 1))) 8) (a.1+1))) (G.bits (preQ G n (nadd n 1) f) (nadd (G.p (nadd n 1) (G.t (nadd n 1))) 8) (bi .shl .u64 (cv .u64 cc) 3) (a.1+1))) _ rfl rfl (by decide) ⟨rfl,rfl,u7 a.1,fun j hj=>u10 a.1 j hlt hj⟩⟩
    ·have ea:a=⟨8,by decide⟩:=Subtype.ext (Nat.le_antisymm a.2 (u6 a.1 hc))
     subst ea
     clear hc
     cbv
     refine ⟨⟨⟨0,(by rw [gm];exact Nat.zero_le _:G.m 0≤(G.p (nadd (G.p (nadd n 1) (G.t (nadd n 1))) 8) 8))⟩,?_⟩,fun a hwf=>?_⟩
     ·cbv
      exact ⟨⟨⟨m3.symm,m4⟩,trivial⟩,(hk5 h (tlQ G (bi .shl .u64 (cv .u64 cc) 3) n (nadd n 1) f)).le 10 (dgB (.lit 0) q (G.chain h (tlQ G (bi .shl .u64 (cv .u64 cc) 3) n (nadd n 1) f) 0) .nil) rfl ⟨⟨⟨rfl,rfl⟩,⟨rfl,rfl⟩,⟨rfl,rfl,fun _ _=>rfl⟩,⟨rfl,rfl,fun i _=>congrFun m11.symm i⟩,trivial,trivial⟩,rfl,rfl,rfl,rfl,rfl,trivial⟩⟩
     ·clear hwf
      have ha:G.m a.1≤(G.p (nadd (G.p (nadd n 1) (G.t (nadd n 1))) 8) 8):=a.2
      cbv
      refine ⟨fun hc=>?_,fun hc=>?_⟩
      ·have hlt:=m1 a.1 ha hc
       cbv
       refine ⟨m7 a.1 hlt,⟨hm _ (G.m a.1) (G.chain h (tlQ G (bi .shl .u64 (cv .u64 cc) 3) n (nadd n 1) f) a.1) (tlQ G (bi .shl .u64 (cv .u64 cc) 3) n (nadd n 1) f) hlt ((hk5 _ (tlQ G (bi .shl .u64 (cv .u64 cc) 3) n (nadd n 1) f)).pushS _ (by cbv)) _ (fun sl w'=>?_)⟩⟩
       cbv
       refine ⟨m7 a.1 hlt,⟨a.1+1,m8 a.1 hlt⟩,?_,m10 a.1 hlt⟩
       cbv
       exact ⟨⟨⟨m5 a.1,m6 a.1⟩,trivial⟩,(hk5 h (tlQ G (bi .shl .u64 (cv .u64 cc) 3) n (nadd n 1) f)).leE 10 _ (dgB (.lit 0) q (G.chain h (tlQ G (bi .shl .u64 (cv .u64 cc) 3) n (nadd n 1) f) (a.1+1)) .nil) _ rfl rfl ⟨⟨⟨rfl,rfl⟩,⟨rfl,rfl⟩,⟨rfl,rfl,fun _ _=>rfl⟩,⟨rfl,rfl,fun i _=>congrFun (m9 a.1) i⟩,trivial,trivial⟩,rfl,rfl,rfl,rfl,rfl,trivial⟩⟩
      ·have ea:a=⟨NB,m12⟩:=Subtype.ext (m2 a.1 ha hc)
       subst ea
       clear hc ha
       cbv
       refine ⟨hw _ (G.chain h (tlQ G (bi .shl .u64 (cv .u64 cc) 3) n (nadd n 1) f) (NB)) (tlQ G (bi .shl .u64 (cv .u64 cc) 3) n (nadd n 1) f) ((hk5 _ (tlQ G (bi .shl .u64 (cv .u64 cc) 3) n (nadd n 1) f)).pushS _ (by cbv)) _ (fun _ _ _ _ _ _ _ _ _ _ _ _ _ _ _ _ _ _ _ _ _=>?_)⟩
       cbv
       exact hQ _ _ _ _ _ _ _ _ _ _ _ _ _ _ _ _ _ _ _ _ _ _ _ _ _ _ _ _ _ _ _ _ _ _ _ _ _ _ _ _ _ _ _ _ _ _ _ _ _ _ _ _ _ _ _ _ _ _ _ _ _ _ _ _ _ _ _ _ _ _ _ _ _ _ _ _ _ _ _ _
end Go.Proofs.YtjbimeigkklcmaaDoor

/-
  Sum (shape e).
-/
namespace Go.Proofs.YtjbimeigkklcmaaDoor
open Go Go.Proofs Sx Sy
set_option maxRecDepth 100000
set_option maxHeartbeats 8000000
theorem sum_e (BG:Nat→AV) (A:Ops) (hA:A=realOps) (F:ShF) (T:Int→Int→Int→Int) (t R s:Nat→Int) (hF:F=shF realOps T t R) (ht:∀ i,i<12→0≤t i∧t i≤64) (C:List (FuncId × Contract)) (kt:Nat) (G:ShG) (hG:G=shG F) (LL:List (Nat × (HS→HAnn))) (fr:List (List HV)) (b0 b2:HB)  (q h:Nat→Int) (f:Nat→Int) (NB:Nat) (hNB:NB=(G.p (nadd (G.p 33 (G.t 33)) 8) 8) / 128) (hok:OKs [b0,dgB (.lit 32) q h (.ls 3 0 1 (.lit 32)),b2,.row 0 .u8 1 (.lit 32) f] fr) (Q:Ex→HS→Prop)
  (hQ:∀ w0 w1 w3 w4 w5 w6 w7 w8 w9 w10 w11 w12 w13 w14 w15 w16 w17 w18 w19 w20 w21 w22 w23 w24 w25 w26 w27 w28 w29 w30 w31 w32 w33 w34 w35 w36 w37 w38 w39 w40 w41 w42 w43 w44 w45 w46 w47 w48 w49 w50 w51 w52 w53 w54 w55 w56 w57 w58 w59 w60 w61 w62 w63 w64 w65 w66 w67 w68 w69 w70 w71 w72 w73 w74 w75 w76 w77 w78,∀ Be Bt,Q .ret { fr:=fr,sl:=[w0,w1,.at (.ls 6 8 1 (.sym (G.e 8))),w3,w4,w5,w6,w7,w8,w9,w10,w11,w12,w13,w14,w15,w16,w17,w18,w19,w20,w21,w22,w23,w24,w25,w26,w27,w28,w29,w30,w31,w32,w33,w34,w35,w36,w37,w38,w39,w40,w41,w42,w43,w44,w45,w46,w47,w48,w49,w50,w51,w52,w53,w54,w55,w56,w57,w58,w59,w60,w61,w62,w63,w64,w65,w66,w67,w68,w69,w70,w71,w72,w73,w74,w75,w76,w77,w78],bl:=[b0,dgB (.lit 32) q h (.ls 3 0 1 (.lit 32)),b2,.row 0 .u8 1 (.lit 32) f,Be,Bt,.row 8 .u8 1 (.sym (G.e 8)) (G.lay (G.chain h (tlQ G 256 32 33 f) NB) 8)] }) :
  wpH (envS BG A F T t R s C (loopsG kt G ++ LL)) (sh_sum sh_block.1 (sh_mix sh_load.1 (sh_compress sh_cB0.1 sh_cZ.1).1).1 (sh_words (sh_lay sh_layI.1).1).1).1 { fr:=fr,sl:=(List.append [.at (.ptr 1 0 (.lit 0))] (jn 78)),bl:=[b0,dgB (.lit 32) q h (.ls 3 0 1 (.lit 32)),b2,.row 0 .u8 1 (.lit 32) f] } Q:=by
 have hm:=fun fr o g ff hl=>mix_e BG A hA F T t R s hF ht C (loopsG kt G ++ LL) fr b0 (dgB (.lit 32) q h (.ls 3 0 1 (.lit 32))) b2 (.row 0 .u8 1 (.lit 32) f) (.lit 0) q g .nil 5 (G.p (nadd (G.p 33 (G.t 33)) 8) 8) o ff hl
 have hw:=fun fr g ff=>words_e BG A hA F T t R s hF ht C kt G hG LL fr b0 (dgB (.lit 32) q h (.ls 3 0 1 (.lit 32))) b2 (.row 0 .u8 1 (.lit 32) f) (.row 5 .u8 1 (.sym (G.p (nadd (G.p 33 (G.t 33)) 8) 8)) ff) (.lit 0) q g .nil
 have gm:=g_m hG
 have gs:=g_s hG
 have gp:=g_p hG
 have gt:=g_t hG
 have gi:=g_i hG
 have en:33=32+1:=rfl
 have hN:33≤1000:=by omega
 have hT:=gt 33
 have el:(G.p 33 (G.t 33))=33+G.t 33:=gp _ _
 have e3:(nadd (G.p 33 (G.t 33)) 8)=(G.p 33 (G.t 33))+8:=nadd_eq _ 8
 have e4:(G.p (nadd (G.p 33 (G.t 33)) 8) 8)=(nadd (G.p 33 (G.t 33)) 8)+8:=gp _ _
 have hL3:(nadd (G.p 33 (G.t 33)) 8)≤2000:=by omega
 have hk:OKs ([b0,dgB (.lit 32) q h (.ls 3 0 1 (.lit 32)),b2,.row 0 .u8 1 (.lit 32) f] ++ [dgB (.lit 0) q h .nil,.row 2 .u8 1 (.lit 33) (oneQ 32 f)]) fr:=hok.app _ ⟨leB_self rfl,leB_row,trivial⟩
 have hk5:∀ g ff,OKs [b0,dgB (.lit 32) q h (.ls 3 0 1 (.lit 32)),b2,.row 0 .u8 1 (.lit 32) f,dgB (.lit 0) q g .nil,.row 5 .u8 1 (.sym (G.p (nadd (G.p 33 (G.t 33)) 8) 8)) ff] fr:=fun g ff=>(hk.setBump 5 2 5 (.row 5 .u8 1 (.sym (G.p (nadd (G.p 33 (G.t 33)) 8) 8)) ff) rfl rfl (by decide) leB_row).setS 4 _ rfl rfl
 generalize (sh_mix sh_load.1 (sh_compress sh_cB0.1 sh_cZ.1).1).1=cm' at hm ⊢
 generalize (sh_words (sh_lay sh_layI.1).1).1=cw' at hw ⊢
 obtain ⟨bi,cm,un,cv,na,eq⟩:=A
 have hbi:bi=realBin:=congrArg Ops.bin hA
 have hcm:cm=realCmp:=congrArg Ops.cmp hA
 have hun:un=realUn:=congrArg Ops.un hA
 have hna:na=Int.toNat:=congrArg Ops.nat hA
 have hcv:cv=fun k n=>k.wrap n:=congrArg Ops.cnv hA
 clear hA
 have t1:∀ a:Nat,a≤G.t 33→cm .neq (bi .rem .i64 (Int.ofNat (G.p 33 a)) 128) 112=true→a<G.t 33:=fun a ha h=>by rw [hcm,hbi] at h;exact pad_true hG 33 a hN ha h
 have t2:∀ a:Nat,a≤G.t 33→cm .neq (bi .rem .i64 (Int.ofNat (G.p 33 a)) 128) 112=false→a=G.t 33:=fun a ha h=>by rw [hcm,hbi] at h;exact pad_false hG 33 a hN ha h
 have t3:∀ a:Nat,a≤G.t 33→RoomFor (nadd (G.p 33 a) 1) 1:=fun a ha=>⟨by rw [nadd_eq (G.p 33 a) 1,gp 33 a];omega⟩
 have t4:∀ a:Nat,nadd (G.p 33 a) 1=G.p 33 (a+1):=fun a=>by rw [nadd_eq (G.p 33 a) 1,gp 33 a,gp 33 (a+1)];omega
 have t5:33=G.p 33 0:=(gp _ 0).symm
 have t6:∀ j,j<33*1→(oneQ 32 f) j=(padQ G 32 33 f) j:=fun j hj=>pad_0 hG (oneQ 32 f) 33 j (by rw [Nat.mul_one] at hj;exact hj)
 have t7:∀ a j,j<nadd (G.p 33 a) 1*1→joinF (G.p 33 a) (padQ G 32 33 f) (fun j=>upd (fun _=>0) 0 0 (0+j)) j=(padQ G 32 33 f) j:=fun a j hj=>by
  rw [Nat.mul_one,t4 a,gp 33 (a+1)] at hj
  exact pad_s hG (oneQ 32 f) 33 a (g:=fun j=>upd (fun _=>0) 0 0 (0+j)) rfl j hj
 have r3:RoomFor (nadd (G.p 33 (G.t 33)) 8) 1:=⟨by omega⟩
 have u0:(7:Int)=G.i 0:=by rw [gi];rfl
 have u1:∀ a:Nat,a≤8→bi .sub .i64 (G.i a) 1=G.i (a+1):=fun a ha=>by
  rw [hbi,gi,gi,sub_i64 (by simp only [Int.ofNat_eq_natCast];omega)]
  simp only [Int.ofNat_eq_natCast]
  omega
 have u2:∀ a:Nat,a<8→bi .mul .i64 8 (G.i a)=Int.ofNat (8*(7 - a)):=fun a ha=>by
  rw [hbi,gi,mul_i64 (by simp only [Int.ofNat_eq_natCast];omega)]
  simp only [Int.ofNat_eq_natCast]
  omega
 have u3:∀ a:Nat,a<8→NonNeg (bi .mul .i64 8 (G.i a)):=fun a ha=>by rw [u2 a ha];exact ⟨Int.natCast_nonneg _⟩
 have u4:∀ a:Nat,a<8→RoomFor (nadd (G.p (nadd (G.p 33 (G.t 33)) 8) a) 1) 1:=fun a ha=>⟨by rw [nadd_eq (G.p (nadd (G.p 33 (G.t 33)) 8) a) 1,gp (nadd (G.p 33 (G.t 33)) 8) a];omega⟩
 have u5:∀ a:Nat,cm .geq (G.i a) 0=true→a<8:=fun a h=>by
  rw [hcm,gi] at h
  simp only [realCmp,decide_eq_true_eq,Int.ofNat_eq_natCast] at h
  omega
 have u6:∀ a:Nat,cm .geq (G.i a) 0=false→8≤a:=fun a h=>by
  rw [hcm,gi] at h
  simp only [realCmp,decide_eq_false_iff_not,Int.ofNat_eq_natCast] at h
  omega
 have u7:∀ a:Nat,nadd (G.p (nadd (G.p 33 (G.t 33)) 8) a) 1=G.p (nadd (G.p 33 (G.t 33)) 8) (a+1):=fun a=>by rw [nadd_eq (G.p (nadd (G.p 33 (G.t 33)) 8) a) 1,gp (nadd (G.p 33 (G.t 33)) 8) a,gp (nadd (G.p 33 (G.t 33)) 8) (a+1)];omega
 have u8:(nadd (G.p 33 (G.t 33)) 8)=G.p (nadd (G.p 33 (G.t 33)) 8) 0:=(gp _ 0).symm
 have u9:∀ j,j<(nadd (G.p 33 (G.t 33)) 8)*1→(preQ G 32 33 f) j=G.bits (preQ G 32 33 f) (nadd (G.p 33 (G.t 33)) 8) 256 0 j:=fun j hj=>bits_0 hG _ _ _ j (by rw [Nat.mul_one] at hj;exact hj)
 have u10:∀ a j,a<8→j<nadd (G.p (nadd (G.p 33 (G.t 33)) 8) a) 1*1→joinF (G.p (nadd (G.p 33 (G.t 33)) 8) a) (G.bits (preQ G 32 33 f) (nadd (G.p 33 (G.t 33)) 8) 256 a) (fun j=>upd (fun _=>0) 0 (cv .u8 (bi .shr .u64 256 (bi .mul .i64 8 (G.i a)))) (0+j)) j=G.bits (preQ G 32 33 f) (nadd (G.p 33 (G.t 33)) 8) 256 (a+1) j:=fun a j ha hj=>by
  rw [Nat.mul_one,u7 a,gp (nadd (G.p 33 (G.t 33)) 8) (a+1)] at hj
  refine Eq.trans ?_ (bits_s hG (preQ G 32 33 f) (nadd (G.p 33 (G.t 33)) 8) 256 a (g:=fun j=>upd (fun _=>0) 0 (cv .u8 (bi .shr .u64 256 (bi .mul .i64 8 (G.i a)))) (0+j)) (by rw [u2 a ha,hbi,hcv];rfl) j hj)
  rw [gp (nadd (G.p 33 (G.t 33)) 8) a]
 have m1:∀ a:Nat,G.m a≤(G.p (nadd (G.p 33 (G.t 33)) 8) 8)→cm .geq (Int.ofNat (G.s (G.p (nadd (G.p 33 (G.t 33)) 8) 8) (G.m a))) 128=true→G.m a+128≤(G.p (nadd (G.p 33 (G.t 33)) 8) 8):=fun a ha h=>by
  rw [hcm,gs] at h
  simp only [realCmp,decide_eq_true_eq,Int.ofNat_eq_natCast] at h
  omega
 have m2:∀ a:Nat,G.m a≤(G.p (nadd (G.p 33 (G.t 33)) 8) 8)→cm .geq (Int.ofNat (G.s (G.p (nadd (G.p 33 (G.t 33)) 8) 8) (G.m a))) 128=false→a=NB:=fun a ha h=>by
  rw [hcm,gs,gm] at h
  rw [gm] at ha
  simp only [realCmp,decide_eq_false_iff_not,Int.ofNat_eq_natCast] at h
  omega
 have m3:0=G.m 0:=(gm 0).symm
 have m4:(G.p (nadd (G.p 33 (G.t 33)) 8) 8)=G.s (G.p (nadd (G.p 33 (G.t 33)) 8) 8) (G.m 0):=by rw [gs,gm];rfl
 have m5:∀ a:Nat,nadd (G.m a) 128=G.m (a+1):=fun a=>by rw [nadd_eq,gm,gm];omega
 have m6:∀ a:Nat,nsub (G.s (G.p (nadd (G.p 33 (G.t 33)) 8) 8) (G.m a)) 128=G.s (G.p (nadd (G.p 33 (G.t 33)) 8) 8) (G.m (a+1)):=fun a=>by rw [nsub_eq,gs,gs,gm,gm];omega
 have m7:∀ a:Nat,G.m a+128≤(G.p (nadd (G.p 33 (G.t 33)) 8) 8)→Upto 128 (G.s (G.p (nadd (G.p 33 (G.t 33)) 8) 8) (G.m a)):=fun a h=>⟨by decide,by rw [gs];omega⟩
 have m8:∀ a:Nat,G.m a+128≤(G.p (nadd (G.p 33 (G.t 33)) 8) 8)→G.m (a+1)≤(G.p (nadd (G.p 33 (G.t 33)) 8) 8):=fun a h=>by rw [gm] at h ⊢;omega
 have m9:∀ a:Nat,F.block (G.chain h (tlQ G 256 32 33 f) a) (fun j=>(tlQ G 256 32 33 f) (G.m a+j))=G.chain h (tlQ G 256 32 33 f) (a+1):=fun a=>chain_s hG h (tlQ G 256 32 33 f) a (fun j=>by rw [gm])
 have m10:∀ a:Nat,G.m a+128≤(G.p (nadd (G.p 33 (G.t 33)) 8) 8)→(G.p (nadd (G.p 33 (G.t 33)) 8) 8) - G.m (a+1)<(G.p (nadd (G.p 33 (G.t 33)) 8) 8) - G.m a:=fun a h=>by rw [gm,gm] at *;omega
 have m11:=chain_0 hG h (tlQ G 256 32 33 f)
 have m12:G.m (NB)≤(G.p (nadd (G.p 33 (G.t 33)) 8) 8):=by rw [gm];omega
 cbv
 refine ⟨?_⟩
 cbv
 refine ⟨⟨by decide⟩,⟨by decide⟩,⟨by decide⟩,⟨by decide⟩,⟨by decide⟩,⟨⟨0,Nat.zero_le _⟩,?_⟩,fun a hwf=>?_⟩
 ·cbv
  exact ⟨⟨t5,trivial⟩,hk.bump 5 2 3 _ (.row 3 .u8 1 (.sym (G.p 33 0)) (padQ G 32 33 f)) _ rfl rfl (by decide) ⟨rfl,rfl,t5,t6⟩⟩
 ·clear hwf
  have ha:a.1≤G.t 33:=a.2
  cbv
  refine ⟨fun hc=>?_,fun hc=>?_⟩
  ·have hlt:=t1 a.1 ha hc
   have pm:G.t 33 - (a.1+1)<G.t 33 - a.1:=by omega
   cbv
   refine ⟨t3 a.1 ha,⟨a.1+1,hlt⟩,?_,pm⟩
   cbv
   exact ⟨⟨t4 a.1,trivial⟩,hk.bump 5 2 3 _ (.row 3 .u8 1 (.sym (G.p 33 (a.1+1))) (padQ G 32 33 f)) _ rfl rfl (by decide) ⟨rfl,rfl,t4 a.1,t7 a.1⟩⟩
  ·have ea:a=⟨G.t 33,Nat.le_refl _⟩:=Subtype.ext (t2 a.1 ha hc)
   subst ea
   clear hc ha
   cbv
   refine ⟨r3,⟨⟨0,by decide⟩,?_⟩,fun a hwf=>?_⟩
   ·cbv
    exact ⟨⟨u8,u0,trivial⟩,hk.bump 5 2 5 _ (.row 5 .u8 1 (.sym (G.p (nadd (G.p 33 (G.t 33)) 8) 0)) (G.bits (preQ G 32 33 f) (nadd (G.p 33 (G.t 33)) 8) 256 0)) _ rfl rfl (by decide) ⟨rfl,rfl,u8,u9⟩⟩
   ·clear hwf
    cbv
    refine ⟨fun hc=>?_,fun hc=>?_⟩
    ·have hlt:=u5 a.1 hc
     have pm:8 - (a.1+1)<8 - a.1:=by omega
     have u1:=u1 a.1 a.2
     cbv
     refine ⟨u3 a.1 hlt,u4 a.1 hlt,⟨a.1+1,hlt⟩,?_,pm⟩
     cbv
     exact ⟨⟨u7 a.1,u1,trivial⟩,hk.bump 5 2 5 _ (.row 5 .u8 1 (.sym (G.p (nadd (G.p 33 (G.t 33)) 8) (a.1+1))) (G.bits (preQ G 32 33 f) (nadd (G.p 33 (G.t 33)) 8) 256 (a.1+1))) _ rfl rfl (by decide) ⟨rfl,rfl,u7 a.1,fun j hj=>u10 a.1 j hlt hj⟩⟩
    ·have ea:a=⟨8,by decide⟩:=Subtype.ext (Nat.le_antisymm a.2 (u6 a.1 hc))
     subst ea
     clear hc
     cbv
     refine ⟨⟨⟨0,(by rw [gm];exact Nat.zero_le _:G.m 0≤(G.p (nadd (G.p 33 (G.t 33)) 8) 8))⟩,?_⟩,fun a hwf=>?_⟩
     ·cbv
      exact ⟨⟨⟨m3.symm,m4⟩,trivial⟩,(hk5 h (tlQ G 256 32 33 f)).le 4 (dgB (.lit 0) q (G.chain h (tlQ G 256 32 33 f) 0) .nil) rfl ⟨⟨⟨rfl,rfl⟩,⟨rfl,rfl⟩,⟨rfl,rfl,fun _ _=>rfl⟩,⟨rfl,rfl,fun i _=>congrFun m11.symm i⟩,trivial,trivial⟩,rfl,rfl,rfl,rfl,rfl,trivial⟩⟩
     ·clear hwf
      have ha:G.m a.1≤(G.p (nadd (G.p 33 (G.t 33)) 8) 8):=a.2
      cbv
      refine ⟨fun hc=>?_,fun hc=>?_⟩
      ·have hlt:=m1 a.1 ha hc
       cbv
       refine ⟨m7 a.1 hlt,⟨hm _ (G.m a.1) (G.chain h (tlQ G 256 32 33 f) a.1) (tlQ G 256 32 33 f) hlt ((hk5 _ (tlQ G 256 32 33 f)).pushS _ (by cbv)) _ (fun sl w'=>?_)⟩⟩
       cbv
       refine ⟨m7 a.1 hlt,⟨a.1+1,m8 a.1 hlt⟩,?_,m10 a.1 hlt⟩
       cbv
       exact ⟨⟨⟨m5 a.1,m6 a.1⟩,trivial⟩,(hk5 h (tlQ G 256 32 33 f)).leE 4 _ (dgB (.lit 0) q (G.chain h (tlQ G 256 32 33 f) (a.1+1)) .nil) _ rfl rfl ⟨⟨⟨rfl,rfl⟩,⟨rfl,rfl⟩,⟨rfl,rfl,fun _ _=>rfl⟩,⟨rfl,rfl,fun i _=>congrFun (m9 a.1) i⟩,trivial,trivial⟩,rfl,rfl,rfl,rfl,rfl,trivial⟩⟩
      ·have ea:a=⟨NB,m12⟩:=Subtype.ext (m2 a.1 ha hc)
       subst ea
       clear hc ha
       cbv
       refine ⟨hw _ (G.chain h (tlQ G 256 32 33 f) (NB)) (tlQ G 256 32 33 f) ((hk5 _ (tlQ G 256 32 33 f)).pushS _ (by cbv)) _ (fun _ _ _ _ _ _ _ _ _ _ _ _ _ _ _ _ _ _ _ _ _=>?_)⟩
       cbv
       exact hQ _ _ _ _ _ _ _ _ _ _ _ _ _ _ _ _ _ _ _ _ _ _ _ _ _ _ _ _ _ _ _ _ _ _ _ _ _ _ _ _ _ _ _ _ _ _ _ _ _ _ _ _ _ _ _ _ _ _ _ _ _ _ _ _ _ _ _ _ _ _ _ _ _ _ _ _ _ _ _ _
end Go.Proofs.YtjbimeigkklcmaaDoor

/-
  Sum (shape x).
-/
namespace Go.Proofs.YtjbimeigkklcmaaDoor
open Go Go.Proofs Sx Sy
set_option maxRecDepth 100000
set_option maxHeartbeats 8000000
theorem sum_x (BG:Nat→AV) (A:Ops) (hA:A=realOps) (F:ShF) (T:Int→Int→Int→Int) (t R s:Nat→Int) (hF:F=shF realOps T t R) (ht:∀ i,i<12→0≤t i∧t i≤64) (C:List (FuncId × Contract)) (kt:Nat) (G:ShG) (hG:G=shG F) (LL:List (Nat × (HS→HAnn))) (fr:List (List HV)) (b0 b1 b2 b3 b4 b6 b8:HB)  (q h:Nat→Int) (f:Nat→Int) (NB:Nat) (hNB:NB=(G.p (nadd (G.p 65 (G.t 65)) 8) 8) / 128) (hok:OKs [b0,b1,b2,b3,b4,dgB (.lit 64) q h (.ls 7 1 1 (.lit 64)),b6,.row 1 .u8 1 (.lit 64) f,b8] fr) (Q:Ex→HS→Prop)
  (hQ:∀ w0 w1 w3 w4 w5 w6 w7 w8 w9 w10 w11 w12 w13 w14 w15 w16 w17 w18 w19 w20 w21 w22 w23 w24 w25 w26 w27 w28 w29 w30 w31 w32 w33 w34 w35 w36 w37 w38 w39 w40 w41 w42 w43 w44 w45 w46 w47 w48 w49 w50 w51 w52 w53 w54 w55 w56 w57 w58 w59 w60 w61 w62 w63 w64 w65 w66 w67 w68 w69 w70 w71 w72 w73 w74 w75 w76 w77 w78,∀ Be Bt,Q .ret { fr:=fr,sl:=[w0,w1,.at (.ls 11 8 1 (.sym (G.e 8))),w3,w4,w5,w6,w7,w8,w9,w10,w11,w12,w13,w14,w15,w16,w17,w18,w19,w20,w21,w22,w23,w24,w25,w26,w27,w28,w29,w30,w31,w32,w33,w34,w35,w36,w37,w38,w39,w40,w41,w42,w43,w44,w45,w46,w47,w48,w49,w50,w51,w52,w53,w54,w55,w56,w57,w58,w59,w60,w61,w62,w63,w64,w65,w66,w67,w68,w69,w70,w71,w72,w73,w74,w75,w76,w77,w78],bl:=[b0,b1,b2,b3,b4,dgB (.lit 64) q h (.ls 7 1 1 (.lit 64)),b6,.row 1 .u8 1 (.lit 64) f,b8,Be,Bt,.row 8 .u8 1 (.sym (G.e 8)) (G.lay (G.chain h (tlQ G 512 64 65 f) NB) 8)] }) :
  wpH (envS BG A F T t R s C (loopsG kt G ++ LL)) (sh_sum sh_block.1 (sh_mix sh_load.1 (sh_compress sh_cB0.1 sh_cZ.1).1).1 (sh_words (sh_lay sh_layI.1).1).1).1 { fr:=fr,sl:=(List.append [.at (.ptr 5 0 (.lit 0))] (jn 78)),bl:=[b0,b1,b2,b3,b4,dgB (.lit 64) q h (.ls 7 1 1 (.lit 64)),b6,.row 1 .u8 1 (.lit 64) f,b8] } Q:=by
 have hm:=fun fr o g ff hl=>mix_x BG A hA F T t R s hF ht C (loopsG kt G ++ LL) fr b0 b1 b2 b3 b4 (dgB (.lit 64) q h (.ls 7 1 1 (.lit 64))) b6 (.row 1 .u8 1 (.lit 64) f) b8 (.lit 0) q g .nil 5 (G.p (nadd (G.p 65 (G.t 65)) 8) 8) o ff hl
 have hw:=fun fr g ff=>words_x BG A hA F T t R s hF ht C kt G hG LL fr b0 b1 b2 b3 b4 (dgB (.lit 64) q h (.ls 7 1 1 (.lit 64))) b6 (.row 1 .u8 1 (.lit 64) f) b8 (.row 5 .u8 1 (.sym (G.p (nadd (G.p 65 (G.t 65)) 8) 8)) ff) (.lit 0) q g .nil
 have gm:=g_m hG
 have gs:=g_s hG
 have gp:=g_p hG
 have gt:=g_t hG
 have gi:=g_i hG
 have en:65=64+1:=rfl
 have hN:65≤1000:=by omega
 have hT:=gt 65
 have el:(G.p 65 (G.t 65))=65+G.t 65:=gp _ _
 have e3:(nadd (G.p 65 (G.t 65)) 8)=(G.p 65 (G.t 65))+8:=nadd_eq _ 8
 have e4:(G.p (nadd (G.p 65 (G.t 65)) 8) 8)=(nadd (G.p 65 (G.t 65)) 8)+8:=gp _ _
 have hL3:(nadd (G.p 65 (G.t 65)) 8)≤2000:=by omega
 have hk:OKs ([b0,b1,b2,b3,b4,dgB (.lit 64) q h (.ls 7 1 1 (.lit 64)),b6,.row 1 .u8 1 (.lit 64) f,b8] ++ [dgB (.lit 0) q h .nil,.row 2 .u8 1 (.lit 65) (oneQ 64 f)]) fr:=hok.app _ ⟨leB_self rfl,leB_row,trivial⟩
 have hk5:∀ g ff,OKs [b0,b1,b2,b3,b4,dgB (.lit 64) q h (.ls 7 1 1 (.lit 64)),b6,.row 1 .u8 1 (.lit 64) f,b8,dgB (.lit 0) q g .nil,.row 5 .u8 1 (.sym (G.p (nadd (G.p 65 (G.t 65)) 8) 8)) ff] fr:=fun g ff=>(hk.setBump 10 2 5 (.row 5 .u8 1 (.sym (G.p (nadd (G.p 65 (G.t 65)) 8) 8)) ff) rfl rfl (by decide) leB_row).setS 9 _ rfl rfl
 generalize (sh_mix sh_load.1 (sh_compress sh_cB0.1 sh_cZ.1).1).1=cm' at hm ⊢
 generalize (sh_words (sh_lay sh_layI.1).1).1=cw' at hw ⊢
 obtain ⟨bi,cm,un,cv,na,eq⟩:=A
 have hbi:bi=realBin:=congrArg Ops.bin hA
 have hcm:cm=realCmp:=congrArg Ops.cmp hA
 have hun:un=realUn:=congrArg Ops.un hA
 have hna:na=Int.toNat:=congrArg Ops.nat hA
 have hcv:cv=fun k n=>k.wrap n:=congrArg Ops.cnv hA
 clear hA
 have t1:∀ a:Nat,a≤G.t 65→cm .neq (bi .rem .i64 (Int.ofNat (G.p 65 a)) 128) 112=true→a<G.t 65:=fun a ha h=>by rw [hcm,hbi] at h;exact pad_true hG 65 a hN ha h
 have t2:∀ a:Nat,a≤G.t 65→cm .neq (bi .rem .i64 (Int.ofNat (G.p 65 a)) 128) 112=false→a=G.t 65:=fun a ha h=>by rw [hcm,hbi] at h;exact pad_false hG 65 a hN ha h
 have t3:∀ a:Nat,a≤G.t 65→RoomFor (nadd (G.p 65 a) 1) 1:=fun a ha=>⟨by rw [nadd_eq (G.p 65 a) 1,gp 65 a];omega⟩
 have t4:∀ a:Nat,nadd (G.p 65 a) 1=G.p 65 (a+1):=fun a=>by rw [nadd_eq (G.p 65 a) 1,gp 65 a,gp 65 (a+1)];omega
 have t5:65=G.p 65 0:=(gp _ 0).symm
 have t6:∀ j,j<65*1→(oneQ 64 f) j=(padQ G 64 65 f) j:=fun j hj=>pad_0 hG (oneQ 64 f) 65 j (by rw [Nat.mul_one] at hj;exact hj)
 have t7:∀ a j,j<nadd (G.p 65 a) 1*1→joinF (G.p 65 a) (padQ G 64 65 f) (fun j=>upd (fun _=>0) 0 0 (0+j)) j=(padQ G 64 65 f) j:=fun a j hj=>by
  rw [Nat.mul_one,t4 a,gp 65 (a+1)] at hj
  exact pad_s hG (oneQ 64 f) 65 a (g:=fun j=>upd (fun _=>0) 0 0 (0+j)) rfl j hj
 have r3:RoomFor (nadd (G.p 65 (G.t 65)) 8) 1:=⟨by omega⟩
 have u0:(7:Int)=G.i 0:=by rw [gi];rfl
 have u1:∀ a:Nat,a≤8→bi .sub .i64 (G.i a) 1=G.i (a+1):=fun a ha=>by
  rw [hbi,gi,gi,sub_i64 (by simp only [Int.ofNat_eq_natCast];omega)]
  simp only [Int.ofNat_eq_natCast]
  omega
 have u2:∀ a:Nat,a<8→bi .mul .i64 8 (G.i a)=Int.ofNat (8*(7 - a)):=fun a ha=>by
  rw [hbi,gi,mul_i64 (by simp only [Int.ofNat_eq_natCast];omega)]
  simp only [Int.ofNat_eq_natCast]
  omega
 have u3:∀ a:Nat,a<8→NonNeg (bi .mul .i64 8 (G.i a)):=fun a ha=>by rw [u2 a ha];exact ⟨Int.natCast_nonneg _⟩
 have u4:∀ a:Nat,a<8→RoomFor (nadd (G.p (nadd (G.p 65 (G.t 65)) 8) a) 1) 1:=fun a ha=>⟨by rw [nadd_eq (G.p (nadd (G.p 65 (G.t 65)) 8) a) 1,gp (nadd (G.p 65 (G.t 65)) 8) a];omega⟩
 have u5:∀ a:Nat,cm .geq (G.i a) 0=true→a<8:=fun a h=>by
  rw [hcm,gi] at h
  simp only [realCmp,decide_eq_true_eq,Int.ofNat_eq_natCast] at h
  omega
 have u6:∀ a:Nat,cm .geq (G.i a) 0=false→8≤a:=fun a h=>by
  rw [hcm,gi] at h
  simp only [realCmp,decide_eq_false_iff_not,Int.ofNat_eq_natCast] at h
  omega
 have u7:∀ a:Nat,nadd (G.p (nadd (G.p 65 (G.t 65)) 8) a) 1=G.p (nadd (G.p 65 (G.t 65)) 8) (a+1):=fun a=>by rw [nadd_eq (G.p (nadd (G.p 65 (G.t 65)) 8) a) 1,gp (nadd (G.p 65 (G.t 65)) 8) a,gp (nadd (G.p 65 (G.t 65)) 8) (a+1)];omega
 have u8:(nadd (G.p 65 (G.t 65)) 8)=G.p (nadd (G.p 65 (G.t 65)) 8) 0:=(gp _ 0).symm
 have u9:∀ j,j<(nadd (G.p 65 (G.t 65)) 8)*1→(preQ G 64 65 f) j=G.bits (preQ G 64 65 f) (nadd (G.p 65 (G.t 65)) 8) 512 0 j:=fun j hj=>bits_0 hG _ _ _ j (by rw [Nat.mul_one] at hj;exact hj)
 have u10:∀ a j,a<8→j<nadd (G.p (nadd (G.p 65 (G.t 65)) 8) a) 1*1→joinF (G.p (nadd (G.p 65 (G.t 65)) 8) a) (G.bits (preQ G 64 65 f) (nadd (G.p 65 (G.t 65)) 8) 512 a) (fun j=>upd (fun _=>0) 0 (cv .u8 (bi .shr .u64 512 (bi .mul .i64 8 (G.i a)))) (0+j)) j=G.bits (preQ G 64 65 f) (nadd (G.p 65 (G.t 65)) 8) 512 (a+1) j:=fun a j ha hj=>by
  rw [Nat.mul_one,u7 a,gp (nadd (G.p 65 (G.t 65)) 8) (a+1)] at hj
  refine Eq.trans ?_ (bits_s hG (preQ G 64 65 f) (nadd (G.p 65 (G.t 65)) 8) 512 a (g:=fun j=>upd (fun _=>0) 0 (cv .u8 (bi .shr .u64 512 (bi .mul .i64 8 (G.i a)))) (0+j)) (by rw [u2 a ha,hbi,hcv];rfl) j hj)
  rw [gp (nadd (G.p 65 (G.t 65)) 8) a]
 have m1:∀ a:Nat,G.m a≤(G.p (nadd (G.p 65 (G.t 65)) 8) 8)→cm .geq (Int.ofNat (G.s (G.p (nadd (G.p 65 (G.t 65)) 8) 8) (G.m a))) 128=true→G.m a+128≤(G.p (nadd (G.p 65 (G.t 65)) 8) 8):=fun a ha h=>by
  rw [hcm,gs] at h
  simp only [realCmp,decide_eq_true_eq,Int.ofNat_eq_natCast] at h
  omega
 have m2:∀ a:Nat,G.m a≤(G.p (nadd (G.p 65 (G.t 65)) 8) 8)→cm .geq (Int.ofNat (G.s (G.p (nadd (G.p 65 (G.t 65)) 8) 8) (G.m a))) 128=false→a=NB:=fun a ha h=>by
  rw [hcm,gs,gm] at h
  rw [gm] at ha
  simp only [realCmp,decide_eq_false_iff_not,Int.ofNat_eq_natCast] at h
  omega
 have m3:0=G.m 0:=(gm 0).symm
 have m4:(G.p (nadd (G.p 65 (G.t 65)) 8) 8)=G.s (G.p (nadd (G.p 65 (G.t 65)) 8) 8) (G.m 0):=by rw [gs,gm];rfl
 have m5:∀ a:Nat,nadd (G.m a) 128=G.m (a+1):=fun a=>by rw [nadd_eq,gm,gm];omega
 have m6:∀ a:Nat,nsub (G.s (G.p (nadd (G.p 65 (G.t 65)) 8) 8) (G.m a)) 128=G.s (G.p (nadd (G.p 65 (G.t 65)) 8) 8) (G.m (a+1)):=fun a=>by rw [nsub_eq,gs,gs,gm,gm];omega
 have m7:∀ a:Nat,G.m a+128≤(G.p (nadd (G.p 65 (G.t 65)) 8) 8)→Upto 128 (G.s (G.p (nadd (G.p 65 (G.t 65)) 8) 8) (G.m a)):=fun a h=>⟨by decide,by rw [gs];omega⟩
 have m8:∀ a:Nat,G.m a+128≤(G.p (nadd (G.p 65 (G.t 65)) 8) 8)→G.m (a+1)≤(G.p (nadd (G.p 65 (G.t 65)) 8) 8):=fun a h=>by rw [gm] at h ⊢;omega
 have m9:∀ a:Nat,F.block (G.chain h (tlQ G 512 64 65 f) a) (fun j=>(tlQ G 512 64 65 f) (G.m a+j))=G.chain h (tlQ G 512 64 65 f) (a+1):=fun a=>chain_s hG h (tlQ G 512 64 65 f) a (fun j=>by rw [gm])
 have m10:∀ a:Nat,G.m a+128≤(G.p (nadd (G.p 65 (G.t 65)) 8) 8)→(G.p (nadd (G.p 65 (G.t 65)) 8) 8) - G.m (a+1)<(G.p (nadd (G.p 65 (G.t 65)) 8) 8) - G.m a:=fun a h=>by rw [gm,gm] at *;omega
 have m11:=chain_0 hG h (tlQ G 512 64 65 f)
 have m12:G.m (NB)≤(G.p (nadd (G.p 65 (G.t 65)) 8) 8):=by rw [gm];omega
 cbv
 refine ⟨?_⟩
 cbv
 refine ⟨⟨by decide⟩,⟨by decide⟩,⟨by decide⟩,⟨by decide⟩,⟨by decide⟩,⟨⟨0,Nat.zero_le _⟩,?_⟩,fun a hwf=>?_⟩
 ·cbv
  exact ⟨⟨t5,trivial⟩,hk.bump 10 2 3 _ (.row 3 .u8 1 (.sym (G.p 65 0)) (padQ G 64 65 f)) _ rfl rfl (by decide) ⟨rfl,rfl,t5,t6⟩⟩
 ·clear hwf
  have ha:a.1≤G.t 65:=a.2
  cbv
  refine ⟨fun hc=>?_,fun hc=>?_⟩
  ·have hlt:=t1 a.1 ha hc
   have pm:G.t 65 - (a.1+1)<G.t 65 - a.1:=by omega
   cbv
   refine ⟨t3 a.1 ha,⟨a.1+1,hlt⟩,?_,pm⟩
   cbv
   exact ⟨⟨t4 a.1,trivial⟩,hk.bump 10 2 3 _ (.row 3 .u8 1 (.sym (G.p 65 (a.1+1))) (padQ G 64 65 f)) _ rfl rfl (by decide) ⟨rfl,rfl,t4 a.1,t7 a.1⟩⟩
  ·have ea:a=⟨G.t 65,Nat.le_refl _⟩:=Subtype.ext (t2 a.1 ha hc)
   subst ea
   clear hc ha
   cbv
   refine ⟨r3,⟨⟨0,by decide⟩,?_⟩,fun a hwf=>?_⟩
   ·cbv
    exact ⟨⟨u8,u0,trivial⟩,hk.bump 10 2 5 _ (.row 5 .u8 1 (.sym (G.p (nadd (G.p 65 (G.t 65)) 8) 0)) (G.bits (preQ G 64 65 f) (nadd (G.p 65 (G.t 65)) 8) 512 0)) _ rfl rfl (by decide) ⟨rfl,rfl,u8,u9⟩⟩
   ·clear hwf
    cbv
    refine ⟨fun hc=>?_,fun hc=>?_⟩
    ·have hlt:=u5 a.1 hc
     have pm:8 - (a.1+1)<8 - a.1:=by omega
     have u1:=u1 a.1 a.2
     cbv
     refine ⟨u3 a.1 hlt,u4 a.1 hlt,⟨a.1+1,hlt⟩,?_,pm⟩
     cbv
     exact ⟨⟨u7 a.1,u1,trivial⟩,hk.bump 10 2 5 _ (.row 5 .u8 1 (.sym (G.p (nadd (G.p 65 (G.t 65)) 8) (a.1+1))) (G.bits (preQ G 64 65 f) (nadd (G.p 65 (G.t 65)) 8) 512 (a.1+1))) _ rfl rfl (by decide) ⟨rfl,rfl,u7 a.1,fun j hj=>u10 a.1 j hlt hj⟩⟩
    ·have ea:a=⟨8,by decide⟩:=Subtype.ext (Nat.le_antisymm a.2 (u6 a.1 hc))
     subst ea
     clear hc
     cbv
     refine ⟨⟨⟨0,(by rw [gm];exact Nat.zero_le _:G.m 0≤(G.p (nadd (G.p 65 (G.t 65)) 8) 8))⟩,?_⟩,fun a hwf=>?_⟩
     ·cbv
      exact ⟨⟨⟨m3.symm,m4⟩,trivial⟩,(hk5 h (tlQ G 512 64 65 f)).le 9 (dgB (.lit 0) q (G.chain h (tlQ G 512 64 65 f) 0) .nil) rfl ⟨⟨⟨rfl,rfl⟩,⟨rfl,rfl⟩,⟨rfl,rfl,fun _ _=>rfl⟩,⟨rfl,rfl,fun i _=>congrFun m11.symm i⟩,trivial,trivial⟩,rfl,rfl,rfl,rfl,rfl,trivial⟩⟩
     ·clear hwf
      have ha:G.m a.1≤(G.p (nadd (G.p 65 (G.t 65)) 8) 8):=a.2
      cbv
      refine ⟨fun hc=>?_,fun hc=>?_⟩
      ·have hlt:=m1 a.1 ha hc
       cbv
       refine ⟨m7 a.1 hlt,⟨hm _ (G.m a.1) (G.chain h (tlQ G 512 64 65 f) a.1) (tlQ G 512 64 65 f) hlt ((hk5 _ (tlQ G 512 64 65 f)).pushS _ (by cbv)) _ (fun sl w'=>?_)⟩⟩
       cbv
       refine ⟨m7 a.1 hlt,⟨a.1+1,m8 a.1 hlt⟩,?_,m10 a.1 hlt⟩
       cbv
       exact ⟨⟨⟨m5 a.1,m6 a.1⟩,trivial⟩,(hk5 h (tlQ G 512 64 65 f)).leE 9 _ (dgB (.lit 0) q (G.chain h (tlQ G 512 64 65 f) (a.1+1)) .nil) _ rfl rfl ⟨⟨⟨rfl,rfl⟩,⟨rfl,rfl⟩,⟨rfl,rfl,fun _ _=>rfl⟩,⟨rfl,rfl,fun i _=>congrFun (m9 a.1) i⟩,trivial,trivial⟩,rfl,rfl,rfl,rfl,rfl,trivial⟩⟩
      ·have ea:a=⟨NB,m12⟩:=Subtype.ext (m2 a.1 ha hc)
       subst ea
       clear hc ha
       cbv
       refine ⟨hw _ (G.chain h (tlQ G 512 64 65 f) (NB)) (tlQ G 512 64 65 f) ((hk5 _ (tlQ G 512 64 65 f)).pushS _ (by cbv)) _ (fun _ _ _ _ _ _ _ _ _ _ _ _ _ _ _ _ _ _ _ _ _=>?_)⟩
       cbv
       exact hQ _ _ _ _ _ _ _ _ _ _ _ _ _ _ _ _ _ _ _ _ _ _ _ _ _ _ _ _ _ _ _ _ _ _ _ _ _ _ _ _ _ _ _ _ _ _ _ _ _ _ _ _ _ _ _ _ _ _ _ _ _ _ _ _ _ _ _ _ _ _ _ _ _ _ _ _ _ _ _ _
end Go.Proofs.YtjbimeigkklcmaaDoor

/-
  Sum (shape n).
-/
namespace Go.Proofs.YtjbimeigkklcmaaDoor
open Go Go.Proofs Sx Sy
set_option maxRecDepth 100000
set_option maxHeartbeats 8000000
theorem sum_n (BG:Nat→AV) (A:Ops) (hA:A=realOps) (F:ShF) (T:Int→Int→Int→Int) (t R s:Nat→Int) (hF:F=shF realOps T t R) (ht:∀ i,i<12→0≤t i∧t i≤64) (C:List (FuncId × Contract)) (kt:Nat) (G:ShG) (hG:G=shG F) (LL:List (Nat × (HS→HAnn))) (fr:List (List HV)) (b0 b1 b2 b3 b4 b5 b6 b8 b10:HB) (cc:Int) (v:Nat) (q h:Nat→Int) (n:Nat) (f:Nat→Int) (hn:n≤127) (BT:Int) (hBT:BT=(realBin .shl .u64 (IntKind.wrap .u64 cc) 3)) (NB:Nat) (hNB:NB=(G.p (nadd (G.p (nadd n 1) (G.t (nadd n 1))) 8) 8) / 128) (hok:OKs [b0,b1,b2,b3,b4,b5,b6,dgB (.sym cc) q h (.ls 9 v 1 (.sym n)),b8,.row v .u8 1 (.sym n) f,b10] fr) (Q:Ex→HS→Prop)
  (hQ:∀ w0 w1 w3 w4 w5 w6 w7 w8 w9 w10 w11 w12 w13 w14 w15 w16 w17 w18 w19 w20 w21 w22 w23 w24 w25 w26 w27 w28 w29 w30 w31 w32 w33 w34 w35 w36 w37 w38 w39 w40 w41 w42 w43 w44 w45 w46 w47 w48 w49 w50 w51 w52 w53 w54 w55 w56 w57 w58 w59 w60 w61 w62 w63 w64 w65 w66 w67 w68 w69 w70 w71 w72 w73 w74 w75 w76 w77 w78,∀ Be Bt,Q .ret { fr:=fr,sl:=[w0,w1,.at (.ls 13 8 1 (.sym (G.e 8))),w3,w4,w5,w6,w7,w8,w9,w10,w11,w12,w13,w14,w15,w16,w17,w18,w19,w20,w21,w22,w23,w24,w25,w26,w27,w28,w29,w30,w31,w32,w33,w34,w35,w36,w37,w38,w39,w40,w41,w42,w43,w44,w45,w46,w47,w48,w49,w50,w51,w52,w53,w54,w55,w56,w57,w58,w59,w60,w61,w62,w63,w64,w65,w66,w67,w68,w69,w70,w71,w72,w73,w74,w75,w76,w77,w78],bl:=[b0,b1,b2,b3,b4,b5,b6,dgB (.sym cc) q h (.ls 9 v 1 (.sym n)),b8,.row v .u8 1 (.sym n) f,b10,Be,Bt,.row 8 .u8 1 (.sym (G.e 8)) (G.lay (G.chain h (tlQ G BT n (nadd n 1) f) NB) 8)] }) :
  wpH (envS BG A F T t R s C (loopsG kt G ++ LL)) (sh_sum sh_block.1 (sh_mix sh_load.1 (sh_compress sh_cB0.1 sh_cZ.1).1).1 (sh_words (sh_lay sh_layI.1).1).1).1 { fr:=fr,sl:=(List.append [.at (.ptr 7 0 (.lit 0))] (jn 78)),bl:=[b0,b1,b2,b3,b4,b5,b6,dgB (.sym cc) q h (.ls 9 v 1 (.sym n)),b8,.row v .u8 1 (.sym n) f,b10] } Q:=by
 have hm:=fun fr o g ff hl=>mix_n BG A hA F T t R s hF ht C (loopsG kt G ++ LL) fr b0 b1 b2 b3 b4 b5 b6 (dgB (.sym cc) q h (.ls 9 v 1 (.sym n))) b8 (.row v .u8 1 (.sym n) f) b10 (.lit 0) q g .nil 5 (G.p (nadd (G.p (nadd n 1) (G.t (nadd n 1))) 8) 8) o ff hl
 have hw:=fun fr g ff=>words_n BG A hA F T t R s hF ht C kt G hG LL fr b0 b1 b2 b3 b4 b5 b6 (dgB (.sym cc) q h (.ls 9 v 1 (.sym n))) b8 (.row v .u8 1 (.sym n) f) b10 (.row 5 .u8 1 (.sym (G.p (nadd (G.p (nadd n 1) (G.t (nadd n 1))) 8) 8)) ff) (.lit 0) q g .nil
 have gm:=g_m hG
 have gs:=g_s hG
 have gp:=g_p hG
 have gt:=g_t hG
 have gi:=g_i hG
 have en:(nadd n 1)=n+1:=nadd_eq n 1
 have hN:(nadd n 1)≤1000:=by omega
 have hT:=gt (nadd n 1)
 have el:(G.p (nadd n 1) (G.t (nadd n 1)))=(nadd n 1)+G.t (nadd n 1):=gp _ _
 have e3:(nadd (G.p (nadd n 1) (G.t (nadd n 1))) 8)=(G.p (nadd n 1) (G.t (nadd n 1)))+8:=nadd_eq _ 8
 have e4:(G.p (nadd (G.p (nadd n 1) (G.t (nadd n 1))) 8) 8)=(nadd (G.p (nadd n 1) (G.t (nadd n 1))) 8)+8:=gp _ _
 have hL3:(nadd (G.p (nadd n 1) (G.t (nadd n 1))) 8)≤2000:=by omega
 have hk:OKs ([b0,b1,b2,b3,b4,b5,b6,dgB (.sym cc) q h (.ls 9 v 1 (.sym n)),b8,.row v .u8 1 (.sym n) f,b10] ++ [dgB (.lit 0) q h .nil,.row 2 .u8 1 (.sym (nadd n 1)) (oneQ n f)]) fr:=hok.app _ ⟨leB_self rfl,leB_row,trivial⟩
 have hk5:∀ g ff,OKs [b0,b1,b2,b3,b4,b5,b6,dgB (.sym cc) q h (.ls 9 v 1 (.sym n)),b8,.row v .u8 1 (.sym n) f,b10,dgB (.lit 0) q g .nil,.row 5 .u8 1 (.sym (G.p (nadd (G.p (nadd n 1) (G.t (nadd n 1))) 8) 8)) ff] fr:=fun g ff=>(hk.setBump 12 2 5 (.row 5 .u8 1 (.sym (G.p (nadd (G.p (nadd n 1) (G.t (nadd n 1))) 8) 8)) ff) rfl rfl (by decide) leB_row).setS 11 _ rfl rfl
 generalize (sh_mix sh_load.1 (sh_compress sh_cB0.1 sh_cZ.1).1).1=cm' at hm ⊢
 generalize (sh_words (sh_lay sh_layI.1).1).1=cw' at hw ⊢
 obtain ⟨bi,cm,un,cv,na,eq⟩:=A
 have hbi:bi=realBin:=congrArg Ops.bin hA
 have hcm:cm=realCmp:=congrArg Ops.cmp hA
 have hun:un=realUn:=congrArg Ops.un hA
 have hna:na=Int.toNat:=congrArg Ops.nat hA
 have hcv:cv=fun k n=>k.wrap n:=congrArg Ops.cnv hA
 clear hA
 have eb:bi .shl .u64 (cv .u64 cc) 3=(realBin .shl .u64 (IntKind.wrap .u64 cc) 3):=by rw [hbi,hcv]
 rw [hBT,← eb] at hQ
 have t1:∀ a:Nat,a≤G.t (nadd n 1)→cm .neq (bi .rem .i64 (Int.ofNat (G.p (nadd n 1) a)) 128) 112=true→a<G.t (nadd n 1):=fun a ha h=>by rw [hcm,hbi] at h;exact pad_true hG (nadd n 1) a hN ha h
 have t2:∀ a:Nat,a≤G.t (nadd n 1)→cm .neq (bi .rem .i64 (Int.ofNat (G.p (nadd n 1) a)) 128) 112=false→a=G.t (nadd n 1):=fun a ha h=>by rw [hcm,hbi] at h;exact pad_false hG (nadd n 1) a hN ha h
 have t3:∀ a:Nat,a≤G.t (nadd n 1)→RoomFor (nadd (G.p (nadd n 1) a) 1) 1:=fun a ha=>⟨by rw [nadd_eq (G.p (nadd n 1) a) 1,gp (nadd n 1) a];omega⟩
 have t4:∀ a:Nat,nadd (G.p (nadd n 1) a) 1=G.p (nadd n 1) (a+1):=fun a=>by rw [nadd_eq (G.p (nadd n 1) a) 1,gp (nadd n 1) a,gp (nadd n 1) (a+1)];omega
 have t5:(nadd n 1)=G.p (nadd n 1) 0:=(gp _ 0).symm
 have t6:∀ j,j<(nadd n 1)*1→(oneQ n f) j=(padQ G n (nadd n 1) f) j:=fun j hj=>pad_0 hG (oneQ n f) (nadd n 1) j (by rw [Nat.mul_one] at hj;exact hj)
 have t7:∀ a j,j<nadd (G.p (nadd n 1) a) 1*1→joinF (G.p (nadd n 1) a) (padQ G n (nadd n 1) f) (fun j=>upd (fun _=>0) 0 0 (0+j)) j=(padQ G n (nadd n 1) f) j:=fun a j hj=>by
  rw [Nat.mul_one,t4 a,gp (nadd n 1) (a+1)] at hj
  exact pad_s hG (oneQ n f) (nadd n 1) a (g:=fun j=>upd (fun _=>0) 0 0 (0+j)) rfl j hj
 have r3:RoomFor (nadd (G.p (nadd n 1) (G.t (nadd n 1))) 8) 1:=⟨by omega⟩
 have u0:(7:Int)=G.i 0:=by rw [gi];rfl
 have u1:∀ a:Nat,a≤8→bi .sub .i64 (G.i a) 1=G.i (a+1):=fun a ha=>by
  rw [hbi,gi,gi,sub_i64 (by simp only [Int.ofNat_eq_natCast];omega)]
  simp only [Int.ofNat_eq_natCast]
  omega
 have u2:∀ a:Nat,a<8→bi .mul .i64 8 (G.i a)=Int.ofNat (8*(7 - a)):=fun a ha=>by
  rw [hbi,gi,mul_i64 (by simp only [Int.ofNat_eq_natCast];omega)]
  simp only [Int.ofNat_eq_natCast]
  omega
 have u3:∀ a:Nat,a<8→NonNeg (bi .mul .i64 8 (G.i a)):=fun a ha=>by rw [u2 a ha];exact ⟨Int.natCast_nonneg _⟩
 have u4:∀ a:Nat,a<8→RoomFor (nadd (G.p (nadd (G.p (nadd n 1) (G.t (nadd n 1))) 8) a) 1) 1:=fun a ha=>⟨by rw [nadd_eq (G.p (nadd (G.p (nadd n 1) (G.t (nadd n 1))) 8) a) 1,gp (nadd (G.p (nadd n 1) (G.t (nadd n 1))) 8) a];omega⟩
 have u5:∀ a:Nat,cm .geq (G.i a) 0=true→a<8:=fun a h=>by
  rw [hcm,gi] at h
  simp only [realCmp,decide_eq_true_eq,Int.ofNat_eq_natCast] at h
  omega
 have u6:∀ a:Nat,cm .geq (G.i a) 0=false→8≤a:=fun a h=>by
  rw [hcm,gi] at h
  simp only [realCmp,decide_eq_false_iff_not,Int.ofNat_eq_natCast] at h
  omega
 have u7:∀ a:Nat,nadd (G.p (nadd (G.p (nadd n 1) (G.t (nadd n 1))) 8) a) 1=G.p (nadd (G.p (nadd n 1) (G.t (nadd n 1))) 8) (a+1):=fun a=>by rw [nadd_eq (G.p (nadd (G.p (nadd n 1) (G.t (nadd n 1))) 8) a) 1,gp (nadd (G.p (nadd n 1) (G.t (nadd n 1))) 8) a,gp (nadd (G.p (nadd n 1) (G.t (nadd n 1))) 8) (a+1)];omega
 have u8:(nadd (G.p (nadd n 1) (G.t (nadd n 1))) 8)=G.p (nadd (G.p (nadd n 1) (G.t (nadd n 1))) 8) 0:=(gp _ 0).symm
 have u9:∀ j,j<(nadd (G.p (nadd n 1) (G.t (nadd n 1))) 8)*1→(preQ G n (nadd n 1) f) j=G.bits (preQ G n (nadd n 1) f) (nadd (G.p (nadd n 1) (G.t (nadd n 1))) 8) (bi .shl .u64 (cv .u64 cc) 3) 0 j:=fun j hj=>bits_0 hG _ _ _ j (by rw [Nat.mul_one] at hj;exact hj)
 have u10:∀ a j,a<8→j<nadd (G.p (nadd (G.p (nadd n 1) (G.t (nadd n 1))) 8) a) 1*1→joinF (G.p (nadd (G.p (nadd n 1) (G.t (nadd n 1))) 8) a) (G.bits (preQ G n (nadd n 1) f) (nadd (G.p (nadd n 1) (G.t (nadd n 1))) 8) (bi .shl .u64 (cv .u64 cc) 3) a) (fun j=>upd (fun _=>0) 0 (cv .u8 (bi .shr .u64 (bi .shl .u64 (cv .u64 cc) 3) (bi .mul .i64 8 (G.i a)))) (0+j)) j=G.bits (preQ G n (nadd n 1) f) (nadd (G.p (nadd n 1) (G.t (nadd n 1))) 8) (bi .shl .u64 (cv .u64 cc) 3) (a+1) j:=fun a j ha hj=>by
  rw [Nat.mul_one,u7 a,gp (nadd (G.p (nadd n 1) (G.t (nadd n 1))) 8) (a+1)] at hj
  refine Eq.trans ?_ (bits_s hG (preQ G n (nadd n 1) f) (nadd (G.p (nadd n 1) (G.t (nadd n 1))) 8) (bi .shl .u64 (cv .u64 cc) 3) a (g:=fun j=>upd (fun _=>0) 0 (cv .u8 (bi .shr .u64 (bi .shl .u64 (cv .u64 cc) 3) (bi .mul .i64 8 (G.i a)))) (0+j)) (by rw [u2 a ha,hbi,hcv];rfl) j hj)
  rw [gp (nadd (G.p (nadd n 1) (G.t (nadd n 1))) 8) a]
 have m1:∀ a:Nat,G.m a≤(G.p (nadd (G.p (nadd n 1) (G.t (nadd n 1))) 8) 8)→cm .geq (Int.ofNat (G.s (G.p (nadd (G.p (nadd n 1) (G.t (nadd n 1))) 8) 8) (G.m a))) 128=true→G.m a+128≤(G.p (nadd (G.p (nadd n 1) (G.t (nadd n 1))) 8) 8):=fun a ha h=>by
  rw [hcm,gs] at h
  simp only [realCmp,decide_eq_true_eq,Int.ofNat_eq_natCast] at h
  omega
 have m2:∀ a:Nat,G.m a≤(G.p (nadd (G.p (nadd n 1) (G.t (nadd n 1))) 8) 8)→cm .geq (Int.ofNat (G.s (G.p (nadd (G.p (nadd n 1) (G.t (nadd n 1))) 8) 8) (G.m a))) 128=false→a=NB:=fun a ha h=>by
  rw [hcm,gs,gm] at h
  rw [gm] at ha
  simp only [realCmp,decide_eq_false_iff_not,Int.ofNat_eq_natCast] at h
  omega
 have m3:0=G.m 0:=(gm 0).symm
 have m4:(G.p (nadd (G.p (nadd n 1) (G.t (nadd n 1))) 8) 8)=G.s (G.p (nadd (G.p (nadd n 1) (G.t (nadd n 1))) 8) 8) (G.m 0):=by rw [gs,gm];rfl
 have m5:∀ a:Nat,nadd (G.m a) 128=G.m (a+1):=fun a=>by rw [nadd_eq,gm,gm];omega
 have m6:∀ a:Nat,nsub (G.s (G.p (nadd (G.p (nadd n 1) (G.t (nadd n 1))) 8) 8) (G.m a)) 128=G.s (G.p (nadd (G.p (nadd n 1) (G.t (nadd n 1))) 8) 8) (G.m (a+1)):=fun a=>by rw [nsub_eq,gs,gs,gm,gm];omega
 have m7:∀ a:Nat,G.m a+128≤(G.p (nadd (G.p (nadd n 1) (G.t (nadd n 1))) 8) 8)→Upto 128 (G.s (G.p (nadd (G.p (nadd n 1) (G.t (nadd n 1))) 8) 8) (G.m a)):=fun a h=>⟨by decide,by rw [gs];omega⟩
 have m8:∀ a:Nat,G.m a+128≤(G.p (nadd (G.p (nadd n 1) (G.t (nadd n 1))) 8) 8)→G.m (a+1)≤(G.p (nadd (G.p (nadd n 1) (G.t (nadd n 1))) 8) 8):=fun a h=>by rw [gm] at h ⊢;omega
 have m9:∀ a:Nat,F.block (G.chain h (tlQ G (bi .shl .u64 (cv .u64 cc) 3) n (nadd n 1) f) a) (fun j=>(tlQ G (bi .shl .u64 (cv .u64 cc) 3) n (nadd n 1) f) (G.m a+j))=G.chain h (tlQ G (bi .shl .u64 (cv .u64 cc) 3) n (nadd n 1) f) (a+1):=fun a=>chain_s hG h (tlQ G (bi .shl .u64 (cv .u64 cc) 3) n (nadd n 1) f) a (fun j=>by rw [gm])
 have m10:∀ a:Nat,G.m a+128≤(G.p (nadd (G.p (nadd n 1) (G.t (nadd n 1))) 8) 8)→(G.p (nadd (G.p (nadd n 1) (G.t (nadd n 1))) 8) 8) - G.m (a+1)<(G.p (nadd (G.p (nadd n 1) (G.t (nadd n 1))) 8) 8) - G.m a:=fun a h=>by rw [gm,gm] at *;omega
 have m11:=chain_0 hG h (tlQ G (bi .shl .u64 (cv .u64 cc) 3) n (nadd n 1) f)
 have m12:G.m (NB)≤(G.p (nadd (G.p (nadd n 1) (G.t (nadd n 1))) 8) 8):=by rw [gm];omega
 cbv
 refine ⟨?_⟩
 cbv
 refine ⟨⟨by decide⟩,⟨by decide⟩,⟨by decide⟩,⟨by omega⟩,(⟨by rw [nadd_eq];omega⟩:RoomFor (nadd n 1) 1),⟨⟨0,Nat.zero_le _⟩,?_⟩,fun a hwf=>?_⟩
 ·cbv
  exact ⟨⟨t5,trivial⟩,hk.bump 12 2 3 _ (.row 3 .u8 1 (.sym (G.p (nadd n 1) 0)) (padQ G n (nadd n 1) f)) _ rfl rfl (by decide) ⟨rfl,rfl,t5,t6⟩⟩
 ·clear hwf
  have ha:a.1≤G.t (nadd n 1):=a.2
  cbv
  refine ⟨fun hc=>?_,fun hc=>?_⟩
  ·have hlt:=t1 a.1 ha hc
   have pm:G.t (nadd n 1) - (a.1+1)<G.t (nadd n 1) - a.1:=by omega
   cbv
   refine ⟨t3 a.1 ha,⟨a.1+1,hlt⟩,?_,pm⟩
   cbv
   exact ⟨⟨t4 a.1,trivial⟩,hk.bump 12 2 3 _ (.row 3 .u8 1 (.sym (G.p (nadd n 1) (a.1+1))) (padQ G n (nadd n 1) f)) _ rfl rfl (by decide) ⟨rfl,rfl,t4 a.1,t7 a.1⟩⟩
  ·have ea:a=⟨G.t (nadd n 1),Nat.le_refl _⟩:=Subtype.ext (t2 a.1 ha hc)
   subst ea
   clear hc ha
   cbv
   refine ⟨r3,⟨⟨0,by decide⟩,?_⟩,fun a hwf=>?_⟩
   ·cbv
    exact ⟨⟨u8,u0,trivial⟩,hk.bump 12 2 5 _ (.row 5 .u8 1 (.sym (G.p (nadd (G.p (nadd n 1) (G.t (nadd n 1))) 8) 0)) (G.bits (preQ G n (nadd n 1) f) (nadd (G.p (nadd n 1) (G.t (nadd n 1))) 8) (bi .shl .u64 (cv .u64 cc) 3) 0)) _ rfl rfl (by decide) ⟨rfl,rfl,u8,u9⟩⟩
   ·clear hwf
    cbv
    refine ⟨fun hc=>?_,fun hc=>?_⟩
    ·have hlt:=u5 a.1 hc
     have pm:8 - (a.1+1)<8 - a.1:=by omega
     have u1:=u1 a.1 a.2
     cbv
     refine ⟨u3 a.1 hlt,u4 a.1 hlt,⟨a.1+1,hlt⟩,?_,pm⟩
     cbv
     exact ⟨⟨u7 a.1,u1,trivial⟩,hk.bump 12 2 5 _ (.row 5 .u8 1 (.sym (G.p (nadd (G.p (nadd n 1) (G.t (nadd n 1))) 8) (a.1+1))) (G.bits (preQ G n (nadd n 1) f) (nadd (G.p (nadd n 1) (G.t (nadd n 1))) 8) (bi .shl .u64 (cv .u64 cc) 3) (a.1+1))) _ rfl rfl (by decide) ⟨rfl,rfl,u7 a.1,fun j hj=>u10 a.1 j hlt hj⟩⟩
    ·have ea:a=⟨8,by decide⟩:=Subtype.ext (Nat.le_antisymm a.2 (u6 a.1 hc))
     subst ea
     clear hc
     cbv
     refine ⟨⟨⟨0,(by rw [gm];exact Nat.zero_le _:G.m 0≤(G.p (nadd (G.p (nadd n 1) (G.t (nadd n 1))) 8) 8))⟩,?_⟩,fun a hwf=>?_⟩
     ·cbv
      exact ⟨⟨⟨m3.symm,m4⟩,trivial⟩,(hk5 h (tlQ G (bi .shl .u64 (cv .u64 cc) 3) n (nadd n 1) f)).le 11 (dgB (.lit 0) q (G.chain h (tlQ G (bi .shl .u64 (cv .u64 cc) 3) n (nadd n 1) f) 0) .nil) rfl ⟨⟨⟨rfl,rfl⟩,⟨rfl,rfl⟩,⟨rfl,rfl,fun _ _=>rfl⟩,⟨rfl,rfl,fun i _=>congrFun m11.symm i⟩,trivial,trivial⟩,rfl,rfl,rfl,rfl,rfl,trivial⟩⟩
     ·clear hwf
      have ha:G.m a.1≤(G.p (nadd (G.p (nadd n 1) (G.t (nadd n 1))) 8) 8):=a.2
      cbv
      refine ⟨fun hc=>?_,fun hc=>?_⟩
      ·have hlt:=m1 a.1 ha hc
       cbv
       refine ⟨m7 a.1 hlt,⟨hm _ (G.m a.1) (G.chain h (tlQ G (bi .shl .u64 (cv .u64 cc) 3) n (nadd n 1) f) a.1) (tlQ G (bi .shl .u64 (cv .u64 cc) 3) n (nadd n 1) f) hlt ((hk5 _ (tlQ G (bi .shl .u64 (cv .u64 cc) 3) n (nadd n 1) f)).pushS _ (by cbv)) _ (fun sl w'=>?_)⟩⟩
       cbv
       refine ⟨m7 a.1 hlt,⟨a.1+1,m8 a.1 hlt⟩,?_,m10 a.1 hlt⟩
       cbv
       exact ⟨⟨⟨m5 a.1,m6 a.1⟩,trivial⟩,(hk5 h (tlQ G (bi .shl .u64 (cv .u64 cc) 3) n (nadd n 1) f)).leE 11 _ (dgB (.lit 0) q (G.chain h (tlQ G (bi .shl .u64 (cv .u64 cc) 3) n (nadd n 1) f) (a.1+1)) .nil) _ rfl rfl ⟨⟨⟨rfl,rfl⟩,⟨rfl,rfl⟩,⟨rfl,rfl,fun _ _=>rfl⟩,⟨rfl,rfl,fun i _=>congrFun (m9 a.1) i⟩,trivial,trivial⟩,rfl,rfl,rfl,rfl,rfl,trivial⟩⟩
      ·have ea:a=⟨NB,m12⟩:=Subtype.ext (m2 a.1 ha hc)
       subst ea
       clear hc ha
       cbv
       refine ⟨hw _ (G.chain h (tlQ G (bi .shl .u64 (cv .u64 cc) 3) n (nadd n 1) f) (NB)) (tlQ G (bi .shl .u64 (cv .u64 cc) 3) n (nadd n 1) f) ((hk5 _ (tlQ G (bi .shl .u64 (cv .u64 cc) 3) n (nadd n 1) f)).pushS _ (by cbv)) _ (fun _ _ _ _ _ _ _ _ _ _ _ _ _ _ _ _ _ _ _ _ _=>?_)⟩
       cbv
       exact hQ _ _ _ _ _ _ _ _ _ _ _ _ _ _ _ _ _ _ _ _ _ _ _ _ _ _ _ _ _ _ _ _ _ _ _ _ _ _ _ _ _ _ _ _ _ _ _ _ _ _ _ _ _ _ _ _ _ _ _ _ _ _ _ _ _ _ _ _ _ _ _ _ _ _ _ _ _ _ _ _
end Go.Proofs.YtjbimeigkklcmaaDoor

/-
  Sum (shape y).
-/
namespace Go.Proofs.YtjbimeigkklcmaaDoor
open Go Go.Proofs Sx Sy
set_option maxRecDepth 100000
set_option maxHeartbeats 8000000
theorem sum_y (BG:Nat→AV) (A:Ops) (hA:A=realOps) (F:ShF) (T:Int→Int→Int→Int) (t R s:Nat→Int) (hF:F=shF realOps T t R) (ht:∀ i,i<12→0≤t i∧t i≤64) (C:List (FuncId × Contract)) (kt:Nat) (G:ShG) (hG:G=shG F) (LL:List (Nat × (HS→HAnn))) (fr:List (List HV)) (b0 b1 b2 b3 b4 b5 b6 b8:HB)  (q h:Nat→Int) (f:Nat→Int) (NB:Nat) (hNB:NB=(G.p (nadd (G.p 33 (G.t 33)) 8) 8) / 128) (hok:OKs [b0,b1,b2,b3,b4,b5,b6,dgB (.lit 32) q h (.ls 9 0 1 (.lit 32)),b8,.row 0 .u8 1 (.lit 32) f] fr) (Q:Ex→HS→Prop)
  (hQ:∀ w0 w1 w3 w4 w5 w6 w7 w8 w9 w10 w11 w12 w13 w14 w15 w16 w17 w18 w19 w20 w21 w22 w23 w24 w25 w26 w27 w28 w29 w30 w31 w32 w33 w34 w35 w36 w37 w38 w39 w40 w41 w42 w43 w44 w45 w46 w47 w48 w49 w50 w51 w52 w53 w54 w55 w56 w57 w58 w59 w60 w61 w62 w63 w64 w65 w66 w67 w68 w69 w70 w71 w72 w73 w74 w75 w76 w77 w78,∀ Be Bt,Q .ret { fr:=fr,sl:=[w0,w1,.at (.ls 12 8 1 (.sym (G.e 8))),w3,w4,w5,w6,w7,w8,w9,w10,w11,w12,w13,w14,w15,w16,w17,w18,w19,w20,w21,w22,w23,w24,w25,w26,w27,w28,w29,w30,w31,w32,w33,w34,w35,w36,w37,w38,w39,w40,w41,w42,w43,w44,w45,w46,w47,w48,w49,w50,w51,w52,w53,w54,w55,w56,w57,w58,w59,w60,w61,w62,w63,w64,w65,w66,w67,w68,w69,w70,w71,w72,w73,w74,w75,w76,w77,w78],bl:=[b0,b1,b2,b3,b4,b5,b6,dgB (.lit 32) q h (.ls 9 0 1 (.lit 32)),b8,.row 0 .u8 1 (.lit 32) f,Be,Bt,.row 8 .u8 1 (.sym (G.e 8)) (G.lay (G.chain h (tlQ G 256 32 33 f) NB) 8)] }) :
  wpH (envS BG A F T t R s C (loopsG kt G ++ LL)) (sh_sum sh_block.1 (sh_mix sh_load.1 (sh_compress sh_cB0.1 sh_cZ.1).1).1 (sh_words (sh_lay sh_layI.1).1).1).1 { fr:=fr,sl:=(List.append [.at (.ptr 7 0 (.lit 0))] (jn 78)),bl:=[b0,b1,b2,b3,b4,b5,b6,dgB (.lit 32) q h (.ls 9 0 1 (.lit 32)),b8,.row 0 .u8 1 (.lit 32) f] } Q:=by
 have hm:=fun fr o g ff hl=>mix_y BG A hA F T t R s hF ht C (loopsG kt G ++ LL) fr b0 b1 b2 b3 b4 b5 b6 (dgB (.lit 32) q h (.ls 9 0 1 (.lit 32))) b8 (.row 0 .u8 1 (.lit 32) f) (.lit 0) q g .nil 5 (G.p (nadd (G.p 33 (G.t 33)) 8) 8) o ff hl
 have hw:=fun fr g ff=>words_y BG A hA F T t R s hF ht C kt G hG LL fr b0 b1 b2 b3 b4 b5 b6 (dgB (.lit 32) q h (.ls 9 0 1 (.lit 32))) b8 (.row 0 .u8 1 (.lit 32) f) (.row 5 .u8 1 (.sym (G.p (nadd (G.p 33 (G.t 33)) 8) 8)) ff) (.lit 0) q g .nil
 have gm:=g_m hG
 have gs:=g_s hG
 have gp:=g_p hG
 have gt:=g_t hG
 have gi:=g_i hG
 have en:33=32+1:=rfl
 have hN:33≤1000:=by omega
 have hT:=gt 33
 have el:(G.p 33 (G.t 33))=33+G.t 33:=gp _ _
 have e3:(nadd (G.p 33 (G.t 33)) 8)=(G.p 33 (G.t 33))+8:=nadd_eq _ 8
 have e4:(G.p (nadd (G.p 33 (G.t 33)) 8) 8)=(nadd (G.p 33 (G.t 33)) 8)+8:=gp _ _
 have hL3:(nadd (G.p 33 (G.t 33)) 8)≤2000:=by omega
 have hk:OKs ([b0,b1,b2,b3,b4,b5,b6,dgB (.lit 32) q h (.ls 9 0 1 (.lit 32)),b8,.row 0 .u8 1 (.lit 32) f] ++ [dgB (.lit 0) q h .nil,.row 2 .u8 1 (.lit 33) (oneQ 32 f)]) fr:=hok.app _ ⟨leB_self rfl,leB_row,trivial⟩
 have hk5:∀ g ff,OKs [b0,b1,b2,b3,b4,b5,b6,dgB (.lit 32) q h (.ls 9 0 1 (.lit 32)),b8,.row 0 .u8 1 (.lit 32) f,dgB (.lit 0) q g .nil,.row 5 .u8 1 (.sym (G.p (nadd (G.p 33 (G.t 33)) 8) 8)) ff] fr:=fun g ff=>(hk.setBump 11 2 5 (.row 5 .u8 1 (.sym (G.p (nadd (G.p 33 (G.t 33)) 8) 8)) ff) rfl rfl (by decide) leB_row).setS 10 _ rfl rfl
 generalize (sh_mix sh_load.1 (sh_compress sh_cB0.1 sh_cZ.1).1).1=cm' at hm ⊢
 generalize (sh_words (sh_lay sh_layI.1).1).1=cw' at hw ⊢
 obtain ⟨bi,cm,un,cv,na,eq⟩:=A
 have hbi:bi=realBin:=congrArg Ops.bin hA
 have hcm:cm=realCmp:=congrArg Ops.cmp hA
 have hun:un=realUn:=congrArg Ops.un hA
 have hna:na=Int.toNat:=congrArg Ops.nat hA
 have hcv:cv=fun k n=>k.wrap n:=congrArg Ops.cnv hA
 clear hA
 have t1:∀ a:Nat,a≤G.t 33→cm .neq (bi .rem .i64 (Int.ofNat (G.p 33 a)) 128) 112=true→a<G.t 33:=fun a ha h=>by rw [hcm,hbi] at h;exact pad_true hG 33 a hN ha h
 have t2:∀ a:Nat,a≤G.t 33→cm .neq (bi .rem .i64 (Int.ofNat (G.p 33 a)) 128) 112=false→a=G.t 33:=fun a ha h=>by rw [hcm,hbi] at h;exact pad_false hG 33 a hN ha h
 have t3:∀ a:Nat,a≤G.t 33→RoomFor (nadd (G.p 33 a) 1) 1:=fun a ha=>⟨by rw [nadd_eq (G.p 33 a) 1,gp 33 a];omega⟩
 have t4:∀ a:Nat,nadd (G.p 33 a) 1=G.p 33 (a+1):=fun a=>by rw [nadd_eq (G.p 33 a) 1,gp 33 a,gp 33 (a+1)];omega
 have t5:33=G.p 33 0:=(gp _ 0).symm
 have t6:∀ j,j<33*1→(oneQ 32 f) j=(padQ G 32 33 f) j:=fun j hj=>pad_0 hG (oneQ 32 f) 33 j (by rw [Nat.mul_one] at hj;exact hj)
 have t7:∀ a j,j<nadd (G.p 33 a) 1*1→joinF (G.p 33 a) (padQ G 32 33 f) (fun j=>upd (fun _=>0) 0 0 (0+j)) j=(padQ G 32 33 f) j:=fun a j hj=>by
  rw [Nat.mul_one,t4 a,gp 33 (a+1)] at hj
  exact pad_s hG (oneQ 32 f) 33 a (g:=fun j=>upd (fun _=>0) 0 0 (0+j)) rfl j hj
 have r3:RoomFor (nadd (G.p 33 (G.t 33)) 8) 1:=⟨by omega⟩
 have u0:(7:Int)=G.i 0:=by rw [gi];rfl
 have u1:∀ a:Nat,a≤8→bi .sub .i64 (G.i a) 1=G.i (a+1):=fun a ha=>by
  rw [hbi,gi,gi,sub_i64 (by simp only [Int.ofNat_eq_natCast];omega)]
  simp only [Int.ofNat_eq_natCast]
  omega
 have u2:∀ a:Nat,a<8→bi .mul .i64 8 (G.i a)=Int.ofNat (8*(7 - a)):=fun a ha=>by
  rw [hbi,gi,mul_i64 (by simp only [Int.ofNat_eq_natCast];omega)]
  simp only [Int.ofNat_eq_natCast]
  omega
 have u3:∀ a:Nat,a<8→NonNeg (bi .mul .i64 8 (G.i a)):=fun a ha=>by rw [u2 a ha];exact ⟨Int.natCast_nonneg _⟩
 have u4:∀ a:Nat,a<8→RoomFor (nadd (G.p (nadd (G.p 33 (G.t 33)) 8) a) 1) 1:=fun a ha=>⟨by rw [nadd_eq (G.p (nadd (G.p 33 (G.t 33)) 8) a) 1,gp (nadd (G.p 33 (G.t 33)) 8) a];omega⟩
 have u5:∀ a:Nat,cm .geq (G.i a) 0=true→a<8:=fun a h=>by
  rw [hcm,gi] at h
  simp only [realCmp,decide_eq_true_eq,Int.ofNat_eq_natCast] at h
  omega
 have u6:∀ a:Nat,cm .geq (G.i a) 0=false→8≤a:=fun a h=>by
  rw [hcm,gi] at h
  simp only [realCmp,decide_eq_false_iff_not,Int.ofNat_eq_natCast] at h
  omega
 have u7:∀ a:Nat,nadd (G.p (nadd (G.p 33 (G.t 33)) 8) a) 1=G.p (nadd (G.p 33 (G.t 33)) 8) (a+1):=fun a=>by rw [nadd_eq (G.p (nadd (G.p 33 (G.t 33)) 8) a) 1,gp (nadd (G.p 33 (G.t 33)) 8) a,gp (nadd (G.p 33 (G.t 33)) 8) (a+1)];omega
 have u8:(nadd (G.p 33 (G.t 33)) 8)=G.p (nadd (G.p 33 (G.t 33)) 8) 0:=(gp _ 0).symm
 have u9:∀ j,j<(nadd (G.p 33 (G.t 33)) 8)*1→(preQ G 32 33 f) j=G.bits (preQ G 32 33 f) (nadd (G.p 33 (G.t 33)) 8) 256 0 j:=fun j hj=>bits_0 hG _ _ _ j (by rw [Nat.mul_one] at hj;exact hj)
 have u10:∀ a j,a<8→j<nadd (G.p (nadd (G.p 33 (G.t 33)) 8) a) 1*1→joinF (G.p (nadd (G.p 33 (G.t 33)) 8) a) (G.bits (preQ G 32 33 f) (nadd (G.p 33 (G.t 33)) 8) 256 a) (fun j=>upd (fun _=>0) 0 (cv .u8 (bi .shr .u64 256 (bi .mul .i64 8 (G.i a)))) (0+j)) j=G.bits (preQ G 32 33 f) (nadd (G.p 33 (G.t 33)) 8) 256 (a+1) j:=fun a j ha hj=>by
  rw [Nat.mul_one,u7 a,gp (nadd (G.p 33 (G.t 33)) 8) (a+1)] at hj
  refine Eq.trans ?_ (bits_s hG (preQ G 32 33 f) (nadd (G.p 33 (G.t 33)) 8) 256 a (g:=fun j=>upd (fun _=>0) 0 (cv .u8 (bi .shr .u64 256 (bi .mul .i64 8 (G.i a)))) (0+j)) (by rw [u2 a ha,hbi,hcv];rfl) j hj)
  rw [gp (nadd (G.p 33 (G.t 33)) 8) a]
 have m1:∀ a:Nat,G.m a≤(G.p (nadd (G.p 33 (G.t 33)) 8) 8)→cm .geq (Int.ofNat (G.s (G.p (nadd (G.p 33 (G.t 33)) 8) 8) (G.m a))) 128=true→G.m a+128≤(G.p (nadd (G.p 33 (G.t 33)) 8) 8):=fun a ha h=>by
  rw [hcm,gs] at h
  simp only [realCmp,decide_eq_true_eq,Int.ofNat_eq_natCast] at h
  omega
 have m2:∀ a:Nat,G.m a≤(G.p (nadd (G.p 33 (G.t 33)) 8) 8)→cm .geq (Int.ofNat (G.s (G.p (nadd (G.p 33 (G.t 33)) 8) 8) (G.m a))) 128=false→a=NB:=fun a ha h=>by
  rw [hcm,gs,gm] at h
  rw [gm] at ha
  simp only [realCmp,decide_eq_false_iff_not,Int.ofNat_eq_natCast] at h
  omega
 have m3:0=G.m 0:=(gm 0).symm
 have m4:(G.p (nadd (G.p 33 (G.t 33)) 8) 8)=G.s (G.p (nadd (G.p 33 (G.t 33)) 8) 8) (G.m 0):=by rw [gs,gm];rfl
 have m5:∀ a:Nat,nadd (G.m a) 128=G.m (a+1):=fun a=>by rw [nadd_eq,gm,gm];omega
 have m6:∀ a:Nat,nsub (G.s (G.p (nadd (G.p 33 (G.t 33)) 8) 8) (G.m a)) 128=G.s (G.p (nadd (G.p 33 (G.t 33)) 8) 8) (G.m (a+1)):=fun a=>by rw [nsub_eq,gs,gs,gm,gm];omega
 have m7:∀ a:Nat,G.m a+128≤(G.p (nadd (G.p 33 (G.t 33)) 8) 8)→Upto 128 (G.s (G.p (nadd (G.p 33 (G.t 33)) 8) 8) (G.m a)):=fun a h=>⟨by decide,by rw [gs];omega⟩
 have m8:∀ a:Nat,G.m a+128≤(G.p (nadd (G.p 33 (G.t 33)) 8) 8)→G.m (a+1)≤(G.p (nadd (G.p 33 (G.t 33)) 8) 8):=fun a h=>by rw [gm] at h ⊢;omega
 have m9:∀ a:Nat,F.block (G.chain h (tlQ G 256 32 33 f) a) (fun j=>(tlQ G 256 32 33 f) (G.m a+j))=G.chain h (tlQ G 256 32 33 f) (a+1):=fun a=>chain_s hG h (tlQ G 256 32 33 f) a (fun j=>by rw [gm])
 have m10:∀ a:Nat,G.m a+128≤(G.p (nadd (G.p 33 (G.t 33)) 8) 8)→(G.p (nadd (G.p 33 (G.t 33)) 8) 8) - G.m (a+1)<(G.p (nadd (G.p 33 (G.t 33)) 8) 8) - G.m a:=fun a h=>by rw [gm,gm] at *;omega
 have m11:=chain_0 hG h (tlQ G 256 32 33 f)
 have m12:G.m (NB)≤(G.p (nadd (G.p 33 (G.t 33)) 8) 8):=by rw [gm];omega
 cbv
 refine ⟨?_⟩
 cbv
 refine ⟨⟨by decide⟩,⟨by decide⟩,⟨by decide⟩,⟨by decide⟩,⟨by decide⟩,⟨⟨0,Nat.zero_le _⟩,?_⟩,fun a hwf=>?_⟩
 ·cbv
  exact ⟨⟨t5,trivial⟩,hk.bump 11 2 3 _ (.row 3 .u8 1 (.sym (G.p 33 0)) (padQ G 32 33 f)) _ rfl rfl (by decide) ⟨rfl,rfl,t5,t6⟩⟩
 ·clear hwf
  have ha:a.1≤G.t 33:=a.2
  cbv
  refine ⟨fun hc=>?_,fun hc=>?_⟩
  ·have hlt:=t1 a.1 ha hc
   have pm:G.t 33 - (a.1+1)<G.t 33 - a.1:=by omega
   cbv
   refine ⟨t3 a.1 ha,⟨a.1+1,hlt⟩,?_,pm⟩
   cbv
   exact ⟨⟨t4 a.1,trivial⟩,hk.bump 11 2 3 _ (.row 3 .u8 1 (.sym (G.p 33 (a.1+1))) (padQ G 32 33 f)) _ rfl rfl (by decide) ⟨rfl,rfl,t4 a.1,t7 a.1⟩⟩
  ·have ea:a=⟨G.t 33,Nat.le_refl _⟩:=Subtype.ext (t2 a.1 ha hc)
   subst ea
   clear hc ha
   cbv
   refine ⟨r3,⟨⟨0,by decide⟩,?_⟩,fun a hwf=>?_⟩
   ·cbv
    exact ⟨⟨u8,u0,trivial⟩,hk.bump 11 2 5 _ (.row 5 .u8 1 (.sym (G.p (nadd (G.p 33 (G.t 33)) 8) 0)) (G.bits (preQ G 32 33 f) (nadd (G.p 33 (G.t 33)) 8) 256 0)) _ rfl rfl (by decide) ⟨rfl,rfl,u8,u9⟩⟩
   ·clear hwf
    cbv
    refine ⟨fun hc=>?_,fun hc=>?_⟩
    ·have hlt:=u5 a.1 hc
     have pm:8 - (a.1+1)<8 - a.1:=by omega
     have u1:=u1 a.1 a.2
     cbv
     refine ⟨u3 a.1 hlt,u4 a.1 hlt,⟨a.1+1,hlt⟩,?_,pm⟩
     cbv
     exact ⟨⟨u7 a.1,u1,trivial⟩,hk.bump 11 2 5 _ (.row 5 .u8 1 (.sym (G.p (nadd (G.p 33 (G.t 33)) 8) (a.1+1))) (G.bits (preQ G 32 33 f) (nadd (G.p 33 (G.t 33)) 8) 256 (a.1+1))) _ rfl rfl (by decide) ⟨rfl,rfl,u7 a.1,fun j hj=>u10 a.1 j hlt hj⟩⟩
    ·have ea:a=⟨8,by decide⟩:=Subtype.ext (Nat.le_antisymm a.2 (u6 a.1 hc))
     subst ea
     clear hc
     cbv
     refine ⟨⟨⟨0,(by rw [gm];exact Nat.zero_le _:G.m 0≤(G.p (nadd (G.p 33 (G.t 33)) 8) 8))⟩,?_⟩,fun a hwf=>?_⟩
     ·cbv
      exact ⟨⟨⟨m3.symm,m4⟩,trivial⟩,(hk5 h (tlQ G 256 32 33 f)).le 10 (dgB (.lit 0) q (G.chain h (tlQ G 256 32 33 f) 0) .nil) rfl ⟨⟨⟨rfl,rfl⟩,⟨rfl,rfl⟩,⟨rfl,rfl,fun _ _=>rfl⟩,⟨rfl,rfl,fun i _=>congrFun m11.symm i⟩,trivial,trivial⟩,rfl,rfl,rfl,rfl,rfl,trivial⟩⟩
     ·clear hwf
      have ha:G.m a.1≤(G.p (nadd (G.p 33 (G.t 33)) 8) 8):=a.2
      cbv
      refine ⟨fun hc=>?_,fun hc=>?_⟩
      ·have hlt:=m1 a.1 ha hc
       cbv
       refine ⟨m7 a.1 hlt,⟨hm _ (G.m a.1) (G.chain h (tlQ G 256 32 33 f) a.1) (tlQ G 256 32 33 f) hlt ((hk5 _ (tlQ G 256 32 33 f)).pushS _ (by cbv)) _ (fun sl w'=>?_)⟩⟩
       cbv
       refine ⟨m7 a.1 hlt,⟨a.1+1,m8 a.1 hlt⟩,?_,m10 a.1 hlt⟩
       cbv
       exact ⟨⟨⟨m5 a.1,m6 a.1⟩,trivial⟩,(hk5 h (tlQ G 256 32 33 f)).leE 10 _ (dgB (.lit 0) q (G.chain h (tlQ G 256 32 33 f) (a.1+1)) .nil) _ rfl rfl ⟨⟨⟨rfl,rfl⟩,⟨rfl,rfl⟩,⟨rfl,rfl,fun _ _=>rfl⟩,⟨rfl,rfl,fun i _=>congrFun (m9 a.1) i⟩,trivial,trivial⟩,rfl,rfl,rfl,rfl,rfl,trivial⟩⟩
      ·have ea:a=⟨NB,m12⟩:=Subtype.ext (m2 a.1 ha hc)
       subst ea
       clear hc ha
       cbv
       refine ⟨hw _ (G.chain h (tlQ G 256 32 33 f) (NB)) (tlQ G 256 32 33 f) ((hk5 _ (tlQ G 256 32 33 f)).pushS _ (by cbv)) _ (fun _ _ _ _ _ _ _ _ _ _ _ _ _ _ _ _ _ _ _ _ _=>?_)⟩
       cbv
       exact hQ _ _ _ _ _ _ _ _ _ _ _ _ _ _ _ _ _ _ _ _ _ _ _ _ _ _ _ _ _ _ _ _ _ _ _ _ _ _ _ _ _ _ _ _ _ _ _ _ _ _ _ _ _ _ _ _ _ _ _ _ _ _ _ _ _ _ _ _ _ _ _ _ _ _ _ _ _ _ _ _
end Go.Proofs.YtjbimeigkklcmaaDoor

