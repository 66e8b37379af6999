/-
  load and mix (shape w).
-/
import Derived.Test.YtjbimeigkklcmaaDoorZShCww
import Derived.Test.YtjbimeigkklcmaaDoorZShCll
import Derived.Test.YtjbimeigkklcmaaDoorZShCss
import Derived.Test.YtjbimeigkklcmaaDoorZShCee
import Derived.Test.YtjbimeigkklcmaaDoorZShCxx
import Derived.Test.YtjbimeigkklcmaaDoorZShCvv
import Derived.Test.YtjbimeigkklcmaaDoorZShCkk
import Derived.Test.YtjbimeigkklcmaaDoorZShCnn
import Derived.Test.YtjbimeigkklcmaaDoorZShCyy
set_option linter.unusedVariables false
namespace Go.Proofs.YtjbimeigkklcmaaDoor
open Go Go.Proofs Sx Sy
set_option maxRecDepth 100000
set_option maxHeartbeats 8000000
theorem load_w (BG:Nat→AV) (A:Ops) (hA:A=realOps) (F:ShF) (T:Int→Int→Int→Int) (t R s:Nat→Int) (hF:F=shF realOps T t R) (ht:∀ i,i<12→0≤t i∧t i≤64) (C:List (FuncId × Contract)) (L:List (Nat × (HS→HAnn))) (fr:List (List HV)) (b0 b1 b2 b3 b4 b6 b8 b9:HB) (c:SI) (q h:Nat→Int) (r:HA) (ver len:Nat) (f:Nat→Int) (hlen:128≤len) (g:Nat→Int)
  (hok:OKs [b0,b1,b2,b3,b4,dgB c q h r,b6,.row ver .u8 1 (.sym len) f,b8,b9,.fix [.pl (.arr .u64 80 g)]] fr) (Q:Ex→HS→Prop)
  (hQ:∀ sl,Q .normal { fr:=fr,sl:=sl,bl:=[b0,b1,b2,b3,b4,dgB c q h r,b6,.row ver .u8 1 (.sym len) f,b8,b9,.fix [.pl (.arr .u64 80 (F.words f g 16))]] }) :
  wpH (envS BG A F T t R s C L) sh_load.1 { fr:=fr,sl:=(List.append [.at (.sl 10 0 1 (.lit 0) (.lit 16)),.at (.ls 7 ver 1 (.sym len)),.at (.pl (.int .i64 (.lit 8)))] (jn 37)),bl:=[b0,b1,b2,b3,b4,dgB c q h r,b6,.row ver .u8 1 (.sym len) f,b8,b9,.fix [.pl (.arr .u64 80 g)]] } Q:=by
 obtain ⟨bi,cm,un,cv,na,eq⟩:=A
 have hbi:bi=realBin:=congrArg Ops.bin hA
 have hcm:cm=realCmp:=congrArg Ops.cmp hA
 have hun:un=realUn:=congrArg Ops.un hA
 have hna:na=Int.toNat:=congrArg Ops.nat hA
 have hcv:cv=fun k n=>k.wrap n:=congrArg Ops.cnv hA
 clear hA
 obtain ⟨X,hX⟩:∃ X:Nat→Nat,∀ a,X a=8*a:=⟨_,fun _=>rfl⟩
 cbv
 refine ⟨⟨⟨0,by decide⟩,?_⟩,fun a hwf=>?_⟩
 ·cbv
  exact ⟨⟨rfl,trivial⟩,hok.leArr 10 .u64 80 g _ rfl (fun i _=>words_0 hF _ g i)⟩
 ·clear hwf
  obtain ⟨a,ha⟩:=a
  have hok2:OKs [b0,b1,b2,b3,b4,dgB c q h r,b6,.row ver .u8 1 (.sym len) f,b8,b9,.fix [.pl (.arr .u64 80 (F.words f g a))]] fr:=hok.arr 10 .u64 80 _ rfl
  cbv
  refine ⟨fun hc=>?_,fun hc=>?_⟩
  ·have ha':a<16:=by rw [hcm] at hc;exact lss_t.1 hc
   have e1:bi .mul .i64 (Int.ofNat a) 8=Int.ofNat (X a):=by rw [hbi,hX];exact m8 (by omega)
   have e2:bi .mul .i64 (bi .add .i64 (Int.ofNat a) 1) 8=Int.ofNat (X (a+1)):=by rw [hbi,a1 (by omega),hX];exact m8 (by omega)
   have x1:=hX (a+1)
   have x0:=hX a
   cbv
   rw [e2,e1,hna]
   refine ⟨upt (by omega),upt (by show X a≤X (a+1);omega),⟨⟨0,by decide⟩,?_⟩,fun b hwf=>?_⟩
   ·cbv
    exact ⟨⟨word_0 hF _ ▸ rfl,rfl,trivial⟩,hok2.refl⟩
   ·clear hwf
    obtain ⟨b,hb⟩:=b
    cbv
    refine ⟨fun hc2=>?_,fun hc2=>?_⟩
    ·have h2:cm .lss (Int.ofNat b) (Int.ofNat (nsub (X (a+1)) (X a)))=true:=hc2
     rw [hcm] at h2
     have h3:=lss_t.1 h2
     have w1:Within (Int.ofNat b) (nsub (X (a+1)) (X a)):=win h3
     have hb':b<8:=by rw [nsub_eq,hX,hX] at h3;omega
     have w2:FitsMul (nadd (X a) b) 1 len 1:=⟨by rw [nadd_eq,hX];omega⟩
     have w3:bi .or .u64 (bi .shl .u64 (F.word (fun j=>f (X a+j)) b) 8) (cv .u64 (f (nadd (X a) b)))=F.word (fun j=>f (X a+j)) (b+1):=by
      rw [word_s hF,nadd_eq,hbi,hcv]
     have w4:bi .add .i64 (Int.ofNat b) 1=Int.ofNat (b+1):=by rw [hbi];exact a1 (by omega)
     cbv
     refine ⟨w1,w2,⟨b+1,by omega⟩,?_,by show 8 - (b+1)<8 - b;omega⟩
     cbv
     exact ⟨⟨w3,w4,trivial⟩,hok2.refl⟩
    ·have h2:cm .lss (Int.ofNat b) (Int.ofNat (nsub (X (a+1)) (X a)))=false:=hc2
     have hb':b=8:=by rw [hcm] at h2;have h3:=lss_f.1 h2;rw [nsub_eq,hX,hX] at h3;omega
     subst hb'
     have w4:bi .add .i64 (Int.ofNat a) 1=Int.ofNat (a+1):=by rw [hbi];exact a1 (by omega)
     cbv
     refine ⟨win (by omega),⟨by omega⟩,⟨a+1,by omega⟩,?_,by show 16 - (a+1)<16 - a;omega⟩
     cbv
     exact ⟨⟨w4,trivial⟩,hok.leArr 10 .u64 80 _ _ rfl (fun i _=>words_s hF _ g a i (fun j=>by rw [← hX a];rfl))⟩
  ·have:a=16:=by rw [hcm] at hc;have:=lss_f.1 hc;omega
   subst this
   cbv
   exact hQ _
theorem mix_w (BG:Nat→AV) (A:Ops) (hA:A=realOps) (F:ShF) (T:Int→Int→Int→Int) (t R s:Nat→Int) (hF:F=shF realOps T t R) (ht:∀ i,i<12→0≤t i∧t i≤64) (C:List (FuncId × Contract)) (L:List (Nat × (HS→HAnn))) (fr:List (List HV)) (b0 b1 b2 b3 b4 b6 b8 b9:HB) (c:SI) (q h:Nat→Int) (r:HA) (ver len:Nat) (f:Nat→Int) (hlen:128≤len) (hok:OKs [b0,b1,b2,b3,b4,dgB c q h r,b6,.row ver .u8 1 (.sym len) f,b8,b9] fr) (Q:Ex→HS→Prop)
  (hQ:∀ sl w',Q .normal { fr:=fr,sl:=sl,bl:=[b0,b1,b2,b3,b4,dgB c q (F.block h f) r,b6,.row ver .u8 1 (.sym len) f,b8,b9,.fix [.pl (.arr .u64 80 w')],.fix [.pl (.arr .i64 12 t)],.fix [.pl (.arr .u64 8 h)]] }) :
  wpH (envS BG A F T t R s C L) (sh_mix sh_load.1 (sh_compress sh_cB0.1 sh_cZ.1).1).1 { fr:=fr,sl:=(List.append [.at (.ptr 5 0 (.lit 0)),.at (.ls 7 ver 1 (.sym len))] (jn 31)),bl:=[b0,b1,b2,b3,b4,dgB c q h r,b6,.row ver .u8 1 (.sym len) f,b8,b9] } Q:=by
 have hl:=fun fr=>load_w BG A hA F T t R s hF ht C L fr b0 b1 b2 b3 b4 b6 b8 b9 c q h r ver len f hlen (fun _=>0)
 have hc:=fun fr=>compress_w BG A hA F T t R s hF ht C L fr b0 b1 b2 b3 b4 b6 (.row ver .u8 1 (.sym len) f) b8 b9 c q h r (F.words f (fun _=>0) 16)
 have hk:OKs ([b0,b1,b2,b3,b4,dgB c q h r,b6,.row ver .u8 1 (.sym len) f,b8,b9] ++ [.fix [.pl (.arr .u64 80 (fun _=>0))]]) fr:=hok.app _ ⟨⟨⟨⟨rfl,rfl,fun _ _=>rfl⟩,trivial⟩,rfl,trivial⟩,trivial⟩
 have hk2:OKs [b0,b1,b2,b3,b4,dgB c q h r,b6,.row ver .u8 1 (.sym len) f,b8,b9,.fix [.pl (.arr .u64 80 (F.words f (fun _=>0) 16))]] fr:=hk.arr 10 .u64 80 _ rfl
 generalize sh_load.1=cl at hl ⊢
 generalize (sh_compress sh_cB0.1 sh_cZ.1).1=cc at hc ⊢
 obtain ⟨bi,cm,un,cv,na,eq⟩:=A
 have hbi:bi=realBin:=congrArg Ops.bin hA
 have hcm:cm=realCmp:=congrArg Ops.cmp hA
 have hun:un=realUn:=congrArg Ops.un hA
 have hna:na=Int.toNat:=congrArg Ops.nat hA
 have hcv:cv=fun k n=>k.wrap n:=congrArg Ops.cnv hA
 clear hA
 cbv
 refine ⟨hl _ (hk.pushS _ (by cbv)) _ (fun sl=>?_)⟩
 cbv
 refine ⟨hc _ (hk2.pushS _ (by cbv)) _ (fun sl w'=>?_)⟩
 cbv
 exact hQ _ _
end Go.Proofs.YtjbimeigkklcmaaDoor

/-
  load and mix (shape l).
-/
namespace Go.Proofs.YtjbimeigkklcmaaDoor
open Go Go.Proofs Sx Sy
set_option maxRecDepth 100000
set_option maxHeartbeats 8000000
theorem load_l (BG:Nat→AV) (A:Ops) (hA:A=realOps) (F:ShF) (T:Int→Int→Int→Int) (t R s:Nat→Int) (hF:F=shF realOps T t R) (ht:∀ i,i<12→0≤t i∧t i≤64) (C:List (FuncId × Contract)) (L:List (Nat × (HS→HAnn))) (fr:List (List HV)) (b0 b1 b2 b3 b4 b6 b7 b8:HB) (c:SI) (q h:Nat→Int) (r:HA) (f:Nat→Int) (g:Nat→Int)
  (hok:OKs [b0,b1,b2,b3,b4,dgB c q h r,b6,b7,b8,.fix [.pl (.arr .u64 80 g)]] fr) (Q:Ex→HS→Prop)
  (hQ:∀ sl,Q .normal { fr:=fr,sl:=sl,bl:=[b0,b1,b2,b3,b4,dgB c q h r,b6,b7,b8,.fix [.pl (.arr .u64 80 (F.words f g 16))]] }) :
  wpH (envS BG A F T t R s C L) sh_load.1 { fr:=fr,sl:=(List.append [.at (.sl 9 0 1 (.lit 0) (.lit 16)),.at (.xsl .u8 1 (.lit 128) f),.at (.pl (.int .i64 (.lit 8)))] (jn 37)),bl:=[b0,b1,b2,b3,b4,dgB c q h r,b6,b7,b8,.fix [.pl (.arr .u64 80 g)]] } Q:=by
 obtain ⟨bi,cm,un,cv,na,eq⟩:=A
 have hbi:bi=realBin:=congrArg Ops.bin hA
 have hcm:cm=realCmp:=congrArg Ops.cmp hA
 have hun:un=realUn:=congrArg Ops.un hA
 have hna:na=Int.toNat:=congrArg Ops.nat hA
 have hcv:cv=fun k n=>k.wrap n:=congrArg Ops.cnv hA
 clear hA
 obtain ⟨X,hX⟩:∃ X:Nat→Nat,∀ a,X a=8*a:=⟨_,fun _=>rfl⟩
 cbv
 refine ⟨⟨⟨0,by decide⟩,?_⟩,fun a hwf=>?_⟩
 ·cbv
  exact ⟨⟨fun _ _=>rfl,rfl,trivial⟩,hok.leArr 9 .u64 80 g _ rfl (fun i _=>words_0 hF _ g i)⟩
 ·clear hwf
  obtain ⟨a,ha⟩:=a
  have hok2:OKs [b0,b1,b2,b3,b4,dgB c q h r,b6,b7,b8,.fix [.pl (.arr .u64 80 (F.words f g a))]] fr:=hok.arr 9 .u64 80 _ rfl
  cbv
  refine ⟨fun hc=>?_,fun hc=>?_⟩
  ·have ha':a<16:=by rw [hcm] at hc;exact lss_t.1 hc
   have e1:bi .mul .i64 (Int.ofNat a) 8=Int.ofNat (X a):=by rw [hbi,hX];exact m8 (by omega)
   have e2:bi .mul .i64 (bi .add .i64 (Int.ofNat a) 1) 8=Int.ofNat (X (a+1)):=by rw [hbi,a1 (by omega),hX];exact m8 (by omega)
   have x1:=hX (a+1)
   have x0:=hX a
   cbv
   rw [e2,e1,hna]
   refine ⟨upt (by omega),upt (by show X a≤X (a+1);omega),⟨⟨0,by decide⟩,?_⟩,fun b hwf=>?_⟩
   ·cbv
    refine ⟨?_,hok2.refl⟩
    repeat' first | exact trivial | exact fun _ _=>rfl | exact rfl | exact (word_0 hF _).symm | apply And.intro
   ·clear hwf
    obtain ⟨b,hb⟩:=b
    cbv
    refine ⟨fun hc2=>?_,fun hc2=>?_⟩
    ·have h2:cm .lss (Int.ofNat b) (Int.ofNat (nsub (X (a+1)) (X a)))=true:=hc2
     rw [hcm] at h2
     have h3:=lss_t.1 h2
     have w1:Within (Int.ofNat b) (nsub (X (a+1)) (X a)):=win h3
     have hb':b<8:=by rw [nsub_eq,hX,hX] at h3;omega
     have w2:LeqN 1 1:=⟨by decide⟩
     have w3:bi .or .u64 (bi .shl .u64 (F.word (fun j=>f (X a+j)) b) 8) (cv .u64 (f (X a+(b+0))))=F.word (fun j=>f (X a+j)) (b+1):=by
      rw [word_s hF,hbi,hcv]
      rfl
     have w4:bi .add .i64 (Int.ofNat b) 1=Int.ofNat (b+1):=by rw [hbi];exact a1 (by omega)
     cbv
     refine ⟨w1,w2,⟨b+1,by omega⟩,?_,by show 8 - (b+1)<8 - b;omega⟩
     cbv
     refine ⟨?_,hok2.refl⟩
     repeat' first | exact trivial | exact fun _ _=>rfl | exact w4 | exact w3 | apply And.intro
    ·have h2:cm .lss (Int.ofNat b) (Int.ofNat (nsub (X (a+1)) (X a)))=false:=hc2
     have hb':b=8:=by rw [hcm] at h2;have h3:=lss_f.1 h2;rw [nsub_eq,hX,hX] at h3;omega
     subst hb'
     have w4:bi .add .i64 (Int.ofNat a) 1=Int.ofNat (a+1):=by rw [hbi];exact a1 (by omega)
     cbv
     refine ⟨win (by omega),⟨by omega⟩,⟨a+1,by omega⟩,?_,by show 16 - (a+1)<16 - a;omega⟩
     cbv
     exact ⟨⟨fun _ _=>rfl,w4,trivial⟩,hok.leArr 9 .u64 80 _ _ rfl (fun i _=>words_s hF _ g a i (fun j=>by rw [← hX a];rfl))⟩
  ·have:a=16:=by rw [hcm] at hc;have:=lss_f.1 hc;omega
   subst this
   cbv
   exact hQ _
theorem mix_l (BG:Nat→AV) (A:Ops) (hA:A=realOps) (F:ShF) (T:Int→Int→Int→Int) (t R s:Nat→Int) (hF:F=shF realOps T t R) (ht:∀ i,i<12→0≤t i∧t i≤64) (C:List (FuncId × Contract)) (L:List (Nat × (HS→HAnn))) (fr:List (List HV)) (b0 b1 b2 b3 b4 b6 b7 b8:HB) (c:SI) (q h:Nat→Int) (r:HA) (f:Nat→Int) (hok:OKs [b0,b1,b2,b3,b4,dgB c q h r,b6,b7,b8] fr) (Q:Ex→HS→Prop)
  (hQ:∀ sl w',Q .normal { fr:=fr,sl:=sl,bl:=[b0,b1,b2,b3,b4,dgB c q (F.block h f) r,b6,b7,b8,.fix [.pl (.arr .u64 80 w')],.fix [.pl (.arr .i64 12 t)],.fix [.pl (.arr .u64 8 h)]] }) :
  wpH (envS BG A F T t R s C L) (sh_mix sh_load.1 (sh_compress sh_cB0.1 sh_cZ.1).1).1 { fr:=fr,sl:=(List.append [.at (.ptr 5 0 (.lit 0)),.at (.xsl .u8 1 (.lit 128) f)] (jn 31)),bl:=[b0,b1,b2,b3,b4,dgB c q h r,b6,b7,b8] } Q:=by
 have hl:=fun fr=>load_l BG A hA F T t R s hF ht C L fr b0 b1 b2 b3 b4 b6 b7 b8 c q h r f (fun _=>0)
 have hc:=fun fr=>compress_l BG A hA F T t R s hF ht C L fr b0 b1 b2 b3 b4 b6 b7 b8 c q h r (F.words f (fun _=>0) 16)
 have hk:OKs ([b0,b1,b2,b3,b4,dgB c q h r,b6,b7,b8] ++ [.fix [.pl (.arr .u64 80 (fun _=>0))]]) fr:=hok.app _ ⟨⟨⟨⟨rfl,rfl,fun _ _=>rfl⟩,trivial⟩,rfl,trivial⟩,trivial⟩
 have hk2:OKs [b0,b1,b2,b3,b4,dgB c q h r,b6,b7,b8,.fix [.pl (.arr .u64 80 (F.words f (fun _=>0) 16))]] fr:=hk.arr 9 .u64 80 _ rfl
 generalize sh_load.1=cl at hl ⊢
 generalize (sh_compress sh_cB0.1 sh_cZ.1).1=cc at hc ⊢
 obtain ⟨bi,cm,un,cv,na,eq⟩:=A
 have hbi:bi=realBin:=congrArg Ops.bin hA
 have hcm:cm=realCmp:=congrArg Ops.cmp hA
 have hun:un=realUn:=congrArg Ops.un hA
 have hna:na=Int.toNat:=congrArg Ops.nat hA
 have hcv:cv=fun k n=>k.wrap n:=congrArg Ops.cnv hA
 clear hA
 cbv
 refine ⟨hl _ (hk.pushS _ (by cbv)) _ (fun sl=>?_)⟩
 cbv
 refine ⟨hc _ (hk2.pushS _ (by cbv)) _ (fun sl w'=>?_)⟩
 cbv
 exact hQ _ _
end Go.Proofs.YtjbimeigkklcmaaDoor

/-
  load and mix (shape s).
-/
namespace Go.Proofs.YtjbimeigkklcmaaDoor
open Go Go.Proofs Sx Sy
set_option maxRecDepth 100000
set_option maxHeartbeats 8000000
theorem load_s (BG:Nat→AV) (A:Ops) (hA:A=realOps) (F:ShF) (T:Int→Int→Int→Int) (t R s:Nat→Int) (hF:F=shF realOps T t R) (ht:∀ i,i<12→0≤t i∧t i≤64) (C:List (FuncId × Contract)) (L:List (Nat × (HS→HAnn))) (fr:List (List HV)) (b0 b1 b2 b3 b4 b5 b6 b7 b8 b9:HB) (c:SI) (q h:Nat→Int) (r:HA) (ver len o:Nat) (f:Nat→Int) (hlen:o+128≤len) (g:Nat→Int)
  (hok:OKs [b0,b1,b2,b3,b4,b5,b6,b7,b8,b9,dgB c q h r,.row ver .u8 1 (.sym len) f,.fix [.pl (.arr .u64 80 g)]] fr) (Q:Ex→HS→Prop)
  (hQ:∀ sl,Q .normal { fr:=fr,sl:=sl,bl:=[b0,b1,b2,b3,b4,b5,b6,b7,b8,b9,dgB c q h r,.row ver .u8 1 (.sym len) f,.fix [.pl (.arr .u64 80 (F.words (fun j=>f (o+j)) g 16))]] }) :
  wpH (envS BG A F T t R s C L) sh_load.1 { fr:=fr,sl:=(List.append [.at (.sl 12 0 1 (.lit 0) (.lit 16)),.at (.sl 11 ver 1 (.sym o) (.lit 128)),.at (.pl (.int .i64 (.lit 8)))] (jn 37)),bl:=[b0,b1,b2,b3,b4,b5,b6,b7,b8,b9,dgB c q h r,.row ver .u8 1 (.sym len) f,.fix [.pl (.arr .u64 80 g)]] } Q:=by
 obtain ⟨bi,cm,un,cv,na,eq⟩:=A
 have hbi:bi=realBin:=congrArg Ops.bin hA
 have hcm:cm=realCmp:=congrArg Ops.cmp hA
 have hun:un=realUn:=congrArg Ops.un hA
 have hna:na=Int.toNat:=congrArg Ops.nat hA
 have hcv:cv=fun k n=>k.wrap n:=congrArg Ops.cnv hA
 clear hA
 obtain ⟨X,hX⟩:∃ X:Nat→Nat,∀ a,X a=8*a:=⟨_,fun _=>rfl⟩
 cbv
 refine ⟨⟨⟨0,by decide⟩,?_⟩,fun a hwf=>?_⟩
 ·cbv
  exact ⟨⟨rfl,trivial⟩,hok.leArr 12 .u64 80 g _ rfl (fun i _=>words_0 hF _ g i)⟩
 ·clear hwf
  obtain ⟨a,ha⟩:=a
  have hok2:OKs [b0,b1,b2,b3,b4,b5,b6,b7,b8,b9,dgB c q h r,.row ver .u8 1 (.sym len) f,.fix [.pl (.arr .u64 80 (F.words (fun j=>f (o+j)) g a))]] fr:=hok.arr 12 .u64 80 _ rfl
  cbv
  refine ⟨fun hc=>?_,fun hc=>?_⟩
  ·have ha':a<16:=by rw [hcm] at hc;exact lss_t.1 hc
   have e1:bi .mul .i64 (Int.ofNat a) 8=Int.ofNat (X a):=by rw [hbi,hX];exact m8 (by omega)
   have e2:bi .mul .i64 (bi .add .i64 (Int.ofNat a) 1) 8=Int.ofNat (X (a+1)):=by rw [hbi,a1 (by omega),hX];exact m8 (by omega)
   have x1:=hX (a+1)
   have x0:=hX a
   cbv
   rw [e2,e1,hna]
   refine ⟨upt (by omega),upt (by show X a≤X (a+1);omega),⟨⟨0,by decide⟩,?_⟩,fun b hwf=>?_⟩
   ·cbv
    exact ⟨⟨word_0 hF _ ▸ rfl,rfl,trivial⟩,hok2.refl⟩
   ·clear hwf
    obtain ⟨b,hb⟩:=b
    cbv
    refine ⟨fun hc2=>?_,fun hc2=>?_⟩
    ·have h2:cm .lss (Int.ofNat b) (Int.ofNat (nsub (X (a+1)) (X a)))=true:=hc2
     rw [hcm] at h2
     have h3:=lss_t.1 h2
     have w1:Within (Int.ofNat b) (nsub (X (a+1)) (X a)):=win h3
     have hb':b<8:=by rw [nsub_eq,hX,hX] at h3;omega
     have w2:FitsMul (nadd (nadd o (X a)) b) 1 len 1:=⟨by rw [nadd_eq,nadd_eq,hX];omega⟩
     have w3:bi .or .u64 (bi .shl .u64 (F.word (fun j=>f (nadd o (X a)+j)) b) 8) (cv .u64 (f (nadd (nadd o (X a)) b)))=F.word (fun j=>f (nadd o (X a)+j)) (b+1):=by
      rw [word_s hF,nadd_eq _ b,hbi,hcv]
     have w4:bi .add .i64 (Int.ofNat b) 1=Int.ofNat (b+1):=by rw [hbi];exact a1 (by omega)
     cbv
     refine ⟨w1,w2,⟨b+1,by omega⟩,?_,by show 8 - (b+1)<8 - b;omega⟩
     cbv
     exact ⟨⟨w3,w4,trivial⟩,hok2.refl⟩
    ·have h2:cm .lss (Int.ofNat b) (Int.ofNat (nsub (X (a+1)) (X a)))=false:=hc2
     have hb':b=8:=by rw [hcm] at h2;have h3:=lss_f.1 h2;rw [nsub_eq,hX,hX] at h3;omega
     subst hb'
     have w4:bi .add .i64 (Int.ofNat a) 1=Int.ofNat (a+1):=by rw [hbi];exact a1 (by omega)
     cbv
     refine ⟨win (by omega),⟨by omega⟩,⟨a+1,by omega⟩,?_,by show 16 - (a+1)<16 - a;omega⟩
     cbv
     exact ⟨⟨w4,trivial⟩,hok.leArr 12 .u64 80 _ _ rfl (fun i _=>words_s hF _ g a i (fun j=>(by show f (nadd o (X a)+j)=f (o+(8*a+j));rw [nadd_eq,hX,Nat.add_assoc])))⟩
  ·have:a=16:=by rw [hcm] at hc;have:=lss_f.1 hc;omega
   subst this
   cbv
   exact hQ _
theorem mix_s (BG:Nat→AV) (A:Ops) (hA:A=realOps) (F:ShF) (T:Int→Int→Int→Int) (t R s:Nat→Int) (hF:F=shF realOps T t R) (ht:∀ i,i<12→0≤t i∧t i≤64) (C:List (FuncId × Contract)) (L:List (Nat × (HS→HAnn))) (fr:List (List HV)) (b0 b1 b2 b3 b4 b5 b6 b7 b8 b9:HB) (c:SI) (q h:Nat→Int) (r:HA) (ver len o:Nat) (f:Nat→Int) (hlen:o+128≤len) (hok:OKs [b0,b1,b2,b3,b4,b5,b6,b7,b8,b9,dgB c q h r,.row ver .u8 1 (.sym len) f] fr) (Q:Ex→HS→Prop)
  (hQ:∀ sl w',Q .normal { fr:=fr,sl:=sl,bl:=[b0,b1,b2,b3,b4,b5,b6,b7,b8,b9,dgB c q (F.block h (fun j=>f (o+j))) r,.row ver .u8 1 (.sym len) f,.fix [.pl (.arr .u64 80 w')],.fix [.pl (.arr .i64 12 t)],.fix [.pl (.arr .u64 8 h)]] }) :
  wpH (envS BG A F T t R s C L) (sh_mix sh_load.1 (sh_compress sh_cB0.1 sh_cZ.1).1).1 { fr:=fr,sl:=(List.append [.at (.ptr 10 0 (.lit 0)),.at (.sl 11 ver 1 (.sym o) (.lit 128))] (jn 31)),bl:=[b0,b1,b2,b3,b4,b5,b6,b7,b8,b9,dgB c q h r,.row ver .u8 1 (.sym len) f] } Q:=by
 have hl:=fun fr=>load_s BG A hA F T t R s hF ht C L fr b0 b1 b2 b3 b4 b5 b6 b7 b8 b9 c q h r ver len o f hlen (fun _=>0)
 have hc:=fun fr=>compress_s BG A hA F T t R s hF ht C L fr b0 b1 b2 b3 b4 b5 b6 b7 b8 b9 (.row ver .u8 1 (.sym len) f) c q h r (F.words (fun j=>f (o+j)) (fun _=>0) 16)
 have hk:OKs ([b0,b1,b2,b3,b4,b5,b6,b7,b8,b9,dgB c q h r,.row ver .u8 1 (.sym len) f] ++ [.fix [.pl (.arr .u64 80 (fun _=>0))]]) fr:=hok.app _ ⟨⟨⟨⟨rfl,rfl,fun _ _=>rfl⟩,trivial⟩,rfl,trivial⟩,trivial⟩
 have hk2:OKs [b0,b1,b2,b3,b4,b5,b6,b7,b8,b9,dgB c q h r,.row ver .u8 1 (.sym len) f,.fix [.pl (.arr .u64 80 (F.words (fun j=>f (o+j)) (fun _=>0) 16))]] fr:=hk.arr 12 .u64 80 _ rfl
 generalize sh_load.1=cl at hl ⊢
 generalize (sh_compress sh_cB0.1 sh_cZ.1).1=cc at hc ⊢
 obtain ⟨bi,cm,un,cv,na,eq⟩:=A
 have hbi:bi=realBin:=congrArg Ops.bin hA
 have hcm:cm=realCmp:=congrArg Ops.cmp hA
 have hun:un=realUn:=congrArg Ops.un hA
 have hna:na=Int.toNat:=congrArg Ops.nat hA
 have hcv:cv=fun k n=>k.wrap n:=congrArg Ops.cnv hA
 clear hA
 cbv
 refine ⟨hl _ (hk.pushS _ (by cbv)) _ (fun sl=>?_)⟩
 cbv
 refine ⟨hc _ (hk2.pushS _ (by cbv)) _ (fun sl w'=>?_)⟩
 cbv
 exact hQ _ _
end Go.Proofs.YtjbimeigkklcmaaDoor

/-
  load and mix (shape e).
-/
namespace Go.Proofs.YtjbimeigkklcmaaDoor
open Go Go.Proofs Sx Sy
set_option maxRecDepth 100000
set_option maxHeartbeats 8000000
theorem load_e (BG:Nat→AV) (A:Ops) (hA:A=realOps) (F:ShF) (T:Int→Int→Int→Int) (t R s:Nat→Int) (hF:F=shF realOps T t R) (ht:∀ i,i<12→0≤t i∧t i≤64) (C:List (FuncId × Contract)) (L:List (Nat × (HS→HAnn))) (fr:List (List HV)) (b0 b1 b2 b3:HB) (c:SI) (q h:Nat→Int) (r:HA) (ver len o:Nat) (f:Nat→Int) (hlen:o+128≤len) (g:Nat→Int)
  (hok:OKs [b0,b1,b2,b3,dgB c q h r,.row ver .u8 1 (.sym len) f,.fix [.pl (.arr .u64 80 g)]] fr) (Q:Ex→HS→Prop)
  (hQ:∀ sl,Q .normal { fr:=fr,sl:=sl,bl:=[b0,b1,b2,b3,dgB c q h r,.row ver .u8 1 (.sym len) f,.fix [.pl (.arr .u64 80 (F.words (fun j=>f (o+j)) g 16))]] }) :
  wpH (envS BG A F T t R s C L) sh_load.1 { fr:=fr,sl:=(List.append [.at (.sl 6 0 1 (.lit 0) (.lit 16)),.at (.sl 5 ver 1 (.sym o) (.lit 128)),.at (.pl (.int .i64 (.lit 8)))] (jn 37)),bl:=[b0,b1,b2,b3,dgB c q h r,.row ver .u8 1 (.sym len) f,.fix [.pl (.arr .u64 80 g)]] } Q:=by
 obtain ⟨bi,cm,un,cv,na,eq⟩:=A
 have hbi:bi=realBin:=congrArg Ops.bin hA
 have hcm:cm=realCmp:=congrArg Ops.cmp hA
 have hun:un=realUn:=congrArg Ops.un hA
 have hna:na=Int.toNat:=congrArg Ops.nat hA
 have hcv:cv=fun k n=>k.wrap n:=congrArg Ops.cnv hA
 clear hA
 obtain ⟨X,hX⟩:∃ X:Nat→Nat,∀ a,X a=8*a:=⟨_,fun _=>rfl⟩
 cbv
 refine ⟨⟨⟨0,by decide⟩,?_⟩,fun a hwf=>?_⟩
 ·cbv
  exact ⟨⟨rfl,trivial⟩,hok.leArr 6 .u64 80 g _ rfl (fun i _=>words_0 hF _ g i)⟩
 ·clear hwf
  obtain ⟨a,ha⟩:=a
  have hok2:OKs [b0,b1,b2,b3,dgB c q h r,.row ver .u8 1 (.sym len) f,.fix [.pl (.arr .u64 80 (F.words (fun j=>f (o+j)) g a))]] fr:=hok.arr 6 .u64 80 _ rfl
  cbv
  refine ⟨fun hc=>?_,fun hc=>?_⟩
  ·have ha':a<16:=by rw [hcm] at hc;exact lss_t.1 hc
   have e1:bi .mul .i64 (Int.ofNat a) 8=Int.ofNat (X a):=by rw [hbi,hX];exact m8 (by omega)
   have e2:bi .mul .i64 (bi .add .i64 (Int.ofNat a) 1) 8=Int.ofNat (X (a+1)):=by rw [hbi,a1 (by omega),hX];exact m8 (by omega)
   have x1:=hX (a+1)
   have x0:=hX a
   cbv
   rw [e2,e1,hna]
   refine ⟨upt (by omega),upt (by show X a≤X (a+1);omega),⟨⟨0,by decide⟩,?_⟩,fun b hwf=>?_⟩
   ·cbv
    exact ⟨⟨word_0 hF _ ▸ rfl,rfl,trivial⟩,hok2.refl⟩
   ·clear hwf
    obtain ⟨b,hb⟩:=b
    cbv
    refine ⟨fun hc2=>?_,fun hc2=>?_⟩
    ·have h2:cm .lss (Int.ofNat b) (Int.ofNat (nsub (X (a+1)) (X a)))=true:=hc2
     rw [hcm] at h2
     have h3:=lss_t.1 h2
     have w1:Within (Int.ofNat b) (nsub (X (a+1)) (X a)):=win h3
     have hb':b<8:=by rw [nsub_eq,hX,hX] at h3;omega
     have w2:FitsMul (nadd (nadd o (X a)) b) 1 len 1:=⟨by rw [nadd_eq,nadd_eq,hX];omega⟩
     have w3:bi .or .u64 (bi .shl .u64 (F.word (fun j=>f (nadd o (X a)+j)) b) 8) (cv .u64 (f (nadd (nadd o (X a)) b)))=F.word (fun j=>f (nadd o (X a)+j)) (b+1):=by
      rw [word_s hF,nadd_eq _ b,hbi,hcv]
     have w4:bi .add .i64 (Int.ofNat b) 1=Int.ofNat (b+1):=by rw [hbi];exact a1 (by omega)
     cbv
     refine ⟨w1,w2,⟨b+1,by omega⟩,?_,by show 8 - (b+1)<8 - b;omega⟩
     cbv
     exact ⟨⟨w3,w4,trivial⟩,hok2.refl⟩
    ·have h2:cm .lss (Int.ofNat b) (Int.ofNat (nsub (X (a+1)) (X a)))=false:=hc2
     have hb':b=8:=by rw [hcm] at h2;have h3:=lss_f.1 h2;rw [nsub_eq,hX,hX] at h3;omega
     subst hb'
     have w4:bi .add .i64 (Int.ofNat a) 1=Int.ofNat (a+1):=by rw [hbi];exact a1 (by omega)
     cbv
     refine ⟨win (by omega),⟨by omega⟩,⟨a+1,by omega⟩,?_,by show 16 - (a+1)<16 - a;omega⟩
     cbv
     exact ⟨⟨w4,trivial⟩,hok.leArr 6 .u64 80 _ _ rfl (fun i _=>words_s hF _ g a i (fun j=>(by show f (nadd o (X a)+j)=f (o+(8*a+j));rw [nadd_eq,hX,Nat.add_assoc])))⟩
  ·have:a=16:=by rw [hcm] at hc;have:=lss_f.1 hc;omega
   subst this
   cbv
   exact hQ _
theorem mix_e (BG:Nat→AV) (A:Ops) (hA:A=realOps) (F:ShF) (T:Int→Int→Int→Int) (t R s:Nat→Int) (hF:F=shF realOps T t R) (ht:∀ i,i<12→0≤t i∧t i≤64) (C:List (FuncId × Contract)) (L:List (Nat × (HS→HAnn))) (fr:List (List HV)) (b0 b1 b2 b3:HB) (c:SI) (q h:Nat→Int) (r:HA) (ver len o:Nat) (f:Nat→Int) (hlen:o+128≤len) (hok:OKs [b0,b1,b2,b3,dgB c q h r,.row ver .u8 1 (.sym len) f] fr) (Q:Ex→HS→Prop)
  (hQ:∀ sl w',Q .normal { fr:=fr,sl:=sl,bl:=[b0,b1,b2,b3,dgB c q (F.block h (fun j=>f (o+j))) r,.row ver .u8 1 (.sym len) f,.fix [.pl (.arr .u64 80 w')],.fix [.pl (.arr .i64 12 t)],.fix [.pl (.arr .u64 8 h)]] }) :
  wpH (envS BG A F T t R s C L) (sh_mix sh_load.1 (sh_compress sh_cB0.1 sh_cZ.1).1).1 { fr:=fr,sl:=(List.append [.at (.ptr 4 0 (.lit 0)),.at (.sl 5 ver 1 (.sym o) (.lit 128))] (jn 31)),bl:=[b0,b1,b2,b3,dgB c q h r,.row ver .u8 1 (.sym len) f] } Q:=by
 have hl:=fun fr=>load_e BG A hA F T t R s hF ht C L fr b0 b1 b2 b3 c q h r ver len o f hlen (fun _=>0)
 have hc:=fun fr=>compress_e BG A hA F T t R s hF ht C L fr b0 b1 b2 b3 (.row ver .u8 1 (.sym len) f) c q h r (F.words (fun j=>f (o+j)) (fun _=>0) 16)
 have hk:OKs ([b0,b1,b2,b3,dgB c q h r,.row ver .u8 1 (.sym len) f] ++ [.fix [.pl (.arr .u64 80 (fun _=>0))]]) fr:=hok.app _ ⟨⟨⟨⟨rfl,rfl,fun _ _=>rfl⟩,trivial⟩,rfl,trivial⟩,trivial⟩
 have hk2:OKs [b0,b1,b2,b3,dgB c q h r,.row ver .u8 1 (.sym len) f,.fix [.pl (.arr .u64 80 (F.words (fun j=>f (o+j)) (fun _=>0) 16))]] fr:=hk.arr 6 .u64 80 _ rfl
 generalize sh_load.1=cl at hl ⊢
 generalize (sh_compress sh_cB0.1 sh_cZ.1).1=cc at hc ⊢
 obtain ⟨bi,cm,un,cv,na,eq⟩:=A
 have hbi:bi=realBin:=congrArg Ops.bin hA
 have hcm:cm=realCmp:=congrArg Ops.cmp hA
 have hun:un=realUn:=congrArg Ops.un hA
 have hna:na=Int.toNat:=congrArg Ops.nat hA
 have hcv:cv=fun k n=>k.wrap n:=congrArg Ops.cnv hA
 clear hA
 cbv
 refine ⟨hl _ (hk.pushS _ (by cbv)) _ (fun sl=>?_)⟩
 cbv
 refine ⟨hc _ (hk2.pushS _ (by cbv)) _ (fun sl w'=>?_)⟩
 cbv
 exact hQ _ _
end Go.Proofs.YtjbimeigkklcmaaDoor

/-
  load and mix (shape x).
-/
namespace Go.Proofs.YtjbimeigkklcmaaDoor
open Go Go.Proofs Sx Sy
set_option maxRecDepth 100000
set_option maxHeartbeats 8000000
theorem load_x (BG:Nat→AV) (A:Ops) (hA:A=realOps) (F:ShF) (T:Int→Int→Int→Int) (t R s:Nat→Int) (hF:F=shF realOps T t R) (ht:∀ i,i<12→0≤t i∧t i≤64) (C:List (FuncId × Contract)) (L:List (Nat × (HS→HAnn))) (fr:List (List HV)) (b0 b1 b2 b3 b4 b5 b6 b7 b8:HB) (c:SI) (q h:Nat→Int) (r:HA) (ver len o:Nat) (f:Nat→Int) (hlen:o+128≤len) (g:Nat→Int)
  (hok:OKs [b0,b1,b2,b3,b4,b5,b6,b7,b8,dgB c q h r,.row ver .u8 1 (.sym len) f,.fix [.pl (.arr .u64 80 g)]] fr) (Q:Ex→HS→Prop)
  (hQ:∀ sl,Q .normal { fr:=fr,sl:=sl,bl:=[b0,b1,b2,b3,b4,b5,b6,b7,b8,dgB c q h r,.row ver .u8 1 (.sym len) f,.fix [.pl (.arr .u64 80 (F.words (fun j=>f (o+j)) g 16))]] }) :
  wpH (envS BG A F T t R s C L) sh_load.1 { fr:=fr,sl:=(List.append [.at (.sl 11 0 1 (.lit 0) (.lit 16)),.at (.sl 10 ver 1 (.sym o) (.lit 128)),.at (.pl (.int .i64 (.lit 8)))] (jn 37)),bl:=[b0,b1,b2,b3,b4,b5,b6,b7,b8,dgB c q h r,.row ver .u8 1 (.sym len) f,.fix [.pl (.arr .u64 80 g)]] } Q:=by
 obtain ⟨bi,cm,un,cv,na,eq⟩:=A
 have hbi:bi=realBin:=congrArg Ops.bin hA
 have hcm:cm=realCmp:=congrArg Ops.cmp hA
 have hun:un=realUn:=congrArg Ops.un hA
 have hna:na=Int.toNat:=congrArg Ops.nat hA
 have hcv:cv=fun k n=>k.wrap n:=congrArg Ops.cnv hA
 clear hA
 obtain ⟨X,hX⟩:∃ X:Nat→Nat,∀ a,X a=8*a:=⟨_,fun _=>rfl⟩
 cbv
 refine ⟨⟨⟨0,by decide⟩,?_⟩,fun a hwf=>?_⟩
 ·cbv
  exact ⟨⟨rfl,trivial⟩,hok.leArr 11 .u64 80 g _ rfl (fun i _=>words_0 hF _ g i)⟩
 ·clear hwf
  obtain ⟨a,ha⟩:=a
  have hok2:OKs [b0,b1,b2,b3,b4,b5,b6,b7,b8,dgB c q h r,.row ver .u8 1 (.sym len) f,.fix [.pl (.arr .u64 80 (F.words (fun j=>f (o+j)) g a))]] fr:=hok.arr 11 .u64 80 _ rfl
  cbv
  refine ⟨fun hc=>?_,fun hc=>?_⟩
  ·have ha':a<16:=by rw [hcm] at hc;exact lss_t.1 hc
   have e1:bi .mul .i64 (Int.ofNat a) 8=Int.ofNat (X a):=by rw [hbi,hX];exact m8 (by omega)
   have e2:bi .mul .i64 (bi .add .i64 (Int.ofNat a) 1) 8=Int.ofNat (X (a+1)):=by rw [hbi,a1 (by omega),hX];exact m8 (by omega)
   have x1:=hX (a+1)
   have x0:=hX a
   cbv
   rw [e2,e1,hna]
   refine ⟨upt (by omega),upt (by show X a≤X (a+1);omega),⟨⟨0,by decide⟩,?_⟩,fun b hwf=>?_⟩
   ·cbv
    exact ⟨⟨word_0 hF _ ▸ rfl,rfl,trivial⟩,hok2.refl⟩
   ·clear hwf
    obtain ⟨b,hb⟩:=b
    cbv
    refine ⟨fun hc2=>?_,fun hc2=>?_⟩
    ·have h2:cm .lss (Int.ofNat b) (Int.ofNat (nsub (X (a+1)) (X a)))=true:=hc2
     rw [hcm] at h2
     have h3:=lss_t.1 h2
     have w1:Within (Int.ofNat b) (nsub (X (a+1)) (X a)):=win h3
     have hb':b<8:=by rw [nsub_eq,hX,hX] at h3;omega
     have w2:FitsMul (nadd (nadd o (X a)) b) 1 len 1:=⟨by rw [nadd_eq,nadd_eq,hX];omega⟩
     have w3:bi .or .u64 (bi .shl .u64 (F.word (fun j=>f (nadd o (X a)+j)) b) 8) (cv .u64 (f (nadd (nadd o (X a)) b)))=F.word (fun j=>f (nadd o (X a)+j)) (b+1):=by
      rw [word_s hF,nadd_eq _ b,hbi,hcv]
     have w4:bi .add .i64 (Int.ofNat b) 1=Int.ofNat (b+1):=by rw [hbi];exact a1 (by omega)
     cbv
     refine ⟨w1,w2,⟨b+1,by omega⟩,?_,by show 8 - (b+1)<8 - b;omega⟩
     cbv
     exact ⟨⟨w3,w4,trivial⟩,hok2.refl⟩
    ·have h2:cm .lss (Int.ofNat b) (Int.ofNat (nsub (X (a+1)) (X a)))=false:=hc2
     have hb':b=8:=by rw [hcm] at h2;have h3:=lss_f.1 h2;rw [nsub_eq,hX,hX] at h3;omega
     subst hb'
     have w4:bi .add .i64 (Int.ofNat a) 1=Int.ofNat (a+1):=by rw [hbi];exact a1 (by omega)
     cbv
     refine ⟨win (by omega),⟨by omega⟩,⟨a+1,by omega⟩,?_,by show 16 - (a+1)<16 - a;omega⟩
     cbv
     exact ⟨⟨w4,trivial⟩,hok.leArr 11 .u64 80 _ _ rfl (fun i _=>words_s hF _ g a i (fun j=>(by show f (nadd o (X a)+j)=f (o+(8*a+j));rw [nadd_eq,hX,Nat.add_assoc])))⟩
  ·have:a=16:=by rw [hcm] at hc;have:=lss_f.1 hc;omega
   subst this
   cbv
   exact hQ _
theorem mix_x (BG:Nat→AV) (A:Ops) (hA:A=realOps) (F:ShF) (T:Int→Int→Int→Int) (t R s:Nat→Int) (hF:F=shF realOps T t R) (ht:∀ i,i<12→0≤t i∧t i≤64) (C:List (FuncId × Contract)) (L:List (Nat × (HS→HAnn))) (fr:List (List HV)) (b0 b1 b2 b3 b4 b5 b6 b7 b8:HB) (c:SI) (q h:Nat→Int) (r:HA) (ver len o:Nat) (f:Nat→Int) (hlen:o+128≤len) (hok:OKs [b0,b1,b2,b3,b4,b5,b6,b7,b8,dgB c q h r,.row ver .u8 1 (.sym len) f] fr) (Q:Ex→HS→Prop)
  (hQ:∀ sl w',Q .normal { fr:=fr,sl:=sl,bl:=[b0,b1,b2,b3,b4,b5,b6,b7,b8,dgB c q (F.block h (fun j=>f (o+j))) r,.row ver .u8 1 (.sym len) f,.fix [.pl (.arr .u64 80 w')],.fix [.pl (.arr .i64 12 t)],.fix [.pl (.arr .u64 8 h)]] }) :
  wpH (envS BG A F T t R s C L) (sh_mix sh_load.1 (sh_compress sh_cB0.1 sh_cZ.1).1).1 { fr:=fr,sl:=(List.append [.at (.ptr 9 0 (.lit 0)),.at (.sl 10 ver 1 (.sym o) (.lit 128))] (jn 31)),bl:=[b0,b1,b2,b3,b4,b5,b6,b7,b8,dgB c q h r,.row ver .u8 1 (.sym len) f] } Q:=by
 have hl:=fun fr=>load_x BG A hA F T t R s hF ht C L fr b0 b1 b2 b3 b4 b5 b6 b7 b8 c q h r ver len o f hlen (fun _=>0)
 have hc:=fun fr=>compress_x BG A hA F T t R s hF ht C L fr b0 b1 b2 b3 b4 b5 b6 b7 b8 (.row ver .u8 1 (.sym len) f) c q h r (F.words (fun j=>f (o+j)) (fun _=>0) 16)
 have hk:OKs ([b0,b1,b2,b3,b4,b5,b6,b7,b8,dgB c q h r,.row ver .u8 1 (.sym len) f] ++ [.fix [.pl (.arr .u64 80 (fun _=>0))]]) fr:=hok.app _ ⟨⟨⟨⟨rfl,rfl,fun _ _=>rfl⟩,trivial⟩,rfl,trivial⟩,trivial⟩
 have hk2:OKs [b0,b1,b2,b3,b4,b5,b6,b7,b8,dgB c q h r,.row ver .u8 1 (.sym len) f,.fix [.pl (.arr .u64 80 (F.words (fun j=>f (o+j)) (fun _=>0) 16))]] fr:=hk.arr 11 .u64 80 _ rfl
 generalize sh_load.1=cl at hl ⊢
 generalize (sh_compress sh_cB0.1 sh_cZ.1).1=cc at hc ⊢
 obtain ⟨bi,cm,un,cv,na,eq⟩:=A
 have hbi:bi=realBin:=congrArg Ops.bin hA
 have hcm:cm=realCmp:=congrArg Ops.cmp hA
 have hun:un=realUn:=congrArg Ops.un hA
 have hna:na=Int.toNat:=congrArg Ops.nat hA
 have hcv:cv=fun k n=>k.wrap n:=congrArg Ops.cnv hA
 clear hA
 cbv
 refine ⟨hl _ (hk.pushS _ (by cbv)) _ (fun sl=>?_)⟩
 cbv
 refine ⟨hc _ (hk2.pushS _ (by cbv)) _ (fun sl w'=>?_)⟩
 cbv
 exact hQ _ _
end Go.Proofs.YtjbimeigkklcmaaDoor

/-
  load and mix (shape v).
-/
namespace Go.Proofs.YtjbimeigkklcmaaDoor
open Go Go.Proofs Sx Sy
set_option maxRecDepth 100000
set_option maxHeartbeats 8000000
theorem load_v (BG:Nat→AV) (A:Ops) (hA:A=realOps) (F:ShF) (T:Int→Int→Int→Int) (t R s:Nat→Int) (hF:F=shF realOps T t R) (ht:∀ i,i<12→0≤t i∧t i≤64) (C:List (FuncId × Contract)) (L:List (Nat × (HS→HAnn))) (fr:List (List HV)) (b0 b1 b2 b3 b4 b5 b6 b8 b10:HB) (c:SI) (q h:Nat→Int) (r:HA) (ver len:Nat) (f:Nat→Int) (hlen:128≤len) (g:Nat→Int)
  (hok:OKs [b0,b1,b2,b3,b4,b5,b6,dgB c q h r,b8,.row ver .u8 1 (.sym len) f,b10,.fix [.pl (.arr .u64 80 g)]] fr) (Q:Ex→HS→Prop)
  (hQ:∀ sl,Q .normal { fr:=fr,sl:=sl,bl:=[b0,b1,b2,b3,b4,b5,b6,dgB c q h r,b8,.row ver .u8 1 (.sym len) f,b10,.fix [.pl (.arr .u64 80 (F.words f g 16))]] }) :
  wpH (envS BG A F T t R s C L) sh_load.1 { fr:=fr,sl:=(List.append [.at (.sl 11 0 1 (.lit 0) (.lit 16)),.at (.ls 9 ver 1 (.sym len)),.at (.pl (.int .i64 (.lit 8)))] (jn 37)),bl:=[b0,b1,b2,b3,b4,b5,b6,dgB c q h r,b8,.row ver .u8 1 (.sym len) f,b10,.fix [.pl (.arr .u64 80 g)]] } Q:=by
 obtain ⟨bi,cm,un,cv,na,eq⟩:=A
 have hbi:bi=realBin:=congrArg Ops.bin hA
 have hcm:cm=realCmp:=congrArg Ops.cmp hA
 have hun:un=realUn:=congrArg Ops.un hA
 have hna:na=Int.toNat:=congrArg Ops.nat hA
 have hcv:cv=fun k n=>k.wrap n:=congrArg Ops.cnv hA
 clear hA
 obtain ⟨X,hX⟩:∃ X:Nat→Nat,∀ a,X a=8*a:=⟨_,fun _=>rfl⟩
 cbv
 refine ⟨⟨⟨0,by decide⟩,?_⟩,fun a hwf=>?_⟩
 ·cbv
  exact ⟨⟨rfl,trivial⟩,hok.leArr 11 .u64 80 g _ rfl (fun i _=>words_0 hF _ g i)⟩
 ·clear hwf
  obtain ⟨a,ha⟩:=a
  have hok2:OKs [b0,b1,b2,b3,b4,b5,b6,dgB c q h r,b8,.row ver .u8 1 (.sym len) f,b10,.fix [.pl (.arr .u64 80 (F.words f g a))]] fr:=hok.arr 11 .u64 80 _ rfl
  cbv
  refine ⟨fun hc=>?_,fun hc=>?_⟩
  ·have ha':a<16:=by rw [hcm] at hc;exact lss_t.1 hc
   have e1:bi .mul .i64 (Int.ofNat a) 8=Int.ofNat (X a):=by rw [hbi,hX];exact m8 (by omega)
   have e2:bi .mul .i64 (bi .add .i64 (Int.ofNat a) 1) 8=Int.ofNat (X (a+1)):=by rw [hbi,a1 (by omega),hX];exact m8 (by omega)
   have x1:=hX (a+1)
   have x0:=hX a
   cbv
   rw [e2,e1,hna]
   refine ⟨upt (by omega),upt (by show X a≤X (a+1);omega),⟨⟨0,by decide⟩,?_⟩,fun b hwf=>?_⟩
   ·cbv
    exact ⟨⟨word_0 hF _ ▸ rfl,rfl,trivial⟩,hok2.refl⟩
   ·clear hwf
    obtain ⟨b,hb⟩:=b
    cbv
    refine ⟨fun hc2=>?_,fun hc2=>?_⟩
    ·have h2:cm .lss (Int.ofNat b) (Int.ofNat (nsub (X (a+1)) (X a)))=true:=hc2
     rw [hcm] at h2
     have h3:=lss_t.1 h2
     have w1:Within (Int.ofNat b) (nsub (X (a+1)) (X a)):=win h3
     have hb':b<8:=by rw [nsub_eq,hX,hX] at h3;omega
     have w2:FitsMul (nadd (X a) b) 1 len 1:=⟨by rw [nadd_eq,hX];omega⟩
     have w3:bi .or .u64 (bi .shl .u64 (F.word (fun j=>f (X a+j)) b) 8) (cv .u64 (f (nadd (X a) b)))=F.word (fun j=>f (X a+j)) (b+1):=by
      rw [word_s hF,nadd_eq,hbi,hcv]
     have w4:bi .add .i64 (Int.ofNat b) 1=Int.ofNat (b+1):=by rw [hbi];exact a1 (by omega)
     cbv
     refine ⟨w1,w2,⟨b+1,by omega⟩,?_,by show 8 - (b+1)<8 - b;omega⟩
     cbv
     exact ⟨⟨w3,w4,trivial⟩,hok2.refl⟩
    ·have h2:cm .lss (Int.ofNat b) (Int.ofNat (nsub (X (a+1)) (X a)))=false:=hc2
     have hb':b=8:=by rw [hcm] at h2;have h3:=lss_f.1 h2;rw [nsub_eq,hX,hX] at h3;omega
     subst hb'
     have w4:bi .add .i64 (Int.ofNat a) 1=Int.ofNat (a+1):=by rw [hbi];exact a1 (by omega)
     cbv
     refine ⟨win (by omega),⟨by omega⟩,⟨a+1,by omega⟩,?_,by show 16 - (a+1)<16 - a;omega⟩
     cbv
     exact ⟨⟨w4,trivial⟩,hok.leArr 11 .u64 80 _ _ rfl (fun i _=>words_s hF _ g a i (fun j=>by rw [← hX a];rfl))⟩
  ·have:a=16:=by rw [hcm] at hc;have:=lss_f.1 hc;omega
   subst this
   cbv
   exact hQ _
theorem mix_v (BG:Nat→AV) (A:Ops) (hA:A=realOps) (F:ShF) (T:Int→Int→Int→Int) (t R s:Nat→Int) (hF:F=shF realOps T t R) (ht:∀ i,i<12→0≤t i∧t i≤64) (C:List (FuncId × Contract)) (L:List (Nat × (HS→HAnn))) (fr:List (List HV)) (b0 b1 b2 b3 b4 b5 b6 b8 b10:HB) (c:SI) (q h:Nat→Int) (r:HA) (ver len:Nat) (f:Nat→Int) (hlen:128≤len) (hok:OKs [b0,b1,b2,b3,b4,b5,b6,dgB c q h r,b8,.row ver .u8 1 (.sym len) f,b10] fr) (Q:Ex→HS→Prop)
  (hQ:∀ sl w',Q .normal { fr:=fr,sl:=sl,bl:=[b0,b1,b2,b3,b4,b5,b6,dgB c q (F.block h f) r,b8,.row ver .u8 1 (.sym len) f,b10,.fix [.pl (.arr .u64 80 w')],.fix [.pl (.arr .i64 12 t)],.fix [.pl (.arr .u64 8 h)]] }) :
  wpH (envS BG A F T t R s C L) (sh_mix sh_load.1 (sh_compress sh_cB0.1 sh_cZ.1).1).1 { fr:=fr,sl:=(List.append [.at (.ptr 7 0 (.lit 0)),.at (.ls 9 ver 1 (.sym len))] (jn 31)),bl:=[b0,b1,b2,b3,b4,b5,b6,dgB c q h r,b8,.row ver .u8 1 (.sym len) f,b10] } Q:=by
 have hl:=fun fr=>load_v BG A hA F T t R s hF ht C L fr b0 b1 b2 b3 b4 b5 b6 b8 b10 c q h r ver len f hlen (fun _=>0)
 have hc:=fun fr=>compress_v BG A hA F T t R s hF ht C L fr b0 b1 b2 b3 b4 b5 b6 b8 (.row ver .u8 1 (.sym len) f) b10 c q h r (F.words f (fun _=>0) 16)
 have hk:OKs ([b0,b1,b2,b3,b4,b5,b6,dgB c q h r,b8,.row ver .u8 1 (.sym len) f,b10] ++ [.fix [.pl (.arr .u64 80 (fun _=>0))]]) fr:=hok.app _ ⟨⟨⟨⟨rfl,rfl,fun _ _=>rfl⟩,trivial⟩,rfl,trivial⟩,trivial⟩
 have hk2:OKs [b0,b1,b2,b3,b4,b5,b6,dgB c q h r,b8,.row ver .u8 1 (.sym len) f,b10,.fix [.pl (.arr .u64 80 (F.words f (fun _=>0) 16))]] fr:=hk.arr 11 .u64 80 _ rfl
 generalize sh_load.1=cl at hl ⊢
 generalize (sh_compress sh_cB0.1 sh_cZ.1).1=cc at hc ⊢
 obtain ⟨bi,cm,un,cv,na,eq⟩:=A
 have hbi:bi=realBin:=congrArg Ops.bin hA
 have hcm:cm=realCmp:=congrArg Ops.cmp hA
 have hun:un=realUn:=congrArg Ops.un hA
 have hna:na=Int.toNat:=congrArg Ops.nat hA
 have hcv:cv=fun k n=>k.wrap n:=congrArg Ops.cnv hA
 clear hA
 cbv
 refine ⟨hl _ (hk.pushS _ (by cbv)) _ (fun sl=>?_)⟩
 cbv
 refine ⟨hc _ (hk2.pushS _ (by cbv)) _ (fun sl w'=>?_)⟩
 cbv
 exact hQ _ _
end Go.Proofs.YtjbimeigkklcmaaDoor

/-
  load and mix (shape k).
-/
namespace Go.Proofs.YtjbimeigkklcmaaDoor
open Go Go.Proofs Sx Sy
set_option maxRecDepth 100000
set_option maxHeartbeats 8000000
theorem load_k (BG:Nat→AV) (A:Ops) (hA:A=realOps) (F:ShF) (T:Int→Int→Int→Int) (t R s:Nat→Int) (hF:F=shF realOps T t R) (ht:∀ i,i<12→0≤t i∧t i≤64) (C:List (FuncId × Contract)) (L:List (Nat × (HS→HAnn))) (fr:List (List HV)) (b0 b1 b2 b3 b4 b5 b6 b8 b9:HB) (c:SI) (q h:Nat→Int) (r:HA) (f:Nat→Int) (g:Nat→Int)
  (hok:OKs [b0,b1,b2,b3,b4,b5,b6,dgB c q h r,b8,b9,.fix [.pl (.arr .u64 80 g)]] fr) (Q:Ex→HS→Prop)
  (hQ:∀ sl,Q .normal { fr:=fr,sl:=sl,bl:=[b0,b1,b2,b3,b4,b5,b6,dgB c q h r,b8,b9,.fix [.pl (.arr .u64 80 (F.words f g 16))]] }) :
  wpH (envS BG A F T t R s C L) sh_load.1 { fr:=fr,sl:=(List.append [.at (.sl 10 0 1 (.lit 0) (.lit 16)),.at (.xsl .u8 1 (.lit 128) f),.at (.pl (.int .i64 (.lit 8)))] (jn 37)),bl:=[b0,b1,b2,b3,b4,b5,b6,dgB c q h r,b8,b9,.fix [.pl (.arr .u64 80 g)]] } Q:=by
 obtain ⟨bi,cm,un,cv,na,eq⟩:=A
 have hbi:bi=realBin:=congrArg Ops.bin hA
 have hcm:cm=realCmp:=congrArg Ops.cmp hA
 have hun:un=realUn:=congrArg Ops.un hA
 have hna:na=Int.toNat:=congrArg Ops.nat hA
 have hcv:cv=fun k n=>k.wrap n:=congrArg Ops.cnv hA
 clear hA
 obtain ⟨X,hX⟩:∃ X:Nat→Nat,∀ a,X a=8*a:=⟨_,fun _=>rfl⟩
 cbv
 refine ⟨⟨⟨0,by decide⟩,?_⟩,fun a hwf=>?_⟩
 ·cbv
  exact ⟨⟨fun _ _=>rfl,rfl,trivial⟩,hok.leArr 10 .u64 80 g _ rfl (fun i _=>words_0 hF _ g i)⟩
 ·clear hwf
  obtain ⟨a,ha⟩:=a
  have hok2:OKs [b0,b1,b2,b3,b4,b5,b6,dgB c q h r,b8,b9,.fix [.pl (.arr .u64 80 (F.words f g a))]] fr:=hok.arr 10 .u64 80 _ rfl
  cbv
  refine ⟨fun hc=>?_,fun hc=>?_⟩
  ·have ha':a<16:=by rw [hcm] at hc;exact lss_t.1 hc
   have e1:bi .mul .i64 (Int.ofNat a) 8=Int.ofNat (X a):=by rw [hbi,hX];exact m8 (by omega)
   have e2:bi .mul .i64 (bi .add .i64 (Int.ofNat a) 1) 8=Int.ofNat (X (a+1)):=by rw [hbi,a1 (by omega),hX];exact m8 (by omega)
   have x1:=hX (a+1)
   have x0:=hX a
   cbv
   rw [e2,e1,hna]
   refine ⟨upt (by omega),upt (by show X a≤X (a+1);omega),⟨⟨0,by decide⟩,?_⟩,fun b hwf=>?_⟩
   ·cbv
    refine ⟨?_,hok2.refl⟩
    repeat' first | exact trivial | exact fun _ _=>rfl | exact rfl | exact (word_0 hF _).symm | apply And.intro
   ·clear hwf
    obtain ⟨b,hb⟩:=b
    cbv
    refine ⟨fun hc2=>?_,fun hc2=>?_⟩
    ·have h2:cm .lss (Int.ofNat b) (Int.ofNat (nsub (X (a+1)) (X a)))=true:=hc2
     rw [hcm] at h2
     have h3:=lss_t.1 h2
     have w1:Within (Int.ofNat b) (nsub (X (a+1)) (X a)):=win h3
     have hb':b<8:=by rw [nsub_eq,hX,hX] at h3;omega
     have w2:LeqN 1 1:=⟨by decide⟩
     have w3:bi .or .u64 (bi .shl .u64 (F.word (fun j=>f (X a+j)) b) 8) (cv .u64 (f (X a+(b+0))))=F.word (fun j=>f (X a+j)) (b+1):=by
      rw [word_s hF,hbi,hcv]
      rfl
     have w4:bi .add .i64 (Int.ofNat b) 1=Int.ofNat (b+1):=by rw [hbi];exact a1 (by omega)
     cbv
     refine ⟨w1,w2,⟨b+1,by omega⟩,?_,by show 8 - (b+1)<8 - b;omega⟩
     cbv
     refine ⟨?_,hok2.refl⟩
     repeat' first | exact trivial | exact fun _ _=>rfl | exact w4 | exact w3 | apply And.intro
    ·have h2:cm .lss (Int.ofNat b) (Int.ofNat (nsub (X (a+1)) (X a)))=false:=hc2
     have hb':b=8:=by rw [hcm] at h2;have h3:=lss_f.1 h2;rw [nsub_eq,hX,hX] at h3;omega
     subst hb'
     have w4:bi .add .i64 (Int.ofNat a) 1=Int.ofNat (a+1):=by rw [hbi];exact a1 (by omega)
     cbv
     refine ⟨win (by omega),⟨by omega⟩,⟨a+1,by omega⟩,?_,by show 16 - (a+1)<16 - a;omega⟩
     cbv
     exact ⟨⟨fun _ _=>rfl,w4,trivial⟩,hok.leArr 10 .u64 80 _ _ rfl (fun i _=>words_s hF _ g a i (fun j=>by rw [← hX a];rfl))⟩
  ·have:a=16:=by rw [hcm] at hc;have:=lss_f.1 hc;omega
   subst this
   cbv
   exact hQ _
theorem mix_k (BG:Nat→AV) (A:Ops) (hA:A=realOps) (F:ShF) (T:Int→Int→Int→Int) (t R s:Nat→Int) (hF:F=shF realOps T t R) (ht:∀ i,i<12→0≤t i∧t i≤64) (C:List (FuncId × Contract)) (L:List (Nat × (HS→HAnn))) (fr:List (List HV)) (b0 b1 b2 b3 b4 b5 b6 b8 b9:HB) (c:SI) (q h:Nat→Int) (r:HA) (f:Nat→Int) (hok:OKs [b0,b1,b2,b3,b4,b5,b6,dgB c q h r,b8,b9] fr) (Q:Ex→HS→Prop)
  (hQ:∀ sl w',Q .normal { fr:=fr,sl:=sl,bl:=[b0,b1,b2,b3,b4,b5,b6,dgB c q (F.block h f) r,b8,b9,.fix [.pl (.arr .u64 80 w')],.fix [.pl (.arr .i64 12 t)],.fix [.pl (.arr .u64 8 h)]] }) :
  wpH (envS BG A F T t R s C L) (sh_mix sh_load.1 (sh_compress sh_cB0.1 sh_cZ.1).1).1 { fr:=fr,sl:=(List.append [.at (.ptr 7 0 (.lit 0)),.at (.xsl .u8 1 (.lit 128) f)] (jn 31)),bl:=[b0,b1,b2,b3,b4,b5,b6,dgB c q h r,b8,b9] } Q:=by
 have hl:=fun fr=>load_k BG A hA F T t R s hF ht C L fr b0 b1 b2 b3 b4 b5 b6 b8 b9 c q h r f (fun _=>0)
 have hc:=fun fr=>compress_k BG A hA F T t R s hF ht C L fr b0 b1 b2 b3 b4 b5 b6 b8 b9 c q h r (F.words f (fun _=>0) 16)
 have hk:OKs ([b0,b1,b2,b3,b4,b5,b6,dgB c q h r,b8,b9] ++ [.fix [.pl (.arr .u64 80 (fun _=>0))]]) fr:=hok.app _ ⟨⟨⟨⟨rfl,rfl,fun _ _=>rfl⟩,trivial⟩,rfl,trivial⟩,trivial⟩
 have hk2:OKs [b0,b1,b2,b3,b4,b5,b6,dgB c q h r,b8,b9,.fix [.pl (.arr .u64 80 (F.words f (fun _=>0) 16))]] fr:=hk.arr 10 .u64 80 _ rfl
 generalize sh_load.1=cl at hl ⊢
 generalize (sh_compress sh_cB0.1 sh_cZ.1).1=cc at hc ⊢
 obtain ⟨bi,cm,un,cv,na,eq⟩:=A
 have hbi:bi=realBin:=congrArg Ops.bin hA
 have hcm:cm=realCmp:=congrArg Ops.cmp hA
 have hun:un=realUn:=congrArg Ops.un hA
 have hna:na=Int.toNat:=congrArg Ops.nat hA
 have hcv:cv=fun k n=>k.wrap n:=congrArg Ops.cnv hA
 clear hA
 cbv
 refine ⟨hl _ (hk.pushS _ (by cbv)) _ (fun sl=>?_)⟩
 cbv
 refine ⟨hc _ (hk2.pushS _ (by cbv)) _ (fun sl w'=>?_)⟩
 cbv
 exact hQ _ _
end Go.Proofs.YtjbimeigkklcmaaDoor

/-
  load and mix (shape n).
-/
namespace Go.Proofs.YtjbimeigkklcmaaDoor
open Go Go.Proofs Sx Sy
set_option maxRecDepth 100000
set_option maxHeartbeats 8000000
theorem load_n (BG:Nat→AV) (A:Ops) (hA:A=realOps) (F:ShF) (T:Int→Int→Int→Int) (t R s:Nat→Int) (hF:F=shF realOps T t R) (ht:∀ i,i<12→0≤t i∧t i≤64) (C:List (FuncId × Contract)) (L:List (Nat × (HS→HAnn))) (fr:List (List HV)) (b0 b1 b2 b3 b4 b5 b6 b7 b8 b9 b10:HB) (c:SI) (q h:Nat→Int) (r:HA) (ver len o:Nat) (f:Nat→Int) (hlen:o+128≤len) (g:Nat→Int)
  (hok:OKs [b0,b1,b2,b3,b4,b5,b6,b7,b8,b9,b10,dgB c q h r,.row ver .u8 1 (.sym len) f,.fix [.pl (.arr .u64 80 g)]] fr) (Q:Ex→HS→Prop)
  (hQ:∀ sl,Q .normal { fr:=fr,sl:=sl,bl:=[b0,b1,b2,b3,b4,b5,b6,b7,b8,b9,b10,dgB c q h r,.row ver .u8 1 (.sym len) f,.fix [.pl (.arr .u64 80 (F.words (fun j=>f (o+j)) g 16))]] }) :
  wpH (envS BG A F T t R s C L) sh_load.1 { fr:=fr,sl:=(List.append [.at (.sl 13 0 1 (.lit 0) (.lit 16)),.at (.sl 12 ver 1 (.sym o) (.lit 128)),.at (.pl (.int .i64 (.lit 8)))] (jn 37)),bl:=[b0,b1,b2,b3,b4,b5,b6,b7,b8,b9,b10,dgB c q h r,.row ver .u8 1 (.sym len) f,.fix [.pl (.arr .u64 80 g)]] } Q:=by
 obtain ⟨bi,cm,un,cv,na,eq⟩:=A
 have hbi:bi=realBin:=congrArg Ops.bin hA
 have hcm:cm=realCmp:=congrArg Ops.cmp hA
 have hun:un=realUn:=congrArg Ops.un hA
 have hna:na=Int.toNat:=congrArg Ops.nat hA
 have hcv:cv=fun k n=>k.wrap n:=congrArg Ops.cnv hA
 clear hA
 obtain ⟨X,hX⟩:∃ X:Nat→Nat,∀ a,X a=8*a:=⟨_,fun _=>rfl⟩
 cbv
 refine ⟨⟨⟨0,by decide⟩,?_⟩,fun a hwf=>?_⟩
 ·cbv
  exact ⟨⟨rfl,trivial⟩,hok.leArr 13 .u64 80 g _ rfl (fun i _=>words_0 hF _ g i)⟩
 ·clear hwf
  obtain ⟨a,ha⟩:=a
  have hok2:OKs [b0,b1,b2,b3,b4,b5,b6,b7,b8,b9,b10,dgB c q h r,.row ver .u8 1 (.sym len) f,.fix [.pl (.arr .u64 80 (F.words (fun j=>f (o+j)) g a))]] fr:=hok.arr 13 .u64 80 _ rfl
  cbv
  refine ⟨fun hc=>?_,fun hc=>?_⟩
  ·have ha':a<16:=by rw [hcm] at hc;exact lss_t.1 hc
   have e1:bi .mul .i64 (Int.ofNat a) 8=Int.ofNat (X a):=by rw [hbi,hX];exact m8 (by omega)
   have e2:bi .mul .i64 (bi .add .i64 (Int.ofNat a) 1) 8=Int.ofNat (X (a+1)):=by rw [hbi,a1 (by omega),hX];exact m8 (by omega)
   have x1:=hX (a+1)
   have x0:=hX a
   cbv
   rw [e2,e1,hna]
   refine ⟨upt (by omega),upt (by show X a≤X (a+1);omega),⟨⟨0,by decide⟩,?_⟩,fun b hwf=>?_⟩
   ·cbv
    exact ⟨⟨word_0 hF _ ▸ rfl,rfl,trivial⟩,hok2.refl⟩
   ·clear hwf
    obtain ⟨b,hb⟩:=b
    cbv
    refine ⟨fun hc2=>?_,fun hc2=>?_⟩
    ·have h2:cm .lss (Int.ofNat b) (Int.ofNat (nsub (X (a+1)) (X a)))=true:=hc2
     rw [hcm] at h2
     have h3:=lss_t.1 h2
     have w1:Within (Int.ofNat b) (nsub (X (a+1)) (X a)):=win h3
     have hb':b<8:=by rw [nsub_eq,hX,hX] at h3;omega
     have w2:FitsMul (nadd (nadd o (X a)) b) 1 len 1:=⟨by rw [nadd_eq,nadd_eq,hX];omega⟩
     have w3:bi .or .u64 (bi .shl .u64 (F.word (fun j=>f (nadd o (X a)+j)) b) 8) (cv .u64 (f (nadd (nadd o (X a)) b)))=F.word (fun j=>f (nadd o (X a)+j)) (b+1):=by
      rw [word_s hF,nadd_eq _ b,hbi,hcv]
     have w4:bi .add .i64 (Int.ofNat b) 1=Int.ofNat (b+1):=by rw [hbi];exact a1 (by omega)
     cbv
     refine ⟨w1,w2,⟨b+1,by omega⟩,?_,by show 8 - (b+1)<8 - b;omega⟩
     cbv
     exact ⟨⟨w3,w4,trivial⟩,hok2.refl⟩
    ·have h2:cm .lss (Int.ofNat b) (Int.ofNat (nsub (X (a+1)) (X a)))=false:=hc2
     have hb':b=8:=by rw [hcm] at h2;have h3:=lss_f.1 h2;rw [nsub_eq,hX,hX] at h3;omega
     subst hb'
     have w4:bi .add .i64 (Int.ofNat a) 1=Int.ofNat (a+1):=by rw [hbi];exact a1 (by omega)
     cbv
     refine ⟨win (by omega),⟨by omega⟩,⟨a+1,by omega⟩,?_,by show 16 - (a+1)<16 - a;omega⟩
     cbv
     exact ⟨⟨w4,trivial⟩,hok.leArr 13 .u64 80 _ _ rfl (fun i _=>words_s hF _ g a i (fun j=>(by show f (nadd o (X a)+j)=f (o+(8*a+j));rw [nadd_eq,hX,Nat.add_assoc])))⟩
  ·have:a=16:=by rw [hcm] at hc;have:=lss_f.1 hc;omega
   subst this
   cbv
   exact hQ _
theorem mix_n (BG:Nat→AV) (A:Ops) (hA:A=realOps) (F:ShF) (T:Int→Int→Int→Int) (t R s:Nat→Int) (hF:F=shF realOps T t R) (ht:∀ i,i<12→0≤t i∧t i≤64) (C:List (FuncId × Contract)) (L:List (Nat × (HS→HAnn))) (fr:List (List HV)) (b0 b1 b2 b3 b4 b5 b6 b7 b8 b9 b10:HB) (c:SI) (q h:Nat→Int) (r:HA) (ver len o:Nat) (f:Nat→Int) (hlen:o+128≤len) (hok:OKs [b0,b1,b2,b3,b4,b5,b6,b7,b8,b9,b10,dgB c q h r,.row ver .u8 1 (.sym len) f] fr) (Q:Ex→HS→Prop)
  (hQ:∀ sl w',Q .normal { fr:=fr,sl:=sl,bl:=[b0,b1,b2,b3,b4,b5,b6,b7,b8,b9,b10,dgB c q (F.block h (fun j=>f (o+j))) r,.row ver .u8 1 (.sym len) f,.fix [.pl (.arr .u64 80 w')],.fix [.pl (.arr .i64 12 t)],.fix [.pl (.arr .u64 8 h)]] }) :
  wpH (envS BG A F T t R s C L) (sh_mix sh_load.1 (sh_compress sh_cB0.1 sh_cZ.1).1).1 { fr:=fr,sl:=(List.append [.at (.ptr 11 0 (.lit 0)),.at (.sl 12 ver 1 (.sym o) (.lit 128))] (jn 31)),bl:=[b0,b1,b2,b3,b4,b5,b6,b7,b8,b9,b10,dgB c q h r,.row ver .u8 1 (.sym len) f] } Q:=by
 have hl:=fun fr=>load_n BG A hA F T t R s hF ht C L fr b0 b1 b2 b3 b4 b5 b6 b7 b8 b9 b10 c q h r ver len o f hlen (fun _=>0)
 have hc:=fun fr=>compress_n BG A hA F T t R s hF ht C L fr b0 b1 b2 b3 b4 b5 b6 b7 b8 b9 b10 (.row ver .u8 1 (.sym len) f) c q h r (F.words (fun j=>f (o+j)) (fun _=>0) 16)
 have hk:OKs ([b0,b1,b2,b3,b4,b5,b6,b7,b8,b9,b10,dgB c q h r,.row ver .u8 1 (.sym len) f] ++ [.fix [.pl (.arr .u64 80 (fun _=>0))]]) fr:=hok.app _ ⟨⟨⟨⟨rfl,rfl,fun _ _=>rfl⟩,trivial⟩,rfl,trivial⟩,trivial⟩
 have hk2:OKs [b0,b1,b2,b3,b4,b5,b6,b7,b8,b9,b10,dgB c q h r,.row ver .u8 1 (.sym len) f,.fix [.pl (.arr .u64 80 (F.words (fun j=>f (o+j)) (fun _=>0) 16))]] fr:=hk.arr 13 .u64 80 _ rfl
 generalize sh_load.1=cl at hl ⊢
 generalize (sh_compress sh_cB0.1 sh_cZ.1).1=cc at hc ⊢
 obtain ⟨bi,cm,un,cv,na,eq⟩:=A
 have hbi:bi=realBin:=congrArg Ops.bin hA
 have hcm:cm=realCmp:=congrArg Ops.cmp hA
 have hun:un=realUn:=congrArg Ops.un hA
 have hna:na=Int.toNat:=congrArg Ops.nat hA
 have hcv:cv=fun k n=>k.wrap n:=congrArg Ops.cnv hA
 clear hA
 cbv
 refine ⟨hl _ (hk.pushS _ (by cbv)) _ (fun sl=>?_)⟩
 cbv
 refine ⟨hc _ (hk2.pushS _ (by cbv)) _ (fun sl w'=>?_)⟩
 cbv
 exact hQ _ _
end Go.Proofs.YtjbimeigkklcmaaDoor

/-
  load and mix (shape y).
-/
namespace Go.Proofs.YtjbimeigkklcmaaDoor
open Go Go.Proofs Sx Sy
set_option maxRecDepth 100000
set_option maxHeartbeats 8000000
theorem load_y (BG:Nat→AV) (A:Ops) (hA:A=realOps) (F:ShF) (T:Int→Int→Int→Int) (t R s:Nat→Int) (hF:F=shF realOps T t R) (ht:∀ i,i<12→0≤t i∧t i≤64) (C:List (FuncId × Contract)) (L:List (Nat × (HS→HAnn))) (fr:List (List HV)) (b0 b1 b2 b3 b4 b5 b6 b7 b8 b9:HB) (c:SI) (q h:Nat→Int) (r:HA) (ver len o:Nat) (f:Nat→Int) (hlen:o+128≤len) (g:Nat→Int)
  (hok:OKs [b0,b1,b2,b3,b4,b5,b6,b7,b8,b9,dgB c q h r,.row ver .u8 1 (.sym len) f,.fix [.pl (.arr .u64 80 g)]] fr) (Q:Ex→HS→Prop)
  (hQ:∀ sl,Q .normal { fr:=fr,sl:=sl,bl:=[b0,b1,b2,b3,b4,b5,b6,b7,b8,b9,dgB c q h r,.row ver .u8 1 (.sym len) f,.fix [.pl (.arr .u64 80 (F.words (fun j=>f (o+j)) g 16))]] }) :
  wpH (envS BG A F T t R s C L) sh_load.1 { fr:=fr,sl:=(List.append [.at (.sl 12 0 1 (.lit 0) (.lit 16)),.at (.sl 11 ver 1 (.sym o) (.lit 128)),.at (.pl (.int .i64 (.lit 8)))] (jn 37)),bl:=[b0,b1,b2,b3,b4,b5,b6,b7,b8,b9,dgB c q h r,.row ver .u8 1 (.sym len) f,.fix [.pl (.arr .u64 80 g)]] } Q:=by
 obtain ⟨bi,cm,un,cv,na,eq⟩:=A
 have hbi:bi=realBin:=congrArg Ops.bin hA
 have hcm:cm=realCmp:=congrArg Ops.cmp hA
 have hun:un=realUn:=congrArg Ops.un hA
 have hna:na=Int.toNat:=congrArg Ops.nat hA
 have hcv:cv=fun k n=>k.wrap n:=congrArg Ops.cnv hA
 clear hA
 obtain ⟨X,hX⟩:∃ X:Nat→Nat,∀ a,X a=8*a:=⟨_,fun _=>rfl⟩
 cbv
 refine ⟨⟨⟨0,by decide⟩,?_⟩,fun a hwf=>?_⟩
 ·cbv
  exact ⟨⟨rfl,trivial⟩,hok.leArr 12 .u64 80 g _ rfl (fun i _=>words_0 hF _ g i)⟩
 ·clear hwf
  obtain ⟨a,ha⟩:=a
  have hok2:OKs [b0,b1,b2,b3,b4,b5,b6,b7,b8,b9,dgB c q h r,.row ver .u8 1 (.sym len) f,.fix [.pl (.arr .u64 80 (F.words (fun j=>f (o+j)) g a))]] fr:=hok.arr 12 .u64 80 _ rfl
  cbv
  refine ⟨fun hc=>?_,fun hc=>?_⟩
  ·have ha':a<16:=by rw [hcm] at hc;exact lss_t.1 hc
   have e1:bi .mul .i64 (Int.ofNat a) 8=Int.ofNat (X a):=by rw [hbi,hX];exact m8 (by omega)
   have e2:bi .mul .i64 (bi .add .i64 (Int.ofNat a) 1) 8=Int.ofNat (X (a+1)):=by rw [hbi,a1 (by omega),hX];exact m8 (by omega)
   have x1:=hX (a+1)
   have x0:=hX a
   cbv
   rw [e2,e1,hna]
   refine ⟨upt (by omega),upt (by show X a≤X (a+1);omega),⟨⟨0,by decide⟩,?_⟩,fun b hwf=>?_⟩
   ·cbv
    exact ⟨⟨word_0 hF _ ▸ rfl,rfl,trivial⟩,hok2.refl⟩
   ·clear hwf
    obtain ⟨b,hb⟩:=b
    cbv
    refine ⟨fun hc2=>?_,fun hc2=>?_⟩
    ·have h2:cm .lss (Int.ofNat b) (Int.ofNat (nsub (X (a+1)) (X a)))=true:=hc2
     rw [hcm] at h2
     have h3:=lss_t.1 h2
     have w1:Within (Int.ofNat b) (nsub (X (a+1)) (X a)):=win h3
     have hb':b<8:=by rw [nsub_eq,hX,hX] at h3;omega
     have w2:FitsMul (nadd (nadd o (X a)) b) 1 len 1:=⟨by rw [nadd_eq,nadd_eq,hX];omega⟩
     have w3:bi .or .u64 (bi .shl .u64 (F.word (fun j=>f (nadd o (X a)+j)) b) 8) (cv .u64 (f (nadd (nadd o (X a)) b)))=F.word (fun j=>f (nadd o (X a)+j)) (b+1):=by
      rw [word_s hF,nadd_eq _ b,hbi,hcv]
     have w4:bi .add .i64 (Int.ofNat b) 1=Int.ofNat (b+1):=by rw [hbi];exact a1 (by omega)
     cbv
     refine ⟨w1,w2,⟨b+1,by omega⟩,?_,by show 8 - (b+1)<8 - b;omega⟩
     cbv
     exact ⟨⟨w3,w4,trivial⟩,hok2.refl⟩
    ·have h2:cm .lss (Int.ofNat b) (Int.ofNat (nsub (X (a+1)) (X a)))=false:=hc2
     have hb':b=8:=by rw [hcm] at h2;have h3:=lss_f.1 h2;rw [nsub_eq,hX,hX] at h3;omega
     subst hb'
     have w4:bi .add .i64 (Int.ofNat a) 1=Int.ofNat (a+1):=by rw [hbi];exact a1 (by omega)
     cbv
     refine ⟨win (by omega),⟨by omega⟩,⟨a+1,by omega⟩,?_,by show 16 - (a+1)<16 - a;omega⟩
     cbv
     exact ⟨⟨w4,trivial⟩,hok.leArr 12 .u64 80 _ _ rfl (fun i _=>words_s hF _ g a i (fun j=>(by show f (nadd o (X a)+j)=f (o+(8*a+j));rw [nadd_eq,hX,Nat.add_assoc])))⟩
  ·have:a=16:=by rw [hcm] at hc;have:=lss_f.1 hc;omega
   subst this
   cbv
   exact hQ _
theorem mix_y (BG:Nat→AV) (A:Ops) (hA:A=realOps) (F:ShF) (T:Int→Int→Int→Int) (t R s:Nat→Int) (hF:F=shF realOps T t R) (ht:∀ i,i<12→0≤t i∧t i≤64) (C:List (FuncId × Contract)) (L:List (Nat × (HS→HAnn))) (fr:List (List HV)) (b0 b1 b2 b3 b4 b5 b6 b7 b8 b9:HB) (c:SI) (q h:Nat→Int) (r:HA) (ver len o:Nat) (f:Nat→Int) (hlen:o+128≤len) (hok:OKs [b0,b1,b2,b3,b4,b5,b6,b7,b8,b9,dgB c q h r,.row ver .u8 1 (.sym len) f] fr) (Q:Ex→HS→Prop)
  (hQ:∀ sl w',Q .normal { fr:=fr,sl:=sl,bl:=[b0,b1,b2,b3,b4,b5,b6,b7,b8,b9,dgB c q (F.block h (fun j=>f (o+j))) r,.row ver .u8 1 (.sym len) f,.fix [.pl (.arr .u64 80 w')],.fix [.pl (.arr .i64 12 t)],.fix [.pl (.arr .u64 8 h)]] }) :
  wpH (envS BG A F T t R s C L) (sh_mix sh_load.1 (sh_compress sh_cB0.1 sh_cZ.1).1).1 { fr:=fr,sl:=(List.append [.at (.ptr 10 0 (.lit 0)),.at (.sl 11 ver 1 (.sym o) (.lit 128))] (jn 31)),bl:=[b0,b1,b2,b3,b4,b5,b6,b7,b8,b9,dgB c q h r,.row ver .u8 1 (.sym len) f] } Q:=by
 have hl:=fun fr=>load_y BG A hA F T t R s hF ht C L fr b0 b1 b2 b3 b4 b5 b6 b7 b8 b9 c q h r ver len o f hlen (fun _=>0)
 have hc:=fun fr=>compress_y BG A hA F T t R s hF ht C L fr b0 b1 b2 b3 b4 b5 b6 b7 b8 b9 (.row ver .u8 1 (.sym len) f) c q h r (F.words (fun j=>f (o+j)) (fun _=>0) 16)
 have hk:OKs ([b0,b1,b2,b3,b4,b5,b6,b7,b8,b9,dgB c q h r,.row ver .u8 1 (.sym len) f] ++ [.fix [.pl (.arr .u64 80 (fun _=>0))]]) fr:=hok.app _ ⟨⟨⟨⟨rfl,rfl,fun _ _=>rfl⟩,trivial⟩,rfl,trivial⟩,trivial⟩
 have hk2:OKs [b0,b1,b2,b3,b4,b5,b6,b7,b8,b9,dgB c q h r,.row ver .u8 1 (.sym len) f,.fix [.pl (.arr .u64 80 (F.words (fun j=>f (o+j)) (fun _=>0) 16))]] fr:=hk.arr 12 .u64 80 _ rfl
 generalize sh_load.1=cl at hl ⊢
 generalize (sh_compress sh_cB0.1 sh_cZ.1).1=cc at hc ⊢
 obtain ⟨bi,cm,un,cv,na,eq⟩:=A
 have hbi:bi=realBin:=congrArg Ops.bin hA
 have hcm:cm=realCmp:=congrArg Ops.cmp hA
 have hun:un=realUn:=congrArg Ops.un hA
 have hna:na=Int.toNat:=congrArg Ops.nat hA
 have hcv:cv=fun k n=>k.wrap n:=congrArg Ops.cnv hA
 clear hA
 cbv
 refine ⟨hl _ (hk.pushS _ (by cbv)) _ (fun sl=>?_)⟩
 cbv
 refine ⟨hc _ (hk2.pushS _ (by cbv)) _ (fun sl w'=>?_)⟩
 cbv
 exact hQ _ _
end Go.Proofs.YtjbimeigkklcmaaDoor

