/-
  Package scalar: words, sums, differences.
-/
import Derived.Test.YtjbimeigkklcmaaDoorZBase
import Derived.Test.YtjbimeigkklcmaaDoorZMA
set_option linter.unusedVariables false
set_option linter.unusedSimpArgs false
namespace Go.Proofs.YtjbimeigkklcmaaDoor
open Go Go.Proofs Sx
set_option maxRecDepth 100000
set_option maxHeartbeats 4000000
theorem ok_addS (G:Nat→AV):Sound Tryd.prog G 26 (addC Bit01 adcS adcC):=ok_add64 Tryd.func26 rfl rfl rfl rfl G
theorem ok_subS (G:Nat→AV):Sound Tryd.prog G 79 (addC Bit01 sbbS sbbC):=ok_sub64 Tryd.func79 rfl rfl rfl rfl G
def sc_wplus:{ c:SC // strip (body Tryd.f69)=c }:=⟨_,by cbv⟩
theorem walk_wplus (A:Ops) (hA:A=realOps) (G:Nat→AV) (a:Nat→Int) (b:Nat→Int) (ha:Is5 a) (hb:Is5 b) (S:Int→Int→Int→Int) (hS:S=adcS) (C:Int→Int→Int→Int) (hC:C=adcC) (K:Int→Prop) (hK:K=Bit01) (P:(Nat→Int)→(Nat→Int)→Nat→Int) (hP:P=plusW)  :
  Walk (mkEnv A tab.1 G [(26,addC K S C)] []) sc_wplus.1 25 [.cell 4 51] [.arr .u64 5 a,.arr .u64 5 b] (.arr .u64 5 (P a b)):=by
 refine ⟨?_⟩
 cbv
 subst hA hK hS hC hP
 obtain ⟨p0,p1,p2,p3,p4⟩:=plus_each ha hb
 exact ⟨bit01_0,bit01_adc _ _ _,bit01_adc _ _ _,bit01_adc _ _ _,bit01_adc _ _ _,each5 p0 p1 p2 p3 p4⟩
theorem ok_wplus (G:Nat→AV):Sound Tryd.prog G 69 (lim2C plusW):=by
 refine sound_each (n:=25) (rs:=[.cell 4 51]) (sc:=sc_wplus.1) mixed Tryd.func69 rfl rfl rfl rfl sc_wplus.2 ?_
 intro vs cs r h
 unfold lim2C at h
 split at h
 ·rename_i a b
  cases h
  exact ⟨by simp,fun hcs hwf=>⟨_,envOK tabOK ((.cons (ok_addS G) .nil)),rfl,walk_wplus realOps rfl G a b (is5 (hwf _ (by simp))) (is5 (hwf _ (by simp))) _ rfl _ rfl _ rfl _ rfl ⟩⟩
 ·cases h
def sc_wminus:{ c:SC // strip (body Tryd.f68)=c }:=⟨_,by cbv⟩
theorem walk_wminus (A:Ops) (hA:A=realOps) (G:Nat→AV) (a:Nat→Int) (b:Nat→Int) (ha:Is5 a) (hb:Is5 b) (S:Int→Int→Int→Int) (hS:S=sbbS) (C:Int→Int→Int→Int) (hC:C=sbbC) (K:Int→Prop) (hK:K=Bit01) (M:(Nat→Int)→(Nat→Int)→Nat→Int) (hM:M=minusW) (B:(Nat→Int)→(Nat→Int)→Bool) (hB:B=ltW)  :
  Walk (mkEnv A tab.1 G [(79,addC K S C)] []) sc_wminus.1 28 [.cell 4 51,.tmp 5] [.arr .u64 5 a,.arr .u64 5 b] (.tup [.arr .u64 5 (M a b),.bool (.sym (B a b))]):=by
 refine ⟨?_⟩
 cbv
 subst hA hK hS hC hM hB
 obtain ⟨⟨p0,p1,p2,p3,p4⟩,pl⟩:=minus_each ha hb
 exact ⟨bit01_0,bit01_sbb _ _ _,bit01_sbb _ _ _,bit01_sbb _ _ _,bit01_sbb _ _ _,each5 p0 p1 p2 p3 p4,pl,trivial⟩
theorem ok_wminus (G:Nat→AV):Sound Tryd.prog G 68 (lMinusC minusW ltW):=by
 refine sound_each (n:=28) (rs:=[.cell 4 51,.tmp 5]) (sc:=sc_wminus.1) mixed Tryd.func68 rfl rfl rfl rfl sc_wminus.2 ?_
 intro vs cs r h
 unfold lMinusC at h
 split at h
 ·rename_i a b
  cases h
  exact ⟨by simp,fun hcs hwf=>⟨_,envOK tabOK ((.cons (ok_subS G) .nil)),rfl,walk_wminus realOps rfl G a b (is5 (hwf _ (by simp))) (is5 (hwf _ (by simp))) _ rfl _ rfl _ rfl _ rfl _ rfl ⟩⟩
 ·cases h
def sc_wshift:{ c:SC // strip (body Tryd.f48)=c }:=⟨_,by cbv⟩
theorem walk_wshift (A:Ops) (hA:A=realOps) (G:Nat→AV) (a:Nat→Int) (n:Int) (ha:Is5 a) (hn:Nib n) (S:(Nat→Int)→Int→Nat→Int) (hS:S=shiftW)  :
  Walk (mkEnv A tab.1 G [] []) sc_wshift.1 25 [.cell 4 51] [.arr .u64 5 a,.int .u64 (.sym n)] (.arr .u64 5 (S a n)):=by
 refine ⟨?_⟩
 cbv
 subst hA hS
 obtain ⟨p0,p1,p2,p3,p4⟩:=shift_each ha hn.ok
 exact each5 p0 p1 p2 p3 p4
theorem ok_wshift (G:Nat→AV):Sound Tryd.prog G 48 (shiftC shiftW):=by
 refine sound_sym (n:=25) (rs:=[.cell 4 51]) (sc:=sc_wshift.1) mixed Tryd.func48 rfl rfl rfl rfl sc_wshift.2 ?_
 intro vs cs r h
 unfold shiftC at h
 split at h
 ·rename_i a n
  cases h
  exact ⟨by simp,fun hcs hwf=>⟨_,envOK tabOK ( .nil),rfl,walk_wshift realOps rfl G a n.val (is5 (hwf _ (by simp))) (hcs _ (by simp)) _ rfl ⟩⟩
 ·cases h
def sc_wbytes:{ c:SC // strip (body Tryd.f29)=c }:=⟨_,by cbv⟩
theorem walk_wbytes (A:Ops) (hA:A=realOps) (G:Nat→AV) (a:Nat→Int) (ha:Is5 a) (R:(Nat→Int)→Nat→Int) (hR:R=bytesW) (I:{ i:Nat // i≤32 }→St) (hI:I=fun i=>slots 21 [(1,.own (.arr .u64 5 a)),(2,.own (.arr .u8 32 fun _=>0)),(3,.own (.arr .u8 32 fun j=>if j<i.1 then R a j else 0)),(5,.int .i64 (.sym (i.1:Int)))]) :
  Walk (mkEnv A tab.1 G [] [(3,.inv { i:Nat // i≤32 } I fun i=>32 - i.1)]) sc_wbytes.1 21 [.cell 2 22] [.arr .u64 5 a] (.arr .u8 32 (R a)):=by
 obtain ⟨bi,cm,un,cv,na,eq⟩:=A
 have hbi:bi=realBin:=congrArg Ops.bin hA
 have hcm:cm=realCmp:=congrArg Ops.cmp hA
 have hna:na=Int.toNat:=congrArg Ops.nat hA
 have hcv:cv=fun k n=>k.wrap n:=congrArg Ops.cnv hA
 have heq:eq=realEqA:=congrArg Ops.eqA hA
 clear hA
 refine ⟨?_⟩
 cbv
 refine ⟨⟨⟨0,by decide⟩,?_⟩,fun i _=>?_⟩
 ·subst hI
  cbv
  first | exact ⟨fun _ _=>rfl,fun _ _=>rfl,fun _ _=>rfl,rfl,trivial⟩ | exact ⟨fun _ _=>rfl,fun _ _=>rfl,fun _ _=>rfl,trivial⟩
 ·subst hI
  cbv
  refine ⟨fun h=>?_,fun h=>?_⟩
  ·cbv
   obtain ⟨i,hi⟩:=i
   have hlt:i<32:=by
    rw [hcm] at h
    exact Int.ofNat_lt.1 (of_decide_eq_true h)
   have q1:bi .quo .i64 (Int.ofNat i) 8=((i / 8:Nat):Int):=by rw [hbi];exact quo_i64 ⟨by simp only [Int.ofNat_eq_natCast];omega,by simp only [Int.ofNat_eq_natCast];omega⟩ (by decide)
   have q2:bi .mul .i64 (bi .rem .i64 (Int.ofNat i) 8) 8=((i % 8*8:Nat):Int):=by
    rw [hbi,rem_i64 (by simp only [Int.ofNat_eq_natCast];omega),mul_i64 (by simp only [Int.ofNat_eq_natCast];omega)]
    rfl
   have q3:na (bi .quo .i64 (Int.ofNat i) 8)=i / 8:=by rw [q1,hna];exact Int.toNat_natCast _
   have q4:bi .add .i64 (Int.ofNat i) 1=Int.ofNat (i+1):=by rw [hbi,add_i64 (by simp only [Int.ofNat_eq_natCast];omega)];rfl
   have q5:na (Int.ofNat i)=i:=by rw [hna];rfl
   have hw:=word_byte ha hlt
   refine ⟨⟨by show 0≤bi .quo .i64 (Int.ofNat i) 8∧bi .quo .i64 (Int.ofNat i) 8<5;rw [q1];omega⟩,⟨by show na (bi .quo .i64 (Int.ofNat i) 8)+1≤5;rw [q3];omega⟩,⟨by show 0≤bi .mul .i64 (bi .rem .i64 (Int.ofNat i) 8) 8;rw [q2];omega⟩,⟨by simp only [Int.ofNat_eq_natCast];omega⟩,⟨by show na (Int.ofNat i)+1≤32;rw [q5];omega⟩,⟨i+1,by omega⟩,?_,?_⟩
   ·cbv
    refine ⟨fun _ _=>rfl,fun _ _=>rfl,fun j hj=>?_,q4,trivial⟩
    show (if j=na (Int.ofNat i) then cv .u8 (bi .shr .u64 (a (na (bi .quo .i64 (Int.ofNat i) 8))) (bi .mul .i64 (bi .rem .i64 (Int.ofNat i) 8) 8)) else if j<i then R a j else 0)=if j<i+1 then R a j else 0
    rw [q5,q3,q2,hcv,hbi,hR]
    by_cases hji:j=i
    ·subst hji;rw [if_pos rfl,if_pos (by omega)];exact hw
    ·rw [if_neg hji]
     by_cases h2:j<i
     ·rw [if_pos h2,if_pos (by omega)]
     ·rw [if_neg h2,if_neg (by omega)]
   ·show 32 - (i+1)<32 - i
    omega
  ·cbv
   obtain ⟨i,hi⟩:=i
   have hlt:i=32:=by
    rw [hcm] at h
    have h3:¬ (i<32):=fun hh=>of_decide_eq_false h (Int.ofNat_lt.2 hh)
    omega
   subst hlt
   exact fun j hj=>if_pos hj
theorem ok_wbytes (G:Nat→AV):Sound Tryd.prog G 29 (bytesC bytesW):=by
 refine sound_each (n:=21) (rs:=[.cell 2 22]) (sc:=sc_wbytes.1) mixed Tryd.func29 rfl rfl rfl rfl sc_wbytes.2 ?_
 intro vs cs r h
 unfold bytesC at h
 split at h
 ·rename_i a
  cases h
  exact ⟨by simp,fun hcs hwf=>⟨_,envOK tabOK ( .nil),rfl,walk_wbytes realOps rfl G a (is5 (hwf _ (by simp))) _ rfl _ rfl⟩⟩
 ·cases h
def sc_wnumber:{ c:SC // strip (body Tryd.f24)=c }:=⟨_,by cbv⟩
theorem walk_wnumber (A:Ops) (hA:A=realOps) (G:Nat→AV) (b:Nat→Int) (hb:IsBytes 32 b) (R:(Nat→Int)→Nat→Int) (hR:R=fun b=>numW b 32) (Y) (hY:Y=numW b) (I:{ i:Nat // i≤32 }→St) (hI:I=fun i=>slots 24 [(1,.own (.arr .u8 32 b)),(2,.own (.arr .u64 5 fun _=>0)),(3,.own (.arr .u64 5 (Y i.1))),(5,.int .i64 (.sym (i.1:Int)))]) :
  Walk (mkEnv A tab.1 G [] [(3,.inv { i:Nat // i≤32 } I fun i=>32 - i.1)]) sc_wnumber.1 24 [.cell 2 51] [.arr .u8 32 b] (.arr .u64 5 (R b)):=by
 obtain ⟨bi,cm,un,cv,na,eq⟩:=A
 have hbi:bi=realBin:=congrArg Ops.bin hA
 have hcm:cm=realCmp:=congrArg Ops.cmp hA
 have hna:na=Int.toNat:=congrArg Ops.nat hA
 have hcv:cv=fun k n=>k.wrap n:=congrArg Ops.cnv hA
 have heq:eq=realEqA:=congrArg Ops.eqA hA
 clear hA
 refine ⟨?_⟩
 cbv
 refine ⟨⟨⟨0,by decide⟩,?_⟩,fun i _=>?_⟩
 ·subst hI
  cbv
  refine ⟨fun _ _=>rfl,fun _ _=>rfl,fun j hj=>?_,rfl,trivial⟩
  rw [hY]
  exact (numW_zero b j).symm
 ·subst hI
  cbv
  refine ⟨fun h=>?_,fun h=>?_⟩
  ·cbv
   obtain ⟨i,hi⟩:=i
   have hlt:i<32:=by
    rw [hcm] at h
    exact Int.ofNat_lt.1 (of_decide_eq_true h)
   have q1:bi .quo .i64 (Int.ofNat i) 8=((i / 8:Nat):Int):=by rw [hbi];exact quo_i64 ⟨by simp only [Int.ofNat_eq_natCast];omega,by simp only [Int.ofNat_eq_natCast];omega⟩ (by decide)
   have q2:bi .mul .i64 (bi .rem .i64 (Int.ofNat i) 8) 8=((i % 8*8:Nat):Int):=by
    rw [hbi,rem_i64 (by simp only [Int.ofNat_eq_natCast];omega),mul_i64 (by simp only [Int.ofNat_eq_natCast];omega)]
    rfl
   have q3:na (bi .quo .i64 (Int.ofNat i) 8)=i / 8:=by rw [q1,hna];exact Int.toNat_natCast _
   have q4:bi .add .i64 (Int.ofNat i) 1=Int.ofNat (i+1):=by rw [hbi,add_i64 (by simp only [Int.ofNat_eq_natCast];omega)];rfl
   have q5:na (Int.ofNat i)=i:=by rw [hna];rfl
   have hbi':=hb i hlt
   refine ⟨⟨by show 0≤bi .quo .i64 (Int.ofNat i) 8∧bi .quo .i64 (Int.ofNat i) 8<5;rw [q1];omega⟩,⟨by show na (bi .quo .i64 (Int.ofNat i) 8)+1≤5;rw [q3];omega⟩,⟨by simp only [Int.ofNat_eq_natCast];omega⟩,⟨by show na (Int.ofNat i)+1≤32;rw [q5];omega⟩,⟨by show 0≤bi .mul .i64 (bi .rem .i64 (Int.ofNat i) 8) 8;rw [q2];omega⟩,⟨by show 0≤bi .quo .i64 (Int.ofNat i) 8∧bi .quo .i64 (Int.ofNat i) 8<5;rw [q1];omega⟩,⟨by show na (bi .quo .i64 (Int.ofNat i) 8)+1≤5;rw [q3];omega⟩,⟨i+1,by omega⟩,?_,?_⟩
   ·cbv
    refine ⟨fun _ _=>rfl,fun _ _=>rfl,fun j hj=>?_,q4,trivial⟩
    show (if j=na (bi .quo .i64 (Int.ofNat i) 8) then bi .or .u64 (Y i (na (bi .quo .i64 (Int.ofNat i) 8))) (bi .shl .u64 (cv .u64 (b (na (Int.ofNat i)))) (bi .mul .i64 (bi .rem .i64 (Int.ofNat i) 8) 8)) else Y i j)=Y (i+1) j
    rw [q5,q3,q2,hcv,hbi,hY]
    have e:IntKind.wrap .u64 (b i)=b i:=by rw [wrap_u64];omega
    have h1:=numW_step hb hlt j hj
    dsimp only
    rw [e]
    exact h1
   ·show 32 - (i+1)<32 - i
    omega
  ·cbv
   obtain ⟨i,hi⟩:=i
   have hlt:i=32:=by
    rw [hcm] at h
    have h3:¬ (i<32):=fun hh=>of_decide_eq_false h (Int.ofNat_lt.2 hh)
    omega
   subst hlt
   rw [hR,hY]
   exact fun _ _=>rfl
theorem ok_wnumber (G:Nat→AV):Sound Tryd.prog G 24 (loadC (fun b=>numW b 32)):=by
 refine sound_each (n:=24) (rs:=[.cell 2 51]) (sc:=sc_wnumber.1) mixed Tryd.func24 rfl rfl rfl rfl sc_wnumber.2 ?_
 intro vs cs r h
 unfold loadC at h
 split at h
 ·rename_i b
  cases h
  exact ⟨by simp,fun hcs hwf=>⟨_,envOK tabOK ( .nil),rfl,walk_wnumber realOps rfl G b (isB (hwf _ (by simp))) _ rfl _ rfl _ rfl⟩⟩
 ·cases h
abbrev Gmul:Nat→AV:=lookGL [v_mult]
theorem mult_ok:∀ q:Fin 17,W5 (fun j=>v_mult.2.2.getD (q.val*5+j) 0)=(q.val:Int)*lI:=by decide +kernel
theorem mult_one:W5 (fun j=>v_mult.2.2.getD (5+j) 0)=lI:=by decide +kernel
def sc_wfold:{ c:SC // strip (body Tryd.f49)=c }:=⟨_,by cbv⟩
theorem walk_wfold (A:Ops) (hA:A=realOps) (a:Nat→Int) (ha:Is5 a) (ht:Top16 a) (M:(Nat→Int)→(Nat→Int)→Nat→Int) (hM:M=minusW) (P:(Nat→Int)→(Nat→Int)→Nat→Int) (hP:P=plusW) (B:(Nat→Int)→(Nat→Int)→Bool) (hB:B=ltW) (F:(Nat→Int)→Nat→Int) (hF:F=foldW)  :
  Walk (mkEnv A tab.1 Gmul [(68,lMinusC M B),(69,lim2C P)] []) sc_wfold.1 25 [.cell 2 51] [.arr .u64 5 a] (.arr .u64 5 (F a)):=by
 obtain ⟨bi,cm,un,cv,na,eq⟩:=A
 have hbi:bi=realBin:=congrArg Ops.bin hA
 have hcm:cm=realCmp:=congrArg Ops.cmp hA
 have hna:na=Int.toNat:=congrArg Ops.nat hA
 have hcv:cv=fun k n=>k.wrap n:=congrArg Ops.cnv hA
 have heq:eq=realEqA:=congrArg Ops.eqA hA
 clear hA
 have hx:=fold_index ha ht.lt
 have hX:na (bi .or .u64 (bi .shr .u64 (a 3) 60) (bi .shl .u64 (a 4) 4))=(topW a).toNat:=by rw [hbi,hna,hx.1]
 have hs:(Classical.choice seal_mul).1 (na (bi .or .u64 (bi .shr .u64 (a 3) 60) (bi .shl .u64 (a 4) 4))) 5=(topW a).toNat * 5:=by rw [hX];exact choice_mul _ _
 have hm:W5 (fun j=>v_mult.2.2.getD ((Classical.choice seal_mul).1 (na (bi .or .u64 (bi .shr .u64 (a 3) 60) (bi .shl .u64 (a 4) 4))) 5+j) 0)=topW a*lI:=by
  rw [hs,mult_ok ⟨(topW a).toNat,by omega⟩]
  show ((topW a).toNat:Int)*lI=_
  rw [Int.toNat_of_nonneg hx.2.1]
 have hw:0≤bi .or .u64 (bi .shr .u64 (a 3) 60) (bi .shl .u64 (a 4) 4)∧bi .or .u64 (bi .shr .u64 (a 3) 60) (bi .shl .u64 (a 4) 4)<17:=by rw [hbi,hx.1];exact hx.2
 refine ⟨?_⟩
 cbv
 refine ⟨⟨hw⟩,⟨by show (Classical.choice seal_mul).1 (na (bi .or .u64 (bi .shr .u64 (a 3) 60) (bi .shl .u64 (a 4) 4))) 5+5≤85;rw [hs];omega⟩,fun h=>?_,fun h=>?_⟩
 ·cbv
  rw [hB] at h
  rw [hP,hM,hF]
  exact fold_back ha ht hm mult_one h
 ·cbv
  rw [hB] at h
  rw [hM,hF]
  exact fold_take ha ht hm h
theorem ok_wfold:Sound Tryd.prog Gmul 49 (foldC foldW):=by
 refine sound_each (n:=25) (rs:=[.cell 2 51]) (sc:=sc_wfold.1) mixed Tryd.func49 rfl rfl rfl rfl sc_wfold.2 ?_
 intro vs cs r h
 unfold foldC at h
 split at h
 ·rename_i a
  cases h
  exact ⟨by simp,fun hcs hwf=>⟨_,envOK tabOK ((.cons (ok_wminus Gmul) (.cons (ok_wplus Gmul) .nil))),rfl,walk_wfold realOps rfl a (is5 (hwf _ (by simp))) (hcs _ (by simp)) _ rfl _ rfl _ rfl _ rfl ⟩⟩
 ·cases h
def sc_wreduced:{ c:SC // strip (body Tryd.f28)=c }:=⟨_,by cbv⟩
theorem walk_wreduced (A:Ops) (hA:A=realOps) (n:Nat) (cap:SO) (b:Nat→Int) (hb:IsBytes n b) (SH:(Nat→Int)→Int→Nat→Int) (hSH:SH=shiftW) (FO:(Nat→Int)→Nat→Int) (hFO:FO=foldW) (R:Nat→(Nat→Int)→Nat→Int) (hR:R=redW) (Y:Nat→Nat→Int) (hY:Y=fun i=>dgt q64 (topN n b i % lI)) (I:{ i:Nat // i≤n }→St) (hI:I=fun i=>slots 33 [(0,.xsl .u8 1 (.sym n) cap b),(2,.own (.arr .u64 5 fun _=>0)),(3,.own (.arr .u64 5 (Y i.1))),(7,.int .i64 (.sym (n:Int))),(8,.int .i64 (.sym (i.1:Int)))]) :
  Walk (mkEnv A tab.1 Gmul [(48,shiftC SH),(49,foldC FO)] [(3,.inv { i:Nat // i≤n } I fun i=>n - i.1)]) sc_wreduced.1 33 [.cell 2 51] [.xsl .u8 1 (.sym n) cap b] (.arr .u64 5 (R n b)):=by
 obtain ⟨bi,cm,un,cv,na,eq⟩:=A
 have hbi:bi=realBin:=congrArg Ops.bin hA
 have hcm:cm=realCmp:=congrArg Ops.cmp hA
 have hna:na=Int.toNat:=congrArg Ops.nat hA
 have hcv:cv=fun k n=>k.wrap n:=congrArg Ops.cnv hA
 have heq:eq=realEqA:=congrArg Ops.eqA hA
 clear hA
 refine ⟨?_⟩
 cbv
 refine ⟨⟨⟨0,by omega⟩,?_⟩,fun i hwf=>?_⟩
 ·subst hI
  cbv
  refine ⟨fun _ _=>rfl,fun _ _=>rfl,fun j _=>?_,rfl,trivial⟩
  rw [hY]
  show 0=0 % lI / q64 ^ j % q64
  simp
 ·subst hI
  have hn:n<9223372036854775808:=by
   have h7:=wfSt_get hwf 7
   exact n_lt h7
  clear hwf
  cbv
  obtain ⟨i,hi⟩:=i
  refine ⟨fun h=>?_,fun h=>?_⟩
  ·cbv
   have hlt:i<n:=by
    rw [hcm] at h
    exact Int.ofNat_lt.1 (of_decide_eq_true h)
   have x0:bi .sub .i64 (Int.ofNat n) 1=Int.ofNat (n - 1):=by rw [hbi,sub_i64 (by simp only [Int.ofNat_eq_natCast];omega)];simp only [Int.ofNat_eq_natCast];omega
   have x1:(bi .sub .i64 (bi .sub .i64 (Int.ofNat n) 1) (Int.ofNat i))=((n - 1 - i:Nat):Int):=by rw [x0,hbi,sub_i64 (by simp only [Int.ofNat_eq_natCast];omega)];simp only [Int.ofNat_eq_natCast];omega
   have x2:na (bi .sub .i64 (bi .sub .i64 (Int.ofNat n) 1) (Int.ofNat i))=n - 1 - i:=by rw [x1,hna];exact Int.toNat_natCast _
   have hc:=hb (n - 1 - i) (by omega)
   obtain ⟨n1,n2,n3,n4⟩:=nibs hc
   have v1:cv .u64 (bi .shr .u8 (b (na (bi .sub .i64 (bi .sub .i64 (Int.ofNat n) 1) (Int.ofNat i)))) 4)=b (n - 1 - i) / 16:=by rw [x2,hbi,n1,hcv];show IntKind.wrap .u64 _=_;rw [wrap_u64];omega
   have v2:cv .u64 (bi .and .u8 (b (na (bi .sub .i64 (bi .sub .i64 (Int.ofNat n) 1) (Int.ofNat i)))) 15)=b (n - 1 - i) % 16:=by rw [x2,hbi,n2,hcv];show IntKind.wrap .u64 _=_;rw [wrap_u64];omega
   have tops:=red_tops (n:=n) (i:=i) (b:=b) hc
   have q4:bi .add .i64 (Int.ofNat i) 1=Int.ofNat (i+1):=by rw [hbi,add_i64 (by simp only [Int.ofNat_eq_natCast];omega)];rfl
   refine ⟨⟨by show 0≤(bi .sub .i64 (bi .sub .i64 (Int.ofNat n) 1) (Int.ofNat i))∧(bi .sub .i64 (bi .sub .i64 (Int.ofNat n) 1) (Int.ofNat i))<(n:Int);rw [x1];omega⟩,⟨by show na (bi .sub .i64 (bi .sub .i64 (Int.ofNat n) 1) (Int.ofNat i))+1≤n*1;rw [x2];omega⟩,?_,?_,?_,?_,⟨i+1,by omega⟩,?_,?_⟩
   ·show Nib (cv .u64 (bi .shr .u8 (b (na (bi .sub .i64 (bi .sub .i64 (Int.ofNat n) 1) (Int.ofNat i)))) 4))
    rw [v1];exact n3
   ·show Top16 (SH (Y i) (cv .u64 (bi .shr .u8 (b (na (bi .sub .i64 (bi .sub .i64 (Int.ofNat n) 1) (Int.ofNat i)))) 4)))
    rw [v1,hSH,hY];exact tops.1
   ·show Nib (cv .u64 (bi .and .u8 (b (na (bi .sub .i64 (bi .sub .i64 (Int.ofNat n) 1) (Int.ofNat i)))) 15))
    rw [v2];exact n4
   ·show Top16 (SH (FO (SH (Y i) (cv .u64 (bi .shr .u8 (b (na (bi .sub .i64 (bi .sub .i64 (Int.ofNat n) 1) (Int.ofNat i)))) 4)))) (cv .u64 (bi .and .u8 (b (na (bi .sub .i64 (bi .sub .i64 (Int.ofNat n) 1) (Int.ofNat i)))) 15)))
    rw [v1,v2,hSH,hFO,hY];exact tops.2
   ·cbv
    refine ⟨fun _ _=>rfl,fun _ _=>rfl,fun j _=>?_,q4,trivial⟩
    show FO (SH (FO (SH (Y i) (cv .u64 (bi .shr .u8 (b (na (bi .sub .i64 (bi .sub .i64 (Int.ofNat n) 1) (Int.ofNat i)))) 4)))) (cv .u64 (bi .and .u8 (b (na (bi .sub .i64 (bi .sub .i64 (Int.ofNat n) 1) (Int.ofNat i)))) 15))) j=Y (i+1) j
    rw [v1,v2,hSH,hFO,hY]
    exact congrFun (red_step hlt rfl hc) j
   ·show n - (i+1)<n - i
    omega
  ·cbv
   have hlt:i=n:=by
    rw [hcm] at h
    have h3:¬ (i<n):=fun hh=>of_decide_eq_false h (Int.ofNat_lt.2 hh)
    omega
   subst hlt
   rw [hR,hY]
   intro j _
   show dgt q64 (topN i b i % lI) j=redW i b j
   rw [topN_all,redW]
theorem ok_wreduced:Sound Tryd.prog Gmul 28 (redC redW):=by
 refine sound_symx (n:=33) (rs:=[.cell 2 51]) (sc:=sc_wreduced.1) mixed Tryd.func28 rfl rfl rfl rfl sc_wreduced.2 ?_
 intro vs cs r h
 unfold redC at h
 split at h
 ·rename_i len cap b
  cases h
  exact ⟨by simp,fun hcs hwf=>⟨_,envOK tabOK ((.cons (ok_wshift Gmul) (.cons (ok_wfold) .nil))),rfl,walk_wreduced realOps rfl len.val cap b (isX (hwf _ (List.mem_cons_self ..))) _ rfl _ rfl _ rfl _ rfl _ rfl⟩⟩
 ·cases h
end Go.Proofs.YtjbimeigkklcmaaDoor
