/-
  Package scalar: products.
-/
import Derived.Test.YtjbimeigkklcmaaDoorZScalB
import Derived.Test.YtjbimeigkklcmaaDoorZMA
namespace Go.Proofs.YtjbimeigkklcmaaDoor
open Go Go.Proofs Sx
set_option maxRecDepth 100000
set_option maxHeartbeats 4000000
def sc_smul64:{ c:SC // strip (body Tryd.f25)=c }:=⟨_,by cbv⟩
theorem walk_smul64 (A:Ops) (hA:A=realOps) (G:Nat→AV) (x y:Int) (H) (hH:H=mulH) (L:Int→Int→Int) (hL:L=fun a b=>umul a b) :
  Walk (mkEnv A tab.1 G [] []) sc_smul64.1 51 [.tmp 4,.tmp 5] [.int .u64 (.sym x),.int .u64 (.sym y)] (.tup [.int .u64 (.sym (H x y)),.int .u64 (.sym (L x y))]):=by
 refine ⟨?_⟩
 cbv
 subst hA hH hL
 exact ⟨rfl,rfl,trivial⟩
theorem ok_smul64 (G:Nat→AV):Sound Tryd.prog G 25 (mulC mulH fun a b=>umul a b):=by
 refine sound_sym (n:=51) (rs:=[.tmp 4,.tmp 5]) (sc:=sc_smul64.1) mixed Tryd.func25 rfl rfl rfl rfl sc_smul64.2 ?_
 intro vs cs r h
 unfold mulC at h
 split at h
 ·rename_i x y
  cases h
  exact ⟨by simp,fun hcs hwf=>⟨_,envOK tabOK .nil,rfl,walk_smul64 realOps rfl G x.val y.val _ rfl _ rfl⟩⟩
 ·cases h
def sc_muladd:{ c:SC // strip (body Tryd.f13)=c }:=⟨_,by cbv⟩
theorem walk_muladd (A:Ops) (hA:A=realOps) (a:Nat→Int) (b:Nat→Int) (c:Nat→Int) (ha:IsBytes 32 a) (hb:IsBytes 32 b) (hc:IsBytes 32 c) (NU:(Nat→Int)→Nat→Int) (hNU:NU=fun b=>numW b 32) (H:Int→Int→Int) (hH:H=mulH) (S:Int→Int→Int→Int) (hS:S=adcS) (RD:(Nat→Int)→Nat→Int) (hRD:RD=fun f=>sb (sn 64 f)) (L:Int→Int→Int) (hL:L=fun a b=>umul a b) (C:Int→Int→Int→Int) (hC:C=adcC) (K:Int→Prop) (hK:K=Bit01) (R:(Nat→Int)→(Nat→Int)→(Nat→Int)→Nat→Int) (hR:R=fun a b c=>sb (se a*se b+se c)) (PV:Nat→Nat→Int) (hPV:PV=fun i=>dgt q64 (rowV (numW a 32) (numW b 32) (num 32 c) i)) (PM:Nat→Nat→Nat→Int) (hPM:PM=fun i j=>mixW (rowT (numW a 32) (numW b 32) (num 32 c) i j) (rowV (numW a 32) (numW b 32) (num 32 c) i) (i+j)) (CM:Nat→Nat→Int) (hCM:CM=fun i j=>carW (rowT (numW a 32) (numW b 32) (num 32 c) i j) (rowV (numW a 32) (numW b 32) (num 32 c) i) (i+j))
  (PK:Nat→Nat→Nat→Int) (hPK:PK=fun i k=>mixW (rowT (numW a 32) (numW b 32) (num 32 c) i 4) (rowV (numW a 32) (numW b 32) (num 32 c) i) k) (CK:Nat→Nat→Int) (hCK:CK=fun i k=>carW (rowT (numW a 32) (numW b 32) (num 32 c) i 4) (rowV (numW a 32) (numW b 32) (num 32 c) i) k) (WB:Nat→Int) (hWB:WB=byt (rowV (numW a 32) (numW b 32) (num 32 c) 4))
  (I:{ i:Nat // i≤4 }→St) (hI:I=fun i=>slots 111 [(3,.own (.arr .u8 32 a)),(4,.own (.arr .u8 32 b)),(5,.own (.arr .u8 32 c)),(6,.own (.arr .u8 32 fun _=>0)),(7,.own (.arr .u64 5 (NU a))),(8,.own (.arr .u64 5 (NU b))),(9,.own (.arr .u64 5 (NU c))),(10,.own (.arr .u64 8 (PV i.1))),(29,.int .i64 (.sym (i.1:Int)))])
  (J:St→{ j:Nat // j≤4 }→St) (hJ:J=fun s j=>slots 111 (keepS s [3,4,5,6,7,8,9,11,29] ++ [(10,.own (.arr .u64 8 (PM (natIn s 11) j.1))),(12,.int .u64 (.sym (CM (natIn s 11) j.1))),(32,.int .i64 (.sym (j.1:Int)))]))
  (K2:St→{ k:Nat // k≤8 }→St) (hK2:K2=fun s k=>slots 111 (keepS s [3,4,5,6,7,8,9,11,29] ++ [(10,.own (.arr .u64 8 (PK (natIn s 11) k.1))),(12,.int .u64 (.sym (CK (natIn s 11) k.1))),(17,.int .i64 (.sym (k.1:Int)))]))
  (I4:{ i:Nat // i≤64 }→St) (hI4:I4=fun i=>slots 111 [(6,.own (.arr .u8 32 fun _=>0)),(10,.own (.arr .u64 8 (PV 4))),(18,.own (.arr .u8 64 fun j=>if j<i.1 then WB j else 0)),(94,.int .i64 (.sym (i.1:Int)))]) :
  Walk (mkEnv A tab.1 Gmul [(24,loadC NU),(25,mulC H L),(26,addC K S C),(27,un64C RD)] [(5,.inv { i:Nat // i≤4 } I fun i=>4 - i.1),(9,.invd { j:Nat // j≤4 } J fun j=>4 - j.1),(19,.invd { k:Nat // k≤8 } K2 fun k=>8 - k.1),(25,.inv { i:Nat // i≤64 } I4 fun i=>64 - i.1)]) sc_muladd.1 111 [.cell 6 22] [.arr .u8 32 a,.arr .u8 32 b,.arr .u8 32 c] (.arr .u8 32 (R a b c)):=by
 obtain ⟨bi,cm,un,cv,na,eq⟩:=A
 have hbi:bi=realBin:=congrArg Ops.bin hA
 have hcm:cm=realCmp:=congrArg Ops.cmp hA
 have hna:na=Int.toNat:=congrArg Ops.nat hA
 have hcv:cv=fun k n=>k.wrap n:=congrArg Ops.cnv hA
 have heq:eq=realEqA:=congrArg Ops.eqA hA
 clear hA
 refine ⟨?_⟩
 cbv
 refine ⟨⟨⟨0,by decide⟩,?_⟩,fun i _=>?_⟩
 ·subst hI
  cbv
  refine ⟨fun _ _=>rfl,fun _ _=>rfl,fun _ _=>rfl,fun _ _=>rfl,fun _ _=>rfl,fun _ _=>rfl,fun _ _=>rfl,fun k _=>?_,rfl,trivial⟩
  show splice (fun _=>0) 0 4 (fun j=>NU c (0+j)) k=PV 0 k
  rw [hPV,hNU]
  exact init_words hc _ _ k
 ·subst hI
  cbv
  obtain ⟨i,hi⟩:=i
  have qi:na (Int.ofNat i)=i:=by rw [hna];rfl
  refine ⟨fun h=>?_,fun h=>?_⟩
  ·cbv
   have hlt:i<4:=by
    rw [hcm] at h
    exact Int.ofNat_lt.1 (of_decide_eq_true h)
   refine ⟨⟨⟨0,by decide⟩,?_⟩,fun j hwf=>?_⟩
   ·subst hJ
    cbv
    have hf:=mix_first (numW a 32) (numW b 32) (num 32 c) i
    refine ⟨fun _ _=>rfl,fun _ _=>rfl,fun _ _=>rfl,fun _ _=>rfl,fun _ _=>rfl,fun _ _=>rfl,fun _ _=>rfl,fun k _=>?_,?_,rfl,trivial⟩
    ·show PV i k=PM i 0 k
     rw [hPV,hPM]
     exact (hf k).1
    ·show 0=CM i 0
     rw [hCM]
     exact (hf 0).2
   ·subst hJ
    have hw:=wfSt_get hwf 12
    clear hwf
    obtain ⟨j,hj⟩:=j
    replace hw:inR .u64 (CM i j):=hw
    cbv
    have qj:na (Int.ofNat j)=j:=by rw [hna];rfl
    refine ⟨fun h2=>?_,fun h2=>?_⟩
    ·cbv
     have hlt2:j<4:=by
      rw [hcm] at h2
      exact Int.ofNat_lt.1 (of_decide_eq_true h2)
     have qs:bi .add .i64 (Int.ofNat i) (Int.ofNat j)=((i+j:Nat):Int):=by rw [hbi,add_i64 (by simp only [Int.ofNat_eq_natCast];omega)];rfl
     have qn:na (bi .add .i64 (Int.ofNat i) (Int.ofNat j))=i+j:=by rw [qs,hna];exact Int.toNat_natCast _
     have q4:bi .add .i64 (Int.ofNat j) 1=Int.ofNat (j+1):=by rw [hbi,add_i64 (by simp only [Int.ofNat_eq_natCast];omega)];rfl
     have w1:0≤bi .add .i64 (Int.ofNat i) (Int.ofNat j)∧bi .add .i64 (Int.ofNat i) (Int.ofNat j)<8:=by rw [qs];omega
     have w2:na (bi .add .i64 (Int.ofNat i) (Int.ofNat j))+1≤8:=by rw [qn];omega
     have k0:K 0:=by rw [hK];exact bit01_0
     rw [hCM] at hw
     obtain ⟨s1,s2⟩:=step_word a b (num 32 c) i j hw
     refine ⟨⟨by simp only [Int.ofNat_eq_natCast];omega⟩,⟨by show na (Int.ofNat i)+1≤5;rw [qi];omega⟩,⟨by simp only [Int.ofNat_eq_natCast];omega⟩,⟨by show na (Int.ofNat j)+1≤5;rw [qj];omega⟩,⟨w1⟩,⟨w2⟩,k0,k0,⟨w1⟩,⟨w2⟩,⟨j+1,by omega⟩,?_,?_⟩
     ·cbv
      refine ⟨fun _ _=>rfl,fun _ _=>rfl,fun _ _=>rfl,fun _ _=>rfl,fun _ _=>rfl,fun _ _=>rfl,fun _ _=>rfl,fun k _=>?_,?_,q4,trivial⟩
      ·show (if k=na (bi .add .i64 (Int.ofNat i) (Int.ofNat j)) then S (S (L (NU a (na (Int.ofNat i))) (NU b (na (Int.ofNat j)))) (PM i j (na (bi .add .i64 (Int.ofNat i) (Int.ofNat j)))) 0) (CM i j) 0 else PM i j k)=PM i (j+1) k
       rw [qn,qi,qj,hS,hL,hNU,hPM,hCM]
       exact s1 k
      ·show bi .add .u64 (bi .add .u64 (H (NU a (na (Int.ofNat i))) (NU b (na (Int.ofNat j)))) (C (L (NU a (na (Int.ofNat i))) (NU b (na (Int.ofNat j)))) (PM i j (na (bi .add .i64 (Int.ofNat i) (Int.ofNat j)))) 0)) (C (S (L (NU a (na (Int.ofNat i))) (NU b (na (Int.ofNat j)))) (PM i j (na (bi .add .i64 (Int.ofNat i) (Int.ofNat j)))) 0) (CM i j) 0)=CM i (j+1)
       rw [qn,qi,qj,hS,hL,hNU,hPM,hCM,hC,hH,hbi]
       exact s2
     ·show 4 - (j+1)<4 - j
      omega
    ·cbv
     have hj4:j=4:=by
      rw [hcm] at h2
      have h3:¬ (j<4):=fun hh=>of_decide_eq_false h2 (Int.ofNat_lt.2 hh)
      omega
     subst hj4
     have q4:bi .add .i64 (Int.ofNat i) 4=Int.ofNat (i+4):=by rw [hbi,add_i64 (by simp only [Int.ofNat_eq_natCast];omega)];rfl
     refine ⟨⟨⟨i+4,by omega⟩,?_⟩,fun k hwf=>?_⟩
     ·subst hK2
      cbv
      refine ⟨fun _ _=>rfl,fun _ _=>rfl,fun _ _=>rfl,fun _ _=>rfl,fun _ _=>rfl,fun _ _=>rfl,fun _ _=>rfl,fun k _=>?_,?_,q4,trivial⟩
      ·show PM i 4 k=PK i (i+4) k
       rw [hPM,hPK]
      ·show CM i 4=CK i (i+4)
       rw [hCM,hCK]
     ·subst hK2
      have hw2:=wfSt_get hwf 12
      clear hwf
      obtain ⟨k,hk⟩:=k
      replace hw2:inR .u64 (CK i k):=hw2
      cbv
      have qk:na (Int.ofNat k)=k:=by rw [hna];rfl
      refine ⟨fun h3=>?_,fun h3=>?_⟩
      ·cbv
       have hlt3:k<8:=by
        have h4:cm .lss (Int.ofNat k) 8=true:=by
         revert h3
         dsimp only [SB.val,SI.val]
         cases cm .lss (Int.ofNat k) 8 <;> simp
        rw [hcm] at h4
        exact Int.ofNat_lt.1 (of_decide_eq_true h4)
       have q5:bi .add .i64 (Int.ofNat k) 1=Int.ofNat (k+1):=by rw [hbi,add_i64 (by simp only [Int.ofNat_eq_natCast];omega)];rfl
       have w1:0≤Int.ofNat k∧Int.ofNat k<8:=by simp only [Int.ofNat_eq_natCast];omega
       have w2:na (Int.ofNat k)+1≤8:=by rw [qk];omega
       have k0:K 0:=by rw [hK];exact bit01_0
       rw [hCK] at hw2
       obtain ⟨s1,s2⟩:=step_carry _ _ k hw2
       refine ⟨⟨w1⟩,⟨w2⟩,k0,⟨w1⟩,⟨w2⟩,⟨k+1,by omega⟩,?_,?_⟩
       ·cbv
        refine ⟨fun _ _=>rfl,fun _ _=>rfl,fun _ _=>rfl,fun _ _=>rfl,fun _ _=>rfl,fun _ _=>rfl,fun _ _=>rfl,fun n _=>?_,?_,q5,trivial⟩
        ·show (if n=na (Int.ofNat k) then S (PK i k (na (Int.ofNat k))) (CK i k) 0 else PK i k n)=PK i (k+1) n
         rw [qk,hS,hPK,hCK]
         exact s1 n
        ·show C (PK i k (na (Int.ofNat k))) (CK i k) 0=CK i (k+1)
         rw [qk,hC,hPK,hCK]
         exact s2
       ·show 8 - (k+1)<8 - k
        omega
      ·cbv
       have q6:bi .add .i64 (Int.ofNat i) 1=Int.ofNat (i+1):=by rw [hbi,add_i64 (by simp only [Int.ofNat_eq_natCast];omega)];rfl
       have hend:∀ n,n<8→PK i k n=PV (i+1) n:=by
        intro n hn
        rw [hPK,hPV]
        show mixW _ _ k n=dgt q64 (rowV _ _ _ (i+1)) n
        rw [← rowT_four]
        have h4:cm .lss (Int.ofNat k) 8=false∨cm .neq (CK i k) 0=false:=by
         revert h3
         dsimp only [SB.val,SI.val]
         cases cm .lss (Int.ofNat k) 8
         ·exact fun _=>.inl rfl
         ·exact fun h=>.inr h
        rcases h4 with h4 | h4
        ·rw [hcm] at h4
         have h5:¬ (k<8):=fun hh=>of_decide_eq_false h4 (Int.ofNat_lt.2 hh)
         have h6:k=8:=by omega
         rw [h6]
         exact mix_eight hn
        ·rw [hcm,hCK] at h4
         refine mix_end ?_ n
         have h5:(carW (rowT (numW a 32) (numW b 32) (num 32 c) i 4) (rowV (numW a 32) (numW b 32) (num 32 c) i) k != 0)=false:=h4
         simpa using h5
       refine ⟨⟨i+1,by omega⟩,?_,?_⟩
       ·cbv
        exact ⟨fun _ _=>rfl,fun _ _=>rfl,fun _ _=>rfl,fun _ _=>rfl,fun _ _=>rfl,fun _ _=>rfl,fun _ _=>rfl,hend,q6,trivial⟩
       ·show 4 - (i+1)<4 - i
        omega
  ·cbv
   have hi4:i=4:=by
    rw [hcm] at h
    have h3:¬ (i<4):=fun hh=>of_decide_eq_false h (Int.ofNat_lt.2 hh)
    omega
   subst hi4
   refine ⟨⟨⟨0,by decide⟩,?_⟩,fun i _=>?_⟩
   ·subst hI4
    cbv
    exact ⟨fun _ _=>rfl,fun _ _=>rfl,fun k _=>(if_neg (Nat.not_lt_zero k)).symm,rfl,trivial⟩
   ·subst hI4
    cbv
    obtain ⟨i,hi⟩:=i
    refine ⟨fun h2=>?_,fun h2=>?_⟩
    ·cbv
     have hlt:i<64:=by
      rw [hcm] at h2
      exact Int.ofNat_lt.1 (of_decide_eq_true h2)
     have q1:bi .quo .i64 (Int.ofNat i) 8=((i / 8:Nat):Int):=by rw [hbi];exact quo_i64 ⟨by simp only [Int.ofNat_eq_natCast];omega,by simp only [Int.ofNat_eq_natCast];omega⟩ (by decide)
     have q2:bi .mul .i64 (bi .rem .i64 (Int.ofNat i) 8) 8=((i % 8*8:Nat):Int):=by
      rw [hbi,rem_i64 (by simp only [Int.ofNat_eq_natCast];omega),mul_i64 (by simp only [Int.ofNat_eq_natCast];omega)]
      rfl
     have q3:na (bi .quo .i64 (Int.ofNat i) 8)=i / 8:=by rw [q1,hna];exact Int.toNat_natCast _
     have q4:bi .add .i64 (Int.ofNat i) 1=Int.ofNat (i+1):=by rw [hbi,add_i64 (by simp only [Int.ofNat_eq_natCast];omega)];rfl
     have q5:na (Int.ofNat i)=i:=by rw [hna];rfl
     have hw:=word_byteN (rowV (numW a 32) (numW b 32) (num 32 c) 4) i
     refine ⟨⟨by show 0≤bi .quo .i64 (Int.ofNat i) 8∧bi .quo .i64 (Int.ofNat i) 8<8;rw [q1];omega⟩,⟨by show na (bi .quo .i64 (Int.ofNat i) 8)+1≤8;rw [q3];omega⟩,⟨by show 0≤bi .mul .i64 (bi .rem .i64 (Int.ofNat i) 8) 8;rw [q2];omega⟩,⟨by simp only [Int.ofNat_eq_natCast];omega⟩,⟨by show na (Int.ofNat i)+1≤64;rw [q5];omega⟩,⟨i+1,by omega⟩,?_,?_⟩
     ·cbv
      refine ⟨fun _ _=>rfl,fun _ _=>rfl,fun j hj=>?_,q4,trivial⟩
      show (if j=na (Int.ofNat i) then cv .u8 (bi .shr .u64 (PV 4 (na (bi .quo .i64 (Int.ofNat i) 8))) (bi .mul .i64 (bi .rem .i64 (Int.ofNat i) 8) 8)) else if j<i then WB j else 0)=if j<i+1 then WB j else 0
      rw [q5,q3,q2,hcv,hbi,hPV,hWB]
      by_cases hji:j=i
      ·subst hji;rw [if_pos rfl,if_pos (by omega)];exact hw
      ·rw [if_neg hji]
       by_cases h2:j<i
       ·rw [if_pos h2,if_pos (by omega)]
       ·rw [if_neg h2,if_neg (by omega)]
     ·show 64 - (i+1)<64 - i
      omega
    ·cbv
     have hi64:i=64:=by
      rw [hcm] at h2
      have h3:¬ (i<64):=fun hh=>of_decide_eq_false h2 (Int.ofNat_lt.2 hh)
      omega
     subst hi64
     intro n _
     rw [hRD,hR,hWB]
     show sb (sn 64 fun j=>if j<64 then byt _ j else 0) n=sb (se a*se b+se c) n
     rw [← muladd_bytes ha hb hc]
     exact congrFun (congrArg sb (sn_congr fun j hj=>if_pos hj)) n
theorem ok_muladd:Sound Tryd.prog Gmul 13 (tri32C (fun a b c=>sb (se a*se b+se c))):=by
 refine sound_each (n:=111) (rs:=[.cell 6 22]) (sc:=sc_muladd.1) mixed Tryd.func13 rfl rfl rfl rfl sc_muladd.2 ?_
 intro vs cs r h
 unfold tri32C at h
 split at h
 ·rename_i a b c
  cases h
  exact ⟨by simp,fun hcs hwf=>⟨_,envOK tabOK ((.cons (ok_wnumber Gmul) (.cons (ok_smul64 Gmul) (.cons (ok_addS Gmul) (.cons (ok_reduceS) .nil))))),rfl,walk_muladd realOps rfl a b c (isB (hwf _ (by simp))) (isB (hwf _ (by simp))) (isB (hwf _ (by simp))) _ rfl _ rfl _ rfl _ rfl _ rfl _ rfl _ rfl _ rfl _ rfl _ rfl _ rfl _ rfl _ rfl _ rfl _ rfl _ rfl _ rfl _ rfl⟩⟩
 ·cases h
end Go.Proofs.YtjbimeigkklcmaaDoor
