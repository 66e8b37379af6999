/-
  Package field: sums, differences, products of five digits.
-/
import Derived.Test.YtjbimeigkklcmaaDoorZFieldA
import Derived.Test.YtjbimeigkklcmaaDoorZMA
set_option linter.unusedVariables false
set_option linter.unusedSimpArgs false
namespace Go.Proofs.YtjbimeigkklcmaaDoor
open Go Go.Proofs Sx
set_option maxRecDepth 100000
set_option maxHeartbeats 4000000
def sc_plus:{ c:SC // strip (body Tryd.f55)=c }:=⟨_,by cbv⟩
theorem walk_plus (A:Ops) (hA:A=realOps) (G:Nat→AV) (l m:Nat→Int) (S) (hS:S=settleF) (T) (hT:T=fun l m=>settleF (addP l m)) :
  Walk (mkEnv A tab.1 G [(71,limC S)] []) sc_plus.1 20 [.cell 4 82] [.arr .u64 5 l,.arr .u64 5 m] (.arr .u64 5 (T l m)):=by
 refine ⟨?_⟩
 cbv
 subst hA hS hT
 exact fun i _=>congrFun (settle_congr (each5 rfl rfl rfl rfl rfl)) i
theorem ok_plus (G:Nat→AV):Sound Tryd.prog G 55 (lim2C fun l m=>settleF (addP l m)):=by
 refine sound_by (n:=20) (rs:=[.cell 4 82]) (sc:=sc_plus.1) (E:=mkEnv realOps tab.1 G [(71,limC settleF)] []) (envOK tabOK (.cons (ok_settle G) .nil)) mixed Tryd.func55 rfl rfl rfl rfl sc_plus.2 ?_
 intro vs cs r h
 unfold lim2C at h
 split at h
 ·rename_i l m
  cases h
  exact ⟨by simp,fun hcs hwf=>walk_plus realOps rfl G l m _ rfl _ rfl⟩
 ·cases h
theorem ok_add (G:Nat→AV):Sound Tryd.prog G 26 (addC Bit01 adcS adcC):=ok_add64 Tryd.func26 rfl rfl rfl rfl G
def sc_mul64:{ c:SC // strip (body Tryd.f25)=c }:=⟨_,by cbv⟩
theorem walk_mul64 (A:Ops) (hA:A=realOps) (G:Nat→AV) (x y:Int) (H) (hH:H=mulH) (L:Int→Int→Int) (hL:L=fun a b=>umul a b) :
  Walk (mkEnv A tab.1 G [] []) sc_mul64.1 51 [.tmp 4,.tmp 5] [.int .u64 (.sym x),.int .u64 (.sym y)] (.tup [.int .u64 (.sym (H x y)),.int .u64 (.sym (L x y))]):=by
 refine ⟨?_⟩
 cbv
 subst hA hH hL
 exact ⟨rfl,rfl,trivial⟩
theorem ok_mul64 (G:Nat→AV):Sound Tryd.prog G 25 (mulC mulH fun a b=>umul a b):=by
 refine sound_sym (n:=51) (rs:=[.tmp 4,.tmp 5]) (sc:=sc_mul64.1) mixed Tryd.func25 rfl rfl rfl rfl sc_mul64.2 ?_
 intro vs cs r h
 unfold mulC at h
 split at h
 ·rename_i x y
  cases h
  exact ⟨by simp,fun hcs hwf=>⟨_,envOK tabOK .nil,rfl,walk_mul64 realOps rfl G x.val y.val _ rfl _ rfl⟩⟩
 ·cases h
def sc_wide:{ c:SC // strip (body Tryd.f72)=c }:=⟨_,by cbv⟩
theorem walk_wide (A:Ops) (hA:A=realOps) (G:Nat→AV) (w:Nat→Int) (a b:Int) (H) (hH:H=mulH) (L:Int→Int→Int) (hL:L=fun a b=>umul a b) (K) (hK:K=Bit01) (S) (hS:S=adcS) (C) (hC:C=adcC) (V) (hV:V=wideR) :
  Walk (mkEnv A tab.1 G [(25,mulC H L),(26,addC K S C)] []) sc_wide.1 37 [.cell 6 111] [.arr .u64 2 w,.int .u64 (.sym a),.int .u64 (.sym b)] (.arr .u64 2 (V (w 0) (w 1) a b)):=by
 refine ⟨?_⟩
 cbv
 subst hA hH hL hK hS hC hV
 exact ⟨bit01_0,bit01_adc _ _ _,each2 rfl rfl⟩
theorem ok_wide (G:Nat→AV):Sound Tryd.prog G 72 (wideC wideR):=by
 refine sound_sym (n:=37) (rs:=[.cell 6 111]) (sc:=sc_wide.1) mixed Tryd.func72 rfl rfl rfl rfl sc_wide.2 ?_
 intro vs cs r h
 unfold wideC at h
 split at h
 ·rename_i w a b
  cases h
  exact ⟨by simp,fun hcs hwf=>⟨_,envOK tabOK (.cons (ok_mul64 G) (.cons (ok_add G) .nil)),rfl,walk_wide realOps rfl G w a.val b.val _ rfl _ rfl _ rfl _ rfl _ rfl _ rfl⟩⟩
 ·cases h
def sc_times:{ c:SC // strip (body Tryd.f52)=c }:=⟨_,by cbv⟩
theorem walk_times (A:Ops) (hA:A=realOps) (G:Nat→AV) (l m:Nat→Int) (K) (hK:K=Bit01) (S) (hS:S=adcS) (C) (hC:C=adcC) (V) (hV:V=wideR) (F) (hF:F=settleF) (T) (hT:T=timesF) (W:Nat→Nat→Int) (hW:W=sumsT l m) (PT:Nat→Nat→Nat→Int) (hPT:PT=partT l m)
  (I:{ i:Nat // i≤5 }→St) (hI:I=fun i=>slots 96 [(2,.own (.arr .u64 5 l)),(3,.own (.arr .u64 5 m)),(4,.own (.arr .u64 5 fun _=>0)),(5,.own (.arr .u64 10 (W i.1))),(15,.int .i64 (.sym (i.1:Int)))])
  (J:St→{ j:Nat // j≤5 }→St) (hJ:J=fun s j=>slots 96 ([(2,.own (.arr .u64 5 l)),(3,.own (.arr .u64 5 m)),(4,.own (.arr .u64 5 fun _=>0)),(5,.own (.arr .u64 10 (PT (natIn s 15) j.1)))] ++ keepS s [6,15] ++ [(18,.int .i64 (.sym (j.1:Int)))])) :
  Walk (mkEnv A tab.1 G [(72,wideC V),(26,addC K S C),(71,limC F)] [(3,.inv { i:Nat // i≤5 } I fun i=>5 - i.1),(6,.invd { j:Nat // j≤5 } J fun j=>5 - j.1)]) sc_times.1 96 [.cell 4 82] [.arr .u64 5 l,.arr .u64 5 m] (.arr .u64 5 (T l m)):=by
 obtain ⟨bi,cm,un,cv,na,eq⟩:=A
 have hbi:bi=realBin:=congrArg Ops.bin hA
 have hcm:cm=realCmp:=congrArg Ops.cmp hA
 have hna:na=Int.toNat:=congrArg Ops.nat hA
 have hAA:(⟨bi,cm,un,cv,na,eq⟩:Ops)=realOps:=hA
 clear hA
 have m0:∀ k,k<10→0=W 0 k:=by intro k _;rw [hW];rfl
 have md0:∀ i k,W i k=PT i 0 k:=by intro i k;rw [hW,hPT];exact partT_zero l m i k
 have mde:∀ i k,i<5→k<10→PT i 5 k=W (i+1) k:=by intro i k hi hk;rw [hW,hPT];exact partT_end l m hi hk
 have ms:∀ i j k,i<5→j<5→k<10→(if k / 2=plT i j then V (PT i j (2*plT i j)) (PT i j (2*plT i j+1)) (l i) (if i+j<5 then m j else umul 19 (m j)) (k % 2) else PT i j k)=PT i (j+1) k:=by intro i j k hi hj hk;rw [hPT,hV];exact partT_step l m hi hj hk
 have hend:T l m=settleF (carT (W 5)):=by rw [hT,hW];show settleF (timesP l m)=_;rw [timesP_rows]
 clear hW hPT hT hV
 refine ⟨?_⟩
 cbv
 refine ⟨⟨⟨0,by decide⟩,?_⟩,fun i _=>?_⟩
 ·subst hI
  cbv
  exact ⟨fun _ _=>rfl,fun _ _=>rfl,fun _ _=>rfl,m0,rfl,trivial⟩
 ·subst hI
  cbv
  obtain ⟨i,hi⟩:=i
  refine ⟨fun h=>?_,fun h=>?_⟩
  ·cbv
   rw [hcm] at h
   have hi2:i<5:=by have:=lss_yes h;simp only [Int.ofNat_eq_natCast] at this;omega
   have qi:na (Int.ofNat i)=i:=by rw [hna];rfl
   have p4:bi .add .i64 (Int.ofNat i) 1=Int.ofNat (i+1):=by rw [hbi,add_i64 (by simp only [Int.ofNat_eq_natCast];omega)];rfl
   refine ⟨⟨⟨0,by decide⟩,?_⟩,fun j hwf=>?_⟩
   ·subst hJ
    cbv
    exact ⟨fun _ _=>rfl,fun _ _=>rfl,fun _ _=>rfl,fun k _=>md0 i k,rfl,trivial⟩
   ·subst hJ
    clear hwf
    obtain ⟨j,hj⟩:=j
    cbv
    refine ⟨fun h=>?_,fun h=>?_⟩
    ·cbv
     rw [hcm] at h
     have hj2:j<5:=by have:=lss_yes h;simp only [Int.ofNat_eq_natCast] at this;omega
     have qj:na (Int.ofNat j)=j:=by rw [hna];rfl
     have q4:bi .add .i64 (Int.ofNat j) 1=Int.ofNat (j+1):=by rw [hbi,add_i64 (by simp only [Int.ofNat_eq_natCast];omega)];rfl
     have e5:bi .add .i64 (Int.ofNat i) (Int.ofNat j)=Int.ofNat (i+j):=by rw [hbi,add_i64 (by simp only [Int.ofNat_eq_natCast];omega)];rfl
     refine ⟨fun g=>?_,fun g=>?_⟩
     ·cbv
      have hlt:i+j<5:=by rw [hcm,e5] at g;have:=lss_yes g;simp only [Int.ofNat_eq_natCast] at this;omega
      have ep:plT i j=i+j:=if_pos hlt
      have hn:na (bi .add .i64 (Int.ofNat i) (Int.ofNat j))=plT i j:=by rw [e5,hna,ep];rfl
      have hm:(Classical.choice seal_mul).1 (na (bi .add .i64 (Int.ofNat i) (Int.ofNat j))) 2=2*plT i j:=by rw [choice_mul,hn];omega
      have hw:Within (bi .add .i64 (Int.ofNat i) (Int.ofNat j)) 5:=⟨by rw [e5];simp only [Int.ofNat_eq_natCast];omega⟩
      have hf:FitsIn ((Classical.choice seal_mul).1 (na (bi .add .i64 (Int.ofNat i) (Int.ofNat j))) 2) 2 10:=⟨by rw [hm];omega⟩
      refine ⟨hw,hf,⟨by simp only [Int.ofNat_eq_natCast];omega⟩,⟨by rw [qi];omega⟩,⟨by simp only [Int.ofNat_eq_natCast];omega⟩,⟨by rw [qj];omega⟩,hw,hf,⟨j+1,by omega⟩,?_,by show 5 - (j+1)<5 - j;omega⟩
      cbv
      refine ⟨fun _ _=>rfl,fun _ _=>rfl,fun _ _=>rfl,fun k hk=>?_,q4,trivial⟩
      show splice (PT i j) ((Classical.choice seal_mul).1 (na (bi .add .i64 (Int.ofNat i) (Int.ofNat j))) 2) 2 (V (PT i j ((Classical.choice seal_mul).1 (na (bi .add .i64 (Int.ofNat i) (Int.ofNat j))) 2+0)) (PT i j ((Classical.choice seal_mul).1 (na (bi .add .i64 (Int.ofNat i) (Int.ofNat j))) 2+1)) (l (na (Int.ofNat i))) (m (na (Int.ofNat j)))) k=PT i (j+1) k
      rw [hm,qi,qj,splice_part _ _ rfl,Nat.add_zero,← ms i j k hi2 hj2 hk,if_pos hlt]
     ·cbv
      have hlt:¬ i+j<5:=by rw [hcm,e5] at g;have:=lss_no g;simp only [Int.ofNat_eq_natCast] at this;omega
      have ep:plT i j=i+j - 5:=if_neg hlt
      have e6:bi .sub .i64 (bi .add .i64 (Int.ofNat i) (Int.ofNat j)) 5=Int.ofNat (i+j - 5):=by rw [e5,hbi,sub_i64 (by simp only [Int.ofNat_eq_natCast];omega)];simp only [Int.ofNat_eq_natCast];omega
      have hn:na (bi .sub .i64 (bi .add .i64 (Int.ofNat i) (Int.ofNat j)) 5)=plT i j:=by rw [e6,hna,ep];rfl
      have hm:(Classical.choice seal_mul).1 (na (bi .sub .i64 (bi .add .i64 (Int.ofNat i) (Int.ofNat j)) 5)) 2=2*plT i j:=by rw [choice_mul,hn];omega
      have hw:Within (bi .sub .i64 (bi .add .i64 (Int.ofNat i) (Int.ofNat j)) 5) 5:=⟨by rw [e6];constructor <;> simp only [Int.ofNat_eq_natCast] <;> omega⟩
      have hf:FitsIn ((Classical.choice seal_mul).1 (na (bi .sub .i64 (bi .add .i64 (Int.ofNat i) (Int.ofNat j)) 5)) 2) 2 10:=⟨by rw [hm];omega⟩
      refine ⟨hw,hf,⟨by simp only [Int.ofNat_eq_natCast];omega⟩,⟨by rw [qi];omega⟩,⟨by simp only [Int.ofNat_eq_natCast];omega⟩,⟨by rw [qj];omega⟩,hw,hf,⟨j+1,by omega⟩,?_,by show 5 - (j+1)<5 - j;omega⟩
      cbv
      refine ⟨fun _ _=>rfl,fun _ _=>rfl,fun _ _=>rfl,fun k hk=>?_,q4,trivial⟩
      show splice (PT i j) ((Classical.choice seal_mul).1 (na (bi .sub .i64 (bi .add .i64 (Int.ofNat i) (Int.ofNat j)) 5)) 2) 2 (V (PT i j ((Classical.choice seal_mul).1 (na (bi .sub .i64 (bi .add .i64 (Int.ofNat i) (Int.ofNat j)) 5)) 2+0)) (PT i j ((Classical.choice seal_mul).1 (na (bi .sub .i64 (bi .add .i64 (Int.ofNat i) (Int.ofNat j)) 5)) 2+1)) (l (na (Int.ofNat i))) (bi .mul .u64 19 (m (na (Int.ofNat j))))) k=PT i (j+1) k
      have hmm:bi .mul .u64 19 (m j)=umul 19 (m j):=by subst hbi;rfl
      rw [hm,qi,qj,hmm,splice_part _ _ rfl,Nat.add_zero,← ms i j k hi2 hj2 hk,if_neg hlt]
    ·cbv
     have hN:j=5:=by
      rw [hcm] at h
      have:=lss_no h
      simp only [Int.ofNat_eq_natCast] at this
      omega
     subst hN
     refine ⟨⟨i+1,by omega⟩,?_,by show 5 - (i+1)<5 - i;omega⟩
     cbv
     exact ⟨fun _ _=>rfl,fun _ _=>rfl,fun _ _=>rfl,fun k hk=>mde i k hi2 hk,p4,trivial⟩
  ·cbv
   have hN:i=5:=by
    rw [hcm] at h
    have:=lss_no h
    simp only [Int.ofNat_eq_natCast] at this
    omega
   subst hN
   rw [hend]
   generalize W 5=s
   cases hAA
   subst hK hS hC hF
   exact ⟨bit01_0,bit01_0,bit01_0,bit01_0,bit01_0,fun i _=>congrFun (settle_congr (each5 rfl rfl rfl rfl rfl)) i⟩
theorem ok_times (G:Nat→AV):Sound Tryd.prog G 52 (lim2C timesF):=by
 refine sound_each (n:=96) (rs:=[.cell 4 82]) (sc:=sc_times.1) mixed Tryd.func52 rfl rfl rfl rfl sc_times.2 ?_
 intro vs cs r h
 unfold lim2C at h
 split at h
 ·rename_i l m
  cases h
  exact ⟨by simp,fun hcs hwf=>⟨_,envOK tabOK (.cons (ok_wide G) (.cons (ok_add G) (.cons (ok_settle G) .nil))),rfl,walk_times realOps rfl G l m _ rfl _ rfl _ rfl _ rfl _ rfl _ rfl _ rfl _ rfl _ rfl _ rfl⟩⟩
 ·cases h
end Go.Proofs.YtjbimeigkklcmaaDoor
