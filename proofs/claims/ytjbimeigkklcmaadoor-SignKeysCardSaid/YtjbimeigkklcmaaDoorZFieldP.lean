/-
  Package field: powers.
-/
import Derived.Test.YtjbimeigkklcmaaDoorZFieldC
import Derived.Test.YtjbimeigkklcmaaDoorZNA
set_option linter.unusedVariables false
set_option linter.unusedSimpArgs false
namespace Go.Proofs.YtjbimeigkklcmaaDoor
open Go Go.Proofs Sx
set_option maxRecDepth 100000
set_option maxHeartbeats 4000000
def sc_power:{ c:SC // strip (body Tryd.f53)=c }:=⟨_,by cbv⟩
theorem walk_power (A:Ops) (hA:A=realOps) (G:Nat→AV) (l:Nat→Int) (e:Nat→Int) (he:IsBytes 32 e) (T:(Nat→Int)→(Nat→Int)→Nat→Int) (hT:T=timesF) (R:(Nat→Int)→(Nat→Int)→Nat→Int) (hR:R=powL) (PL) (hPL:PL=pwL l e) (I:{ x:Int // -1≤x∧x≤255 }→St)
  (hI:I=fun x=>slots 28 [(2,.own (.arr .u64 5 l)),(3,.own (.arr .u8 32 e)),(4,.own (.arr .u64 5 fun _=>0)),(5,.own (.arr .u64 5 (PL (255 - x.1).toNat))),(6,.int .i64 (.sym x.1))]) :
  Walk (mkEnv A tab.1 G [(52,lim2C T)] [(3,.inv { x:Int // -1≤x∧x≤255 } I fun x=>(x.1+1).toNat)]) sc_power.1 28 [.cell 4 82] [.arr .u64 5 l,.arr .u8 32 e] (.arr .u64 5 (R l e)):=by
 obtain ⟨bi,cm,un,cv,na,eq⟩:=A
 have hbi:bi=realBin:=congrArg Ops.bin hA
 have hcm:cm=realCmp:=congrArg Ops.cmp hA
 have hna:na=Int.toNat:=congrArg Ops.nat hA
 clear hA
 refine ⟨?_⟩
 cbv
 refine ⟨⟨⟨255,by decide,by decide⟩,?_⟩,fun x _=>?_⟩
 ·subst hI
  cbv
  subst hPL
  first | exact trivial | exact ⟨fun _ _=>rfl,fun _ _=>rfl,fun _ _=>rfl,each5 rfl rfl rfl rfl rfl,rfl,trivial⟩ | exact ⟨fun _ _=>rfl,fun _ _=>rfl,fun _ _=>rfl,each5 rfl rfl rfl rfl rfl,trivial⟩
 ·subst hI
  cbv
  obtain ⟨x,h1,h2⟩:=x
  refine ⟨fun h=>?_,fun h=>?_⟩
  ·cbv
   have hx:0≤x:=by rw [hcm] at h;exact of_decide_eq_true h
   obtain ⟨k,rfl⟩:=Int.eq_ofNat_of_zero_le hx
   have q1:bi .quo .i64 (k:Int) 8=((k / 8:Nat):Int):=by rw [hbi];exact quo_i64 (by omega) (by decide)
   have q2:bi .rem .i64 (k:Int) 8=((k % 8:Nat):Int):=by rw [hbi];exact rem_i64 (by omega)
   have q3:na (bi .quo .i64 (k:Int) 8)=k / 8:=by rw [q1,hna];exact Int.toNat_natCast _
   obtain ⟨y,hy⟩:∃ y:Int,y=(k:Int) - 1:=⟨_,rfl⟩
   have q4:bi .sub .i64 (k:Int) 1=y:=by rw [hbi,hy];exact sub_i64 (by omega)
   have e1:(255 - (k:Int)).toNat=255 - k:=by omega
   have e2:(255 - y).toNat=(255 - k)+1:=by omega
   have e3:255 - (255 - k)=k:=by omega
   have hstep:PL (255 - y).toNat=if bitB e k=true then T (T (PL (255 - (k:Int)).toNat) (PL (255 - (k:Int)).toNat)) l else T (PL (255 - (k:Int)).toNat) (PL (255 - (k:Int)).toNat):=by
    rw [hPL,hT,e1,e2]
    show (if bitB e (255 - (255 - k))=true then _ else _)=_
    rw [e3]
   have hbit:cm .eql (bi .and .u8 (bi .shr .u8 (e (na (bi .quo .i64 (k:Int) 8))) (bi .rem .i64 (k:Int) 8)) 1) 1=bitB e k:=by
    rw [q3,q2,hcm,hbi]
    exact bit_asked he (by omega)
   refine ⟨⟨by show 0≤bi .quo .i64 (k:Int) 8∧bi .quo .i64 (k:Int) 8<32;rw [q1];omega⟩,⟨by show na (bi .quo .i64 (k:Int) 8)+1≤32;rw [q3];omega⟩,⟨by show 0≤bi .rem .i64 (k:Int) 8;rw [q2];omega⟩,fun hb=>?_,fun hb=>?_⟩
   ·cbv
    refine ⟨⟨y,by omega,by omega⟩,?_,by show (y+1).toNat<((k:Int)+1).toNat;omega⟩
    cbv
    have hb':bitB e k=true:=hbit.symm.trans hb
    rw [if_pos hb'] at hstep
    refine ⟨fun _ _=>rfl,fun _ _=>rfl,fun _ _=>rfl,fun i _=>?_,q4,trivial⟩
    exact (congrFun hstep i).symm
   ·cbv
    refine ⟨⟨y,by omega,by omega⟩,?_,by show (y+1).toNat<((k:Int)+1).toNat;omega⟩
    cbv
    have hb':¬ bitB e k=true:=by rw [← hbit];exact Bool.eq_false_iff.1 hb
    rw [if_neg hb'] at hstep
    refine ⟨fun _ _=>rfl,fun _ _=>rfl,fun _ _=>rfl,fun i _=>?_,q4,trivial⟩
    exact (congrFun hstep i).symm
  ·cbv
   have hx:x=-1:=by
    rw [hcm] at h
    have h4:¬ (0≤x):=of_decide_eq_false h
    omega
   subst hx
   intro i _
   rw [hR]
   show PL 256 i=powL l e i
   rw [hPL]
   rfl
theorem ok_power (G:Nat→AV):Sound Tryd.prog G 53 (powC powL):=by
 refine sound_each (n:=28) (rs:=[.cell 4 82]) (sc:=sc_power.1) mixed Tryd.func53 rfl rfl rfl rfl sc_power.2 ?_
 intro vs cs r h
 unfold powC at h
 split at h
 ·rename_i l e
  cases h
  exact ⟨by simp,fun hcs hwf=>⟨_,envOK tabOK ((.cons (ok_times G) .nil)),rfl,walk_power realOps rfl G l e (isB (hwf _ (by simp))) _ rfl _ rfl _ rfl _ rfl⟩⟩
 ·cases h
abbrev Gtwo:Nat→AV:=lookGL [v_two]
def sc_invert:{ c:SC // strip (body Tryd.f56)=c }:=⟨_,by cbv⟩
theorem walk_invert (A:Ops) (hA:A=realOps) (f:Nat→Int) (hf:IsBytes 32 f) (L:(Nat→Int)→Nat→Int) (hL:L=loadF) (P:(Nat→Int)→(Nat→Int)→Nat→Int) (hP:P=powL) (B:(Nat→Int)→Nat→Int) (hB:B=bytesF) (R:(Nat→Int)→Nat→Int) (hR:R=fun f=>fb (zinv (fe f)))  :
  Walk (mkEnv A tab.1 Gtwo [(50,loadC L),(53,powC P),(51,bytesC B)] []) sc_invert.1 8 [.cell 2 22] [.arr .u8 32 f] (.arr .u8 32 (R f)):=by
 refine ⟨?_⟩
 cbv
 subst hA hL hP hB hR
 exact pow_const hf (e:=fun i=>v_two.2.2.getD i 0) (N:=57896044618658097711785492504343953926634992332820282019728792003956564819947) (by decide) num_two rfl
theorem ok_invertF:Sound Tryd.prog Gtwo 56 (un32C (fun f=>fb (zinv (fe f)))):=by
 refine sound_each (n:=8) (rs:=[.cell 2 22]) (sc:=sc_invert.1) mixed Tryd.func56 rfl rfl rfl rfl sc_invert.2 ?_
 intro vs cs r h
 unfold un32C at h
 split at h
 ·rename_i f
  cases h
  exact ⟨by simp,fun hcs hwf=>⟨_,envOK tabOK ((.cons (ok_load Gtwo) (.cons (ok_power Gtwo) (.cons (ok_bytes Gtwo) .nil)))),rfl,walk_invert realOps rfl f (isB (hwf _ (by simp))) _ rfl _ rfl _ rfl _ rfl ⟩⟩
 ·cases h
end Go.Proofs.YtjbimeigkklcmaaDoor
