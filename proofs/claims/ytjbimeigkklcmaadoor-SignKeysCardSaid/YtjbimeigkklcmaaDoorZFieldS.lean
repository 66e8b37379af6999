/-
  Package field: roots.
-/
import Derived.Test.YtjbimeigkklcmaaDoorZFieldP
namespace Go.Proofs.YtjbimeigkklcmaaDoor
open Go Go.Proofs Sx
set_option maxRecDepth 100000
set_option maxHeartbeats 4000000
abbrev Gsq:Nat→AV:=lookGL [v_eighth,v_root,v_twice]
def sc_sqrt:{ c:SC // strip (body Tryd.f32)=c }:=⟨_,by cbv⟩
theorem walk_sqrt (A:Ops) (hA:A=realOps) (f:Nat→Int) (g:Nat→Int) (hf:IsBytes 32 f) (hg:IsBytes 32 g) (L:(Nat→Int)→Nat→Int) (hL:L=loadF) (B:(Nat→Int)→Nat→Int) (hB:B=bytesF) (T:(Nat→Int)→(Nat→Int)→Nat→Int) (hT:T=timesF) (P:(Nat→Int)→(Nat→Int)→Nat→Int) (hP:P=powL) (M:(Nat→Int)→(Nat→Int)→Nat→Int) (hM:M=(fun l m=>settleF (subP l m))) (R:(Nat→Int)→(Nat→Int)→Nat→Int) (hR:R=sqrtR) (S:(Nat→Int)→(Nat→Int)→Bool) (hS:S=sqrtB)  :
  Walk (mkEnv A tab.1 Gsq [(50,loadC L),(51,bytesC B),(52,lim2C T),(53,powC P),(54,lim2C M)] []) sc_sqrt.1 69 [.cell 4 22,.tmp 5] [.arr .u8 32 f,.arr .u8 32 g] (.tup [.arr .u8 32 (R f g),.bool (.sym (S f g))]):=by
 obtain ⟨bi,cm,un,cv,na,eq⟩:=A
 have hbi:bi=realBin:=congrArg Ops.bin hA
 have hcm:cm=realCmp:=congrArg Ops.cmp hA
 have heq:eq=realEqA:=congrArg Ops.eqA hA
 clear hA
 have e8:∀ i,i<32→(fun i=>v_eighth.2.2.getD i 0) i=byt 7237005577332262213973186563042994240829374041602535252466099000494570602493 i:=by decide +kernel
 have er:∀ i,i<32→(fun i=>v_root.2.2.getD i 0) i=byt 19681161376707505956807079304988542015446066515923890162744021073123829784752 i:=by decide +kernel
 refine sqrt_with hf hg e8 er hR hS hL hB hT hP hM hbi hcm heq (fun f0 f1 f2 f3 f4 f5=>?_)
 clear hL hB hT hP hM hR hS hbi hcm heq e8 er
 refine ⟨?_⟩
 cbv
 refine ⟨fun h0=>?_,fun h0=>?_⟩
 ·cbv
  exact ⟨(f0 h0).1,(f0 h0).2,trivial⟩
 ·cbv
  refine ⟨fun h1=>?_,fun h1=>?_⟩
  ·cbv
   refine ⟨fun h2=>?_,fun h2=>?_⟩
   ·cbv
    exact ⟨(f1 h0 h1 h2).1,(f1 h0 h1 h2).2,trivial⟩
   ·cbv
    exact ⟨(f2 h0 h1 h2).1,(f2 h0 h1 h2).2,trivial⟩
  ·cbv
   refine ⟨fun h2=>?_,fun h2=>?_⟩
   ·cbv
    refine ⟨fun h3=>?_,fun h3=>?_⟩
    ·cbv
     exact ⟨(f3 h0 h1 h2 h3).1,(f3 h0 h1 h2 h3).2,trivial⟩
    ·cbv
     exact ⟨(f4 h0 h1 h2 h3).1,(f4 h0 h1 h2 h3).2,trivial⟩
   ·cbv
    exact ⟨(f5 h0 h1 h2).1,(f5 h0 h1 h2).2,trivial⟩
theorem ok_sqrtF:Sound Tryd.prog Gsq 32 (sqrtC sqrtR sqrtB):=by
 refine sound_each (n:=69) (rs:=[.cell 4 22,.tmp 5]) (sc:=sc_sqrt.1) mixed Tryd.func32 rfl rfl rfl rfl sc_sqrt.2 ?_
 intro vs cs r h
 unfold sqrtC at h
 split at h
 ·rename_i f g
  cases h
  exact ⟨by simp,fun hcs hwf=>⟨_,envOK tabOK ((.cons (ok_load Gsq) (.cons (ok_bytes Gsq) (.cons (ok_times Gsq) (.cons (ok_power Gsq) (.cons (ok_less.sub (sub_of (by decide))) .nil)))))),rfl,walk_sqrt realOps rfl f g (isB (hwf _ (by simp))) (isB (hwf _ (by simp))) _ rfl _ rfl _ rfl _ rfl _ rfl _ rfl _ rfl ⟩⟩
 ·cases h
end Go.Proofs.YtjbimeigkklcmaaDoor
