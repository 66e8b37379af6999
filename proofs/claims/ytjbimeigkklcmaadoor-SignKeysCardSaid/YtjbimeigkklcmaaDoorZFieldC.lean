/-
  Package field's straight calls.
-/
import Derived.Test.YtjbimeigkklcmaaDoorZFieldB
import Derived.Test.YtjbimeigkklcmaaDoorZMA
import Derived.Test.YtjbimeigkklcmaaDoorZEB
import Derived.Test.YtjbimeigkklcmaaDoorZFieldL
set_option linter.unusedVariables false
set_option linter.unusedSimpArgs false
namespace Go.Proofs.YtjbimeigkklcmaaDoor
open Go Go.Proofs Sx
set_option maxRecDepth 100000
set_option maxHeartbeats 4000000
def sc_add:{ c:SC // strip (body Tryd.f34)=c }:=⟨_,by cbv⟩
theorem walk_add (A:Ops) (hA:A=realOps) (G:Nat→AV) (f:Nat→Int) (g:Nat→Int) (hf:IsBytes 32 f) (hg:IsBytes 32 g) (L:(Nat→Int)→Nat→Int) (hL:L=loadF) (P:(Nat→Int)→(Nat→Int)→Nat→Int) (hP:P=(fun l m=>settleF (addP l m))) (B:(Nat→Int)→Nat→Int) (hB:B=bytesF) (R:(Nat→Int)→(Nat→Int)→Nat→Int) (hR:R=fun f g=>byt (addN f g))  :
  Walk (mkEnv A tab.1 G [(50,loadC L),(55,lim2C P),(51,bytesC B)] []) sc_add.1 11 [.cell 4 22] [.arr .u8 32 f,.arr .u8 32 g] (.arr .u8 32 (R f g)):=by
 refine ⟨?_⟩
 cbv
 subst hA hL hP hB hR
 exact add_bytes hf hg
theorem ok_addF (G:Nat→AV):Sound Tryd.prog G 34 (bin32C (fun f g=>byt (addN f g))):=by
 refine sound_each (n:=11) (rs:=[.cell 4 22]) (sc:=sc_add.1) mixed Tryd.func34 rfl rfl rfl rfl sc_add.2 ?_
 intro vs cs r h
 unfold bin32C at h
 split at h
 ·rename_i f g
  cases h
  exact ⟨by simp,fun hcs hwf=>⟨_,envOK tabOK ((.cons (ok_load G) (.cons (ok_plus G) (.cons (ok_bytes G) .nil)))),rfl,walk_add realOps rfl G f g (isB (hwf _ (by simp))) (isB (hwf _ (by simp))) _ rfl _ rfl _ rfl _ rfl ⟩⟩
 ·cases h
theorem ok_addZ (G:Nat→AV):Sound Tryd.prog G 34 (bin32C (fun f g=>fb (fe f+fe g))):=add_fz ▸ ok_addF G
def sc_sub:{ c:SC // strip (body Tryd.f33)=c }:=⟨_,by cbv⟩
theorem walk_sub (A:Ops) (hA:A=realOps) (G:Nat→AV) (f:Nat→Int) (g:Nat→Int) (hf:IsBytes 32 f) (hg:IsBytes 32 g) (L:(Nat→Int)→Nat→Int) (hL:L=loadF) (M:(Nat→Int)→(Nat→Int)→Nat→Int) (hM:M=(fun l m=>settleF (subP l m))) (B:(Nat→Int)→Nat→Int) (hB:B=bytesF) (R:(Nat→Int)→(Nat→Int)→Nat→Int) (hR:R=fun f g=>byt (subN f g))  :
  Walk (mkEnv A tab.1 G [(50,loadC L),(54,lim2C M),(51,bytesC B)] []) sc_sub.1 11 [.cell 4 22] [.arr .u8 32 f,.arr .u8 32 g] (.arr .u8 32 (R f g)):=by
 refine ⟨?_⟩
 cbv
 subst hA hL hM hB hR
 exact sub_bytes hf hg
theorem ok_subF (G:Nat→AV) (hless:Sound Tryd.prog G 54 (lim2C fun l m=>settleF (subP l m))):Sound Tryd.prog G 33 (bin32C (fun f g=>byt (subN f g))):=by
 refine sound_each (n:=11) (rs:=[.cell 4 22]) (sc:=sc_sub.1) mixed Tryd.func33 rfl rfl rfl rfl sc_sub.2 ?_
 intro vs cs r h
 unfold bin32C at h
 split at h
 ·rename_i f g
  cases h
  exact ⟨by simp,fun hcs hwf=>⟨_,envOK tabOK ((.cons (ok_load G) (.cons (hless) (.cons (ok_bytes G) .nil)))),rfl,walk_sub realOps rfl G f g (isB (hwf _ (by simp))) (isB (hwf _ (by simp))) _ rfl _ rfl _ rfl _ rfl ⟩⟩
 ·cases h
theorem ok_subZ (G:Nat→AV) (hless:Sound Tryd.prog G 54 (lim2C fun l m=>settleF (subP l m))):Sound Tryd.prog G 33 (bin32C (fun f g=>fb (fe f - fe g))):=sub_fz ▸ ok_subF G hless
def sc_neg:{ c:SC // strip (body Tryd.f36)=c }:=⟨_,by cbv⟩
theorem walk_neg (A:Ops) (hA:A=realOps) (G:Nat→AV) (f:Nat→Int) (hf:IsBytes 32 f) (L:(Nat→Int)→Nat→Int) (hL:L=loadF) (M:(Nat→Int)→(Nat→Int)→Nat→Int) (hM:M=(fun l m=>settleF (subP l m))) (B:(Nat→Int)→Nat→Int) (hB:B=bytesF) (R:(Nat→Int)→Nat→Int) (hR:R=fun f=>byt (subN (fun _=>0) f))  :
  Walk (mkEnv A tab.1 G [(50,loadC L),(54,lim2C M),(51,bytesC B)] []) sc_neg.1 8 [.cell 2 22] [.arr .u8 32 f] (.arr .u8 32 (R f)):=by
 refine ⟨?_⟩
 cbv
 subst hA hL hM hB hR
 exact neg_bytes hf
theorem ok_negF (G:Nat→AV) (hless:Sound Tryd.prog G 54 (lim2C fun l m=>settleF (subP l m))):Sound Tryd.prog G 36 (un32C (fun f=>byt (subN (fun _=>0) f))):=by
 refine sound_each (n:=8) (rs:=[.cell 2 22]) (sc:=sc_neg.1) mixed Tryd.func36 rfl rfl rfl rfl sc_neg.2 ?_
 intro vs cs r h
 unfold un32C at h
 split at h
 ·rename_i f
  cases h
  exact ⟨by simp,fun hcs hwf=>⟨_,envOK tabOK ((.cons (ok_load G) (.cons (hless) (.cons (ok_bytes G) .nil)))),rfl,walk_neg realOps rfl G f (isB (hwf _ (by simp))) _ rfl _ rfl _ rfl _ rfl ⟩⟩
 ·cases h
theorem ok_negZ (G:Nat→AV) (hless:Sound Tryd.prog G 54 (lim2C fun l m=>settleF (subP l m))):Sound Tryd.prog G 36 (un32C (fun f=>fb (- fe f))):=neg_fz ▸ ok_negF G hless
def sc_mul:{ c:SC // strip (body Tryd.f35)=c }:=⟨_,by cbv⟩
theorem walk_mul (A:Ops) (hA:A=realOps) (G:Nat→AV) (f:Nat→Int) (g:Nat→Int) (hf:IsBytes 32 f) (hg:IsBytes 32 g) (L:(Nat→Int)→Nat→Int) (hL:L=loadF) (T:(Nat→Int)→(Nat→Int)→Nat→Int) (hT:T=timesF) (B:(Nat→Int)→Nat→Int) (hB:B=bytesF) (R:(Nat→Int)→(Nat→Int)→Nat→Int) (hR:R=fun f g=>byt (mulN f g))  :
  Walk (mkEnv A tab.1 G [(50,loadC L),(52,lim2C T),(51,bytesC B)] []) sc_mul.1 11 [.cell 4 22] [.arr .u8 32 f,.arr .u8 32 g] (.arr .u8 32 (R f g)):=by
 refine ⟨?_⟩
 cbv
 subst hA hL hT hB hR
 exact mul_bytes hf hg
theorem ok_mulF (G:Nat→AV):Sound Tryd.prog G 35 (bin32C (fun f g=>byt (mulN f g))):=by
 refine sound_each (n:=11) (rs:=[.cell 4 22]) (sc:=sc_mul.1) mixed Tryd.func35 rfl rfl rfl rfl sc_mul.2 ?_
 intro vs cs r h
 unfold bin32C at h
 split at h
 ·rename_i f g
  cases h
  exact ⟨by simp,fun hcs hwf=>⟨_,envOK tabOK ((.cons (ok_load G) (.cons (ok_times G) (.cons (ok_bytes G) .nil)))),rfl,walk_mul realOps rfl G f g (isB (hwf _ (by simp))) (isB (hwf _ (by simp))) _ rfl _ rfl _ rfl _ rfl ⟩⟩
 ·cases h
theorem ok_mulZ (G:Nat→AV):Sound Tryd.prog G 35 (bin32C (fun f g=>fb (fe f*fe g))):=mul_fz ▸ ok_mulF G
def sc_square:{ c:SC // strip (body Tryd.f31)=c }:=⟨_,by cbv⟩
theorem walk_square (A:Ops) (hA:A=realOps) (G:Nat→AV) (f:Nat→Int) (hf:IsBytes 32 f) (L:(Nat→Int)→Nat→Int) (hL:L=loadF) (T:(Nat→Int)→(Nat→Int)→Nat→Int) (hT:T=timesF) (B:(Nat→Int)→Nat→Int) (hB:B=bytesF) (R:(Nat→Int)→Nat→Int) (hR:R=fun f=>byt (mulN f f))  :
  Walk (mkEnv A tab.1 G [(50,loadC L),(52,lim2C T),(51,bytesC B)] []) sc_square.1 10 [.cell 2 22] [.arr .u8 32 f] (.arr .u8 32 (R f)):=by
 refine ⟨?_⟩
 cbv
 subst hA hL hT hB hR
 exact mul_bytes hf hf
theorem ok_squareF (G:Nat→AV):Sound Tryd.prog G 31 (un32C (fun f=>byt (mulN f f))):=by
 refine sound_each (n:=10) (rs:=[.cell 2 22]) (sc:=sc_square.1) mixed Tryd.func31 rfl rfl rfl rfl sc_square.2 ?_
 intro vs cs r h
 unfold un32C at h
 split at h
 ·rename_i f
  cases h
  exact ⟨by simp,fun hcs hwf=>⟨_,envOK tabOK ((.cons (ok_load G) (.cons (ok_times G) (.cons (ok_bytes G) .nil)))),rfl,walk_square realOps rfl G f (isB (hwf _ (by simp))) _ rfl _ rfl _ rfl _ rfl ⟩⟩
 ·cases h
theorem ok_squareZ (G:Nat→AV):Sound Tryd.prog G 31 (un32C (fun f=>fb (fe f*fe f))):=sq_fz ▸ ok_squareF G
def sc_canon:{ c:SC // strip (body Tryd.f30)=c }:=⟨_,by cbv⟩
theorem walk_canon (A:Ops) (hA:A=realOps) (G:Nat→AV) (f:Nat→Int) (hf:IsBytes 32 f) (L:(Nat→Int)→Nat→Int) (hL:L=loadF) (B:(Nat→Int)→Nat→Int) (hB:B=bytesF) (R:(Nat→Int)→Bool) (hR:R=canB)  :
  Walk (mkEnv A tab.1 G [(50,loadC L),(51,bytesC B)] []) sc_canon.1 8 [.tmp 2] [.arr .u8 32 f] (.bool (.sym (R f))):=by
 refine ⟨?_⟩
 cbv
 subst hA hL hB hR
 exact can_eq hf
theorem ok_canonF (G:Nat→AV):Sound Tryd.prog G 30 (bool32C canB):=by
 refine sound_each (n:=8) (rs:=[.tmp 2]) (sc:=sc_canon.1) mixed Tryd.func30 rfl rfl rfl rfl sc_canon.2 ?_
 intro vs cs r h
 unfold bool32C at h
 split at h
 ·rename_i f
  cases h
  exact ⟨by simp,fun hcs hwf=>⟨_,envOK tabOK ((.cons (ok_load G) (.cons (ok_bytes G) .nil))),rfl,walk_canon realOps rfl G f (isB (hwf _ (by simp))) _ rfl _ rfl _ rfl ⟩⟩
 ·cases h
end Go.Proofs.YtjbimeigkklcmaaDoor
