/-
  Package scalar's calls.
-/
import Derived.Test.YtjbimeigkklcmaaDoorZScalA
import Derived.Test.YtjbimeigkklcmaaDoorZMA
set_option linter.unusedVariables false
namespace Go.Proofs.YtjbimeigkklcmaaDoor
open Go Go.Proofs Sx
set_option maxRecDepth 100000
set_option maxHeartbeats 4000000
def sc_scanon:{ c:SC // strip (body Tryd.f15)=c }:=⟨_,by cbv⟩
theorem walk_scanon (A:Ops) (hA:A=realOps) (f:Nat→Int) (hf:IsBytes 32 f) (RE:Nat→(Nat→Int)→Nat→Int) (hRE:RE=redW) (BY:(Nat→Int)→Nat→Int) (hBY:BY=bytesW) (R:(Nat→Int)→Bool) (hR:R=canS)  :
  Walk (mkEnv A tab.1 Gmul [(28,redC RE),(29,bytesC BY)] []) sc_scanon.1 8 [.tmp 2] [.arr .u8 32 f] (.bool (.sym (R f))):=by
 refine ⟨?_⟩
 cbv
 subst hA hRE hBY hR
 exact (congrArg (fun x=>realEqA 32 (bytesW (redW 32 x)) f) (zero_off f)).trans (can_eqS hf)
theorem ok_canonS:Sound Tryd.prog Gmul 15 (bool32C canS):=by
 refine sound_each (n:=8) (rs:=[.tmp 2]) (sc:=sc_scanon.1) mixed Tryd.func15 rfl rfl rfl rfl sc_scanon.2 ?_
 intro vs cs r h
 unfold bool32C at h
 split at h
 ·rename_i f
  cases h
  exact ⟨by simp,fun hcs hwf=>⟨_,envOK tabOK ((.cons (ok_wreduced) (.cons (ok_wbytes Gmul) .nil))),rfl,walk_scanon realOps rfl f (isB (hwf _ (by simp))) _ rfl _ rfl _ rfl ⟩⟩
 ·cases h
def sc_sreduce:{ c:SC // strip (body Tryd.f27)=c }:=⟨_,by cbv⟩
theorem walk_sreduce (A:Ops) (hA:A=realOps) (f:Nat→Int)  (RE:Nat→(Nat→Int)→Nat→Int) (hRE:RE=redW) (BY:(Nat→Int)→Nat→Int) (hBY:BY=bytesW) (R:(Nat→Int)→Nat→Int) (hR:R=fun f=>sb (sn 64 f))  :
  Walk (mkEnv A tab.1 Gmul [(28,redC RE),(29,bytesC BY)] []) sc_sreduce.1 6 [.cell 2 22] [.arr .u8 64 f] (.arr .u8 32 (R f)):=by
 refine ⟨?_⟩
 cbv
 subst hA hRE hBY hR
 exact fun i _=>(congrArg (fun x=>bytesW (redW 64 x) i) (zero_off f)).trans (congrFun (bytes_red 64 f) i)
theorem ok_reduceS:Sound Tryd.prog Gmul 27 (un64C (fun f=>sb (sn 64 f))):=by
 refine sound_each (n:=6) (rs:=[.cell 2 22]) (sc:=sc_sreduce.1) mixed Tryd.func27 rfl rfl rfl rfl sc_sreduce.2 ?_
 intro vs cs r h
 unfold un64C at h
 split at h
 ·rename_i f
  cases h
  exact ⟨by simp,fun hcs hwf=>⟨_,envOK tabOK ((.cons (ok_wreduced) (.cons (ok_wbytes Gmul) .nil))),rfl,walk_sreduce realOps rfl f  _ rfl _ rfl _ rfl ⟩⟩
 ·cases h
end Go.Proofs.YtjbimeigkklcmaaDoor
