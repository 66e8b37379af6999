/-
  Package scalar: clamping.
-/
import Derived.Test.YtjbimeigkklcmaaDoorZBase
import Derived.Test.YtjbimeigkklcmaaDoorZMA
namespace Go.Proofs.YtjbimeigkklcmaaDoor
open Go Go.Proofs Sx
set_option maxRecDepth 100000
set_option maxHeartbeats 4000000
def sc_clamp:{ c:SC // strip (body Tryd.f47)=c }:=⟨_,by cbv⟩
theorem walk_clamp (A:Ops) (hA:A=realOps) (G:Nat→AV) (h:Nat→Int) (hh:IsBytes 32 h) (C:(Nat→Int)→Nat→Int) (hC:C=clampF)  :
  Walk (mkEnv A tab.1 G [] []) sc_clamp.1 13 [.cell 2 22] [.arr .u8 32 h] (.arr .u8 32 (C h)):=by
 refine ⟨?_⟩
 cbv
 subst hA hC
 exact clamp_each hh
theorem ok_clampF (G:Nat→AV):Sound Tryd.prog G 47 (un32C clampF):=by
 refine sound_each (n:=13) (rs:=[.cell 2 22]) (sc:=sc_clamp.1) mixed Tryd.func47 rfl rfl rfl rfl sc_clamp.2 ?_
 intro vs cs r h
 unfold un32C at h
 split at h
 ·rename_i h
  cases h
  exact ⟨by simp,fun hcs hwf=>⟨_,envOK tabOK ( .nil),rfl,walk_clamp realOps rfl G h (isB (hwf _ (by simp))) _ rfl ⟩⟩
 ·cases h
end Go.Proofs.YtjbimeigkklcmaaDoor
