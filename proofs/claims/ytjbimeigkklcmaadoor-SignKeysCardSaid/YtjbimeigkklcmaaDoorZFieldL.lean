/-
  Package field: differences of five digits.
-/
import Derived.Test.YtjbimeigkklcmaaDoorZFieldA
namespace Go.Proofs.YtjbimeigkklcmaaDoor
open Go Go.Proofs Sx
set_option maxRecDepth 100000
set_option maxHeartbeats 4000000
abbrev Gtw:Nat→AV:=lookGL [v_twice]
def sc_less:{ c:SC // strip (body Tryd.f54)=c }:=⟨_,by cbv⟩
theorem walk_less (A:Ops) (hA:A=realOps) (l m:Nat→Int) (S) (hS:S=settleF) (T) (hT:T=fun l m=>settleF (subP l m)) :
  Walk (mkEnv A tab.1 Gtw [(71,limC S)] []) sc_less.1 24 [.cell 4 82] [.arr .u64 5 l,.arr .u64 5 m] (.arr .u64 5 (T l m)):=by
 refine ⟨?_⟩
 cbv
 subst hA hS hT
 exact fun i _=>congrFun (settle_congr (each5 rfl rfl rfl rfl rfl)) i
theorem ok_less:Sound Tryd.prog Gtw 54 (lim2C fun l m=>settleF (subP l m)):=by
 refine sound_by (n:=24) (rs:=[.cell 4 82]) (sc:=sc_less.1) (E:=mkEnv realOps tab.1 Gtw [(71,limC settleF)] []) (envOK tabOK (.cons (ok_settle Gtw) .nil)) mixed Tryd.func54 rfl rfl rfl rfl sc_less.2 ?_
 intro vs cs r h
 unfold lim2C at h
 split at h
 ·rename_i l m
  cases h
  exact ⟨by simp,fun hcs hwf=>walk_less realOps rfl l m _ rfl _ rfl⟩
 ·cases h
end Go.Proofs.YtjbimeigkklcmaaDoor
