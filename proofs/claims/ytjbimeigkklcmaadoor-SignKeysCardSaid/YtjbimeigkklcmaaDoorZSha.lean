/-
  Package sha: tables, texts, the turning of a word.
-/
import Derived.Test.YtjbimeigkklcmaaDoorZBase
import Derived.Test.YtjbimeigkklcmaaDoorZMC
import Derived.Test.YtjbimeigkklcmaaDoorZScalB
namespace Go.Proofs.YtjbimeigkklcmaaDoor
open Go Go.Proofs Sx Sy
set_option maxRecDepth 100000
set_option maxHeartbeats 8000000
def tabS:{ l:List (TypeId × TI) // autoTab Tryd.prog [
 22,5,49,3,2,4,26,23,73,54,53,122,96,119,121,101,30,79] ++ [(98,⟨.mix [(0,96),(8,53)],16,.u8,false,0⟩)]=l }:=⟨_,by cbv⟩
theorem tabSOK:TabOK Tryd.prog tabS.1:=tabOK_of (by kernel_rfl)
def zS:List (TypeId × List ZK):=[(101,[.int .i64,.int .i64,.arr .u32 8,.arr .u64 8,.nil]),(98,[.arr .u32 8,.arr .u64 8]),(23,[.nil])]
theorem zSOK:ZTab Tryd.prog zS:=.cons (by kernel_rfl) (.cons (by kernel_rfl) (.cons (by kernel_rfl) .nil))
def nS:List (TypeId × Nat):=[(5,1),(49,1),(3,1),(23,1)]
theorem nSOK:szChk Tryd.prog nS=true:=by kernel_rfl
def pS:List TypeId:=[74]
theorem pSOK:ptChk Tryd.prog pS=true:=by kernel_rfl
/-- The package's variables. -/
def gSha (BG:Nat→AV) (t R s:Nat→Int):Nat→AV:=fun g=>if g=9 then .arr .u64 8 s else if g=12 then .arr .u64 80 R else if g=13 then .arr .i64 12 t else BG g
def sh_turn:{ c:SC // strip (body Tryd.f81)=c }:=⟨_,by cbv⟩
theorem walk_turn (A:Ops) (hA:A=realOps) (G:Nat→AV) (x n s:Int) (h:TurnOK n s) (T:Int→Int→Int→Int) (hT:T=turnR) :
  Walk (mkEnv A tabS.1 G [] []) sh_turn.1 16 [.tmp 6] [.int .u64 (.sym x),.int .i64 (.sym n),.int .i64 (.sym s)] (.int .u64 (.sym (T x n s))):=by
 refine ⟨?_⟩
 cbv
 subst hA hT
 refine ⟨⟨h.lo⟩,⟨?_⟩,rfl⟩
 have h1:=h.lo
 have h2:=h.hi
 have h3:=h.top
 show 0≤realBin .sub .i64 s n
 rw [sub_i64 (by omega)]
 omega
theorem ok_turn (G:Nat→AV):Sound Tryd.prog G 81 (turnC turnR):=by
 refine sound_sym (n:=16) (rs:=[.tmp 6]) (sc:=sh_turn.1) mixed Tryd.func81 rfl rfl rfl rfl sh_turn.2 ?_
 intro vs cs r h
 unfold turnC at h
 split at h
 ·rename_i x n s
  cases h
  exact ⟨by simp,fun hcs hwf=>⟨_,envOK tabSOK (.nil),rfl,walk_turn realOps rfl G x.val n.val s.val (hcs _ (by simp)) _ rfl⟩⟩
 ·cases h
def sh_load:{ c:HC // stripH (lookF []) none 7500 (body Tryd.f75)=c }:=⟨_,by cbv⟩
def sh_cB0_p0:{ c:HC // stripH (lookF []) (some (17,30,[33,121,122,123,124,219,220,221])) 7600 (getC [0,0,1,0,0] (getC [1,0,1] (body Tryd.f76)))=c }:=⟨_,by cbv⟩
def sh_cB0_t1:{ c:HC // stripH (lookF []) (some (17,30,[33,121,122,123,124,219,220,221])) 7600 (holeC [0,0,1,0,0] (getC [1,0,1] (body Tryd.f76)))=c }:=⟨_,by cbv⟩
def sh_cB0_q0:{ c:HC // plugP [0,0,1,0,0] (sh_cB0_p0).1 (sh_cB0_t1).1=c }:=⟨_,by cbv⟩
def sh_cB0_t0:{ c:HC // stripH (lookF []) (some (17,30,[33,121,122,123,124,219,220,221])) 7600 (getC [1,0,1] (body Tryd.f76))=c }:=⟨(sh_cB0_q0).1,(stripH_two [0,0,1,0,0] (by kernel_rfl) (sh_cB0_p0).2 (sh_cB0_t1).2).trans (sh_cB0_q0).2⟩
def sh_cB0:{ c:HC // stripH (lookF []) (some (17,30,[33,121,122,123,124,219,220,221])) 7600 (getC [1,0,1] (body Tryd.f76))=c }:=sh_cB0_t0
def sh_cZ_p0:{ c:HC // stripH (lookF []) (some (17,30,[33,121,122,123,124,219,220,221])) 7600 (getC [1,0] (getC [1,1,1,1,0,1,0,0,1,1,0,0] (holeC [1,0,1] (body Tryd.f76))))=c }:=⟨_,by cbv⟩
def sh_cZ_p1:{ c:HC // stripH (lookF []) (some (17,30,[33,121,122,123,124,219,220,221])) 7600 (getC [1,1,0] (holeC [1,0] (getC [1,1,1,1,0,1,0,0,1,1,0,0] (holeC [1,0,1] (body Tryd.f76)))))=c }:=⟨_,by cbv⟩
def sh_cZ_t2:{ c:HC // stripH (lookF []) (some (17,30,[33,121,122,123,124,219,220,221])) 7600 (holeC [1,1,0] (holeC [1,0] (getC [1,1,1,1,0,1,0,0,1,1,0,0] (holeC [1,0,1] (body Tryd.f76)))))=c }:=⟨_,by cbv⟩
def sh_cZ_q1:{ c:HC // plugP [1,1,0] (sh_cZ_p1).1 (sh_cZ_t2).1=c }:=⟨_,by cbv⟩
def sh_cZ_t1:{ c:HC // stripH (lookF []) (some (17,30,[33,121,122,123,124,219,220,221])) 7600 (holeC [1,0] (getC [1,1,1,1,0,1,0,0,1,1,0,0] (holeC [1,0,1] (body Tryd.f76))))=c }:=⟨(sh_cZ_q1).1,(stripH_two [1,1,0] (by kernel_rfl) (sh_cZ_p1).2 (sh_cZ_t2).2).trans (sh_cZ_q1).2⟩
def sh_cZ_q0:{ c:HC // plugP [1,0] (sh_cZ_p0).1 (sh_cZ_t1).1=c }:=⟨_,by cbv⟩
def sh_cZ_t0:{ c:HC // stripH (lookF []) (some (17,30,[33,121,122,123,124,219,220,221])) 7600 (getC [1,1,1,1,0,1,0,0,1,1,0,0] (holeC [1,0,1] (body Tryd.f76)))=c }:=⟨(sh_cZ_q0).1,(stripH_two [1,0] (by kernel_rfl) (sh_cZ_p0).2 (sh_cZ_t1).2).trans (sh_cZ_q0).2⟩
def sh_cZ:{ c:HC // stripH (lookF []) (some (17,30,[33,121,122,123,124,219,220,221])) 7600 (getC [1,1,1,1,0,1,0,0,1,1,0,0] (holeC [1,0,1] (body Tryd.f76)))=c }:=sh_cZ_t0
def sh_cM_p0:{ c:HC // stripH (lookF []) (some (17,30,[33,121,122,123,124,219,220,221])) 7600 (getC [1,1,1,0] (holeC [1,1,1,1,0,1,0,0,1,1,0,0] (holeC [1,0,1] (body Tryd.f76))))=c }:=⟨_,by cbv⟩
def sh_cM_t1:{ c:HC // stripH (lookF []) (some (17,30,[33,121,122,123,124,219,220,221])) 7600 (holeC [1,1,1,0] (holeC [1,1,1,1,0,1,0,0,1,1,0,0] (holeC [1,0,1] (body Tryd.f76))))=c }:=⟨_,by cbv⟩
def sh_cM_q0:{ c:HC // plugP [1,1,1,0] (sh_cM_p0).1 (sh_cM_t1).1=c }:=⟨_,by cbv⟩
def sh_cM_t0:{ c:HC // stripH (lookF []) (some (17,30,[33,121,122,123,124,219,220,221])) 7600 (holeC [1,1,1,1,0,1,0,0,1,1,0,0] (holeC [1,0,1] (body Tryd.f76)))=c }:=⟨(sh_cM_q0).1,(stripH_two [1,1,1,0] (by kernel_rfl) (sh_cM_p0).2 (sh_cM_t1).2).trans (sh_cM_q0).2⟩
def sh_cM:{ c:HC // stripH (lookF []) (some (17,30,[33,121,122,123,124,219,220,221])) 7600 (holeC [1,1,1,1,0,1,0,0,1,1,0,0] (holeC [1,0,1] (body Tryd.f76)))=c }:=sh_cM_t0
def sh_compress (x z:HC):{ c:HC // plugP [1,0,1] (.sub x) (plugP [1,1,1,1,0,1,0,0,1,1,0,0] (.sub z) sh_cM.1)=c }:=⟨_,by cbv⟩
theorem plug_comm (x z:HC):plugP [1,0,1] x (plugP [1,1,1,1,0,1,0,0,1,1,0,0] z sh_cM.1)=plugP [1,1,1,1,0,1,0,0,1,1,0,0] z (plugP [1,0,1] x sh_cM.1):=by cbv
theorem sh_compressE (H:HE):wpH H (sh_compress sh_cB0.1 sh_cZ.1).1=wpH H (stripH (lookF []) (some (17,30,[33,121,122,123,124,219,220,221])) 7600 (body Tryd.f76)):=by
 rw [← (sh_compress sh_cB0.1 sh_cZ.1).2,stripH_two [1,0,1] (by kernel_rfl) sh_cB0.2 (stripH_two [1,1,1,1,0,1,0,0,1,1,0,0] (by kernel_rfl) sh_cZ.2 sh_cM.2),wpH_plug,plug_comm,wpH_plug,← plug_comm]
def sh_mix (cl cc:HC):{ c:HC // stripH (lookF [(75,⟨40,[],3,cl⟩),(76,⟨234,[],5,cc⟩)]) none 6800 (body Tryd.f66)=c }:=⟨_,by cbv⟩
def sh_block:{ c:HC // stripH (lookF []) none 6700 (body Tryd.f65)=c }:=⟨_,by cbv⟩
/-- The walk's environment. -/
abbrev envS (BG:Nat→AV) (A:Ops) (F:ShF) (T:Int→Int→Int→Int) (t R s:Nat→Int) (C:List (FuncId × Contract)) (L:List (Nat × (HS→HAnn))):HE:=mkH (mkEnv A tabS.1 (gSha BG t R s) ((81,turnC T) :: C) []) zS nS pS (loopsS F ++ L)
end Go.Proofs.YtjbimeigkklcmaaDoor
