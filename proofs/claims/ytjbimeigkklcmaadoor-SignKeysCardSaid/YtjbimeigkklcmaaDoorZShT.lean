/-
  Package sha, package sign: texts.
-/
import Derived.Test.YtjbimeigkklcmaaDoorZSha
import Derived.Test.YtjbimeigkklcmaaDoorZMC
namespace Go.Proofs.YtjbimeigkklcmaaDoor
open Go Go.Proofs Sx Sy
set_option maxRecDepth 100000
set_option maxHeartbeats 8000000
def sh_layI:{ c:HC // stripH (lookF []) none 7800 (getC [1,0,1,0,0,1,1,0,0,1,1] (body Tryd.f78))=c }:=⟨_,by cbv⟩
def sh_layM:{ c:HC // stripH (lookF []) none 7800 (holeC [1,0,1,0,0,1,1,0,0,1,1] (body Tryd.f78))=c }:=⟨_,by cbv⟩
def sh_lay (x:HC):{ c:HC // plugP [1,0,1,0,0,1,1,0,0,1,1] (.sub x) sh_layM.1=c }:=⟨_,by cbv⟩
theorem sh_layE (H:HE):wpH H (sh_lay sh_layI.1).1=wpH H (stripH (lookF []) none 7800 (body Tryd.f78)):=by
 rw [← (sh_lay sh_layI.1).2,wpH_plug,stripH_two [1,0,1,0,0,1,1,0,0,1,1] (by kernel_rfl) sh_layI.2 sh_layM.2]
def sh_words (cl:HC):{ c:HC // stripH (lookF [(78,⟨32,[.tmp 6],3,cl⟩)]) none 6900 (body Tryd.f67)=c }:=⟨_,by cbv⟩
def sh_sum (cb cm cw:HC):{ c:HC // stripH (lookF [(65,⟨13,[.tmp 2],1,cb⟩),(66,⟨33,[],2,cm⟩),(67,⟨22,[.tmp 2],1,cw⟩)]) none 5200 (body Tryd.f46)=c }:=⟨_,by cbv⟩
def sh_write (cb cm:HC):{ c:HC // stripH (lookF [(65,⟨13,[.tmp 2],1,cb⟩),(66,⟨33,[],2,cm⟩)]) none 5100 (body Tryd.f45)=c }:=⟨_,by cbv⟩
def sh_start:{ c:HC // stripH (lookF []) none 6600 (body Tryd.f64)=c }:=⟨_,by cbv⟩
def sh_new (cs:HC):{ c:HC // stripH (lookF [(64,⟨23,[.cell 2 98],1,cs⟩)]) none 5000 (body Tryd.f44)=c }:=⟨_,by cbv⟩
end Go.Proofs.YtjbimeigkklcmaaDoor
