/-
  Package field: words, settling, loading, the form as bytes.
-/
import Derived.Test.YtjbimeigkklcmaaDoorZBase
namespace Go.Proofs.YtjbimeigkklcmaaDoor
open Go Go.Proofs Sx
set_option maxRecDepth 100000
set_option maxHeartbeats 4000000
def sc_word:{ c:SC // strip (body Tryd.f70)=c }:=⟨_,by cbv⟩
theorem walk_word (A:Ops) (hA:A=realOps) (G:Nat→AV) (cap:SO) (f:Nat→Int) (hf:∀ i,i<8→0≤f i∧f i<256) (W) (hW:W=wordF) :
  Walk (mkEnv A tab.1 G [] []) sc_word.1 18 [.tmp 2] [.xsl .u8 1 (.lit 8) cap f] (.int .u64 (.sym (W f))):=by
 refine ⟨?_⟩
 cbv
 subst hA hW
 exact ⟨⟨by decide⟩,⟨by decide⟩,⟨by decide⟩,⟨by decide⟩,⟨by decide⟩,⟨by decide⟩,⟨by decide⟩,⟨by decide⟩,wordR_eq hf⟩
theorem ok_word (G:Nat→AV):Sound Tryd.prog G 70 (wordC wordF):=by
 refine sound_by (n:=18) (rs:=[.tmp 2]) (sc:=sc_word.1) (E:=mkEnv realOps tab.1 G [] []) (envOK tabOK .nil) mixed Tryd.func70 rfl rfl rfl rfl sc_word.2 ?_
 intro vs cs r h
 unfold wordC at h
 split at h
 ·rename_i cap f
  cases h
  refine ⟨by simp,fun hcs hwf=>walk_word realOps rfl G cap f (fun i hi=>?_) _ rfl⟩
  have hf:=hwf _ (List.mem_cons_self ..)
  exact inR_u8.1 (hf i (by show i<8*1;omega))
 ·cases h
def sc_settle:{ c:SC // strip (body Tryd.f71)=c }:=⟨_,by cbv⟩
theorem walk_settle (A:Ops) (hA:A=realOps) (G:Nat→AV) (l:Nat→Int) (S) (hS:S=settleF) :
  Walk (mkEnv A tab.1 G [] []) sc_settle.1 39 [.cell 2 82] [.arr .u64 5 l] (.arr .u64 5 (S l)):=by
 refine ⟨?_⟩
 cbv
 subst hA hS
 exact each5 rfl rfl rfl rfl rfl
theorem ok_settle (G:Nat→AV):Sound Tryd.prog G 71 (limC settleF):=by
 refine sound_by (n:=39) (rs:=[.cell 2 82]) (sc:=sc_settle.1) (E:=mkEnv realOps tab.1 G [] []) (envOK tabOK .nil) mixed Tryd.func71 rfl rfl rfl rfl sc_settle.2 ?_
 intro vs cs r h
 unfold limC at h
 split at h
 ·rename_i l
  cases h
  exact ⟨by simp,fun hcs hwf=>walk_settle realOps rfl G l _ rfl⟩
 ·cases h
def sc_load:{ c:SC // strip (body Tryd.f50)=c }:=⟨_,by cbv⟩
theorem walk_load (A:Ops) (hA:A=realOps) (G:Nat→AV) (f:Nat→Int) (W) (hW:W=wordF) (S) (hS:S=settleF) (L) (hL:L=loadF) :
  Walk (mkEnv A tab.1 G [(70,wordC W),(71,limC S)] []) sc_load.1 41 [.cell 2 82] [.arr .u8 32 f] (.arr .u64 5 (L f)):=by
 refine ⟨?_⟩
 cbv
 subst hA hW hS hL
 exact fun i _=>congrFun (settle_congr (each5 rfl rfl rfl rfl rfl)) i
theorem ok_load (G:Nat→AV):Sound Tryd.prog G 50 (loadC loadF):=by
 refine sound_by (n:=41) (rs:=[.cell 2 82]) (sc:=sc_load.1) (E:=mkEnv realOps tab.1 G [(70,wordC wordF),(71,limC settleF)] []) (envOK tabOK (.cons (ok_word G) (.cons (ok_settle G) .nil)))
  mixed Tryd.func50 rfl rfl rfl rfl sc_load.2 ?_
 intro vs cs r h
 unfold loadC at h
 split at h
 ·rename_i f
  cases h
  exact ⟨by simp,fun hcs hwf=>walk_load realOps rfl G f _ rfl _ rfl _ rfl⟩
 ·cases h
def sc_bytes:{ c:SC // strip (body Tryd.f51)=c }:=⟨_,by cbv⟩
def inv_bytes (w:Nat→Int) (i:{ i:Nat // i≤32 }):St :=
 slots 98 [(2,.own (.arr .u8 32 fun _=>0)),(6,.own (.arr .u64 4 w)),(7,.own (.arr .u8 32 fun j=>if j<i.1 then outR w j else 0)),(82,.int .i64 (.sym (i.1:Int)))]
theorem walk_bytes (A:Ops) (hA:A=realOps) (G:Nat→AV) (l:Nat→Int) (S) (hS:S=settleF) (B) (hB:B=bytesF) (w) (hw:w=wrdR (frzR (settleF l))) (I) (hI:I=inv_bytes w) :
  Walk (mkEnv A tab.1 G [(71,limC S)] [(18,.inv { i:Nat // i≤32 } I (fun i=>32 - i.1))]) sc_bytes.1 98 [.cell 2 22] [.arr .u64 5 l] (.arr .u8 32 (B l)):=by
 refine ⟨?_⟩
 cbv
 refine ⟨⟨⟨0,by decide⟩,?_⟩,fun i _=>?_⟩
 ·subst hI
  cbv
  subst hA hS hw
  exact ⟨fun _ _=>rfl,each4 rfl rfl rfl rfl,fun _ _=>rfl,rfl,trivial⟩
 ·subst hI
  cbv
  refine ⟨fun h=>?_,fun h=>?_⟩
  ·cbv
   obtain ⟨i,hi⟩:=i
   have hlt:i<32:=by
    rw [hA] at h
    have:=of_decide_eq_true h
    exact Int.ofNat_lt.1 this
   have q1:realBin .quo .i64 (Int.ofNat i) 8=((i / 8:Nat):Int):=quo_i64 ⟨by simp only [Int.ofNat_eq_natCast];omega,by simp only [Int.ofNat_eq_natCast];omega⟩ (by decide)
   have q2:realBin .mul .i64 8 (realBin .rem .i64 (Int.ofNat i) 8)=((8*(i % 8):Nat):Int):=by
    rw [rem_i64 (by simp only [Int.ofNat_eq_natCast];omega),mul_i64 (by simp only [Int.ofNat_eq_natCast];omega)]
    rfl
   refine ⟨?_,?_,?_,?_,?_,⟨i+1,by omega⟩,?_,?_⟩
   ·rw [hA];exact ⟨by show 0≤realBin .quo .i64 (Int.ofNat i) 8∧realBin .quo .i64 (Int.ofNat i) 8<4;rw [q1];omega⟩
   ·rw [hA];exact ⟨by show (realBin .quo .i64 (Int.ofNat i) 8).toNat+1≤4;rw [q1];omega⟩
   ·rw [hA];exact ⟨by show 0≤realBin .mul .i64 8 (realBin .rem .i64 (Int.ofNat i) 8);rw [q2];omega⟩
   ·exact ⟨by simp only [Int.ofNat_eq_natCast];omega⟩
   ·rw [hA];exact ⟨by show i+1≤32;omega⟩
   ·cbv
    subst hA
    refine ⟨fun _ _=>rfl,fun _ _=>rfl,fun j hj=>?_,?_,trivial⟩
    ·show (if j=i then (IntKind.wrap .u8 (realBin .shr .u64 (w (realBin .quo .i64 (Int.ofNat i) 8).toNat) (realBin .mul .i64 8 (realBin .rem .i64 (Int.ofNat i) 8)))) else if j<i then outR w j else 0)=if j<i+1 then outR w j else 0
     rw [q1,q2]
     by_cases hji:j=i
     ·subst hji;rw [if_pos rfl,if_pos (by omega)];rfl
     ·rw [if_neg hji]
      by_cases h2:j<i
      ·rw [if_pos h2,if_pos (by omega)]
      ·rw [if_neg h2,if_neg (by omega)]
    ·show realBin .add .i64 (Int.ofNat i) 1=_
     rw [add_i64 (by simp only [Int.ofNat_eq_natCast];omega)]
     rfl
   ·show 32 - (i+1)<32 - i
    omega
  ·cbv
   obtain ⟨i,hi⟩:=i
   have hlt:i=32:=by
    rw [hA] at h
    have h2:=of_decide_eq_false h
    have h3:¬ (i<32):=fun hh=>h2 (Int.ofNat_lt.2 hh)
    omega
   subst hlt
   intro j hj
   rw [hB,hw]
   simp only [if_pos hj]
   rfl
theorem ok_bytes (G:Nat→AV):Sound Tryd.prog G 51 (bytesC bytesF):=by
 refine sound_each (n:=98) (rs:=[.cell 2 22]) (sc:=sc_bytes.1) mixed Tryd.func51 rfl rfl rfl rfl sc_bytes.2 ?_
 intro vs cs r h
 unfold bytesC at h
 split at h
 ·rename_i l
  cases h
  exact ⟨by simp,fun hcs hwf=>⟨_,envOK tabOK (.cons (ok_settle G) .nil),rfl,walk_bytes realOps rfl G l _ rfl _ rfl _ rfl _ rfl⟩⟩
 ·cases h
end Go.Proofs.YtjbimeigkklcmaaDoor
