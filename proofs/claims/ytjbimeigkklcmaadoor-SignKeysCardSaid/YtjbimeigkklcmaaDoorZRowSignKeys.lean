/- A signature is taken under another key just if scalar times challenge is the same: SignKeys answers true for every input, and the inputs read as they did. -/
import Derived.Test.YtjbimeigkklcmaaDoorZLawSignKeys
import Derived.Test.YtjbimeigkklcmaaDoorZEB
import Derived.Test.YtjbimeigkklcmaaDoorCards
import Derived.Test.YtjbimeigkklcmaaDoorTie
namespace Go.Proofs.YtjbimeigkklcmaaDoor.lawSignKeys
open Go Go.Proofs Sx
open Go.ChangeShapes Go.WideShapes Go.ChangeAt Go.RowKit
set_option maxRecDepth 100000

theorem own:ownKnob Tryd.prog.godebug=none:=by kernel_rfl
theorem contract (H:Type) (enc:TypeId × Value→H) (W:World) (base:Nat) (args:Array Value) (ds gs:List (DataW H)) (before:List MemPlace)
  (hval:∀ (j:Nat) t v,Tryd.f4.params[j]?=some t→args[j]?=some v→Value.okWide Tryd.prog W .any base t v)
  (hW:DataW.Whole enc Tryd.prog Tryd.f4.params.toList Rows.signKeysSpec.vars false W args.toList ds gs before) (hL:laidMet Tryd.prog Rows.signKeysRow.laid W) :
  Calls Tryd.prog 4 args W fun e W'=>∃ v,e=.returned v∧Rows.signKeysSpec.post enc Tryd.prog Tryd.f4 false true false false W args v W' :=
 lawG (pks:=[.arr 32 .u8,.arr 32 .u8,.sl .u8]) (n:=3) (tb:=4) (by kernel_rfl) (by kernel_rfl) rfl (by kernel_rfl) rfl (by kernel_rfl) rfl (fun ds h=>match ds,h with | [_,_,_],_=>rfl) ok_law_keys Tryd.func4 rfl rfl (by
  intro xs h hw
  rcases xs with _ | ⟨x0,_ | ⟨x1,_ | ⟨x2,_ | ⟨y,ys⟩⟩⟩⟩
  ·exact h.elim
  ·exact h.2.elim
  ·exact h.2.2.elim
  ·obtain ⟨⟨f0,rfl⟩,⟨f1,rfl⟩,⟨l2,c2,f2,rfl⟩,_⟩:=h
   exact ⟨_,rfl,fun p hp=>by simp at hp⟩
  ·exact h.2.2.2.elim)
  (globOK_of (l:=gl_sg) hL (by kernel_rfl)) hval hW

def wit:Array Value:=#[.agg (Array.replicate 32 (.int .u8 0)),.agg (Array.replicate 32 (.int .u8 0)),.slice none 0 0]
noncomputable def world0 (os:Os):World:={ World.holding Tryd.prog os ⟨#[],#[],[]⟩ with heap:=laidHeap gl_sg (World.holding Tryd.prog os ⟨#[],#[],[]⟩).heap }
theorem laid_met (os:Os):laidMet Tryd.prog Rows.signKeysRow.laid ((world0 os).forCall (fun _ _=>0) ⟨#[],wit,[]⟩).memory:=laidMet_of_run' 8 (by kernel_rfl) (by kernel_rfl)
theorem reads (os:Os) {H:Type} (enc:TypeId × Value→H):∃ places,DataW.whole enc Tryd.prog ((world0 os).forCall (fun _ _=>0) ⟨#[],wit,[]⟩).memory Tryd.f4.params.toList Rows.signKeysSpec.vars false wit.toList 8 =
  some ([.agg (List.replicate 32 (.lit (.int .u8 0))),.agg (List.replicate 32 (.lit (.int .u8 0))),.nil],[],places):=⟨[],by kernel_rfl⟩
theorem lifted (os:Os) (started:os.Started) (H:Type) (enc:TypeId × Value→H) (F:Stop.Interp) :
  ReturnsInHanded {} Tryd.checked os 4 .any ((OpenSpec.ofChange Rows.signKeysSpec).preRow enc Tryd.prog Tryd.f4 Rows.signKeysRow.domain false Rows.signKeysRow.laid) (((OpenSpec.ofChange Rows.signKeysSpec).at F).post enc Tryd.prog Tryd.f4 false true false false):=by
 obtain ⟨places,hx⟩:=reads os enc
 refine returnsInHanded_of_row (C:=Tryd.checked) (s:=OpenSpec.ofChange Rows.signKeysSpec) own started (by kernel_rfl) Tryd.func4
  (witness_row_at (enc:=enc) (C:=Tryd.checked) false (world0 os) wit rfl (by kernel_rfl) (by kernel_rfl) (by kernel_rfl)
   (OpenSpec.preRow_of_cond 8 hx (by kernel_rfl) (fun k hk=>by cases hk) (by kernel_rfl) (laid_met os))) ?_
 intro W base args ds gs before hval hW _ _ _ hL _ _
 exact contract H enc W base args ds gs before hval hW hL
theorem said:Rows.SignKeysSaid :=
 OpenClaim.holds_of_cond 4 Tryd.f4 rfl rfl rfl rfl rfl rfl rfl ⟨rfl,rfl,rfl,rfl,rfl⟩ rfl rfl rfl rfl rfl (by kernel_rfl) Tryd.func4 (by kernel_rfl)
  (of_decide_eq_true (by kernel_rfl)) (by unfold Func.isWrapper;first | (rw [if_pos (by decide +kernel)];kernel_rfl) | (rw [if_neg (by decide +kernel)];exact ⟨rfl,rfl⟩))
  (fun os started H enc _ F=>by rw [OpenClaim.pre_eq_preRow];exact lifted os started H enc F)

/-- No parameter wants a stand-in; the program's own looks are off. -/
theorem plain (f : FuncId) (fn : Func) (hf : Tryd.pinned.checked.prog.funcNamed "ledger/ledgerlaw05.SignKeys" = some f) (hfn : Tryd.pinned.checked.prog.funcs[f]? = some fn) :
  false=Tryd.pinned.checked.prog.looks []∧∀ (j:Nat) t,fn.params[j]?=some t→Tryd.pinned.checked.prog.wantsStandIn t=false:=by
 obtain rfl : f = 4 := Option.some.inj ((show Tryd.prog.funcNamed "ledger/ledgerlaw05.SignKeys" = some 4 by kernel_rfl).symm.trans hf) |>.symm
 obtain rfl:fn=Tryd.f4:=(Option.some.inj (Tryd.func4.symm.trans hfn)).symm
 refine ⟨by kernel_rfl,fun j t ht=>?_⟩
 have hall:(Tryd.f4.params.toList.all fun t=>Tryd.pinned.checked.prog.wantsStandIn t == false)=true:=by kernel_rfl
 rw [List.all_eq_true] at hall
 exact eq_of_beq (hall t (by simpa using Array.mem_of_getElem? ht))

/-- The card. -/
theorem card:Rows.SignKeysCardSaid :=
 Claim7.holds_tied_plain_at .later [] _ _ _ _ said (fun _ h=>by cases h) (by kernel_rfl) (fun _ h=>by cases h) signKeys_row_tie rfl ⟨rfl,rfl⟩ (by kernel_rfl) rfl plain (by kernel_rfl)
end Go.Proofs.YtjbimeigkklcmaaDoor.lawSignKeys
