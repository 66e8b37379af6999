/-
  An abstract interpreter for the straight code of the model and its soundness: first part. No condition.
-/
import Derived.Calls
import Derived.Below
import Derived.Laws.Tables
import Derived.Laws.Cells
import Derived.Laws.Rows
import Derived.Laws.AppendOwn
import Derived.Laws.MakeOwn
import Derived.Laws.Entries
import Derived.Laws.CopyRow

namespace Sx
open Go
structure Ops where
 bin:BinOp→IntKind→Int→Int→Int
 cmp:BinOp→Int→Int→Bool
 un:UnOp→IntKind→Int→Int
 cnv:IntKind→Int→Int
 nat:Int→Nat
 eqA:Nat→(Nat→Int)→(Nat→Int)→Bool
def realBin (o:BinOp) (k:IntKind) (a b:Int):Int :=
 match o with
 | .add=>k.wrap (a+b)
 | .sub=>k.wrap (a - b)
 | .mul=>k.wrap (a*b)
 | .quo=>k.wrap (a.tdiv b)
 | .rem=>a.tmod b
 | .and=>k.wrap (BitVec.ofInt k.bits a &&& BitVec.ofInt k.bits b).toNat
 | .or=>k.wrap (BitVec.ofInt k.bits a ||| BitVec.ofInt k.bits b).toNat
 | .xor=>k.wrap (BitVec.ofInt k.bits a ^^^ BitVec.ofInt k.bits b).toNat
 | .andNot=>k.wrap (BitVec.ofInt k.bits a &&& ~~~BitVec.ofInt k.bits b).toNat
 | .shl=>k.wrap (a*2 ^ (min b.toNat k.bits))
 | .shr=>a.fdiv (2 ^ (min b.toNat k.bits))
 | _=>0
def realCmp (o:BinOp) (a b:Int):Bool :=
 match o with
 | .eql=>a == b
 | .neq=>a != b
 | .lss=>decide (a<b)
 | .leq=>decide (a≤b)
 | .gtr=>decide (b<a)
 | .geq=>decide (b≤a)
 | _=>false
def realUn (o:UnOp) (k:IntKind) (a:Int):Int :=
 match o with
 | .neg=>k.wrap (0 - a)
 | .xor=>k.wrap (BitVec.ofInt k.bits (if k.signed then -1 else k.max) ^^^ BitVec.ofInt k.bits a).toNat
 | _=>0
def realEqA (n:Nat) (f g:Nat→Int):Bool:=(List.range n).all fun i=>f i == g i
def realOps:Ops:={ bin:=realBin,cmp:=realCmp,un:=realUn,cnv:=fun k n=>k.wrap n,nat:=Int.toNat,eqA:=realEqA }
inductive SI where
 | lit (n:Int)
 | sym (n:Int)
inductive SB where
 | lit (b:Bool)
 | sym (b:Bool)
def SI.val:SI→Int
 | .lit n=>n
 | .sym n=>n
def SB.val:SB→Bool
 | .lit b=>b
 | .sym b=>b
def SI.bin (A:Ops) (o:BinOp) (k:IntKind):SI→SI→SI
 | .lit a,.lit b=>.lit (realBin o k a b)
 | .lit a,.sym b=>.sym (A.bin o k a b)
 | .sym a,.lit b=>.sym (A.bin o k a b)
 | .sym a,.sym b=>.sym (A.bin o k a b)
def SI.cmp (A:Ops) (o:BinOp):SI→SI→SB
 | .lit a,.lit b=>.lit (realCmp o a b)
 | .lit a,.sym b=>.sym (A.cmp o a b)
 | .sym a,.lit b=>.sym (A.cmp o a b)
 | .sym a,.sym b=>.sym (A.cmp o a b)
def SI.un (A:Ops) (o:UnOp) (k:IntKind):SI→SI
 | .lit a=>.lit (realUn o k a)
 | .sym a=>.sym (A.un o k a)
def SI.cnv (A:Ops) (k:IntKind):SI→SI
 | .lit a=>.lit (k.wrap a)
 | .sym a=>.sym (A.cnv k a)
def SI.nat (A:Ops):SI→Nat
 | .lit n=>n.toNat
 | .sym n=>A.nat n
def SB.not:SB→SB
 | .lit b=>.lit (!b)
 | .sym b=>.sym (!b)
def SB.eqb:SB→SB→SB
 | .lit a,.lit b=>.lit (a == b)
 | a,b=>.sym (a.val == b.val)
/- What a walk asks of numbers, and sums of unknown numbers: each behind a name that no reckoning opens. -/
def inR (k:IntKind) (n:Int):Prop:=k.min≤n∧n≤k.max
structure Within (i:Int) (n:Nat):Prop where
 h:0≤i∧i<(n:Int)
structure Upto (i:Int) (n:Nat):Prop where
 h:0≤i∧i≤(n:Int)
structure LeqN (a b:Nat):Prop where
 h:a≤b
structure FitsIn (a n len:Nat):Prop where
 h:a+n≤len
structure FitsMul (a n len es:Nat):Prop where
 h:a+n≤len*es
structure RoomFor (n by_:Nat):Prop where
 h:n*by_≤140737488355328
structure NonNeg (n:Int):Prop where
 h:0≤n
structure NonZero (n:Int):Prop where
 h:n≠0
theorem seal_add:Nonempty { f:Nat→Nat→Nat // f=fun a b=>a+b }:=⟨⟨_,rfl⟩⟩
theorem seal_sub:Nonempty { f:Nat→Nat→Nat // f=fun a b=>a - b }:=⟨⟨_,rfl⟩⟩
theorem seal_mul:Nonempty { f:Nat→Nat→Nat // f=fun a b=>a*b }:=⟨⟨_,rfl⟩⟩
noncomputable def nadd (a b:Nat):Nat:=(Classical.choice seal_add).1 a b
noncomputable def nsub (a b:Nat):Nat:=(Classical.choice seal_sub).1 a b
noncomputable def nmul (a b:Nat):Nat:=(Classical.choice seal_mul).1 a b
theorem choice_add (a b:Nat):(Classical.choice seal_add).1 a b=a+b:=congrFun (congrFun (Classical.choice seal_add).2 a) b
theorem choice_sub (a b:Nat):(Classical.choice seal_sub).1 a b=a - b:=congrFun (congrFun (Classical.choice seal_sub).2 a) b
theorem choice_mul (a b:Nat):(Classical.choice seal_mul).1 a b=a*b:=congrFun (congrFun (Classical.choice seal_mul).2 a) b
inductive SO where
 | lit (n:Nat)
 | sym (n:Nat)
def SO.val:SO→Nat
 | .lit n=>n
 | .sym n=>n
noncomputable def SO.add:SO→SO→SO
 | .lit a,.lit b=>.lit (a+b)
 | .lit 0,.sym b=>.sym b
 | .lit a,.sym b=>.sym (nadd a b)
 | .sym a,.lit 0=>.sym a
 | .sym a,.lit b=>.sym (nadd a b)
 | .sym a,.sym b=>.sym (nadd a b)
noncomputable def SO.mul:SO→Nat→SO
 | .lit a,m=>.lit (a*m)
 | .sym a,1=>.sym a
 | .sym a,m=>.sym (nmul a m)
def SI.off (A:Ops):SI→SO
 | .lit n=>.lit n.toNat
 | .sym n=>.sym (A.nat n)
inductive AV where
 | junk
 | int (k:IntKind) (n:SI)
 | bool (b:SB)
 | arr (k:IntKind) (len:Nat) (f:Nat→Int)
 | tup (ps:List AV)
 | val (v:Value)
 | opq (v:Value)
 | own (x:AV)
 | ref (s:Nat) (off:SO)
 | gref (g:Nat) (off:SO)
 | sref (s:Nat) (es:Nat) (off len cap:SO)
 | xsl (k:IntKind) (es:Nat) (len cap:SO) (f:Nat→Int)
 | xref (s:Nat) (off:SO)
 | osl (k:IntKind) (es:Nat) (len:SO) (f:Nat→Int)
 | otup (k:IntKind) (es:Nat) (len:SO) (f:Nat→Int) (ps:List AV)
 | when (g:Nat) (b:Bool) (v:AV)
abbrev St:=List AV
def plain:AV→Bool
 | .int .. | .bool _ | .arr .. | .val _ | .opq _=>true
 | _=>false
def answer:AV→Bool
 | .int .. | .bool _ | .arr .. | .val _ | .tup _ | .osl .. | .otup ..=>true
 | _=>false
def lst?:AV→Option (IntKind × Nat × SO × (Nat→Int))
 | .osl k es len f=>some (k,es,len,f)
 | .otup k es len f _=>some (k,es,len,f)
 | _=>none
def get (S:St) (i:Nat):AV:=S.getD i .junk
inductive Ty where
 | int (k:IntKind)
 | bool
 | arr (n:Nat) (e:TypeId)
 | struct (fs:List (Nat × TypeId))
 | slice (e:TypeId)
 | mix (fs:List (Nat × TypeId))
 | other
structure TI where
 d:Ty
 sz:Nat
 k:IntKind
 eq:Bool
 by_:Nat
inductive Ann:Type 1 where
 | unroll (n:Nat)
 | cut (n:Nat)
 | inv (α:Type) (st:α→St) (μ:α→Nat)
 | invd (α:Type) (st:St→α→St) (μ:α→Nat)
abbrev Contract:=List AV→Option (List Prop × AV)
abbrev Mem:=Nat→Nat→Option Value
structure Acc where
 cell:Value→Nat→Value
 num:Value→Int
 len:Value→Nat
 cap:Value→Nat
 addr:Value→Nat→Value
 get:Value→Nat→Value
 list:Value→Nat→Int
structure Env:Type 1 where
 acc:Acc
 mem:Mem
 A:Ops
 ty:TypeId→TI
 glob:Nat→AV
 call:FuncId→Contract
 loops:Nat→Ann
def sized (E:Env) (t:TypeId):Bool :=
 match (E.ty t).d with
 | .slice _ | .other=>false
 | _=>true
def opv (S:St):Operand→AV
 | .tmp t=>get S t
 | .const (.int k n)=>.int k (.lit n)
 | .const (.bool b)=>.bool (.lit b)
 | .const v=>.val v
 | .global g=>.gref g (.lit 0)
 | .func f=>.val (.func (.func f) #[] #[])
abbrev R:=Option (List Prop × List (Nat × AV))
def ret1 (dst:Option Tmp) (cs:List Prop) (v:AV):R :=
 match dst with
 | some d=>some (cs,[(d,v)])
 | none=>some (cs,[])
def fits (off:SO) (n len:Nat):Option (List Prop) :=
 match off with
 | .lit a=>if a+n≤len then some [] else none
 | .sym a=>some [FitsIn a n len]
def sub (E:Env) (T:TypeId) (x:AV) (off:SO):Option (List Prop × AV) :=
 match (E.ty T).d with
 | .int k =>
  match x,off with
  | .int k' n,.lit 0=>if k=k' then some ([],.int k n) else none
  | .arr k' n f,off=>if k=k' then (match fits off 1 n with
   | some cs=>some (cs,.int k (.sym (f off.val)))
   | none=>none) else none
  | _,_=>none
 | .bool =>
  match x,off with
  | .bool b,.lit 0=>some ([],.bool b)
  | _,_=>none
 | .arr .. | .struct .. =>
  match x,off with
  | .arr k n f,.lit 0 =>
   if k=(E.ty T).k then
    if (E.ty T).sz=n then some ([],.arr k n f)
    else if (E.ty T).sz≤n then some ([],.arr k (E.ty T).sz f) else none
   else none
  | .arr k n f,off =>
   if k=(E.ty T).k then (match fits off (E.ty T).sz n with
   | some cs=>some (cs,.arr k (E.ty T).sz (fun j=>f (off.val+j)))
   | none=>none) else none
  | _,_=>none
 | _=>none
def upd (f:Nat→Int) (i:Nat) (v:Int):Nat→Int:=fun j=>if j=i then v else f j
def splice (f:Nat→Int) (off n:Nat) (g:Nat→Int):Nat→Int:=fun j=>if j<off then f j else if j<off+n then g (j - off) else f j
def put (E:Env) (T:TypeId) (x:AV) (off:SO) (v:AV):Option (List Prop × AV) :=
 match v with
 | .int k a =>
  match (E.ty T).d with
  | .int kt=>if k=kt then
   (match x,off with
   | .int k' _,.lit 0=>if k=k' then some ([],.int k a) else none
   | .arr k' n f,off=>if k=k' then (match fits off 1 n with
    | some cs=>some (cs,.arr k n (upd f off.val a.val))
    | none=>none) else none
   | _,_=>none) else none
  | _=>none
 | .bool b =>
  match (E.ty T).d with
  | .bool =>
   (match x,off with
   | .bool _,.lit 0=>some ([],.bool b)
   | _,_=>none)
  | _=>none
 | .arr k m g =>
  match (E.ty T).d with
  | .arr .. | .struct .. =>
   if (E.ty T).sz=m then
   (match x,off with
   | .arr k' n f,.lit 0=>if k=k' then
     if m=n then some ([],.arr k n g) else if m≤n then some ([],.arr k n (splice f 0 m g)) else none
    else none
   | .arr k' n f,off=>if k=k' then (match fits off m n with
    | some cs=>some (cs,.arr k n (splice f off.val m g))
    | none=>none) else none
   | _,_=>none) else none
  | _=>none
 | _=>none
def zero (E:Env) (T:TypeId):Option AV :=
 match (E.ty T).d with
 | .int k=>some (.int k (.lit 0))
 | .bool=>some (.bool (.lit false))
 | .arr .. | .struct ..=>some (.arr (E.ty T).k (E.ty T).sz (fun _=>0))
 | _=>none
def boxable (E:Env) (T:TypeId) (v:AV):Bool :=
 match (E.ty T).d,v with
 | .int k,.int k' _=>decide (k=k')
 | .bool,.bool _=>true
 | .arr ..,.arr k n _=>decide (k=(E.ty T).k) && (n == (E.ty T).sz)
 | .struct ..,.arr k n _=>decide (k=(E.ty T).k) && (n == (E.ty T).sz)
 | _,_=>false
def within (i:SI) (n:SO):Option (List Prop) :=
 match i,n with
 | .lit a,.lit b=>if 0≤a∧a<(b:Int) then some [] else none
 | .lit a,.sym b=>some [Within a b]
 | .sym a,.lit b=>some [Within a b]
 | .sym a,.sym b=>some [Within a b]
def arith (o:BinOp):Bool :=
 match o with
 | .add | .sub | .mul | .and | .or | .xor | .andNot=>true
 | _=>false
def compares (o:BinOp):Bool :=
 match o with
 | .eql | .neq | .lss | .leq | .gtr | .geq=>true
 | _=>false
def binEff (E:Env) (o:BinOp) (T:TypeId) (x y:AV):Option (List Prop × AV) :=
 match x,y with
 | .int k a,.int k' b =>
  match o with
  | .shl | .shr =>
   match b with
   | .lit n=>if 0≤n then some ([],.int k (SI.bin E.A o k a b)) else none
   | .sym n=>some ([NonNeg n],.int k (SI.bin E.A o k a b))
  | _ =>
   if k=k' then
    if arith o then some ([],.int k (SI.bin E.A o k a b))
    else if compares o then some ([],.bool (SI.cmp E.A o a b))
    else match b with
     | .lit n=>if n=0 then none else some ([],.int k (SI.bin E.A o k a b))
     | .sym n=>some ([NonZero n],.int k (SI.bin E.A o k a b))
   else none
 | .bool a,.bool b =>
  match (E.ty T).d,o with
  | .bool,.eql=>some ([],.bool (a.eqb b))
  | .bool,.neq=>some ([],.bool (a.eqb b).not)
  | _,_=>none
 | .arr k n f,.arr k' n' g =>
  if (E.ty T).eq=true∧k=(E.ty T).k∧k'=(E.ty T).k∧n=(E.ty T).sz∧n'=(E.ty T).sz then
   match o with
   | .eql=>some ([],.bool (.sym (E.A.eqA n f g)))
   | .neq=>some ([],.bool (.sym (!E.A.eqA n f g)))
   | _=>none
  else none
 | _,_=>none
def capMax:Nat:=9223372036854775807
abbrev Gd:=Option (Nat × Bool)
def getG (gd:Gd) (S:St) (i:Nat):AV :=
 match get S i with
 | .when g b v =>
  match gd with
  | some (g',b')=>if g=g'∧b=b' then v else .junk
  | none=>.junk
 | v=>v
def opg (gd:Gd) (S:St):Operand→AV
 | .tmp t=>getG gd S t
 | .const (.int k n)=>.int k (.lit n)
 | .const (.bool b)=>.bool (.lit b)
 | .const v=>.val v
 | .global g=>.gref g (.lit 0)
 | .func f=>.val (.func (.func f) #[] #[])
def tmpOf:Operand→Option Nat
 | .tmp t=>some t
 | _=>none
noncomputable def SO.sub:SO→SO→SO
 | .lit a,.lit b=>.lit (a - b)
 | .sym a,.lit 0=>.sym a
 | .lit a,.sym b=>.sym (nsub a b)
 | .sym a,.lit b=>.sym (nsub a b)
 | .sym a,.sym b=>.sym (nsub a b)
def SO.leq:SO→SO→Option (List Prop)
 | .lit a,.lit b=>if a≤b then some [] else none
 | .lit a,.sym b=>some [LeqN a b]
 | .sym a,.lit b=>some [LeqN a b]
 | .sym a,.sym b=>some [LeqN a b]
def upto (i:SI) (n:SO):Option (List Prop) :=
 match i,n with
 | .lit a,.lit b=>if 0≤a∧a≤(b:Int) then some [] else none
 | .lit a,.sym b=>some [Upto a b]
 | .sym a,.lit b=>some [Upto a b]
 | .sym a,.sym b=>some [Upto a b]
noncomputable def argOf (rd:List Nat) (gd:Gd) (S:St) (x:Operand):Option (List Prop × AV) :=
 match opg gd S x with
 | .int k n=>some ([],.int k n)
 | .bool b=>some ([],.bool b)
 | .arr k n f=>some ([],.arr k n f)
 | .sref s es off len cap =>
  if rd.contains s then
  match get S s with
  | .own (.arr k n f) =>
   match (off.add (len.mul es)).leq (.lit n) with
   | some cs=>some (cs,.xsl k es len cap (fun j=>f (off.val+j)))
   | none=>none
  | .xsl k es' len' _ f =>
   match (off.add (len.mul es)).leq (len'.mul es') with
   | some cs=>some (cs,.xsl k es len cap (fun j=>f (off.val+j)))
   | none=>none
  | y =>
   match lst? y with
   | some (k,es',len',f) =>
    if es=es' then
    match (off.add (len.mul es)).leq (len'.mul es') with
    | some cs=>some (cs,.xsl k es len cap (fun j=>f (off.val+j)))
    | none=>none
    else none
   | none=>none
  else none
 | .osl k es len f=>some ([],.xsl k es len len f)
 | .val (.slice none 0 0)=>some ([],.xsl .u8 1 (.lit 0) (.lit 0) (fun _=>0))
 | _=>none
noncomputable def argsOf (rd:List Nat) (gd:Gd) (S:St):List Operand→Option (List Prop × List AV)
 | []=>some ([],[])
 | x :: xs =>
  match argOf rd gd S x with
  | some (cs,v) =>
   (match argsOf rd gd S xs with
   | some (cs',vs)=>some (cs ++ cs',v :: vs)
   | none=>none)
  | none=>none
def pure?:AV→Bool
 | .int .. | .bool _ | .arr ..=>true
 | _=>false
def lay (E:Env) (gd:Gd) (S:St) (place:Nat→Option (Nat × TypeId)):AV→List (Nat × Operand)→Option AV
 | x,[]=>some x
 | x,(i,o) :: ps =>
  match place i with
  | some (off,T) =>
   (match put E T x (.lit off) (opg gd S o) with
   | some ([],x')=>lay E gd S place x' ps
   | _=>none)
  | none=>none
def handOn (ks:List Nat) (dst:Option Tmp) (x:Operand) (v:AV):R :=
 match dst,x with
 | some d,.tmp t=>if d=t∨ks.contains t=false then none else some ([],[(t,.junk),(d,v)])
 | _,_=>none
def effMove (mv:Option (List Nat)) (gd:Gd) (S:St) (dst:Option Tmp) (x:Operand):R :=
 match opg gd S x with
 | .int k n=>ret1 dst [] (.int k n)
 | .bool b=>ret1 dst [] (.bool b)
 | .arr k n f=>ret1 dst [] (.arr k n f)
 | .tup ps=>ret1 dst [] (.tup ps)
 | .val v=>ret1 dst [] (.val v)
 | .ref s off=>ret1 dst [] (.ref s off)
 | .gref g off=>ret1 dst [] (.gref g off)
 | .xref s off=>ret1 dst [] (.xref s off)
 | .sref s es off len cap=>ret1 dst [] (.sref s es off len cap)
 | .xsl _ es len cap _ =>
  match mv,x with
  | none,.tmp t=>ret1 dst [] (.sref t es (.lit 0) len cap)
  | _,_=>none
 | .osl k es len f =>
  match mv,x with
  | some ks,_=>handOn ks dst x (.osl k es len f)
  | none,.tmp t=>ret1 dst [] (.sref t es (.lit 0) len len)
  | _,_=>none
 | .otup k es len f ps =>
  match mv with
  | some ks=>handOn ks dst x (.otup k es len f ps)
  | none=>none
 | _=>none
def effPick (S:St) (dst:Option Tmp) (c x y:Operand):R :=
 match c with
 | .tmp t =>
  match get S t with
  | .bool (.lit true)=>effMove none (some (t,true)) S dst x
  | .bool (.lit false)=>effMove none (some (t,false)) S dst y
  | .bool (.sym p) =>
   match opg (some (t,true)) S x,opg (some (t,false)) S y with
   | .bool a,.bool b=>ret1 dst [] (.bool (.sym (cond p a.val b.val)))
   | .int k a,.int k' b=>if k=k' then ret1 dst [] (.int k (.sym (cond p a.val b.val))) else none
   | _,_=>none
  | _=>none
 | _=>none
def effLoad (E:Env) (rd:List Nat) (gd:Gd) (S:St) (dst:Option Tmp) (T:TypeId) (x:Operand):R :=
 match opg gd S x with
 | .own v =>
  match sub E T v (.lit 0) with
  | some (cs,r)=>ret1 dst cs r
  | none=>none
 | .ref s off =>
  if rd.contains s then
  match get S s with
  | .own v =>
   match sub E T v off with
   | some (cs,r)=>ret1 dst cs r
   | none=>none
  | y =>
   match lst? y with
   | some (k,es,len,f) =>
    (match (E.ty T).d with
    | .int k'=>if k=k' then ret1 dst [FitsMul off.val 1 len.val es] (.int k (.sym (f off.val))) else none
    | .arr .. | .struct ..=>if k=(E.ty T).k then ret1 dst [FitsMul off.val (E.ty T).sz len.val es] (.arr k (E.ty T).sz (fun j=>f (off.val+j))) else none
    | _=>none)
   | none=>none
  else none
 | .gref g off =>
  match sub E T (E.glob g) off with
  | some (cs,r)=>ret1 dst cs r
  | none=>none
 | .xref s off =>
  if rd.contains s then
  match get S s with
  | .xsl k es len _ f =>
   match (E.ty T).d with
   | .int k'=>if k=k' then ret1 dst [FitsMul off.val 1 len.val es] (.int k (.sym (f off.val))) else none
   | .arr .. | .struct ..=>if k=(E.ty T).k then ret1 dst [FitsMul off.val (E.ty T).sz len.val es] (.arr k (E.ty T).sz (fun j=>f (off.val+j))) else none
   | _=>none
  | _=>none
  else none
 | _=>none
def putL (E:Env) (T:TypeId) (k:IntKind) (es:Nat) (len:SO) (f:Nat→Int) (off:SO) (v:AV):Option (List Prop × (Nat→Int)) :=
 match v with
 | .int k' a =>
  match (E.ty T).d with
  | .int kt=>if k'=kt∧k=k' then some ([FitsMul off.val 1 len.val es],upd f off.val a.val) else none
  | _=>none
 | .arr k' m g =>
  match (E.ty T).d with
  | .arr .. | .struct ..=>if (E.ty T).sz=m∧k=k' then some ([FitsMul off.val m len.val es],splice f off.val m g) else none
  | _=>none
 | _=>none
def effStore (E:Env) (rd ks:List Nat) (gd:Gd) (S:St) (dst:Option Tmp) (T:TypeId) (a x:Operand):R :=
 match dst with
 | some _=>none
 | none =>
  match opg gd S a with
  | .own v =>
   match tmpOf a with
   | some t =>
    if ks.contains t then
    match put E T v (.lit 0) (opg gd S x) with
    | some (cs,v')=>some (cs,[(t,.own v')])
    | none=>none
    else none
   | none=>none
  | .ref s off =>
   if rd.contains s && ks.contains s then
   match get S s with
   | .own v =>
    match put E T v off (opg gd S x) with
    | some (cs,v')=>some (cs,[(s,.own v')])
    | none=>none
   | .osl k es len f =>
    match putL E T k es len f off (opg gd S x) with
    | some (cs,f')=>some (cs,[(s,.osl k es len f')])
    | none=>none
   | _=>none
   else none
  | _=>none
noncomputable def effIndexAddr (E:Env) (rd:List Nat) (gd:Gd) (S:St) (dst:Option Tmp) (T:TypeId) (x i:Operand):R :=
 match opg gd S i with
 | .int _ iv =>
  match (E.ty T).d with
  | .arr n e =>
   if sized E e then
   match within iv (.lit n) with
   | some cs =>
    match opg gd S x with
    | .own _ =>
     match tmpOf x with
     | some t=>ret1 dst cs (.ref t ((iv.off E.A).mul (E.ty e).sz))
     | none=>none
    | .ref s off=>ret1 dst cs (.ref s (off.add ((iv.off E.A).mul (E.ty e).sz)))
    | .gref g off=>ret1 dst cs (.gref g (off.add ((iv.off E.A).mul (E.ty e).sz)))
    | _=>none
   | none=>none
   else none
  | .slice e =>
   match opg gd S x with
   | .sref s es off len _ =>
    if es=(E.ty e).sz∧rd.contains s∧sized E e then
     match within iv len with
     | some cs =>
      match get S s with
      | .own _=>ret1 dst cs (.ref s (off.add ((iv.off E.A).mul es)))
      | .xsl ..=>ret1 dst cs (.xref s (off.add ((iv.off E.A).mul es)))
      | y=>if (lst? y).isSome then ret1 dst cs (.ref s (off.add ((iv.off E.A).mul es))) else none
     | none=>none
    else none
   | .osl _ es len _ =>
    if es=(E.ty e).sz∧sized E e then
     match tmpOf x,within iv len with
     | some t,some cs=>ret1 dst cs (.ref t ((iv.off E.A).mul es))
     | _,_=>none
    else none
   | .xsl _ es len _ _ =>
    if es=(E.ty e).sz∧sized E e then
     match tmpOf x,within iv len with
     | some t,some cs=>ret1 dst cs (.xref t ((iv.off E.A).mul es))
     | _,_=>none
    else none
   | _=>none
  | _=>none
 | _=>none
noncomputable def effFieldAddr (E:Env) (gd:Gd) (S:St) (dst:Option Tmp) (T:TypeId) (x:Operand) (fi:Nat):R :=
 match (E.ty T).d with
 | .struct fs =>
  match fs[fi]? with
  | some (o,ft) =>
   if (E.ty ft).sz=0∨¬ sized E ft then none else
   match opg gd S x with
   | .own _ =>
    match tmpOf x with
    | some t=>ret1 dst [] (.ref t (.lit o))
    | none=>none
   | .ref s off=>ret1 dst [] (.ref s (off.add (.lit o)))
   | .gref g off=>ret1 dst [] (.gref g (off.add (.lit o)))
   | _=>none
  | none=>none
 | _=>none
def effField (E:Env) (gd:Gd) (S:St) (dst:Option Tmp) (T:TypeId) (x:Operand) (fi:Nat):R :=
 match (E.ty T).d with
 | .struct fs =>
  match fs[fi]? with
  | some (o,ft) =>
   match opg gd S x with
   | .arr k n f =>
    match sub E ft (.arr k n f) (.lit o) with
    | some (cs,r)=>ret1 dst cs r
    | none=>none
   | _=>none
  | none=>none
 | _=>none
noncomputable def effIndex (E:Env) (gd:Gd) (S:St) (dst:Option Tmp) (T:TypeId) (x i:Operand):R :=
 match (E.ty T).d,opg gd S x,opg gd S i with
 | .arr n e,.arr k m f,.int _ iv =>
  if sized E e then
  match within iv (.lit n),sub E e (.arr k m f) ((iv.off E.A).mul (E.ty e).sz) with
  | some cs,some (cs',r)=>ret1 dst (cs ++ cs') r
  | _,_=>none
  else none
 | _,_,_=>none
def bound (gd:Gd) (S:St):Option Operand→Option (Option SI)
 | none=>some none
 | some x =>
  match opg gd S x with
  | .int _ n=>some (some n)
  | _=>none
def orElse (E:Env) (i:Option SI) (n:SO):SO :=
 match i with
 | some i=>i.off E.A
 | none=>n
def upto? (i:Option SI) (n:SO):Option (List Prop) :=
 match i with
 | some i=>upto i n
 | none=>some []
noncomputable def effSlice (E:Env) (gd:Gd) (S:St) (dst:Option Tmp) (T:TypeId) (x:Operand) (lo hi mx:Option Operand):R :=
 match mx with
 | some _=>none
 | none =>
  match bound gd S lo,bound gd S hi with
  | some l,some h =>
   match (E.ty T).d with
   | .arr n e =>
    if sized E e=true∧n≤capMax then
    match opg gd S x,tmpOf x,upto? h (.lit n),upto? l (orElse E h (.lit n)) with
    | .own _,some t,some c1,some c2=>ret1 dst (c1 ++ c2) (.sref t (E.ty e).sz ((orElse E l (.lit 0)).mul (E.ty e).sz) ((orElse E h (.lit n)).sub (orElse E l (.lit 0))) ((SO.lit n).sub (orElse E l (.lit 0))))
    | _,_,_,_=>none
    else none
   | .slice e =>
    match opg gd S x with
    | .sref s es off len cap =>
     if es=(E.ty e).sz∧sized E e then
     match upto? h len,upto? l (orElse E h len) with
     | some c1,some c2=>ret1 dst (c1 ++ c2) (.sref s es (off.add ((orElse E l (.lit 0)).mul es)) ((orElse E h len).sub (orElse E l (.lit 0))) (cap.sub (orElse E l (.lit 0))))
     | _,_=>none
     else none
    | .osl _ es len _ =>
     if es=(E.ty e).sz∧sized E e then
     match tmpOf x,upto? h len,upto? l (orElse E h len) with
     | some t,some c1,some c2=>ret1 dst (c1 ++ c2) (.sref t es ((orElse E l (.lit 0)).mul es) ((orElse E h len).sub (orElse E l (.lit 0))) ((orElse E h len).sub (orElse E l (.lit 0))))
     | _,_,_=>none
     else none
    | _=>none
   | _=>none
  | _,_=>none
def lenSI:SO→SI
 | .lit n=>.lit (n:Int)
 | .sym n=>.sym (n:Int)
def elemK (E:Env) (e:TypeId):Option IntKind :=
 match (E.ty e).d with
 | .int k=>some k
 | .arr .. | .struct ..=>some (E.ty e).k
 | _=>none
def joinF (n:Nat) (f g:Nat→Int):Nat→Int:=fun j=>if j<n then f j else g (j - n)
noncomputable def effAppend (E:Env) (rd ks:List Nat) (gd:Gd) (S:St) (dst:Option Tmp) (e:TypeId) (x y:Operand):R :=
 match dst,elemK E e,argOf rd gd S y with
 | some d,some ke,some (cs,.xsl k' es' len' _ g) =>
  if es'=(E.ty e).sz∧k'=ke∧0<(E.ty e).sz∧0<(E.ty e).by_ then
  match opg gd S x,tmpOf x with
  | .osl k es len f,some t =>
   if es=(E.ty e).sz∧k=ke∧d≠t∧ks.contains t=true then some (cs ++ [RoomFor (len.add len').val (E.ty e).by_],[(t,.junk),(d,.osl ke es (len.add len') (joinF (len.mul es).val f g))]) else none
  | .val (.slice none 0 0),_=>some (cs ++ [RoomFor len'.val (E.ty e).by_],[(d,.osl ke es' len' g)])
  | _,_=>none
  else none
 | _,_,_=>none
noncomputable def effCopy (E:Env) (rd ks:List Nat) (gd:Gd) (S:St) (dst:Option Tmp) (e:TypeId) (x y:Operand):R :=
 match dst,opg gd S x,argOf rd gd S y with
 | some d,.sref s es off (.lit n) _,some (cs,.xsl k' es' (.lit n') _ g) =>
  if es=(E.ty e).sz∧es'=es∧rd.contains s∧ks.contains s∧d≠s then
  match get S s with
  | .own (.arr k N f) =>
   if k=k' then
   match fits off (n*es) N with
   | some cs'=>some (cs ++ cs',[(s,.own (.arr k N (splice f off.val (min n n'*es) g))),(d,.int .i64 (.lit (min n n':Nat)))])
   | none=>none
   else none
  | _=>none
  else none
 | _,_,_=>none
noncomputable def effCall (E:Env) (rd ks:List Nat) (gd:Gd) (S:St) (dst:Option Tmp) (c:Go.Call):R :=
 match c.callee with
 | .builtin .append =>
  match c.args.toList,c.argTypes.toList with
  | [x,y],[t,t'] =>
   match (E.ty t).d with
   | .slice e=>if t=t'∧sized E e then effAppend E rd ks gd S dst e x y else none
   | _=>none
  | _,_=>none
 | .builtin .copy =>
  match c.args.toList,c.argTypes.toList with
  | [x,y],[t,t'] =>
   match (E.ty t).d with
   | .slice e=>if t=t'∧sized E e then effCopy E rd ks gd S dst e x y else none
   | _=>none
  | _,_=>none
 | .value (.func f) =>
  match argsOf rd gd S c.args.toList with
  | some (cs,vs) =>
   match E.call f vs with
   | some (cs',r)=>if answer r then ret1 dst (cs ++ cs') r else none
   | none=>none
  | none=>none
 | .builtin .len =>
  match c.args.toList,c.argTypes.toList with
  | [x],[t] =>
   match (E.ty t).d with
   | .slice _ =>
    match opg gd S x with
    | .sref _ _ _ len _=>ret1 dst [] (.int .i64 (lenSI len))
    | .xsl _ _ len _ _=>ret1 dst [] (.int .i64 (lenSI len))
    | .osl _ _ len _=>ret1 dst [] (.int .i64 (lenSI len))
    | _=>none
   | _=>none
  | _,_=>none
 | _=>none
def effConvert (E:Env) (gd:Gd) (S:St) (dst:Option Tmp) (s d:TypeId) (x:Operand):R :=
 match (E.ty s).d,(E.ty d).d,opg gd S x with
 | .int _,.int k,.int _ n=>ret1 dst [] (.int k (n.cnv E.A k))
 | _,_,_=>none
def effUn (E:Env) (gd:Gd) (S:St) (dst:Option Tmp) (op:UnOp) (x:Operand):R :=
 match op,opg gd S x with
 | .neg,.int k n=>ret1 dst [] (.int k (n.un E.A .neg k))
 | .xor,.int k n=>ret1 dst [] (.int k (n.un E.A .xor k))
 | .not,.bool b=>ret1 dst [] (.bool b.not)
 | _,_=>none
def effBuild (E:Env) (gd:Gd) (S:St) (dst:Option Tmp) (T:TypeId) (ps:Array (Nat × Operand)):R :=
 match (E.ty T).d with
 | .arr _ e =>
  if sized E e then
  match zero E T with
  | some z =>
   match lay E gd S (fun i=>some (i*(E.ty e).sz,e)) z ps.toList with
   | some v=>ret1 dst [] v
   | none=>none
  | none=>none
  else none
 | .struct fs =>
  if fs.all (fun f=>sized E f.2) then
  match zero E T with
  | some z =>
   match lay E gd S (fun i=>fs[i]?) z ps.toList with
   | some v=>ret1 dst [] v
   | none=>none
  | none=>none
  else none
 | _=>none
def effExtract (gd:Gd) (S:St) (dst:Option Tmp) (x:Operand) (i:Nat):R :=
 match opg gd S x with
 | .tup ps=>match ps[i]? with | some v=>if plain v then ret1 dst [] v else none | none=>none
 | .otup _ es len _ ps =>
  match x,i with
  | .tmp t,0=>ret1 dst [] (.sref t es (.lit 0) len len)
  | _,j+1=>match ps[j]? with | some v=>if plain v then ret1 dst [] v else none | none=>none
  | _,_=>none
 | _=>none
def effBuildSlice (E:Env) (gd:Gd) (S:St) (dst:Option Tmp) (T:TypeId) (n:Nat) (ps:Array (Nat × Operand)):R :=
 match (E.ty T).d with
 | .slice e =>
  match sized E e,elemK E e with
  | true,some k =>
   if n*(E.ty e).sz≤16777216∧n≤16777216∧0<(E.ty e).sz∧0<n then
   match lay E gd S (fun i=>if i<n then some (i*(E.ty e).sz,e) else none) (.arr k (n*(E.ty e).sz) (fun _=>0)) ps.toList with
   | some (.arr _ _ f)=>ret1 dst [] (.osl k (E.ty e).sz (.lit n) f)
   | _=>none
   else none
  | _,_=>none
 | _=>none
noncomputable def effMake (E:Env) (gd:Gd) (S:St) (dst:Option Tmp) (T:TypeId) (l c:Operand):R :=
 match (E.ty T).d with
 | .slice e =>
  match sized E e,elemK E e,opg gd S l,opg gd S c with
  | true,some k,.int _ a,.int _ b =>
   if (E.ty e).sz=0 then none else
   match within a (.lit capMax),upto a (b.off E.A) with
   | some c1,some c2=>ret1 dst (c1 ++ c2 ++ [NonNeg b.val,RoomFor (b.off E.A).val (E.ty e).by_,LeqN (b.off E.A).val capMax]) (.osl k (E.ty e).sz (a.off E.A) (fun _=>0))
   | _,_=>none
  | _,_,_,_=>none
 | _=>none
structure SOp where
 dst:Option Nat
 op:Go.Op
 gd:Gd
 rd:List Nat
 ks:List Nat
 mv:Bool
 nw:List Nat
noncomputable def effB (E:Env) (gd:Gd) (S:St) (o:SOp):R :=
 match o.op with
 | .move x=>effMove (if o.mv then some o.ks else none) gd S o.dst x
 | .assign x=>effMove (if o.mv then some o.ks else none) gd S o.dst x
 | .makeSlice T l c=>effMake E gd S o.dst T l c
 | .buildSlice T n ps=>effBuildSlice E gd S o.dst T n ps
 | .pick c x y=>effPick S o.dst c x y
 | .alloc T=>match zero E T with | some v=>ret1 o.dst [] (.own v) | none=>none
 | .box T x=>if boxable E T (opg gd S x) then ret1 o.dst [] (.own (opg gd S x)) else none
 | .build T ps=>effBuild E gd S o.dst T ps
 | .load T x=>effLoad E o.rd gd S o.dst T x
 | .store T a x=>effStore E o.rd o.ks gd S o.dst T a x
 | .indexAddr T x i=>effIndexAddr E o.rd gd S o.dst T x i
 | .fieldAddr T x fi=>effFieldAddr E gd S o.dst T x fi
 | .field T x fi=>effField E gd S o.dst T x fi
 | .index T x i=>effIndex E gd S o.dst T x i
 | .slice T x lo hi mx=>effSlice E gd S o.dst T x lo hi mx
 | .convert s d x=>effConvert E gd S o.dst s d x
 | .unOp op _ x=>effUn E gd S o.dst op x
 | .binOp op T x y _ =>
  match binEff E op T (opg gd S x) (opg gd S y) with
  | some (cs,r)=>ret1 o.dst cs r
  | none=>none
 | .extract x i=>effExtract gd S o.dst x i
 | .call c=>effCall E o.rd o.ks gd S o.dst c
 | _=>none
structure IsNum (k:IntKind) (v:Value):Prop where
 h:∃ z,v=.int k z∧inR k z
structure IsNums (k:IntKind) (n:Nat) (f:Nat→Value):Prop where
 h:∀ j,j<n→∃ z,f j=.int k z∧inR k z
structure IsRec (v:Value) (n:Nat):Prop where
 h:∃ cs,v=.agg cs∧cs.size=n
structure IsSl (v:Value):Prop where
 h:∃ a l c,v=.slice a l c∧(0<l→∃ b o,a=some ⟨b,o,none⟩)∧l≤c∧c≤capMax
structure HasMem (mem:Mem) (p:Value) (n:Nat):Prop where
 h:∃ b o,p=.pointer (some ⟨b,o,none⟩)∧∀ j,j<n→(mem b (o+j)).isSome=true
structure IsList (mem:Mem) (k:IntKind) (es:Nat) (v:Value):Prop where
 h:∃ a l c,v=.slice a l c∧(0<l→∃ b o,a=some ⟨b,o,none⟩∧∀ j,j<l*es→∃ z,mem b (o+j)=some (.int k z)∧inR k z)∧l≤c∧c≤capMax
abbrev V1:=Option (List Prop × AV)
def partO (E:Env) (T:TypeId) (v:Value) (off:SO):V1 :=
 match (E.ty T).d with
 | .int k=>some ([IsNum k (E.acc.cell v off.val)],.int k (.sym (E.acc.num (E.acc.cell v off.val))))
 | .arr .. | .struct ..=>some ([IsNums (E.ty T).k (E.ty T).sz fun j=>E.acc.cell v (off.val+j)],.arr (E.ty T).k (E.ty T).sz fun j=>E.acc.num (E.acc.cell v (off.val+j)))
 | .slice _=>some ([IsSl (E.acc.cell v off.val)],.opq (E.acc.cell v off.val))
 | .mix _ =>
  match off with
  | .lit 0=>some ([IsRec v (E.ty T).sz],.opq v)
  | _=>none
 | _=>none
def loadO (E:Env) (rd:List Nat) (gd:Gd) (S:St) (T:TypeId) (x:Operand):V1 :=
 match opg gd S x with
 | .own (.opq v)=>partO E T v (.lit 0)
 | .ref s off =>
  if rd.contains s then
  match get S s with
  | .own (.opq v)=>partO E T v off
  | _=>none
  else none
 | .opq p =>
  match (E.ty T).d with
  | .mix _=>some ([HasMem E.mem p (E.ty T).sz],.opq (E.acc.get p (E.ty T).sz))
  | _=>none
 | _=>none
def boxO (E:Env) (gd:Gd) (S:St) (T:TypeId) (x:Operand):V1 :=
 match (E.ty T).d,opg gd S x with
 | .mix _,.opq v=>some ([IsRec v (E.ty T).sz],.own (.opq v))
 | _,_=>none
def fieldO (E:Env) (gd:Gd) (S:St) (T:TypeId) (x:Operand) (fi:Nat):V1 :=
 match (E.ty T).d with
 | .mix fs =>
  match fs[fi]? with
  | some (o,_) =>
   match opg gd S x,tmpOf x with
   | .own _,some t=>some ([],.ref t (.lit o))
   | _,_=>none
  | none=>none
 | _=>none
noncomputable def indexO (E:Env) (gd:Gd) (S:St) (T:TypeId) (x i:Operand):V1 :=
 match (E.ty T).d with
 | .slice e =>
  match (E.ty e).d,opg gd S x,opg gd S i with
  | .mix _,.opq v,.int _ iv =>
   match within iv (.sym (E.acc.len v)) with
   | some cs=>some (IsSl v :: cs,.opq (E.acc.addr v ((iv.off E.A).mul (E.ty e).sz).val))
   | none=>none
  | _,_,_=>none
 | _=>none
noncomputable def argO (E:Env) (rd:List Nat) (gd:Gd) (S:St) (t:TypeId) (x:Operand):V1 :=
 match opg gd S x with
 | .opq v =>
  match (E.ty t).d with
  | .mix _=>some ([],.opq v)
  | .slice e =>
   match sized E e,elemK E e with
   | true,some k=>some ([IsList E.mem k (E.ty e).sz v],.xsl k (E.ty e).sz (.sym (E.acc.len v)) (.sym (E.acc.cap v)) (E.acc.list v))
   | _,_=>none
  | _=>none
 | _=>argOf rd gd S x
noncomputable def argsO (E:Env) (rd:List Nat) (gd:Gd) (S:St):List TypeId→List Operand→Option (List Prop × List AV)
 | [],[]=>some ([],[])
 | t :: ts,x :: xs =>
  match argO E rd gd S t x with
  | some (cs,v) =>
   (match argsO E rd gd S ts xs with
   | some (cs',vs)=>some (cs ++ cs',v :: vs)
   | none=>none)
  | none=>none
 | _,_=>none
def isOpq:AV→Bool
 | .opq _=>true
 | _=>false
noncomputable def callO (E:Env) (rd:List Nat) (gd:Gd) (S:St) (c:Go.Call):V1 :=
 match c.callee with
 | .value (.func f) =>
  if c.args.toList.any (fun x=>isOpq (opg gd S x)) then
  match argsO E rd gd S c.argTypes.toList c.args.toList with
  | some (cs,vs) =>
   match E.call f vs with
   | some (cs',r)=>if answer r then some (cs ++ cs',r) else none
   | none=>none
  | none=>none
  else none
 | .builtin .len =>
  match c.args.toList,c.argTypes.toList with
  | [x],[t] =>
   match (E.ty t).d,opg gd S x with
   | .slice _,.opq v=>some ([IsSl v],.int .i64 (lenSI (.sym (E.acc.len v))))
   | _,_=>none
  | _,_=>none
 | _=>none
def moveO (gd:Gd) (S:St) (x:Operand):V1 :=
 match opg gd S x with
 | .opq v=>some ([],.opq v)
 | _=>none
def arrO (E:Env) (gd:Gd) (S:St) (T:TypeId) (x:Operand):V1 :=
 match (E.ty T).d with
 | .arr n _ =>
  match opg gd S x with
  | .sref s _ off len _ =>
   if 0<n then
   match (SO.lit n).leq len with
   | some cs=>some (cs,.ref s off)
   | none=>none
   else none
  | .osl _ _ len _ =>
   if 0<n then
   match (SO.lit n).leq len,tmpOf x with
   | some cs,some t=>some (cs,.ref t (.lit 0))
   | _,_=>none
   else none
  | _=>none
 | _=>none
noncomputable def valO (E:Env) (gd:Gd) (S:St) (o:SOp):V1 :=
 match o.op with
 | .move x=>moveO gd S x
 | .assign x=>moveO gd S x
 | .box T x=>boxO E gd S T x
 | .load T x=>loadO E o.rd gd S T x
 | .fieldAddr T x fi=>fieldO E gd S T x fi
 | .indexAddr T x i=>indexO E gd S T x i
 | .call c=>callO E o.rd gd S c
 | .sliceToArrayPointer T x=>arrO E gd S T x
 | _=>none
noncomputable def eff (E:Env) (gd:Gd) (S:St) (o:SOp):R :=
 match valO E gd S o with
 | some (cs,v)=>ret1 o.dst cs v
 | none=>effB E gd S o
def light:AV→Bool
 | .int .. | .bool _ | .arr .. | .ref .. | .gref .. | .xref .. | .sref .. | .tup _ | .val _ | .opq _=>true
 | _=>false
noncomputable def exec (E:Env) (S:St) (o:SOp):R :=
 match o.gd with
 | none=>eff E none S o
 | some (g,want) =>
  match get S g with
  | .bool (.lit b) =>
   if b=want then eff E none S o
   else
    match o.dst with
    | some d=>some ([],[(d,.val undef)])
    | none=>some ([],[])
  | .val (.tuple _) =>
   match o.dst with
   | some d=>some ([],[(d,.val undef)])
   | none=>some ([],[])
  | .bool (.sym p) =>
   match o.dst,eff E (some (g,want)) S o with
   | some d,some (cs,[(x,v)])=>if light v && x == d then some (cs.map (fun c=>p=want→c),[(d,.when g want v)]) else none
   | _,_=>none
  | _=>none
def app (us:List (Nat × AV)) (S:St):St :=
 match us with
 | []=>S
 | (i,v) :: us=>app us (S.set i v)
noncomputable def run (E:Env):List SOp→St→Option (List Prop × St)
 | [],S=>some ([],S)
 | o :: l,S =>
  match exec E S o with
  | some (cs,us) =>
   (match run E l (app us S) with
   | some (cs',S')=>some (cs ++ cs',S')
   | none=>none)
  | none=>none
def disj (a b:List Nat):Bool:=a.all fun x=>!b.contains x
def kill1 (D:List Nat) (v:AV):AV :=
 match v with
 | .when ..=>.junk
 | .ref s off=>if D.contains s then .junk else .ref s off
 | .sref s es off len cap=>if D.contains s then .junk else .sref s es off len cap
 | .xref s off=>if D.contains s then .junk else .xref s off
 | v=>v
def kill (D:List Nat):St→St
 | []=>[]
 | v :: S=>kill1 D v :: kill D S
inductive SC where
 | skip
 | reg (ds:List Nat) (l:List SOp)
 | seq (a b:SC)
 | cond (c:Operand) (a b:SC)
 | block (id:Nat) (c:SC)
 | loop (id:Nat) (c:SC)
 | exit (id:Nat)
 | ret
 | bad
def tmpsOf (o:Oper):List Nat:=o.op.operands.toList.filterMap fun | .tmp t=>some t | _=>none
def appSrc (ops:List Oper):List Nat:=ops.filterMap fun o =>
 match o.op with
 | .call c =>
  match c.callee,c.args.toList with
  | .builtin .append,.tmp t :: _=>some t
  | _,_=>none
 | _=>none
def newSrc (ops:List Oper):List Nat:=ops.filterMap fun o =>
 match o.op with
 | .call c =>
  match c.callee with
  | .builtin .append=>o.dst
  | _=>none
 | .makeSlice .. | .buildSlice ..=>o.dst
 | _=>none
def callSrc (ops:List Oper):List Nat:=ops.filterMap fun o =>
 match o.op with
 | .call c =>
  match c.callee with
  | .value _=>o.dst
  | _=>none
 | _=>none
def apartSrc (ops:List Oper):List Nat:=ops.filterMap fun o =>
 match o.op with
 | .extract (.tmp t) _=>some t
 | _=>none
def usesOf (ops:List Oper) (t:Nat):Nat:=(ops.filter fun o=>o.op.operands.toList.any fun x=>match x with | .tmp u=>u == t | _=>false).length
def layOnly (ops:List Oper):Bool :=
 match ops with
 | m :: a :: l =>
  (match m.op,m.dst,a.op with
  | .move (.tmp _),some d,.assign (.tmp d')=>d == d'
  | _,_,_=>false) && l.all fun o=>match o.op with | .assign (.const _)=>true | _=>false
 | _=>false
def handsOn (ops:List Oper) (o:Oper):Bool :=
 match o.op,o.dst with
 | .move (.tmp t),some d=>(appSrc ops).contains d || ((newSrc ops).contains t && usesOf ops t == 1) || ((callSrc ops).contains t && (apartSrc ops).contains d && usesOf ops t == 1) || layOnly ops
 | .assign (.tmp t),some d=>((newSrc ops).contains t && usesOf ops t == 1) || ((callSrc ops).contains t && usesOf ops t == 1 && usesOf ops d == 0) || layOnly ops
 | _,_=>false
def mksOf (mv:Bool) (o:Oper):List Nat :=
 match o.op with
 | .alloc _ | .box _ _ | .makeSlice .. | .buildSlice .. | .call _=>o.dst.toList
 | .move _ | .assign _=>if mv then o.dst.toList else []
 | _=>[]
def alsoOf (mv:Bool) (rm:List (Nat × List Nat)→List Nat→List Nat) (tb:List (Nat × List Nat)) (o:Oper):List Nat :=
 match o.op with
 | .store _ (.tmp t) _=>t :: rm tb [t]
 | .move (.tmp t) | .assign (.tmp t)=>if mv then [t] else []
 | .call c =>
  match c.callee,c.args.toList with
  | .builtin .append,.tmp t :: _=>[t]
  | .builtin .copy,.tmp t :: _=>t :: rm tb [t]
  | _,_=>[]
 | _=>[]
abbrev RM:=List (Nat × List Nat)
def rmGet (rm:RM) (t:Nat):List Nat :=
 match rm with
 | []=>[]
 | (s,l) :: rm=>if s=t then l else rmGet rm t
def rmAll (rm:RM) (ts:List Nat):List Nat:=ts.flatMap fun t=>rmGet rm t
def hands (o:Go.Op):Bool :=
 match o with
 | .move _ | .assign _ | .pick .. | .indexAddr .. | .fieldAddr .. | .slice .. | .extract .. | .sliceToArrayPointer ..=>true
 | _=>false
def gslot (ops:List Oper) (o:Oper):Option Gd :=
 match o.guard with
 | none=>some none
 | some (j,want) =>
  match (ops[j]?).bind (·.dst) with
  | some g=>some (some (g,want))
  | none=>none
def gslots (g:Gd):List Nat :=
 match g with
 | none=>[]
 | some (t,_)=>[t]
def foot (ops:List Oper):RM→List Oper→Option (List SOp)
 | _,[]=>some []
 | rm,o :: l =>
  match gslot ops o with
  | none=>none
  | some gd =>
   let ts:=tmpsOf o
   let mv:=handsOn ops o
   let so:SOp:={ dst:=o.dst,op:=o.op,gd:=gd,rd:=gslots gd ++ (ts ++ rmAll rm ts),ks:=o.dst.toList ++ alsoOf mv rmAll rm o,mv:=mv,nw:=mksOf mv o }
   match foot ops (match o.dst with | some d=>if hands o.op && !mv then (d,ts ++ rmAll rm ts) :: rm else rm | none=>rm) l with
   | some r=>some (so :: r)
   | none=>none
def madeIn (l:List SOp):List Nat:=l.flatMap fun o=>o.nw
def apart (r r':SOp):Bool:=disj r.ks (r'.rd ++ r'.ks) && disj r'.ks r.rd
def freshOk:List SOp→Bool
 | []=>true
 | r :: l=>(l.all fun p=>(r.mv || disj p.nw (r.rd ++ r.ks)) && disj (gslots r.gd) p.ks) && disj (gslots r.gd) r.ks && freshOk l
def constOk (x:Operand):Bool :=
 match x with
 | .const (.int k n)=>decide (k.min≤n∧n≤k.max)
 | _=>true
def preds (o:Oper):List Nat:=o.after.toList.filterMap fun e=>if Region.binds .any e then some e.on else none
def closure (acc:List Nat):List Oper→List Nat
 | []=>acc
 | o :: l=>closure (acc ++ [(preds o).foldl (fun s j=>s ||| ((1 <<< j) ||| acc.getD j 0)) 0]) l
def pairsOk (i:Nat) (r:SOp) (m:Nat):Nat→List SOp→Bool
 | _,[]=>true
 | j,r' :: l=>(if j<i then m.testBit j || apart r' r else true) && pairsOk i r m (j+1) l
def drawOk (ops:List Oper) (ms:List Nat) (all:List SOp):Nat→List SOp→Bool
 | _,[]=>true
 | i,r :: l=>pairsOk i r (ms.getD i 0) 0 all && ((preds (ops.getD i default)).all fun j=>decide (j<i)) && drawOk ops ms all (i+1) l
def regOf (rm:RM) (ops:List Oper) (draw:Bool):Option (List SOp) :=
 match foot ops rm ops with
 | some l=>if ops.all (fun o=>o.op.operands.all constOk) && freshOk l && (!draw || drawOk ops (closure [] ops) l 0 l) then some l else none
 | none=>none
def firstRegion:Code→Nat
 | .region id _ _=>id
 | .seq a _=>firstRegion a
 | .block _ c=>firstRegion c
 | .loop c=>firstRegion c
 | .scope c=>firstRegion c
 | _=>0
def fromR (ops:List Oper):List (Nat × Nat):=ops.filterMap fun o =>
 match o.op,o.dst with
 | .assign (.tmp t),some v =>
  (match ops.findSome? (fun p=>match p.op,p.dst with
   | .extract (.tmp u) 0,some t'=>if t'=t then some u else none
   | _,_=>none) with
  | some u=>if usesOf ops v == 0 then some (v,u) else none
  | none=>none)
 | _,_=>none
def fromC:Code→List (Nat × Nat)
 | .region _ ops _=>fromR ops.toList
 | .seq a b=>fromC a ++ fromC b
 | .cond _ a b=>fromC a ++ fromC b
 | .block _ c=>fromC c
 | .loop c=>fromC c
 | _=>[]
def aliasOf (c:Code):RM :=
 match fromC c with
 | []=>[]
 | l=>l.map fun p=>(p.1,l.filterMap fun q=>if q.1=p.1 then some q.2 else none)
def stripR (rm:RM):Code→SC
 | .skip=>.skip
 | .label _=>.skip
 | .region _ ops draw =>
  match regOf rm ops.toList draw with
  | some l=>.reg (madeIn l) l
  | none=>.bad
 | .seq a b=>.seq (stripR rm a) (stripR rm b)
 | .cond c a b=>.cond c (stripR rm a) (stripR rm b)
 | .block id c=>.block id (stripR rm c)
 | .loop c=>.loop (firstRegion c) (stripR rm c)
 | .exit id=>.exit id
 | .ret=>.ret
 | _=>.bad
def strip (c:Code):SC:=stripR (aliasOf c) c
def body (f:Func):Code:=match f.body with | some c=>c | none=>.skip
inductive Ex where
 | normal
 | exit (id:Nat)
 | ret
def andAll:List Prop→Prop→Prop
 | [],p=>p
 | c :: cs,p=>c∧andAll cs p
def leAV:AV→AV→Prop
 | _,.junk=>True
 | .int k n,.int k' n'=>k=k'∧n.val=n'.val
 | .bool b,.bool b'=>b.val=b'.val
 | .arr k n f,.arr k' n' g=>k=k'∧n=n'∧∀ i,i<n→f i=g i
 | .own (.arr k n f),.own (.arr k' n' g)=>k=k'∧n=n'∧∀ i,i<n→f i=g i
 | .own (.int k n),.own (.int k' n')=>k=k'∧n.val=n'.val
 | .own (.bool b),.own (.bool b')=>b.val=b'.val
 | .xsl k es len cap f,.xsl k' es' len' cap' g=>k=k'∧es=es'∧len.val=len'.val∧cap.val=cap'.val∧∀ i,i<len.val*es→f i=g i
 | .val v,.val v'=>v=v'
 | .opq v,.opq v'=>v=v'
 | .osl k es len f,.osl k' es' len' g=>k=k'∧es=es'∧len.val=len'.val∧∀ i,i<len.val*es→f i=g i
 | .val v,.osl _ _ len _=>v=.slice none 0 0∧len.val=0
 | .sref s es off len _,.sref s' es' off' len' _=>s=s'∧es=es'∧off.val=off'.val∧len.val=len'.val
 | .otup k es len f ps,.otup k' es' len' g ps'=>k=k'∧es=es'∧len.val=len'.val∧(∀ i,i<len.val*es→f i=g i)∧ps=ps'
 | _,_=>False
def leSt:St→St→Prop
 | [],[]=>True
 | x :: S,y :: T=>leAV x y∧leSt S T
 | _,_=>False
def wfAV:AV→Prop
 | .int k n=>inR k n.val
 | .arr k n f=>∀ i,i<n→inR k (f i)
 | .own (.int k n)=>inR k n.val
 | .own (.arr k n f)=>∀ i,i<n→inR k (f i)
 | .xsl k es len _ f=>∀ i,i<len.val*es→inR k (f i)
 | .osl k es len f=>∀ i,i<len.val*es→inR k (f i)
 | .otup k es len f _=>∀ i,i<len.val*es→inR k (f i)
 | _=>True
def wfSt:St→Prop
 | []=>True
 | x :: S=>wfAV x∧wfSt S
def rounds (body:St→(Ex→St→Prop)→Prop) (Q:Ex→St→Prop):Nat→St→Prop
 | 0,_=>False
 | n+1,S=>body S (fun e S'=>match e with
  | .normal=>rounds body Q n S'
  | .exit id=>Q (.exit id) S'
  | .ret=>Q .ret S')
structure Later (p:Unit→Prop):Prop where
 run:p ()
def roundsL (body:St→(Ex→St→Prop)→Prop) (Q:Ex→St→Prop):Nat→St→Prop
 | 0,_=>False
 | n+1,S=>body S (fun e S'=>match e with
  | .normal=>Later fun _=>roundsL body Q n S'
  | .exit id=>Q (.exit id) S'
  | .ret=>Q .ret S')
def regKey (l:List SOp):Nat :=
 match l with
 | o :: _=>(match o.dst with
  | some d=>1000000+d
  | none=>999999)
 | []=>999999
noncomputable def regS (E:Env) (ds:List Nat) (l:List SOp) (S:St) (Q:Ex→St→Prop):Prop :=
 match run E l (kill ds S) with
 | some (cs,S')=>andAll cs (Q .normal S')
 | none=>False
noncomputable def regW (E:Env) (ds:List Nat) (l:List SOp) (S:St) (Q:Ex→St→Prop):Prop :=
 match E.loops (regKey l) with
 | .cut t =>
  (match get S t with
  | .bool (.sym p)=>(p=true→regS E ds l (S.set t (.bool (.lit true))) Q)∧(p=false→regS E ds l (S.set t (.bool (.lit false))) Q)
  | _=>regS E ds l S Q)
 | _=>regS E ds l S Q
def wpS (E:Env):SC→St→(Ex→St→Prop)→Prop
 | .skip,S,Q=>Q .normal S
 | .reg ds l,S,Q=>regW E ds l S Q
 | .seq a b,S,Q=>wpS E a S (fun e S'=>match e with
  | .normal=>wpS E b S' Q
  | .exit id=>Q (.exit id) S'
  | .ret=>Q .ret S')
 | .cond c a b,S,Q =>
  match opv S c with
  | .bool (.lit true)=>wpS E a S Q
  | .bool (.lit false)=>wpS E b S Q
  | .bool (.sym p)=>(p=true→wpS E a S Q)∧(p=false→wpS E b S Q)
  | _=>False
 | .block id c,S,Q=>wpS E c S (fun e S'=>match e with
  | .normal=>Q .normal S'
  | .exit id'=>if id'=id then Q .normal S' else Q (.exit id') S'
  | .ret=>Q .ret S')
 | .loop id c,S,Q =>
  match E.loops id with
  | .unroll n=>rounds (wpS E c) Q n S
  | .cut n=>Later fun _=>roundsL (wpS E c) Q n S
  | .inv α st μ=>(∃ a:α,leSt S (st a))∧∀ a:α,wfSt (st a)→wpS E c (st a) (fun e S'=>match e with
   | .normal=>∃ a',leSt S' (st a')∧μ a'<μ a
   | .exit id=>Q (.exit id) S'
   | .ret=>Q .ret S')
  | .invd α st μ=>(∃ a:α,leSt S (st S a))∧∀ a:α,wfSt (st S a)→wpS E c (st S a) (fun e S'=>match e with
   | .normal=>∃ a',leSt S' (st S a')∧μ a'<μ a
   | .exit id=>Q (.exit id) S'
   | .ret=>Q .ret S')
 | .exit id,S,Q=>Q (.exit id) S
 | .ret,S,Q=>Q .ret S
 | .bad,_,_=>False
def keepS (S:St) (ks:List Nat):List (Nat × AV):=ks.map fun k=>(k,get S k)
def natIn (S:St) (k:Nat):Nat :=
 match get S k with
 | .int _ n=>n.val.toNat
 | _=>0
def slots (n:Nat) (l:List (Nat × AV)):St:=app l (List.replicate n .junk)
end Sx

namespace Sx
open Go Go.RowKit
def cellsA (k:IntKind) (n:Nat) (f:Nat→Int):Array Value:=(Array.range n).map fun i=>.int k (f i)
@[simp] theorem size_cellsA (k:IntKind) (n:Nat) (f:Nat→Int):(cellsA k n f).size=n:=by simp [cellsA]
theorem cellsA_get (k:IntKind) (n:Nat) (f:Nat→Int) (i:Nat) (h:i<n):(cellsA k n f)[i]?=some (.int k (f i)):=by
 simp [cellsA,h]
theorem cellsA_congr {k:IntKind} {n:Nat} {f g:Nat→Int} (h:∀ i,i<n→f i=g i):cellsA k n f=cellsA k n g:=by
 apply Array.ext
 ·simp
 ·intro i h1 h2
  simp at h1
  simp [cellsA,h i h1]
def pv:AV→Value
 | .int k n=>.int k n.val
 | .bool b=>.bool b.val
 | .arr k n f=>.agg (cellsA k n f)
 | .val v=>v
 | .opq v=>v
 | _=>undef
def cellsOf:AV→Array Value
 | .int k n=>#[.int k n.val]
 | .bool b=>#[.bool b.val]
 | .arr k n f=>cellsA k n f
 | .opq v=>v.cells
 | _=>#[]
abbrev M:=Nat→Nat × Nat
def SL (p:Nat × Nat) (len:Nat) (a:Option Addr) (c:Nat):Prop:=(∀ aa,a=some aa→aa=⟨p.1,0,none⟩∧p.2=0)∧(a=none→len=0)∧len≤c∧c≤capMax
def lv:Value→Value
 | .tuple vs=>vs.getD 0 undef
 | v=>v
def lcells (k:IntKind) (n:Nat) (f:Nat→Int):List Value:=(List.range n).map fun j=>.int k (f j)
def VR (m:M) (i:Nat):AV→Value→Prop
 | .junk,_=>True
 | .int k n,v=>v=.int k n.val
 | .bool b,v=>v=.bool b.val
 | .arr k n f,v=>v=.agg (cellsA k n f)
 | .val u,v=>v=u
 | .opq u,v=>v=u
 | .tup ps,v=>v=.tuple (ps.map pv).toArray∧ps.all plain=true
 | .own x,v=>v=.pointer (some ⟨(m i).1,(m i).2,none⟩)∧plain x=true
 | .ref s off,v=>v=.pointer (some ⟨(m s).1,(m s).2+off.val,none⟩)
 | .gref g off,v=>v=.pointer (some ⟨g,off.val,none⟩)
 | .sref s _ off len _,v=>∃ a c,v=.slice a len.val c∧(0<len.val→a=some ⟨(m s).1,(m s).2+off.val,none⟩)∧len.val≤c∧c≤capMax
 | .xsl _ _ len _ _,v=>∃ a c,v=.slice a len.val c∧(0<len.val→a=some ⟨(m i).1,(m i).2,none⟩)∧len.val≤c∧c≤capMax
 | .osl _ _ len _,v=>∃ a c,v=.slice a len.val c∧SL (m i) len.val a c
 | .otup _ _ len _ ps,v=>∃ a c,v=.tuple (.slice a len.val c :: ps.map pv).toArray∧SL (m i) len.val a c∧ps.all plain=true
 | .xref s off,v=>v=.pointer (some ⟨(m s).1,(m s).2+off.val,none⟩)
 | .when ..,_=>True
def wfP:AV→Prop
 | .int k n=>inR k n.val
 | .arr k n f=>∀ i,i<n→inR k (f i)
 | _=>True
def wfV:AV→Prop
 | .int k n=>inR k n.val
 | .arr k n f=>∀ i,i<n→inR k (f i)
 | .own x=>wfP x
 | .tup ps=>∀ x ∈ ps,wfP x
 | .xsl k es len _ f=>∀ i,i<len.val*es→inR k (f i)
 | .osl k es len f=>∀ i,i<len.val*es→inR k (f i)
 | .otup k es len f ps=>(∀ i,i<len.val*es→inR k (f i))∧∀ x ∈ ps,wfP x
 | _=>True
def OKV (S:St) (m:M) (i:Nat) (x:AV) (v:Value):Prop :=
 match x with
 | .when g b y=>∀ c,get S g=.bool c→c.val=b→VR m i y v∧wfV y∧light y=true
 | x=>VR m i x v∧wfV x
structure Rel (w0:World) (m:M) (S:St) (a:Act) (w:World):Prop where
 defers:a.defers=[]
 size:a.tmps.size=S.length
 below:Below w0.heap.size w0 w
 vals:∀ i,i<S.length→OKV S m i (get S i) (a.tmps.getD i undef)
 blks:∀ i x,get S i=.own x→w0.heap.size≤(m i).1∧(m i).2=0∧∃ T,w.heap[(m i).1]?=some (.cells (cellsOf x) T (0,0))
 inj:∀ i j x y,get S i=.own x→get S j=.own y→(m i).1=(m j).1→i=j
 xsls:∀ i k es len cap f,get S i=.xsl k es len cap f→∀ j,j<len.val*es→w0.cell? ⟨(m i).1,(m i).2+j,none⟩=some (.int k (f j))
 lsts:∀ i k es len f,lst? (get S i)=some (k,es,len,f)→∃ e,w.ownsRow w0.heap.size e es (lv (a.tmps.getD i undef)) len.val (lcells k (len.val*es) f)
 inj1:∀ i j x y b,get S i=.own x→lst? (get S j)=some y→(lv (a.tmps.getD j undef)).ownBlock=some b→(m i).1≠b
 inj2:∀ i j x y b,i≠j→lst? (get S i)=some x→lst? (get S j)=some y→(lv (a.tmps.getD i undef)).ownBlock=some b→(lv (a.tmps.getD j undef)).ownBlock≠some b
theorem grownBy_setRow (w:World) (g:Nat) (cs:Array Value):w.grownBy (w.setRow g cs) (some g) :=
 ⟨rfl,rfl,rfl,by simp,fun k _ hk=>setRow_other w g k cs (fun e=>hk (by rw [e]))⟩
theorem grownBy_below {w w':World} (h:Below w.heap.size w w'):w.grownBy w' none:=⟨h.os,h.tape,h.output,h.size,fun k hk _=>h.block k hk⟩
theorem get_lt {S:St} {i:Nat} (h:get S i≠.junk):i<S.length:=by
 rcases Nat.lt_or_ge i S.length with h' | h'
 ·exact h'
 ·exact absurd (by simp [get,List.getElem?_eq_none h']) h
theorem get_set_same {S:St} {i:Nat} {x:AV} (h:i<S.length):get (S.set i x) i=x:=by
 simp [get,h]
theorem get_set_ne {S:St} {i j:Nat} {x:AV} (h:i≠j):get (S.set i x) j=get S j:=by
 simp [get,List.getElem?_set_ne h]
def nr (d:Nat):AV→Prop
 | .ref s _=>s≠d
 | .sref s _ _ _ _=>s≠d
 | .xref s _=>s≠d
 | .when _ _ v=>nr d v
 | _=>True
def noRef (d:Nat) (S:St):Prop:=∀ i,nr d (get S i)
def noWhen (d:Nat) (S:St):Prop:=∀ i g b y,get S i=.when g b y→g≠d
theorem tmps_put (a:Act) (d:Nat) (v:Value) (i:Nat):(a.put (some d) v).tmps.getD i undef=if i=d∧i<a.tmps.size then v else a.tmps.getD i undef:=by
 simp only [Act.put,Array.getD_eq_getD_getElem?,Array.getElem?_setIfInBounds]
 by_cases h:i=d
 ·subst h
  by_cases h2:i<a.tmps.size
  ·simp [h2]
  ·simp [h2]
 ·rw [if_neg (fun e=>h e.symm),if_neg (fun e=>h e.1)]
theorem Rel.put {w0:World} {m:M} {S:St} {a:Act} {w:World} (R:Rel w0 m S a w) (d:Nat) (x:AV) (v:Value)
  (hx:∀ y,x≠.own y) (hx2:∀ k es len cap f,x≠.xsl k es len cap f) (hx3:lst? x=none) (hv:d<S.length→OKV (S.set d x) m d x v) (hw:noWhen d S) :
  Rel w0 m (S.set d x) (a.put (some d) v) w:=by
 have hget:∀ i,get (S.set d x) i=if i=d∧i<S.length then x else get S i:=by
  intro i
  by_cases h:i=d
  ·subst h
   by_cases h2:i<S.length
   ·rw [get_set_same h2,if_pos ⟨rfl,h2⟩]
   ·rw [if_neg (fun e=>h2 e.2)];simp [get,h2]
  ·rw [get_set_ne (fun e=>h e.symm),if_neg (fun e=>h e.1)]
 have hl:∀ i y,lst? (get (S.set d x) i)=some y→lst? (get S i)=some y∧(a.put (some d) v).tmps.getD i undef=a.tmps.getD i undef:=by
  intro i y hi
  rw [hget] at hi
  split at hi
  ·rw [hx3] at hi;cases hi
  ·rename_i hne
   exact ⟨hi,by rw [tmps_put,if_neg (by rw [R.size];exact hne)]⟩
 refine ⟨R.defers,by simpa [Act.put] using R.size,R.below,?_,?_,?_,?_,?_,?_,?_⟩
 ·intro i hi
  simp only [List.length_set] at hi
  rw [tmps_put,R.size]
  by_cases h:i=d
  ·subst h
   rw [get_set_same hi,if_pos ⟨rfl,hi⟩]
   exact hv hi
  ·rw [get_set_ne (fun e=>h e.symm),if_neg (fun e=>h e.1)]
   have h0:=R.vals i hi
   unfold OKV at h0 ⊢
   split
   ·rename_i g b y he
    rw [he] at h0
    intro c hc
    have hg:g≠d:=hw i g b y he
    rw [get_set_ne (fun e=>hg e.symm)] at hc
    exact h0 c hc
   ·rename_i hne
    revert h0
    split
    ·rename_i g b y he;exact absurd he (hne g b y)
    ·exact id
 ·intro i y hi
  rw [hget] at hi
  split at hi
  ·exact absurd hi (hx y)
  ·exact R.blks i y hi
 ·intro i j y z hi hj
  rw [hget] at hi hj
  split at hi
  ·exact absurd hi (hx y)
  ·split at hj
   ·exact absurd hj (hx z)
   ·exact R.inj i j y z hi hj
 ·intro i k es len cap f hi
  rw [hget] at hi
  split at hi
  ·exact absurd hi (hx2 k es len cap f)
  ·exact R.xsls i k es len cap f hi
 ·intro i k es len f hi
  obtain ⟨h1,h2⟩:=hl i _ hi
  rw [h2]
  exact R.lsts i k es len f h1
 ·intro i j y z b hi hj hb
  obtain ⟨h1,h2⟩:=hl j _ hj
  rw [h2] at hb
  rw [hget] at hi
  split at hi
  ·exact absurd hi (hx y)
  ·exact R.inj1 i j y z b hi h1 hb
 ·intro i j y z b hij hi hj hb
  obtain ⟨h1,h2⟩:=hl i _ hi
  obtain ⟨h3,h4⟩:=hl j _ hj
  rw [h2] at hb
  rw [h4]
  exact R.inj2 i j y z b hij h1 h3 hb
theorem get_set {S:St} {d:Nat} {x:AV} (i:Nat):get (S.set d x) i=if i=d∧i<S.length then x else get S i:=by
 by_cases h:i=d
 ·subst h
  by_cases h2:i<S.length
  ·rw [get_set_same h2,if_pos ⟨rfl,h2⟩]
  ·rw [if_neg (fun e=>h2 e.2)];simp [get,h2]
 ·rw [get_set_ne (fun e=>h e.symm),if_neg (fun e=>h e.1)]
def mset (m:M) (d:Nat) (p:Nat × Nat):M:=fun i=>if i=d then p else m i
theorem mset_same (m:M) (d:Nat) (p:Nat × Nat):mset m d p d=p:=by simp [mset]
theorem mset_ne (m:M) {d i:Nat} (p:Nat × Nat) (h:i≠d):mset m d p i=m i:=by simp [mset,h]
theorem VR_mset {m:M} {d:Nat} {p:Nat × Nat} {i:Nat} {x:AV} {v:Value} (hi:i≠d)
  (hr:match x with
   | .ref s _=>s≠d
   | .sref s _ _ _ _=>s≠d
   | .xref s _=>s≠d
   | _=>True) (h:VR m i x v):VR (mset m d p) i x v:=by
 cases x <;> simp only [VR] at h ⊢ <;> first | exact h | (rw [mset_ne m p hi];exact h) | (rw [mset_ne m p hr];exact h)
theorem Rel.alloc {w0:World} {m:M} {S:St} {a:Act} {w:World} (R:Rel w0 m S a w) (d:Nat) (x:AV) (T:TypeId)
  (hx:plain x=true) (hwf:wfP x) (hr:noRef d S) (hw:noWhen d S) :
  Rel w0 (mset m d (w.heap.size,0)) (S.set d (.own x)) (a.put (some d) (.pointer (some ⟨w.heap.size,0,none⟩))) (w.alloc (.cells (cellsOf x) T)):=by
 have hN:w0.heap.size≤w.heap.size:=R.below.size
 have hl:∀ i y,lst? (get (S.set d (.own x)) i)=some y→i≠d∧lst? (get S i)=some y∧(a.put (some d) (.pointer (some ⟨w.heap.size,0,none⟩))).tmps.getD i undef=a.tmps.getD i undef:=by
  intro i y hi
  rw [get_set] at hi
  split at hi
  ·cases hi
  ·rename_i hne
   have hlt:i<S.length:=get_lt (by intro e;rw [e] at hi;cases hi)
   have hid:i≠d:=fun e=>hne ⟨e,hlt⟩
   exact ⟨hid,hi,by rw [tmps_put,if_neg (fun e=>hid e.1)]⟩
 refine ⟨R.defers,by simpa [Act.put] using R.size,R.below.alloc hN _,?_,?_,?_,?_,?_,?_,?_⟩
 ·intro i hi
  simp only [List.length_set] at hi
  rw [tmps_put,R.size]
  by_cases h:i=d
  ·subst h
   rw [get_set_same hi,if_pos ⟨rfl,hi⟩]
   simp only [OKV,VR,mset_same,wfV]
   exact ⟨⟨trivial,hx⟩,hwf⟩
  ·rw [get_set_ne (fun e=>h e.symm),if_neg (fun e=>h e.1)]
   have h0:=R.vals i hi
   have hri:=hr i
   unfold OKV at h0 ⊢
   split
   ·rename_i g b y he
    rw [he] at h0 hri
    simp only [nr] at hri
    intro c hc hcv
    have hg:g≠d:=hw i g b y he
    rw [get_set_ne (fun e=>hg e.symm)] at hc
    obtain ⟨h1,h2,h3⟩:=h0 c hc hcv
    refine ⟨VR_mset h ?_ h1,h2,h3⟩
    cases y <;> first | exact hri | trivial
   ·rename_i hne
    revert h0
    split
    ·rename_i g b y he;exact absurd he (hne g b y)
    ·intro h0
     refine ⟨VR_mset h ?_ h0.1,h0.2⟩
     revert hri
     cases get S i <;> intro hri <;> first | exact hri | trivial
 ·intro i y hi
  rw [get_set] at hi
  split at hi
  ·rename_i he
   obtain ⟨rfl,_⟩:=he
   cases hi
   simp only [mset_same]
   exact ⟨hN,trivial,T,heap_alloc_new w _⟩
  ·rename_i he
   have hid:i≠d∨¬ i<S.length:=by
    by_cases h:i=d
    ·exact .inr (fun h2=>he ⟨h,h2⟩)
    ·exact .inl h
   have hlt:i<S.length:=get_lt (by rw [hi];simp)
   have hne:i≠d:=hid.resolve_right (fun h=>h hlt)
   rw [mset_ne m _ hne]
   obtain ⟨b1,b2,T',b3⟩:=R.blks i y hi
   refine ⟨b1,b2,T',?_⟩
   rw [heap_alloc_old w _ _ ?_]
   ·exact b3
   ·exact (Array.getElem?_eq_some_iff.1 b3).1
 ·intro i j y z hi hj
  have key:∀ i y,get (S.set d (.own x)) i=.own y→(i=d∧i<S.length)∨(i≠d∧get S i=.own y):=by
   intro i y hi
   rw [get_set] at hi
   split at hi
   ·rename_i he;exact .inl he
   ·rename_i he
    have hlt:i<S.length:=get_lt (by rw [hi];simp)
    exact .inr ⟨fun h=>he ⟨h,hlt⟩,hi⟩
  have old:∀ i y,get S i=.own y→(m i).1<w.heap.size:=by
   intro i y hi
   obtain ⟨_,_,T',b3⟩:=R.blks i y hi
   exact (Array.getElem?_eq_some_iff.1 b3).1
  rcases key i y hi with ⟨rfl,_⟩ | ⟨hi1,hi2⟩
  ·rcases key j z hj with ⟨rfl,_⟩ | ⟨hj1,hj2⟩
   ·intro _;rfl
   ·rw [mset_same,mset_ne m _ hj1]
    intro he
    have:=old j z hj2
    simp at he
    omega
  ·rcases key j z hj with ⟨rfl,_⟩ | ⟨hj1,hj2⟩
   ·rw [mset_same,mset_ne m _ hi1]
    intro he
    have:=old i y hi2
    simp at he
    omega
   ·rw [mset_ne m _ hi1,mset_ne m _ hj1]
    exact R.inj i j y z hi2 hj2
 ·intro i k es len cap f hi
  rw [get_set] at hi
  split at hi
  ·cases hi
  ·rename_i he
   have hlt:i<S.length:=get_lt (by rw [hi];simp)
   rw [mset_ne m _ (fun h=>he ⟨h,hlt⟩)]
   exact R.xsls i k es len cap f hi
 ·intro i k es len f hi
  obtain ⟨_,h1,h2⟩:=hl i _ hi
  rw [h2]
  obtain ⟨e,h3⟩:=R.lsts i k es len f h1
  exact ⟨e,h3.alloc _⟩
 ·intro i j y z b hi hj hb
  obtain ⟨hjd,h1,h2⟩:=hl j _ hj
  rw [h2] at hb
  obtain ⟨zk,ze,zl,zf⟩:=z
  obtain ⟨e,h3⟩:=R.lsts j zk ze zl zf h1
  have hlt:=h3.lt b hb
  rw [get_set] at hi
  split at hi
  ·rename_i he
   obtain ⟨rfl,_⟩:=he
   rw [mset_same]
   intro h
   simp only at h
   omega
  ·rename_i he
   have hi':i<S.length:=get_lt (by rw [hi];simp)
   rw [mset_ne m _ (fun h=>he ⟨h,hi'⟩)]
   exact R.inj1 i j y _ b hi h1 hb
 ·intro i j y z b hij hi hj hb
  obtain ⟨_,h1,h2⟩:=hl i _ hi
  obtain ⟨_,h3,h4⟩:=hl j _ hj
  rw [h2] at hb
  rw [h4]
  exact R.inj2 i j y z b hij h1 h3 hb
theorem Rel.store {w0:World} {m:M} {S:St} {a:Act} {w:World} (R:Rel w0 m S a w) (s:Nat) (x x':AV) (hs:get S s=.own x)
  (hx:plain x'=true) (hwf:wfP x'):Rel w0 m (S.set s (.own x')) a (w.setRow (m s).1 (cellsOf x')):=by
 obtain ⟨b1,b2,T,b3⟩:=R.blks s x hs
 have hlt:s<S.length:=get_lt (by rw [hs];simp)
 have hl:∀ i y,lst? (get (S.set s (.own x')) i)=some y→lst? (get S i)=some y:=by
  intro i y hi
  rw [get_set] at hi
  split at hi
  ·cases hi
  ·exact hi
 refine ⟨R.defers,by simpa using R.size,?_,?_,?_,?_,?_,?_,?_,?_⟩
 ·refine R.below.trans ⟨rfl,rfl,rfl,by simp,fun k hk=>?_⟩
  exact setRow_other _ _ _ _ (by omega)
 ·intro i hi
  simp only [List.length_set] at hi
  have h0:=R.vals i hi
  by_cases h:i=s
  ·subst h
   rw [get_set_same hi]
   rw [hs] at h0
   simp only [OKV,VR,wfV] at h0 ⊢
   exact ⟨⟨h0.1.1,hx⟩,hwf⟩
  ·rw [get_set_ne (fun e=>h e.symm)]
   unfold OKV at h0 ⊢
   split
   ·rename_i g b y he
    rw [he] at h0
    intro c hc
    by_cases hg:s=g
    ·subst hg
     rw [get_set_same hlt] at hc
     cases hc
    ·rw [get_set_ne hg] at hc
     exact h0 c hc
   ·rename_i hne
    revert h0
    split
    ·rename_i g b y he;exact absurd he (hne g b y)
    ·exact id
 ·intro i y hi
  rw [get_set] at hi
  split at hi
  ·rename_i he
   obtain ⟨rfl,_⟩:=he
   cases hi
   exact ⟨b1,b2,T,setRow_heap w _ _ _ _ _ b3⟩
  ·rename_i he
   have hne:i≠s:=by
    intro h;subst h
    exact he ⟨rfl,hlt⟩
   obtain ⟨c1,c2,T',c3⟩:=R.blks i y hi
   refine ⟨c1,c2,T',?_⟩
   rw [setRow_other]
   ·exact c3
   ·intro h
    exact hne (R.inj i s y x hi hs h)
 ·intro i j y z hi hj
  have key:∀ i y,get (S.set s (.own x')) i=.own y→∃ y',get S i=.own y':=by
   intro i y hi
   rw [get_set] at hi
   split at hi
   ·rename_i he;obtain ⟨rfl,_⟩:=he;exact ⟨_,hs⟩
   ·exact ⟨_,hi⟩
  obtain ⟨y',hy⟩:=key i y hi
  obtain ⟨z',hz⟩:=key j z hj
  exact R.inj i j y' z' hy hz
 ·intro i k es len cap f hi
  rw [get_set] at hi
  split at hi
  ·cases hi
  ·exact R.xsls i k es len cap f hi
 ·intro i k es len f hi
  obtain ⟨e,h3⟩:=R.lsts i k es len f (hl i _ hi)
  refine ⟨e,h3.kept (grownBy_setRow w (m s).1 _) ?_⟩
  cases hb:(lv (a.tmps.getD i undef)).ownBlock with
  | none=>exact .inl rfl
  | some b=>exact .inr (fun e=>R.inj1 s i x _ b hs (hl i _ hi) hb (by simpa using e.symm))
 ·intro i j y z b hi hj hb
  have key:∃ y',get S i=.own y':=by
   rw [get_set] at hi
   split at hi
   ·rename_i he;obtain ⟨rfl,_⟩:=he;exact ⟨_,hs⟩
   ·exact ⟨_,hi⟩
  obtain ⟨y',hy⟩:=key
  exact R.inj1 i j y' z b hy (hl j _ hj) hb
 ·intro i j y z b hij hi hj hb
  exact R.inj2 i j y z b hij (hl i _ hi) (hl j _ hj) hb
theorem Rel.later {w0:World} {m:M} {S:St} {a:Act} {w w':World} (R:Rel w0 m S a w) (h:Below w.heap.size w w'):Rel w0 m S a w':=by
 refine ⟨R.defers,R.size,R.below.trans (h.mono R.below.size),R.vals,?_,R.inj,R.xsls,?_,R.inj1,R.inj2⟩
 ·intro i x hi
  obtain ⟨b1,b2,T,b3⟩:=R.blks i x hi
  refine ⟨b1,b2,T,?_⟩
  rw [h.block _ (Array.getElem?_eq_some_iff.1 b3).1]
  exact b3
 ·intro i k es len f hi
  obtain ⟨e,h3⟩:=R.lsts i k es len f hi
  exact ⟨e,h3.kept (grownBy_below h) (by cases (lv (a.tmps.getD i undef)).ownBlock <;> simp)⟩
theorem lst_cases {x:AV} {y:IntKind × Nat × SO × (Nat→Int)} (h:lst? x=some y):(∃ k es len f,x=.osl k es len f∧y=(k,es,len,f))∨∃ k es len f ps,x=.otup k es len f ps∧y=(k,es,len,f):=by
 cases x <;> simp [lst?] at h <;> subst h
 ·exact .inl ⟨_,_,_,_,rfl,rfl⟩
 ·exact .inr ⟨_,_,_,_,_,rfl,rfl⟩
theorem Rel.forget {w0:World} {m:M} {S:St} {a:Act} {w:World} (R:Rel w0 m S a w) (t:Nat):Rel w0 m (S.set t .junk) a w:=by
 have hg:∀ i x,get (S.set t .junk) i=x→x≠.junk→get S i=x:=by
  intro i x hi hx
  rw [get_set] at hi
  split at hi
  ·exact absurd hi.symm hx
  ·exact hi
 have hl:∀ i y,lst? (get (S.set t .junk) i)=some y→lst? (get S i)=some y:=by
  intro i y hi
  rw [get_set] at hi
  split at hi
  ·cases hi
  ·exact hi
 refine ⟨R.defers,by simpa using R.size,R.below,?_,?_,?_,?_,?_,?_,?_⟩
 ·intro i hi
  simp only [List.length_set] at hi
  have h0:=R.vals i hi
  rw [get_set]
  split
  ·exact ⟨trivial,trivial⟩
  ·unfold OKV at h0 ⊢
   split
   ·rename_i g b y he
    rw [he] at h0
    intro c hc
    exact h0 c (hg g _ hc (by simp))
   ·rename_i hne
    revert h0
    split
    ·rename_i g b y he;exact absurd he (hne g b y)
    ·exact id
 ·exact fun i x hi=>R.blks i x (hg i _ hi (by simp))
 ·exact fun i j x y hi hj=>R.inj i j x y (hg i _ hi (by simp)) (hg j _ hj (by simp))
 ·exact fun i k es len cap f hi=>R.xsls i k es len cap f (hg i _ hi (by simp))
 ·exact fun i k es len f hi=>R.lsts i k es len f (hl i _ hi)
 ·exact fun i j x y b hi hj hb=>R.inj1 i j x y b (hg i _ hi (by simp)) (hl j _ hj) hb
 ·exact fun i j x y b hij hi hj hb=>R.inj2 i j x y b hij (hl i _ hi) (hl j _ hj) hb
structure Loose (m:M) (S:St) (a:Act) (b:Nat):Prop where
 own:∀ i x,get S i=.own x→(m i).1≠b
 lst:∀ i y,lst? (get S i)=some y→(lv (a.tmps.getD i undef)).ownBlock≠some b
theorem Rel.loose {w0:World} {m:M} {S:St} {a:Act} {w:World} (R:Rel w0 m S a w) {b:Nat} (hb:w.heap.size≤b):Loose m S a b:=by
 refine ⟨fun i x hi he=>?_,fun i y hi he=>?_⟩
 ·obtain ⟨_,_,T,h⟩:=R.blks i x hi
  have:=(Array.getElem?_eq_some_iff.1 h).1
  omega
 ·obtain ⟨k,es,len,f⟩:=y
  obtain ⟨e,h⟩:=R.lsts i k es len f hi
  have:=h.lt b he
  omega
def blk (v:Value):Nat × Nat:=match v.ownBlock with | some b=>(b,0) | none=>(0,0)
theorem owns_SL {w:World} {B:Nat} {e:TypeId} {es:Nat} {v:Value} {n:Nat} {xs:List Value} (h:w.ownsRow B e es v n xs):∃ a c,v=.slice a n c∧SL (blk v) n a c:=by
 rcases h.2 with ⟨rfl,rfl⟩ | ⟨g,cap,cur,rfl,_,_,h1,h2,_⟩
 ·refine ⟨none,0,rfl,?_⟩
  unfold SL
  exact ⟨(fun aa e=>by cases e),fun _=>rfl,Nat.le_refl _,Nat.zero_le _⟩
 ·refine ⟨_,cap,rfl,?_⟩
  unfold SL
  refine ⟨fun aa e=>?_,(fun e=>by cases e),h1,by simpa [maxLen,capMax] using h2⟩
  cases e
  exact ⟨rfl,rfl⟩
theorem Rel.made {w0:World} {m:M} {S:St} {a:Act} {w w':World} (R:Rel w0 m S a w) (d:Nat) (x:AV) {k:IntKind} {es:Nat} {len:SO} {f:Nat→Int} (vx:Value)
  (hx:lst? x=some (k,es,len,f)) {e:TypeId} (ho:w'.ownsRow w0.heap.size e es (lv vx) len.val (lcells k (len.val*es) f))
  {row:Option Nat} (hgr:w.grownBy w' row) (hrow:∀ b,row=some b→w0.heap.size≤b∧Loose m S a b) (hb:∀ b,(lv vx).ownBlock=some b→Loose m S a b)
  (hv:VR (mset m d (blk (lv vx))) d x vx) (hwf:wfV x) (hr:noRef d S) (hw:noWhen d S) :
  Rel w0 (mset m d (blk (lv vx))) (S.set d x) (a.put (some d) vx) w':=by
 have hxo:∀ y,x≠.own y:=by intro y e;subst e;cases hx
 have hxs:∀ k es len cap f,x≠.xsl k es len cap f:=by intro k es len cap f e;subst e;cases hx
 have hxw:∀ g b y,x≠.when g b y:=by intro g b y e;subst e;cases hx
 have hxj:x≠.junk:=by intro e;subst e;cases hx
 have other:∀ i y,get (S.set d x) i=y→i≠d→get S i=y:=by
  intro i y hi hne
  rw [get_set_ne (fun e=>hne e.symm)] at hi
  exact hi
 have tmp:∀ i,i≠d→(a.put (some d) vx).tmps.getD i undef=a.tmps.getD i undef:=fun i hi=>by rw [tmps_put,if_neg (fun e=>hi e.1)]
 have tmpd:d<S.length→(a.put (some d) vx).tmps.getD d undef=vx:=fun hd=>by rw [tmps_put,R.size,if_pos ⟨rfl,hd⟩]
 have hbel:Below w0.heap.size w0 w':=by
  refine R.below.trans ⟨hgr.os,hgr.tape,hgr.output,hgr.size,fun k hk=>hgr.block k (by have:=R.below.size;omega) ?_⟩
  intro e
  have:=(hrow k e.symm).1
  omega
 have ownd:∀ i y,get (S.set d x) i=.own y→i≠d∧get S i=.own y:=by
  intro i y hi
  by_cases h:i=d
  ·subst h
   rw [get_set] at hi
   split at hi
   ·exact absurd hi (hxo y)
   ·rename_i hne
    exact absurd ⟨rfl,get_lt (by rw [hi];simp)⟩ hne
  ·exact ⟨h,other i _ hi h⟩
 have lstd:∀ i y,lst? (get (S.set d x) i)=some y→(i=d∧d<S.length∧y=(k,es,len,f))∨(i≠d∧lst? (get S i)=some y):=by
  intro i y hi
  by_cases h:i=d
  ·subst h
   rw [get_set] at hi
   split at hi
   ·rename_i hh
    rw [hx] at hi
    cases hi
    exact .inl ⟨rfl,hh.2,rfl⟩
   ·rename_i hne
    exact absurd ⟨rfl,get_lt (by intro e;rw [e] at hi;cases hi)⟩ hne
  ·rw [get_set_ne (fun e=>h e.symm)] at hi
   exact .inr ⟨h,hi⟩
 refine ⟨R.defers,by simpa [Act.put] using R.size,hbel,?_,?_,?_,?_,?_,?_,?_⟩
 ·intro i hi
  simp only [List.length_set] at hi
  by_cases h:i=d
  ·subst h
   rw [get_set_same hi,tmpd hi]
   unfold OKV
   split
   ·exact absurd rfl (hxw _ _ _)
   ·exact ⟨hv,hwf⟩
  ·rw [get_set_ne (fun e=>h e.symm),tmp i h]
   have h0:=R.vals i hi
   have hri:=hr i
   unfold OKV at h0 ⊢
   split
   ·rename_i g b y he
    rw [he] at h0 hri
    simp only [nr] at hri
    intro c hc hcv
    have hg:g≠d:=hw i g b y he
    rw [get_set_ne (fun e=>hg e.symm)] at hc
    obtain ⟨h1,h2,h3⟩:=h0 c hc hcv
    refine ⟨VR_mset h ?_ h1,h2,h3⟩
    cases y <;> first | exact hri | trivial
   ·rename_i hne
    revert h0
    split
    ·rename_i g b y he;exact absurd he (hne g b y)
    ·intro h0
     refine ⟨VR_mset h ?_ h0.1,h0.2⟩
     revert hri
     cases get S i <;> intro hri <;> first | exact hri | trivial
 ·intro i y hi
  obtain ⟨hid,hi'⟩:=ownd i y hi
  obtain ⟨b1,b2,T,b3⟩:=R.blks i y hi'
  rw [mset_ne m _ hid]
  refine ⟨b1,b2,T,?_⟩
  rw [hgr.block _ (Array.getElem?_eq_some_iff.1 b3).1]
  ·exact b3
  ·intro e
   exact (hrow _ e.symm).2.own i y hi' rfl
 ·intro i j y z hi hj
  obtain ⟨hid,hi'⟩:=ownd i y hi
  obtain ⟨hjd,hj'⟩:=ownd j z hj
  rw [mset_ne m _ hid,mset_ne m _ hjd]
  exact R.inj i j y z hi' hj'
 ·intro i k es len cap f hi
  have hid:i≠d:=by
   intro h;subst h
   rw [get_set] at hi
   split at hi
   ·exact absurd hi (hxs _ _ _ _ _)
   ·rename_i hne
    exact absurd ⟨rfl,get_lt (by rw [hi];simp)⟩ hne
  rw [mset_ne m _ hid]
  exact R.xsls i k es len cap f (other i _ hi hid)
 ·intro i k' es' len' f' hi
  rcases lstd i _ hi with ⟨rfl,hlt,he⟩ | ⟨hid,hi'⟩
  ·cases he
   rw [tmpd hlt]
   exact ⟨e,ho⟩
  ·rw [tmp i hid]
   obtain ⟨e',h3⟩:=R.lsts i k' es' len' f' hi'
   refine ⟨e',h3.kept hgr ?_⟩
   cases hbb:(lv (a.tmps.getD i undef)).ownBlock with
   | none=>exact .inl rfl
   | some b=>exact .inr (fun e=>(hrow b e.symm).2.lst i _ hi' hbb)
 ·intro i j y z b hi hj hbb
  obtain ⟨hid,hi'⟩:=ownd i y hi
  rw [mset_ne m _ hid]
  rcases lstd j _ hj with ⟨rfl,hlt,he⟩ | ⟨hjd,hj'⟩
  ·rw [tmpd hlt] at hbb
   exact (hb b hbb).own i y hi'
  ·rw [tmp j hjd] at hbb
   exact R.inj1 i j y z b hi' hj' hbb
 ·intro i j y z b hij hi hj hbb
  rcases lstd i _ hi with ⟨rfl,hlt,he⟩ | ⟨hid,hi'⟩
  ·rw [tmpd hlt] at hbb
   rcases lstd j _ hj with ⟨rfl,_,_⟩ | ⟨hjd,hj'⟩
   ·exact absurd rfl hij
   ·rw [tmp j hjd]
    exact (hb b hbb).lst j z hj'
  ·rw [tmp i hid] at hbb
   rcases lstd j _ hj with ⟨rfl,hlt,he⟩ | ⟨hjd,hj'⟩
   ·rw [tmpd hlt]
    intro hbb2
    exact (hb b hbb2).lst i y hi' hbb
   ·rw [tmp j hjd]
    exact R.inj2 i j y z b hij hi' hj' hbb
theorem Rel.hand {w0:World} {m:M} {S:St} {a:Act} {w:World} (R:Rel w0 m S a w) {d t:Nat} {y:IntKind × Nat × SO × (Nat→Int)} (hy:lst? (get S t)=some y) (hdt:d≠t) (hr:noRef d S) (hw:noWhen d S) :
  Rel w0 (mset m d (blk (lv (a.tmps.getD t undef)))) ((S.set t .junk).set d (get S t)) (a.put (some d) (a.tmps.getD t undef)) w:=by
 obtain ⟨k,es,len,f⟩:=y
 obtain ⟨e,ho⟩:=R.lsts t k es len f hy
 have htl:t<S.length:=get_lt (by intro e;rw [e] at hy;cases hy)
 have h0:=R.vals t htl
 have hok:VR m t (get S t) (a.tmps.getD t undef)∧wfV (get S t):=by
  revert h0
  unfold OKV
  split
  ·rename_i g b z he;rw [he] at hy;cases hy
  ·exact id
 have hgt:∀ i x,get (S.set t .junk) i=x→x≠.junk→i≠t∧get S i=x:=by
  intro i x hi hx
  by_cases h:i=t
  ·subst h
   rw [get_set_same htl] at hi
   exact absurd hi.symm hx
  ·rw [get_set_ne (fun e=>h e.symm)] at hi
   exact ⟨h,hi⟩
 have hlt:∀ i z,lst? (get (S.set t .junk) i)=some z→i≠t∧lst? (get S i)=some z:=by
  intro i z hi
  by_cases h:i=t
  ·subst h
   rw [get_set_same htl] at hi
   cases hi
  ·rw [get_set_ne (fun e=>h e.symm)] at hi
   exact ⟨h,hi⟩
 have hloose:∀ b,(lv (a.tmps.getD t undef)).ownBlock=some b→Loose m (S.set t .junk) a b:=by
  intro b hb
  refine ⟨fun i x hi=>?_,fun i z hi=>?_⟩
  ·exact R.inj1 i t x _ b (hgt i _ hi (by simp)).2 hy hb
  ·obtain ⟨h1,h2⟩:=hlt i z hi
   exact R.inj2 t i _ z b (fun e=>h1 e.symm) hy h2 hb
 refine (R.forget t).made d (get S t) (a.tmps.getD t undef) hy ho (row:=none) ⟨rfl,rfl,rfl,Nat.le_refl _,fun _ _ _=>rfl⟩ (by intro b e;cases e) hloose ?_ hok.2 ?_ ?_
 ·obtain ⟨aa,c,h1,h2⟩:=owns_SL ho
  rcases lst_cases hy with ⟨k',es',len',f',h3,h4⟩ | ⟨k',es',len',f',ps,h3,h4⟩
  ·cases h4
   rw [h3] at hok ⊢
   obtain ⟨a1,c1,h5,_⟩:=hok.1
   simp only [VR,mset_same]
   rw [h5] at h1 ⊢
   simp only [lv] at h1
   cases h1
   exact ⟨_,_,rfl,by rw [h5] at h2;exact h2⟩
  ·cases h4
   rw [h3] at hok ⊢
   obtain ⟨a1,c1,h5,_,h6⟩:=hok.1
   simp only [VR,mset_same]
   rw [h5] at h1 ⊢
   simp [lv] at h1
   obtain ⟨rfl,rfl⟩:=h1
   refine ⟨_,_,rfl,?_,h6⟩
   rw [h5] at h2
   exact h2
 ·intro i
  by_cases h:i=t
  ·subst h
   rw [get_set_same htl]
   trivial
  ·rw [get_set_ne (fun e=>h e.symm)]
   exact hr i
 ·intro i g b z hi
  exact hw i g b z (hgt i _ hi (by simp)).2
theorem length_lcells (k:IntKind) (n:Nat) (f:Nat→Int):(lcells k n f).length=n:=by simp [lcells]
theorem lcells_get (k:IntKind) (n:Nat) (f:Nat→Int) {j:Nat} (h:j<n):(lcells k n f)[j]?=some (.int k (f j)):=by
 simp [lcells,h]
theorem lst_block {w0:World} {m:M} {S:St} {a:Act} {w:World} (R:Rel w0 m S a w) {s:Nat} {k:IntKind} {es:Nat} {len:SO} {f:Nat→Int} (hs:lst? (get S s)=some (k,es,len,f)) (hp:0<len.val) :
  ∃ e cap cur,(m s).2=0∧w0.heap.size≤(m s).1∧w.heap[(m s).1]?=some (.cells cur e (0,0))∧len.val≤cap∧cap≤maxLen∧cur.size=cap*es∧cur.toList.take (len.val*es)=lcells k (len.val*es) f ∧
   lv (a.tmps.getD s undef)=.slice (some ⟨(m s).1,0,none⟩) len.val cap:=by
 have hlt:s<S.length:=get_lt (by intro e;rw [e] at hs;cases hs)
 have h0:=R.vals s hlt
 obtain ⟨e,ho⟩:=R.lsts s k es len f hs
 have hsl:∃ aa c,lv (a.tmps.getD s undef)=.slice aa len.val c∧SL (m s) len.val aa c:=by
  rcases lst_cases hs with ⟨k',es',len',f',h3,h4⟩ | ⟨k',es',len',f',ps,h3,h4⟩
  ·cases h4
   rw [h3] at h0
   obtain ⟨aa,c,h5,h6⟩:=h0.1
   exact ⟨aa,c,by rw [h5];rfl,h6⟩
  ·cases h4
   rw [h3] at h0
   obtain ⟨aa,c,h5,h6,_⟩:=h0.1
   exact ⟨aa,c,by rw [h5];simp [lv],h6⟩
 obtain ⟨aa,c,h5,h6⟩:=hsl
 rcases ho.2 with ⟨h7,h8⟩ | ⟨g,cap,cur,h7,h8,h9,h10,h11,h12,h13⟩
 ·omega
 ·have h5':=h7.symm.trans h5
  simp only [Value.slice.injEq] at h5'
  obtain ⟨h5a,_,_⟩:=h5'
  obtain ⟨h14,h15⟩:=h6.1 _ h5a.symm
  have hgm:g=(m s).1:=congrArg Addr.block h14
  rw [hgm] at h8 h9 h7
  exact ⟨e,cap,cur,h15,h8,h9,h10,h11,h12,h13,h7⟩
theorem row_cell {cur:Array Value} {n:Nat} {k:IntKind} {f:Nat→Int} (h:cur.toList.take n=lcells k n f) {j:Nat} (hj:j<n):cur[j]?=some (.int k (f j)):=by
 have h1:=lcells_get k n f hj
 rw [← h,List.getElem?_take,if_pos hj] at h1
 simpa using h1
theorem Rel.storeL {w0:World} {m:M} {S:St} {a:Act} {w:World} (R:Rel w0 m S a w) {s:Nat} {k:IntKind} {es:Nat} {len:SO} {f f':Nat→Int} {cur cur':Array Value} {T:TypeId} (hs:get S s=.osl k es len f) (hp:0<len.val)
  (hg:w.heap[(m s).1]?=some (.cells cur T (0,0))) (hsz:cur'.size=cur.size) (ht:cur'.toList.take (len.val*es)=lcells k (len.val*es) f') (hwf:∀ i,i<len.val*es→inR k (f' i)) :
  Rel w0 m (S.set s (.osl k es len f')) a (w.setRow (m s).1 cur'):=by
 have hl0:lst? (get S s)=some (k,es,len,f):=by rw [hs];rfl
 obtain ⟨e,cap,cur0,b1,b2,b3,b4,b5,b6,b7,b8⟩:=lst_block R hl0 hp
 rw [b3] at hg
 cases hg
 have hlt:s<S.length:=get_lt (by rw [hs];simp)
 have hob:(lv (a.tmps.getD s undef)).ownBlock=some (m s).1:=by rw [b8];rfl
 have own:∀ i y,get (S.set s (.osl k es len f')) i=.own y→get S i=.own y:=by
  intro i y hi
  rw [get_set] at hi
  split at hi
  ·cases hi
  ·exact hi
 have lst:∀ i y,lst? (get (S.set s (.osl k es len f')) i)=some y→∃ y',lst? (get S i)=some y':=by
  intro i y hi
  rw [get_set] at hi
  split at hi
  ·rename_i h;rw [h.1];exact ⟨_,hl0⟩
  ·exact ⟨_,hi⟩
 refine ⟨R.defers,by simpa using R.size,?_,?_,?_,?_,?_,?_,?_,?_⟩
 ·refine R.below.trans ⟨rfl,rfl,rfl,by simp,fun k hk=>?_⟩
  exact setRow_other _ _ _ _ (by omega)
 ·intro i hi
  simp only [List.length_set] at hi
  have h0:=R.vals i hi
  by_cases h:i=s
  ·subst h
   rw [get_set_same hi]
   rw [hs] at h0
   exact ⟨h0.1,hwf⟩
  ·rw [get_set_ne (fun e=>h e.symm)]
   unfold OKV at h0 ⊢
   split
   ·rename_i g b y he
    rw [he] at h0
    intro c hc
    by_cases hg:s=g
    ·subst hg
     rw [get_set_same hlt] at hc
     cases hc
    ·rw [get_set_ne hg] at hc
     exact h0 c hc
   ·rename_i hne
    revert h0
    split
    ·rename_i g b y he;exact absurd he (hne g b y)
    ·exact id
 ·intro i y hi
  have hi':=own i y hi
  obtain ⟨c1,c2,T',c3⟩:=R.blks i y hi'
  refine ⟨c1,c2,T',?_⟩
  rw [setRow_other]
  ·exact c3
  ·exact R.inj1 i s y _ _ hi' hl0 hob
 ·exact fun i j x y hi hj=>R.inj i j x y (own i _ hi) (own j _ hj)
 ·intro i k es len cap f hi
  rw [get_set] at hi
  split at hi
  ·cases hi
  ·exact R.xsls i k es len cap f hi
 ·intro i k1 es1 len1 f1 hi
  rw [get_set] at hi
  split at hi
  ·rename_i h
   have hii:i=s:=h.1
   subst hii
   simp only [lst?,Option.some.injEq,Prod.mk.injEq] at hi
   obtain ⟨h1,h2,h3,h4⟩:=hi
   subst h1 h2 h3 h4
   refine ⟨T,?_⟩
   rw [b8]
   exact ⟨length_lcells _ _ _,.inr ⟨_,cap,cur',rfl,b2,setRow_heap w _ _ _ _ _ b3,b4,b5,by rw [hsz,b6],ht⟩⟩
  ·rename_i hne
   have his:i≠s:=fun h=>hne ⟨h,by subst h;exact hlt⟩
   obtain ⟨e1,h3⟩:=R.lsts i k1 es1 len1 f1 hi
   refine ⟨e1,h3.kept (grownBy_setRow w (m s).1 _) ?_⟩
   cases hb:(lv (a.tmps.getD i undef)).ownBlock with
   | none=>exact .inl rfl
   | some b=>exact .inr (fun e=>R.inj2 i s _ _ b his hi hl0 hb (by rw [hob];exact e.symm))
 ·intro i j x y b hi hj hb
  obtain ⟨y',hy⟩:=lst j y hj
  exact R.inj1 i j x y' b (own i _ hi) hy hb
 ·intro i j x y b hij hi hj hb
  obtain ⟨x',hx⟩:=lst i x hi
  obtain ⟨y',hy⟩:=lst j y hj
  exact R.inj2 i j x' y' b hij hx hy hb
end Sx

namespace Sx
open Go Go.RowKit
def TyOK (P:Program) (i:TI) (t:TypeId):Prop :=
 match i.d with
 | .int k=>P.underlying t=some (.int k)∧i.sz=1∧∃ inf,P.info? t=some inf∧inf.size=1∧inf.zero=some (.int k 0)∧inf.bytes=i.by_
 | .bool=>P.underlying t=some .bool∧i.sz=1∧∃ inf,P.info? t=some inf∧inf.size=1∧inf.zero=some (.bool false)∧inf.bytes=i.by_
 | .arr n e=>P.underlying t=some (.array n e)∧∃ inf,P.info? t=some inf∧inf.size=i.sz∧inf.zero=some (.agg (cellsA i.k i.sz fun _=>0))∧inf.bytes=i.by_
 | .struct fs=>∃ fields,P.underlying t=some (.struct fields)∧fields.toList.map (fun f=>(f.offset,f.type))=fs∧∃ inf,P.info? t=some inf∧inf.size=i.sz∧inf.zero=some (.agg (cellsA i.k i.sz fun _=>0))∧inf.bytes=i.by_
 | .slice e=>P.underlying t=some (.slice e)
 | .mix fs=>∃ fields,P.underlying t=some (.struct fields)∧fields.toList.map (fun f=>(f.offset,f.type))=fs∧(∃ inf,P.info? t=some inf∧inf.size=i.sz)∧∀ p ∈ fs,∃ inf,P.info? p.2=some inf∧inf.size≠0
 | .other=>True
def EqOK (P:Program) (i:TI) (t:TypeId):Prop :=
 ∀ f g w,(∀ x y o,(eqGuard o t x y (.agg (cellsA i.k i.sz f)) (.agg (cellsA i.k i.sz g))).run P w=.ok () w) ∧
  (Op.equal t (.agg (cellsA i.k i.sz f)) (.agg (cellsA i.k i.sz g))).run P w=.ok (realEqA i.sz f g) w
def All2 {α β:Type} (r:α→β→Prop):List α→List β→Prop
 | [],[]=>True
 | a :: as,b :: bs=>r a b∧All2 r as bs
 | _,_=>False
def ArgR (w:World):AV→Value→Prop
 | .int k n,v=>v=.int k n.val
 | .bool b,v=>v=.bool b.val
 | .arr k n f,v=>v=.agg (cellsA k n f)
 | .opq u,v=>v=u
 | .xsl k es len _ f,v=>∃ a c,v=.slice a len.val c∧(0<len.val→∃ b off,a=some ⟨b,off,none⟩∧∀ j,j<len.val*es→w.cell? ⟨b,off+j,none⟩=some (.int k (f j)))∧len.val≤c∧c≤capMax
 | _,_=>False
def GlobOK (glob:Nat→AV) (w:World):Prop:=∀ g,match glob g with
 | .junk=>True
 | x=>plain x=true∧wfP x∧∃ T fz,w.heap[g]?=some (.cells (cellsOf x) T fz)
def NewL (B:Nat) (w:World) (k:IntKind) (es:Nat) (len:SO) (f:Nat→Int) (v:Value):Prop :=
 (∃ e,w.ownsRow B e es v len.val (lcells k (len.val*es) f))∧∀ i,i<len.val*es→inR k (f i)
def ResR (B:Nat) (w:World):AV→Value→Prop
 | .tup ps,v=>v=.tuple (ps.map pv).toArray∧ps.all plain=true∧∀ x ∈ ps,wfP x
 | .osl k es len f,v=>NewL B w k es len f v
 | .otup k es len f ps,v=>∃ u,v=.tuple (u :: ps.map pv).toArray∧NewL B w k es len f u∧ps.all plain=true∧∀ x ∈ ps,wfP x
 | x,v=>plain x=true∧wfP x∧v=pv x
def Sound (P:Program) (glob:Nat→AV) (f:FuncId) (c:Contract):Prop :=
 ∀ vs cs r,c vs=some (cs,r)→(∀ p ∈ cs,p)→(∀ x ∈ vs,wfV x)→∀ w,GlobOK glob w→∀ args:List Value,All2 (ArgR w) vs args →
  (∃ fn, P.funcs[f]? = some fn ∧ fn.body.isNone = false ∧ (fn.name == "runtime.NumGoroutine") = false ∧ Calls P f args.toArray w fun e w' => ∃ v, e = .returned v ∧ ResR w.heap.size w' r v ∧ Below w.heap.size w w') ∨
  (∃ v,lst? r=none∧ResR w.heap.size w r v∧(callFunc f args.toArray).run P w=.ok (.value v) w)
def rCell (v:Value) (o:Nat):Value:=match v with | .agg cs=>cs.getD o undef | _=>undef
def rNum (v:Value):Int:=match v with | .int _ n=>n | _=>0
def rLen (v:Value):Nat:=match v with | .slice _ l _=>l | _=>0
def rCap (v:Value):Nat:=match v with | .slice _ _ c=>c | _=>0
def rAddr (v:Value) (k:Nat):Value:=match v with | .slice (some ⟨b,o,_⟩) _ _=>.pointer (some ⟨b,o+k,none⟩) | .pointer (some ⟨b,o,_⟩)=>.pointer (some ⟨b,o+k,none⟩) | _=>undef
def rGet (mem:Mem) (v:Value) (n:Nat):Value:=match v with | .pointer (some ⟨b,o,_⟩)=>.agg ((Array.range n).map fun j=>(mem b (o+j)).getD undef) | _=>undef
def rList (mem:Mem) (v:Value) (j:Nat):Int:=match v with | .slice (some ⟨b,o,_⟩) _ _=>rNum ((mem b (o+j)).getD undef) | _=>0
def realAcc (mem:Mem):Acc:=⟨rCell,rNum,rLen,rCap,rAddr,rGet mem,rList mem⟩
def MemOK (mem:Mem) (w:World):Prop:=∀ b o v,mem b o=some v→w.cell? ⟨b,o,none⟩=some v
def SoundM (P:Program) (mem:Mem) (glob:Nat→AV) (f:FuncId) (c:Contract):Prop :=
 ∀ vs cs r,c vs=some (cs,r)→(∀ p ∈ cs,p)→(∀ x ∈ vs,wfV x)→∀ w,MemOK mem w→GlobOK glob w→∀ args:List Value,All2 (ArgR w) vs args →
  (∃ fn, P.funcs[f]? = some fn ∧ fn.body.isNone = false ∧ (fn.name == "runtime.NumGoroutine") = false ∧ Calls P f args.toArray w fun e w' => ∃ v, e = .returned v ∧ ResR w.heap.size w' r v ∧ Below w.heap.size w w') ∨
  (∃ v,lst? r=none∧ResR w.heap.size w r v∧(callFunc f args.toArray).run P w=.ok (.value v) w)
theorem Sound.toM {P:Program} {glob:Nat→AV} {f:FuncId} {c:Contract} (h:Sound P glob f c) (mem:Mem):SoundM P mem glob f c:=fun vs cs r h1 h2 h3 w _ hG=>h vs cs r h1 h2 h3 w hG
def noMem:Mem:=fun _ _=>none
theorem memOK_no (w:World):MemOK noMem w:=fun _ _ _ h=>by cases h
theorem SoundM.toS {P:Program} {glob:Nat→AV} {f:FuncId} {c:Contract} (h:SoundM P noMem glob f c):Sound P glob f c:=fun vs cs r h1 h2 h3 w hG=>h vs cs r h1 h2 h3 w (memOK_no w) hG
structure WOK (E:Env) (w:World):Prop where
 glob:GlobOK E.glob w
 mem:MemOK E.mem w
structure EnvOK (P:Program) (E:Env):Prop where
 acc:E.acc=realAcc E.mem
 A:E.A=realOps
 ty:∀ t,TyOK P (E.ty t) t
 eq:∀ t,(E.ty t).eq=true→EqOK P (E.ty t) t
 call:∀ f,SoundM P E.mem E.glob f (E.call f)
section
variable {P:Program} {E:Env}
theorem GlobOK.later {glob:Nat→AV} {w w':World} (h:GlobOK glob w) (hb:Below w.heap.size w w'):GlobOK glob w':=by
 intro g
 have h0:=h g
 revert h0
 cases glob g <;> intro h0 <;> first | trivial | (obtain ⟨h1,h2,T,fz,h3⟩:=h0;exact ⟨h1,h2,T,fz,by rw [hb.block _ (Array.getElem?_eq_some_iff.1 h3).1];exact h3⟩)
theorem MemOK.later {mem:Mem} {w w':World} (h:MemOK mem w) (hb:Below w.heap.size w w'):MemOK mem w':=by
 intro b o v hm
 have h1:=h b o v hm
 rw [hb.cell (World.block_lt_of_cell? w _ h1)]
 exact h1
theorem WOK.later {w w':World} (h:WOK E w) (hb:Below w.heap.size w w'):WOK E w':=⟨h.glob.later hb,h.mem.later hb⟩
theorem run_size {t:TypeId} {inf:TypeInfo} (h:P.info? t=some inf) (w:World):(Go.sizeOf t).run P w=.ok inf.size w:=by
 simp [Go.sizeOf,typeInfo,h]
theorem run_zero {t:TypeId} {inf:TypeInfo} {z:Value} (h:P.info? t=some inf) (hz:inf.zero=some z) (w:World):(zeroValue t).run P w=.ok z w:=by
 simp [zeroValue,typeInfo,h,hz]
def isG (d:TypeDesc):Bool :=
 match d with
 | .struct _ | .array _ _=>true
 | _=>false
theorem run_agg {t:TypeId} {d:TypeDesc} (h:P.underlying t=some d) (w:World) :
  (isAgg t).run P w=.ok (isG d) w:=by
 unfold isAgg
 rw [Sem.run_bind,run_underlying h w]
 cases d <;> rfl
def isA:Ty→Bool
 | .arr .. | .struct ..=>true
 | _=>false
theorem TyOK.agg {i:TI} {t:TypeId} (h:TyOK P i t) (ha:isA i.d=true) :
  (∃ d,P.underlying t=some d∧(isG d)=true)∧∃ inf,P.info? t=some inf∧inf.size=i.sz∧inf.zero=some (.agg (cellsA i.k i.sz fun _=>0))∧inf.bytes=i.by_:=by
 unfold TyOK at h
 cases hd:i.d <;> rw [hd] at h ha <;> simp [isA] at ha
 ·exact ⟨⟨_,h.1,rfl⟩,h.2⟩
 ·obtain ⟨fields,h1,_,h3⟩:=h
  exact ⟨⟨_,h1,rfl⟩,h3⟩
theorem addr_add (b off n:Nat):(⟨b,off,none⟩:Addr).add n=⟨b,off+n,none⟩:=by
 unfold Addr.add;split <;> simp_all
theorem range_map_cells (k:IntKind) (n:Nat) (f:Nat→Int):((List.range n).map fun j=>Value.int k (f j)).toArray=cellsA k n f:=by
 apply Array.ext
 ·simp
 ·intro i h1 h2
  simp [cellsA]
theorem run_load_agg {t:TypeId} {i:TI} (ht:TyOK P i t) (ha:isA i.d=true) {w:World} {b off N:Nat} {k:IntKind} {f:Nat→Int} {T:TypeId} {fz:Nat × Nat}
  (hg:w.heap[b]?=some (.cells (cellsA k N f) T fz)) (hN:off+i.sz≤N) :
  (loadVar t ⟨b,off,none⟩).run P w=.ok (.agg (cellsA k i.sz fun j=>f (off+j))) w:=by
 obtain ⟨⟨d,hd,hagg⟩,inf,hi,hs,_⟩:=ht.agg ha
 have hl:(loadCells ⟨b,off,none⟩ i.sz).run P w=.ok ((List.range i.sz).map fun j=>Value.int k (f (off+j))).toArray w :=
  run_loadCells (P:=P) w ⟨b,off,none⟩ i.sz _ (fun j hj=>by
   rw [addr_add,cell_of_row w b _ _ T fz hg,cellsA_get _ _ _ _ (by omega)])
 rw [range_map_cells] at hl
 simp only [loadVar,Sem.run_bind,run_agg hd,hagg,Result.andThen_ok,if_true,run_size hi,hs,hl,Sem.run_pure]
theorem run_load_cells {t:TypeId} {i:TI} (ht:TyOK P i t) (ha:isA i.d=true) {w:World} {b off:Nat} {k:IntKind} {f:Nat→Int}
  (hc:∀ j,j<i.sz→w.cell? ⟨b,off+j,none⟩=some (.int k (f j))) :
  (loadVar t ⟨b,off,none⟩).run P w=.ok (.agg (cellsA k i.sz f)) w:=by
 obtain ⟨⟨d,hd,hagg⟩,inf,hi,hs,_⟩:=ht.agg ha
 have hl:(loadCells ⟨b,off,none⟩ i.sz).run P w=.ok ((List.range i.sz).map fun j=>Value.int k (f j)).toArray w :=
  run_loadCells (P:=P) w ⟨b,off,none⟩ i.sz _ (fun j hj=>by rw [addr_add];exact hc j hj)
 rw [range_map_cells] at hl
 simp only [loadVar,Sem.run_bind,run_agg hd,hagg,Result.andThen_ok,if_true,run_size hi,hs,hl,Sem.run_pure]
theorem run_load_one {t:TypeId} {d:TypeDesc} (hd:P.underlying t=some d) (hn:(isG d)=false) {w:World} {a:Addr} {v:Value}
  (hc:w.cell? a=some v):(loadVar t a).run P w=.ok v w:=by
 simp [loadVar,Sem.run_bind,run_agg hd,hn,hc]
def writeAt (cs:Array Value) (o:Nat):List Value→Array Value
 | []=>cs
 | v :: vs=>writeAt (cs.setIfInBounds o v) (o+1) vs
@[simp] theorem size_writeAt:∀ (vs:List Value) (cs:Array Value) (o:Nat),(writeAt cs o vs).size=cs.size
 | [],_,_=>rfl
 | v :: vs,cs,o=>by simp [writeAt,size_writeAt vs]
theorem writeAt_get:∀ (vs:List Value) (cs:Array Value) (o:Nat) (i:Nat),i<cs.size→(writeAt cs o vs)[i]?=if o≤i∧i<o+vs.length then vs[i - o]? else cs[i]?
 | [],cs,o,i,_=>by rw [writeAt,if_neg (by simp)]
 | v :: vs,cs,o,i,hi=>by
  rw [writeAt,writeAt_get vs _ _ i (by simpa using hi)]
  simp only [List.length_cons]
  by_cases h:o=i
  ·subst h
   rw [if_neg (by omega),if_pos (by omega)]
   simp [hi]
  ·by_cases h2:o+1≤i∧i<o+1+vs.length
   ·rw [if_pos h2,if_pos (by omega)]
    have:i - o=(i - (o+1))+1:=by omega
    rw [this,List.getElem?_cons_succ]
   ·rw [if_neg h2,if_neg (by omega),Array.getElem?_setIfInBounds_ne h]
theorem run_storeCells:∀ (vs:List Value) (w:World) (b off i:Nat) (cs:Array Value) (T:TypeId),w.heap[b]?=some (.cells cs T (0,0))→(∀ v ∈ vs,v.oneCell'=true) →
  off+i+vs.length≤cs.size→(storeCells ⟨b,off,none⟩ vs i).run P w=.ok () (w.setRow b (writeAt cs (off+i) vs))
 | [],w,b,off,i,cs,T,hg,_,_=>by
  simp only [storeCells,writeAt,Sem.run_pure]
  rw [setRow_self w b cs T (0,0) hg]
 | v :: vs,w,b,off,i,cs,T,hg,hv,hle=>by
  simp only [List.length_cons] at hle
  have hcell:w.cell? ⟨b,off+i,none⟩=some (cs[off+i]'(by omega)):=by
   rw [cell_of_row w b _ cs T (0,0) hg];simp
  have hfz:w.frozen? ⟨b,off+i,none⟩=false:=frozen_of_row w b _ cs T hg
  have h1:v.oneCell'=true:=hv v (by simp)
  have ih:=run_storeCells vs (w.setRow b (cs.setIfInBounds (off+i) v)) b off (i+1) (cs.setIfInBounds (off+i) v) T (setRow_heap w b cs _ T _ hg) (fun u hu=>hv u (by simp [hu])) (by simp;omega)
  simp only [storeCells,Sem.run_bind,addr_add,run_store P w _ v _ h1,hcell,hfz,Bool.false_eq_true,if_false,Result.andThen_ok,setCell_eq_setRow w b (off+i) cs T (0,0) v hg,ih,setRow_setRow,writeAt,Nat.add_assoc]
theorem run_storeVar {t:TypeId} {inf:TypeInfo} (hi:P.info? t=some inf) {w:World} {b off:Nat} {cs:Array Value} {T:TypeId} {v:Value}
  (hg:w.heap[b]?=some (.cells cs T (0,0))) (hs:v.cells.size=inf.size) (hv:∀ u ∈ v.cells.toList,u.oneCell'=true) (hle:off+v.cells.size≤cs.size) :
  (storeVar t ⟨b,off,none⟩ v).run P w=.ok () (w.setRow b (writeAt cs off v.cells.toList)):=by
 have h:=run_storeCells (P:=P) v.cells.toList w b off 0 cs T hg hv (by simpa using hle)
 simp only [Nat.add_zero] at h
 simp [storeVar,Sem.run_bind,run_size hi,hs,h]
theorem cells_one (k:IntKind) (n:Nat) (f:Nat→Int):∀ u ∈ (cellsA k n f).toList,u.oneCell'=true:=by
 intro u hu
 simp [cellsA] at hu
 obtain ⟨j,_,rfl⟩:=hu
 rfl
theorem writeAt_splice (k:IntKind) (n off m:Nat) (f g:Nat→Int):writeAt (cellsA k n f) off (cellsA k m g).toList=cellsA k n (splice f off m g):=by
 apply Array.ext_getElem?
 intro i
 by_cases hi:i<n
 ·rw [writeAt_get _ _ _ _ (by simpa using hi),cellsA_get k n (splice f off m g) i hi]
  simp only [Array.length_toList,size_cellsA,splice]
  by_cases h:off≤i∧i<off+m
  ·rw [if_pos h,if_neg (by omega),if_pos h.2]
   have:=cellsA_get k m g (i - off) (by omega)
   simpa using this
  ·rw [if_neg h,cellsA_get k n f i hi]
   by_cases h2:i<off
   ·rw [if_pos h2]
   ·rw [if_neg h2,if_neg (by omega)]
 ·rw [Array.getElem?_eq_none (by simp;omega),Array.getElem?_eq_none (by simp;omega)]
theorem writeAt_upd (k:IntKind) (n off:Nat) (f:Nat→Int) (x:Int):writeAt (cellsA k n f) off [.int k x]=cellsA k n (upd f off x):=by
 apply Array.ext_getElem?
 intro i
 by_cases hi:i<n
 ·rw [writeAt_get _ _ _ _ (by simpa using hi),cellsA_get k n (upd f off x) i hi]
  simp only [List.length_cons,List.length_nil,upd]
  by_cases h:i=off
  ·subst h;simp
  ·rw [if_neg (by omega),if_neg h,cellsA_get k n f i hi]
 ·rw [Array.getElem?_eq_none (by simp;omega),Array.getElem?_eq_none (by simp;omega)]
end
end Sx

namespace Sx
open Go Go.RowKit
def Does (P:Program) (o:Oper) (a:Act) (w:World) (T:Act→World→Prop):Prop :=
 ∀ (K:Act→World→Prop) (Q:Exit→Act→World→Prop),(∀ a' w',T a' w'→K a' w')→o.wp P a w K Q
theorem does_value {P:Program} {o:Oper} {a:Act} {w w':World} {v:Value} {T:Act→World→Prop} (h:(execOp a.eval o).run P w=.ok (.value v) w') (hT:T (a.put o.dst v) w'):Does P o a w T:=by
 intro K Q hK
 unfold Oper.wp
 rw [h]
 exact hK _ _ hT
theorem does_skip {P:Program} {o:Oper} {a:Act} {w w':World} {T:Act→World→Prop} (h:(execOp a.eval o).run P w=.ok .skip w') (hT:T (a.put o.dst undef) w'):Does P o a w T:=by
 intro K Q hK
 unfold Oper.wp
 rw [h]
 exact hK _ _ hT
theorem does_call {P:Program} {o:Oper} {a:Act} {w w':World} {f:FuncId} {args:Array Value} {T:Act→World→Prop} {R:Ending→World→Prop}
  (h:(execOp a.eval o).run P w=.ok (.enter f args) w') (hc:Calls P f args w' R) (hT:∀ e w'',R e w''→∃ v,e=.returned v∧T (a.put o.dst v) w''):Does P o a w T:=by
 intro K Q hK
 unfold Oper.wp
 rw [h]
 refine Calls.mono hc fun e w'' hR=>?_
 obtain ⟨v,rfl,ht⟩:=hT e w'' hR
 exact hK _ _ ht
theorem Does.mono {P:Program} {o:Oper} {a:Act} {w:World} {T T':Act→World→Prop} (h:Does P o a w T) (hT:∀ a' w',T a' w'→T' a' w'):Does P o a w T' :=
 fun K Q hK=>h K Q fun a' w' ht=>hK a' w' (hT a' w' ht)
def GdOK (S:St) (gd:Gd):Prop :=
 match gd with
 | none=>True
 | some (g,b)=>∃ c,get S g=.bool c∧c.val=b
def slotOf:Operand→Nat
 | .tmp t=>t
 | _=>0
theorem vals_get {w0:World} {m:M} {S:St} {a:Act} {w:World} (R:Rel w0 m S a w) (i:Nat):OKV S m i (get S i) (a.tmps.getD i undef):=by
 rcases Nat.lt_or_ge i S.length with h | h
 ·exact R.vals i h
 ·have:get S i=.junk:=by simp [get,List.getElem?_eq_none h]
  rw [this]
  exact ⟨trivial,trivial⟩
theorem getG_ok {w0:World} {m:M} {S:St} {a:Act} {w:World} (R:Rel w0 m S a w) {gd:Gd} (hg:GdOK S gd) (i:Nat) :
  VR m i (getG gd S i) (a.tmps.getD i undef)∧wfV (getG gd S i)∧(get S i=getG gd S i∨light (getG gd S i)=true∨getG gd S i=.junk):=by
 have h:=vals_get R i
 unfold OKV at h
 unfold getG
 revert h
 cases get S i with
 | when g b y =>
  intro h
  cases gd with
  | none=>exact ⟨trivial,trivial,.inr (.inr rfl)⟩
  | some p =>
   obtain ⟨g',b'⟩:=p
   dsimp only
   by_cases hh:g=g'∧b=b'
   ·rw [if_pos hh]
    obtain ⟨rfl,rfl⟩:=hh
    obtain ⟨c,hc,hcv⟩:=hg
    obtain ⟨h1,h2,h3⟩:=h c hc hcv
    exact ⟨h1,h2,.inr (.inl h3)⟩
   ·rw [if_neg hh]
    exact ⟨trivial,trivial,.inr (.inr rfl)⟩
 | _ =>
  intro h
  exact ⟨h.1,h.2,.inl rfl⟩
theorem opg_ok {w0:World} {m:M} {S:St} {a:Act} {w:World} (R:Rel w0 m S a w) {gd:Gd} (hg:GdOK S gd) (x:Operand) (hc:constOk x=true) :
  VR m (slotOf x) (opg gd S x) (a.eval x)∧wfV (opg gd S x):=by
 unfold opg
 split
 ·rename_i t
  have:=getG_ok R hg t
  exact ⟨this.1,this.2.1⟩
 ·rename_i k n
  refine ⟨rfl,?_⟩
  simpa [constOk,wfV,inR,SI.val] using hc
 ·exact ⟨rfl,trivial⟩
 ·exact ⟨rfl,trivial⟩
 ·exact ⟨rfl,trivial⟩
 ·exact ⟨rfl,trivial⟩
theorem opg_slot {w0:World} {m:M} {S:St} {a:Act} {w:World} (R:Rel w0 m S a w) {gd:Gd} (hg:GdOK S gd) {x:Operand} {y:AV} (h:opg gd S x=y)
  (hl:light y=false) (hj:y≠.junk):∃ t,x=.tmp t∧get S t=y:=by
 unfold opg at h
 split at h
 ·rename_i t
  refine ⟨t,rfl,?_⟩
  rcases (getG_ok R hg t).2.2 with h2 | h2 | h2
  ·rw [h2,h]
  ·rw [h,hl] at h2;cases h2
  ·rw [h] at h2;exact absurd h2 hj
 all_goals (subst h;simp [light] at hl)
def free:AV→Bool
 | .own _ | .xsl .. | .when .. | .osl .. | .otup ..=>false
 | _=>true
theorem free_lst {x:AV} (h:free x=true):lst? x=none:=by
 cases x <;> simp [free] at h <;> rfl
theorem VR_any {m:M} {i j:Nat} {x:AV} {v:Value} (hf:free x=true) (h:VR m i x v):VR m j x v:=by
 cases x <;> simp [free] at hf <;> exact h
theorem OKV_free {S:St} {m:M} {i:Nat} {x:AV} {v:Value} (hf:free x=true) (h:VR m i x v) (hw:wfV x):OKV S m i x v:=by
 cases x <;> simp [free] at hf <;> exact ⟨h,hw⟩
theorem ret1_ok {w0:World} {m:M} {S:St} {a:Act} {w:World} (R:Rel w0 m S a w) {dst:Option Tmp} {x:AV} {v:Value} {cs cs':List Prop} {us:List (Nat × AV)} {i:Nat}
  (h:ret1 dst cs x=some (cs',us)) (hf:free x=true) (hv:VR m i x v) (hw:wfV x) (hn:∀ d ∈ us.map Prod.fst,noWhen d S):Rel w0 m (app us S) (a.put dst v) w:=by
 unfold ret1 at h
 split at h
 ·rename_i d
  simp only [Option.some.injEq,Prod.mk.injEq] at h
  obtain ⟨rfl,rfl⟩:=h
  refine R.put d x v ?_ ?_ (free_lst hf) (fun _=>OKV_free hf (VR_any hf hv) hw) (hn d (by simp))
  ·intro y e;subst e;simp [free] at hf
  ·intro k es len cap f e;subst e;simp [free] at hf
 ·simp only [Option.some.injEq,Prod.mk.injEq] at h
  obtain ⟨rfl,rfl⟩:=h
  exact R
theorem ret1_cs {dst:Option Tmp} {x:AV} {cs cs':List Prop} {us:List (Nat × AV)} (h:ret1 dst cs x=some (cs',us)):cs'=cs:=by
 unfold ret1 at h
 split at h <;> simp at h <;> exact h.1.symm
section
variable {P:Program} {E:Env}
theorem fits_ok {off:SO} {n len:Nat} {cs:List Prop} (h:fits off n len=some cs) (hc:∀ p ∈ cs,p):off.val+n≤len:=by
 unfold fits at h
 split at h
 ·split at h
  ·rename_i a hle;exact hle
  ·cases h
 ·cases h
  exact (hc _ (List.mem_singleton.2 rfl)).h
theorem plain_VR {m:M} {i:Nat} {x:AV} {v:Value} (hp:plain x=true) (h:VR m i x v):v=pv x:=by
 cases x <;> simp [plain] at hp <;> exact h
theorem VR_pv {m:M} {i:Nat} {x:AV} (hp:plain x=true):VR m i x (pv x):=by
 cases x <;> simp [plain] at hp <;> rfl
theorem wfV_wfP {x:AV} (hp:plain x=true) (h:wfV x):wfP x:=by
 cases x <;> simp [plain] at hp <;> exact h
theorem wfP_wfV {x:AV} (hp:plain x=true) (h:wfP x):wfV x:=by
 cases x <;> simp [plain] at hp <;> exact h
theorem plain_free {x:AV} (hp:plain x=true):free x=true:=by
 cases x <;> simp [plain] at hp <;> rfl
theorem sub_ok (hP:EnvOK P E) {T:TypeId} {x:AV} {off:SO} {cs:List Prop} {r:AV} (h:sub E T x off=some (cs,r)) (hc:∀ p ∈ cs,p) (hw:wfP x)
  {w:World} {b:Nat} {T0:TypeId} {fz:Nat × Nat} (hg:w.heap[b]?=some (.cells (cellsOf x) T0 fz)) :
  (loadVar T ⟨b,off.val,none⟩).run P w=.ok (pv r) w∧plain r=true∧wfP r:=by
 have ht:=hP.ty T
 unfold sub at h
 split at h
 ·rename_i k hd
  have h1:P.underlying T=some (.int k):=by unfold TyOK at ht;rw [hd] at ht;exact ht.1
  split at h
  ·rename_i k' n
   split at h
   ·rename_i hk
    subst hk
    cases h
    refine ⟨run_load_one h1 rfl ?_,rfl,hw⟩
    rw [SO.val,cell_of_row w b _ _ T0 fz hg];rfl
   ·cases h
  ·rename_i k' n f
   split at h
   ·rename_i hk
    subst hk
    split at h
    ·rename_i cs' hf
     cases h
     have hle:=fits_ok hf hc
     refine ⟨run_load_one h1 rfl ?_,rfl,hw _ (by omega)⟩
     rw [cell_of_row w b _ _ T0 fz hg]
     exact cellsA_get _ _ _ _ (by omega)
    ·cases h
   ·cases h
  ·cases h
 ·rename_i hd
  have h1:P.underlying T=some .bool:=by unfold TyOK at ht;rw [hd] at ht;exact ht.1
  split at h
  ·cases h
   refine ⟨run_load_one h1 rfl ?_,rfl,trivial⟩
   rw [SO.val,cell_of_row w b _ _ T0 fz hg];rfl
  ·cases h
 all_goals try (rename_i hd;cases h;done)
 all_goals
  rename_i hd
  have ha:isA (E.ty T).d=true:=by rw [hd];rfl
  split at h
  ·rename_i k n f
   split at h
   ·rename_i hk
    split at h
    ·rename_i hn
     cases h
     refine ⟨?_,rfl,hw⟩
     have:=run_load_agg (P:=P) ht ha (off:=0) hg (by omega)
     simp only [Nat.zero_add] at this
     rw [hn] at this
     exact this
    ·split at h
     ·rename_i hn
      cases h
      refine ⟨?_,rfl,fun i hi=>hw i (by omega)⟩
      have:=run_load_agg (P:=P) ht ha (off:=0) hg (by omega)
      simp only [Nat.zero_add] at this
      exact this
     ·cases h
   ·cases h
  ·rename_i k n f _
   split at h
   ·rename_i hk
    split at h
    ·rename_i cs' hf
     cases h
     have hle:=fits_ok hf hc
     exact ⟨run_load_agg (P:=P) ht ha hg hle,rfl,fun i hi=>hw _ (by omega)⟩
    ·cases h
   ·cases h
  ·cases h
theorem TyOK.info {i:TI} {t:TypeId} (h:TyOK P i t) (ho:match i.d with | .slice _ | .other=>False | _=>True):∃ inf,P.info? t=some inf∧inf.size=i.sz:=by
 unfold TyOK at h
 cases hd:i.d <;> rw [hd] at h ho
 ·obtain ⟨_,h1,inf,h2,h3,_⟩:=h;exact ⟨inf,h2,by omega⟩
 ·obtain ⟨_,h1,inf,h2,h3,_⟩:=h;exact ⟨inf,h2,by omega⟩
 ·obtain ⟨_,inf,h2,h3,_⟩:=h;exact ⟨inf,h2,h3⟩
 ·obtain ⟨_,_,_,inf,h2,h3,_⟩:=h;exact ⟨inf,h2,h3⟩
 ·exact ho.elim
 ·obtain ⟨_,_,_,h2,_⟩:=h;exact h2
 ·exact ho.elim
theorem put_cells (hP:EnvOK P E) {T:TypeId} {x:AV} {off:SO} {cs:List Prop} {v x':AV} (h:put E T x off v=some (cs,x')) (hc:∀ p ∈ cs,p) (hw:wfP x) (hv:wfV v) :
  writeAt (cellsOf x) off.val (pv v).cells.toList=cellsOf x'∧(pv v).cells.size=(E.ty T).sz∧off.val+(pv v).cells.size≤(cellsOf x).size∧(∀ u ∈ (pv v).cells.toList,u.oneCell'=true) ∧
   (∃ inf,P.info? T=some inf∧inf.size=(E.ty T).sz)∧plain x'=true∧wfP x'∧plain v=true:=by
 have ht:=hP.ty T
 unfold put at h
 split at h
 ·rename_i k a
  split at h
  ·rename_i kt hd
   have hs:∃ inf,P.info? T=some inf∧inf.size=(E.ty T).sz:=ht.info (by rw [hd];trivial)
   have hz:(E.ty T).sz=1:=by unfold TyOK at ht;rw [hd] at ht;exact ht.2.1
   have ho:∀ u ∈ (pv (.int k a)).cells.toList,u.oneCell'=true:=by intro u hu;simp [pv,Value.cells] at hu;subst hu;rfl
   split at h
   ·split at h
    ·split at h
     ·cases h
      exact ⟨rfl,hz.symm,by simp [SO.val,pv,Value.cells,cellsOf],ho,hs,rfl,hv,rfl⟩
     ·cases h
    ·rename_i k' n f
     split at h
     ·rename_i hk
      subst hk
      split at h
      ·rename_i cs' hf
       cases h
       have hle:=fits_ok hf hc
       refine ⟨writeAt_upd _ _ _ _ _,hz.symm,by simp [pv,Value.cells,cellsOf];omega,ho,hs,rfl,?_,rfl⟩
       intro i hi
       simp only [upd]
       split
       ·exact hv
       ·exact hw i hi
      ·cases h
     ·cases h
    ·cases h
   ·cases h
  ·cases h
 ·rename_i bb
  split at h
  ·rename_i hd
   have hs:∃ inf,P.info? T=some inf∧inf.size=(E.ty T).sz:=ht.info (by rw [hd];trivial)
   have hz:(E.ty T).sz=1:=by unfold TyOK at ht;rw [hd] at ht;exact ht.2.1
   split at h
   ·cases h
    exact ⟨rfl,hz.symm,by simp [SO.val,pv,Value.cells,cellsOf],by intro u hu;simp [pv,Value.cells] at hu;subst hu;rfl,hs,rfl,trivial,rfl⟩
   ·cases h
  ·cases h
 ·rename_i k mm g
  split at h
  all_goals try (cases h;done)
  all_goals
   rename_i hd
   have ha:isA (E.ty T).d=true:=by rw [hd];rfl
   have hs:∃ inf,P.info? T=some inf∧inf.size=(E.ty T).sz:=ht.info (by rw [hd];trivial)
   split at h
   ·rename_i hm
    split at h
    ·rename_i k' n f
     split at h
     ·rename_i hk
      subst hk
      split at h
      ·rename_i hn
       subst hn
       cases h
       refine ⟨?_,by simp [pv,Value.cells,hm],by simp [SO.val,pv,Value.cells,cellsOf],cells_one _ _ _,hs,rfl,hv,rfl⟩
       simp only [SO.val,pv,cellsOf,Value.cells,writeAt_splice]
       apply cellsA_congr
       intro i hi
       simp [splice,hi]
      ·split at h
       ·rename_i hn
        cases h
        refine ⟨writeAt_splice _ _ _ _ _ _,by simp [pv,Value.cells,hm],by simp [SO.val,pv,Value.cells,cellsOf];omega,cells_one _ _ _,hs,rfl,?_,rfl⟩
        intro i hi
        simp only [splice]
        split
        ·exact hw i hi
        ·split
         ·exact hv _ (by omega)
         ·exact hw i hi
       ·cases h
     ·cases h
    ·rename_i k' n f _
     split at h
     ·rename_i hk
      subst hk
      split at h
      ·rename_i cs' hf
       cases h
       have hle:=fits_ok hf hc
       refine ⟨writeAt_splice _ _ _ _ _ _,by simp [pv,Value.cells,hm],by simp [pv,Value.cells,cellsOf];omega,cells_one _ _ _,hs,rfl,?_,rfl⟩
       intro i hi
       simp only [splice]
       split
       ·exact hw i hi
       ·split
        ·exact hv _ (by omega)
        ·exact hw i hi
      ·cases h
     ·cases h
    ·cases h
   ·cases h
 ·cases h
theorem put_ok (hP:EnvOK P E) {T:TypeId} {x:AV} {off:SO} {cs:List Prop} {v x':AV} (h:put E T x off v=some (cs,x')) (hc:∀ p ∈ cs,p) (hw:wfP x) (hv:wfV v)
  {w:World} {b:Nat} {T0:TypeId} (hg:w.heap[b]?=some (.cells (cellsOf x) T0 (0,0))) :
  (storeVar T ⟨b,off.val,none⟩ (pv v)).run P w=.ok () (w.setRow b (cellsOf x'))∧plain x'=true∧wfP x'∧plain v=true:=by
 obtain ⟨h1,h2,h3,h4,⟨inf,h5,h6⟩,h7⟩:=put_cells hP h hc hw hv
 have:=run_storeVar (P:=P) h5 (off:=off.val) hg (by rw [h2,h6]) h4 h3
 rw [h1] at this
 exact ⟨this,h7⟩
theorem wrap_in (k:IntKind) (n:Int):inR k (k.wrap n):=by
 cases k <;> simp only [inR,IntKind.wrap,IntKind.min,IntKind.max,IntKind.signed,IntKind.bits] <;> (try split) <;> simp at * <;> omega
theorem min_nonpos (k:IntKind):k.min≤0:=by cases k <;> decide
theorem max_nonneg (k:IntKind):0≤k.max:=by cases k <;> decide
theorem tmod_in {k:IntKind} {a:Int} (b:Int) (h:inR k a):inR k (a.tmod b):=by
 have h0:=min_nonpos k
 have h1:=max_nonneg k
 unfold inR at *
 rcases Int.le_total 0 a with ha | ha
 ·have:=Int.tmod_nonneg b ha
  have h2:a.tmod b≤a:=by
   rw [Int.tmod_def]
   rcases Int.le_total 0 (a.tdiv b*b) with h3 | h3
   ·rw [Int.mul_comm];omega
   ·have:b*a.tdiv b=a - a.tmod b:=by rw [Int.tmod_def];omega
    rw [Int.mul_comm] at h3
    have h4:a.tmod b=a - b*a.tdiv b:=Int.tmod_def a b
    have h5:(a.tmod b).natAbs≤a.natAbs:=by
     rw [Int.natAbs_tmod];exact Nat.mod_le _ _
    omega
  omega
 ·have h5:(a.tmod b).natAbs≤a.natAbs:=by
   rw [Int.natAbs_tmod];exact Nat.mod_le _ _
  have h6:a.tmod b≤0:=by
   have:=Int.tmod_nonneg b (a:=-a) (by omega)
   rw [Int.neg_tmod] at this
   omega
  omega
theorem fdiv_in {k:IntKind} {a:Int} (n:Nat) (h:inR k a):inR k (a.fdiv (2 ^ n)):=by
 have h0:=min_nonpos k
 have h1:=max_nonneg k
 unfold inR at *
 have hp:(0:Int)<2 ^ n:=Int.pow_pos (by decide)
 rw [Int.fdiv_eq_ediv_of_nonneg _ (by omega)]
 have e1:=Int.mul_ediv_add_emod a (2 ^ n)
 have e2:=Int.emod_nonneg a (b:=2 ^ n) (by omega)
 have e3:=Int.emod_lt_of_pos a hp
 constructor
 ·rcases Int.le_total 0 a with ha | ha
  ·have:=Int.ediv_nonneg ha (by omega:(0:Int)≤2 ^ n);omega
  ·have:a≤a / 2 ^ n:=by
    apply (Int.le_ediv_iff_mul_le hp).2
    have:a*2 ^ n≤a*1:=Int.mul_le_mul_of_nonpos_left ha (by omega)
    omega
   omega
 ·rcases Int.le_total 0 a with ha | ha
  ·have:=Int.ediv_le_self (2 ^ n) ha;omega
  ·have:a / 2 ^ n≤0:=by
    have:=Int.ediv_le_ediv hp ha
    simpa using this
   omega
theorem realBin_in {o:BinOp} {k:IntKind} {a:Int} (b:Int) (h:inR k a) (ho:compares o=false):inR k (realBin o k a b):=by
 cases o <;> simp [compares] at ho <;> simp only [realBin] <;> first | exact wrap_in _ _ | exact tmod_in b h | exact fdiv_in _ h
theorem bin_val (hP:EnvOK P E) (o:BinOp) (k:IntKind) (x y:SI):(SI.bin E.A o k x y).val=realBin o k x.val y.val:=by
 cases x <;> cases y <;> simp [SI.bin,SI.val,hP.A,realOps]
theorem cmp_val (hP:EnvOK P E) (o:BinOp) (x y:SI):(SI.cmp E.A o x y).val=realCmp o x.val y.val:=by
 cases x <;> cases y <;> simp [SI.cmp,SI.val,SB.val,hP.A,realOps]
theorem off_val (hP:EnvOK P E) (x:SI):(x.off E.A).val=x.val.toNat:=by
 cases x <;> simp [SI.off,SI.val,SO.val,hP.A,realOps]
theorem lit_val (n:Nat):(SO.lit n).val=n:=rfl
theorem add_val (x y:SO):(x.add y).val=x.val+y.val:=by
 unfold SO.add
 split <;> simp only [SO.val,nadd,choice_add,Nat.zero_add,Nat.add_zero]
theorem sub_val (x y:SO):(x.sub y).val=x.val - y.val:=by
 unfold SO.sub
 split <;> simp only [SO.val,nsub,choice_sub,Nat.sub_zero]
theorem mul_val (x:SO) (n:Nat):(x.mul n).val=x.val*n:=by
 unfold SO.mul
 split <;> simp only [SO.val,nmul,choice_mul,Nat.mul_one]
theorem within_ok {i:SI} {n:SO} {cs:List Prop} (h:within i n=some cs) (hc:∀ p ∈ cs,p):0≤i.val∧i.val<(n.val:Int):=by
 unfold within at h
 split at h
 ·split at h
  ·rename_i hh;exact hh
  ·cases h
 all_goals
  cases h
  exact (hc _ (List.mem_singleton.2 rfl)).h
theorem upto_ok {i:SI} {n:SO} {cs:List Prop} (h:upto i n=some cs) (hc:∀ p ∈ cs,p):0≤i.val∧i.val≤(n.val:Int):=by
 unfold upto at h
 split at h
 ·split at h
  ·rename_i hh;exact hh
  ·cases h
 all_goals
  cases h
  exact (hc _ (List.mem_singleton.2 rfl)).h
theorem leq_ok {i n:SO} {cs:List Prop} (h:i.leq n=some cs) (hc:∀ p ∈ cs,p):i.val≤n.val:=by
 unfold SO.leq at h
 split at h
 ·split at h
  ·rename_i hh;exact hh
  ·cases h
 all_goals
  cases h
  exact (hc _ (List.mem_singleton.2 rfl)).h
theorem guard_int (o:BinOp) (t:TypeId) (x y:Operand) (k k':IntKind) (a b:Int) (w:World):(eqGuard o t x y (.int k a) (.int k' b)).run P w=.ok () w:=by
 unfold eqGuard
 cases o <;> rfl
theorem guard_bool (o:BinOp) (t:TypeId) (x y:Operand) (a b:Bool) (w:World):(eqGuard o t x y (.bool a) (.bool b)).run P w=.ok () w:=by
 unfold eqGuard
 cases o <;> rfl
theorem binop_int {o:BinOp} {k:IntKind} {t:TypeId} {a b:Int} (w:World) (hs:o≠.shl) (hs2:o≠.shr) (hd:o=.quo∨o=.rem→b≠0) (hc:compares o=false) :
  (binOp o t (.int k a) (.int k b)).run P w=.ok (.int k (realBin o k a b)) w:=by
 cases o <;> simp [compares] at hc <;> simp at hs hs2 hd <;> simp [binOp,Op.intArith,Op.intDiv,Op.intBits,realBin,hd]
theorem binop_cmp {o:BinOp} {k:IntKind} {t:TypeId} {a b:Int} (w:World) (hc:compares o=true) :
  (binOp o t (.int k a) (.int k b)).run P w=.ok (.bool (realCmp o a b)) w:=by
 cases o <;> simp [compares] at hc <;> simp [binOp,Op.intCmp,realCmp]
theorem binop_shift {o:BinOp} {k k':IntKind} {t:TypeId} {a b:Int} (w:World) (ho:o=.shl∨o=.shr) (hb:0≤b) :
  (binOp o t (.int k a) (.int k' b)).run P w=.ok (.int k (realBin o k a b)) w:=by
 rcases ho with rfl | rfl <;> simp [binOp,Op.shift,realBin,Int.not_lt.2 hb]
theorem equal_bool {T:TypeId} (h1:P.underlying T=some .bool) (a b:Bool) (w:World):(Op.equal T (.bool a) (.bool b)).run P w=.ok (a == b) w:=by
 have key:∀ d:Nat,(Op.equalIn (d+1) T (.bool a) (.bool b)).run P w=.ok (a == b) w:=by
  intro d
  unfold Op.equalIn
  rw [Sem.run_bind,run_underlying h1]
  rfl
 exact key 9999
theorem binEff_ok (hP:EnvOK P E) {o:BinOp} {T:TypeId} {x y:AV} {cs:List Prop} {r:AV} (h:binEff E o T x y=some (cs,r)) (hc:∀ p ∈ cs,p)
  {m:M} {i j:Nat} {vx vy:Value} (hx:VR m i x vx) (hy:VR m j y vy) (hwx:wfV x) (w:World) (ox oy:Operand) :
  (eqGuard o T ox oy vx vy).run P w=.ok () w∧(binOp o T vx vy).run P w=.ok (pv r) w∧plain r=true∧wfP r:=by
 unfold binEff at h
 split at h
 ·rename_i k a k' b
  cases hx;cases hy
  refine ⟨guard_int _ _ _ _ _ _ _ _ _,?_⟩
  split at h
  ·split at h
   ·rename_i n
    split at h
    ·rename_i hn
     cases h
     refine ⟨?_,rfl,?_⟩
     ·rw [pv,bin_val hP];exact binop_shift w (.inl rfl) hn
     ·show inR _ _;rw [bin_val hP];exact realBin_in _ hwx rfl
    ·cases h
   ·rename_i n
    cases h
    have hn:(0:Int)≤n:=(hc _ (List.mem_singleton.2 rfl)).h
    refine ⟨?_,rfl,?_⟩
    ·rw [pv,bin_val hP];exact binop_shift w (.inl rfl) hn
    ·show inR _ _;rw [bin_val hP];exact realBin_in _ hwx rfl
  ·split at h
   ·rename_i n
    split at h
    ·rename_i hn
     cases h
     refine ⟨?_,rfl,?_⟩
     ·rw [pv,bin_val hP];exact binop_shift w (.inr rfl) hn
     ·show inR _ _;rw [bin_val hP];exact realBin_in _ hwx rfl
    ·cases h
   ·rename_i n
    cases h
    have hn:(0:Int)≤n:=(hc _ (List.mem_singleton.2 rfl)).h
    refine ⟨?_,rfl,?_⟩
    ·rw [pv,bin_val hP];exact binop_shift w (.inr rfl) hn
    ·show inR _ _;rw [bin_val hP];exact realBin_in _ hwx rfl
  ·rename_i hs1 hs2
   split at h
   ·rename_i hk
    subst hk
    split at h
    ·rename_i ha
     cases h
     have hcmp:compares o=false:=by cases o <;> simp [arith] at ha <;> rfl
     refine ⟨?_,rfl,?_⟩
     ·rw [pv,bin_val hP]
      exact binop_int w (fun e=>hs1 e) (fun e=>hs2 e) (by intro e;rcases e with rfl | rfl <;> simp [arith] at ha) hcmp
     ·show inR _ _;rw [bin_val hP];exact realBin_in _ hwx hcmp
    ·split at h
     ·rename_i hcmp
      cases h
      refine ⟨?_,rfl,trivial⟩
      rw [pv,cmp_val hP];exact binop_cmp w hcmp
     ·rename_i hna hncmp
      have hcmp:compares o=false:=by simpa using hncmp
      split at h
      ·rename_i n
       split at h
       ·cases h
       ·rename_i hn
        cases h
        refine ⟨?_,rfl,?_⟩
        ·rw [pv,bin_val hP];exact binop_int w (fun e=>hs1 e) (fun e=>hs2 e) (fun _=>hn) hcmp
        ·show inR _ _;rw [bin_val hP];exact realBin_in _ hwx hcmp
      ·rename_i n
       cases h
       have hn:n≠0:=(hc _ (List.mem_singleton.2 rfl)).h
       refine ⟨?_,rfl,?_⟩
       ·rw [pv,bin_val hP];exact binop_int w (fun e=>hs1 e) (fun e=>hs2 e) (fun _=>hn) hcmp
       ·show inR _ _;rw [bin_val hP];exact realBin_in _ hwx hcmp
   ·cases h
 ·rename_i a b
  cases hx;cases hy
  refine ⟨guard_bool _ _ _ _ _ _ _,?_⟩
  have ht:=hP.ty T
  split at h
  ·rename_i hd
   have h1:P.underlying T=some .bool:=by unfold TyOK at ht;rw [hd] at ht;exact ht.1
   cases h
   refine ⟨?_,rfl,trivial⟩
   have:(a.eqb b).val=(a.val == b.val):=by cases a <;> cases b <;> rfl
   rw [pv,this]
   simp only [binOp,Sem.run_bind,equal_bool h1,Result.andThen_ok,Sem.run_pure,SB.val]
  ·rename_i hd
   have h1:P.underlying T=some .bool:=by unfold TyOK at ht;rw [hd] at ht;exact ht.1
   cases h
   refine ⟨?_,rfl,trivial⟩
   have:(a.eqb b).not.val=!(a.val == b.val):=by cases a <;> cases b <;> rfl
   rw [pv,this]
   simp only [binOp,Sem.run_bind,equal_bool h1,Result.andThen_ok,Sem.run_pure,SB.val]
  ·cases h
 ·rename_i k n f k' n' g
  cases hx;cases hy
  split at h
  ·rename_i hh
   obtain ⟨he,rfl,rfl,rfl,rfl⟩:=hh
   obtain ⟨e1,e2⟩:=hP.eq T he f g w
   refine ⟨e1 _ _ _,?_⟩
   split at h
   ·cases h
    refine ⟨?_,rfl,trivial⟩
    simp [binOp,e2,pv,SB.val,hP.A,realOps]
   ·cases h
    refine ⟨?_,rfl,trivial⟩
    simp [binOp,e2,pv,SB.val,hP.A,realOps]
   ·cases h
  ·cases h
 ·cases h
end
end Sx

namespace Sx
open Go Go.RowKit
section
variable {P:Program} {E:Env} {w0:World} {m:M} {S:St} {a:Act} {w:World} {gd:Gd}
def Led (w0:World) (S:St) (us:List (Nat × AV)) (a':Act) (w':World):Prop:=∃ m',Rel w0 m' (app us S) a' w'
theorem led_value {o:Oper} {dst:Option Tmp} {x:AV} {v:Value} {cs cs':List Prop} {us:List (Nat × AV)} {i:Nat} (R:Rel w0 m S a w) (hd:dst=o.dst)
  (he:(execOp a.eval o).run P w=.ok (.value v) w) (h:ret1 dst cs x=some (cs',us)) (hf:free x=true) (hv:VR m i x v) (hw:wfV x) (hn:∀ d ∈ us.map Prod.fst,noWhen d S) :
  Does P o a w (Led w0 S us):=by
 subst hd
 exact does_value he ⟨m,ret1_ok R h hf hv hw hn⟩
theorem moved_ok (R:Rel w0 m S a w) (hg:GdOK S gd) {o:Oper} {x:Operand} {mv:Option (List Nat)} (he:(execOp a.eval o).run P w=.ok (.value (a.eval x)) w) (hk:constOk x=true) {cs:List Prop} {us:List (Nat × AV)}
  (h:effMove mv gd S o.dst x=some (cs,us)) (hn:∀ d ∈ us.map Prod.fst,noWhen d S) (hr:mv≠none→∀ d,o.dst=some d→noRef d S):Does P o a w (Led w0 S us):=by
 obtain ⟨hv,hwf⟩:=opg_ok R hg x hk
 have hand:∀ (v:AV) (ks:List Nat),opg gd S x=v→light v=false→(∃ y,lst? v=some y)→mv=some ks→handOn ks o.dst x v=some (cs,us)→Does P o a w (Led w0 S us):=by
  intro v ks hx hl ⟨y,hy⟩ hmv hh
  obtain ⟨t,rfl,ht⟩:=opg_slot R hg hx hl (by intro e;rw [e] at hy;cases hy)
  unfold handOn at hh
  split at hh
  ·rename_i d t' hd hxt
   cases hxt
   split at hh
   ·cases hh
   ·rename_i hdt
    have hdt:¬ d=t:=fun e=>hdt (.inl e)
    cases hh
    refine does_value he ⟨mset m d (blk (lv (a.tmps.getD t undef))),?_⟩
    rw [hd]
    have:=R.hand (d:=d) (t:=t) (y:=y) (by rw [ht];exact hy) hdt (hr (by rw [hmv];simp) d hd) (hn d (by simp))
    rw [ht] at this
    exact this
  ·cases hh
 unfold effMove at h
 split at h
 all_goals try (cases h;done)
 all_goals try (rename_i hx;rw [hx] at hv hwf;exact led_value R rfl he h rfl hv hwf hn)
 ·rename_i kk es len cap f hx
  split at h
  ·rename_i t
   rw [hx] at hv
   obtain ⟨aa,c,h1,h2,h3⟩:=hv
   refine led_value (i:=0) R rfl he h rfl ?_ trivial hn
   exact ⟨aa,c,h1,fun hp=>by rw [h2 hp];rfl,h3⟩
  ·cases h
 ·rename_i kk es len f hx
  split at h
  ·exact hand _ _ hx rfl ⟨_,rfl⟩ rfl h
  ·rename_i t
   rw [hx] at hv
   obtain ⟨aa,c,h1,h2,h3,h4,h5⟩:=hv
   refine led_value (i:=0) R rfl he h rfl ?_ trivial hn
   refine ⟨aa,c,h1,fun hp=>?_,h4,h5⟩
   cases aa with
   | none=>have:=h3 rfl;omega
   | some q =>
    obtain ⟨q1,q2⟩:=h2 q rfl
    simp only [slotOf] at q1 q2
    rw [q1,q2]
    rfl
  ·cases h
 ·rename_i kk es len f ps hx
  split at h
  ·exact hand _ _ hx rfl ⟨_,rfl⟩ rfl h
  ·cases h
theorem move_ok (R:Rel w0 m S a w) (hg:GdOK S gd) {o:Oper} {x:Operand} {mv:Option (List Nat)} (ho:o.op=.move x∨o.op=.assign x) (hk:constOk x=true) {cs:List Prop} {us:List (Nat × AV)}
  (h:effMove mv gd S o.dst x=some (cs,us)) (hn:∀ d ∈ us.map Prod.fst,noWhen d S) (hr:mv≠none→∀ d,o.dst=some d→noRef d S):Does P o a w (Led w0 S us):=by
 have he:(execOp a.eval o).run P w=.ok (.value (a.eval x)) w:=by
  rcases ho with ho | ho <;> simp only [execOp,ho] <;> rfl
 exact moved_ok R hg he hk h hn hr
theorem alloc_ok (hP:EnvOK P E) (R:Rel w0 m S a w) {o:Oper} {T:TypeId} (ho:o.op=.alloc T) {v:AV} {cs:List Prop} {us:List (Nat × AV)} (hz:zero E T=some v)
  (h:ret1 o.dst [] (.own v)=some (cs,us)) (hn:∀ d ∈ us.map Prod.fst,noWhen d S) (hr:∀ d ∈ us.map Prod.fst,noRef d S):Does P o a w (Led w0 S us):=by
 have ht:=hP.ty T
 have key:∃ inf,P.info? T=some inf∧inf.zero=some (pv v)∧plain v=true∧wfP v∧(pv v).cells=cellsOf v:=by
  unfold zero at hz
  split at hz
  ·rename_i k hd
   cases hz
   unfold TyOK at ht;rw [hd] at ht
   obtain ⟨_,_,inf,h2,_,h3,_⟩:=ht
   exact ⟨inf,h2,h3,rfl,⟨min_nonpos k,max_nonneg k⟩,rfl⟩
  ·rename_i hd
   cases hz
   unfold TyOK at ht;rw [hd] at ht
   obtain ⟨_,_,inf,h2,_,h3,_⟩:=ht
   exact ⟨inf,h2,h3,rfl,trivial,rfl⟩
  ·rename_i hd
   cases hz
   obtain ⟨_,inf,h2,_,h3,_⟩:=ht.agg (by rw [hd];rfl)
   exact ⟨inf,h2,h3,rfl,fun _ _=>⟨min_nonpos _,max_nonneg _⟩,rfl⟩
  ·rename_i hd
   cases hz
   obtain ⟨_,inf,h2,_,h3,_⟩:=ht.agg (by rw [hd];rfl)
   exact ⟨inf,h2,h3,rfl,fun _ _=>⟨min_nonpos _,max_nonneg _⟩,rfl⟩
  ·cases hz
 obtain ⟨inf,hi,hzv,hp,hwf,hc⟩:=key
 have he:(execOp a.eval o).run P w=.ok (.value (.pointer (some ⟨w.heap.size,0,none⟩))) (w.alloc (.cells (cellsOf v) T)):=by
  simp only [execOp,ho,Instr.alloc,Sem.run_bind,run_zero hi hzv,Result.andThen_ok,newVar,newRow,run_newObj,Sem.run_pure,hc,World.alloc]
 unfold ret1 at h
 split at h
 ·rename_i d hd
  cases h
  refine does_value he ⟨mset m d (w.heap.size,0),?_⟩
  rw [hd]
  exact R.alloc d v T hp hwf (hr d (by simp)) (hn d (by simp))
 ·rename_i hd
  cases h
  refine does_value he ⟨m,?_⟩
  rw [hd]
  have h2:Below w.heap.size w (w.alloc (.cells (cellsOf v) T)):=(Below.refl _ _).alloc (Nat.le_refl _) _
  exact R.later h2
theorem box_ok (R:Rel w0 m S a w) (hg:GdOK S gd) {o:Oper} {T:TypeId} {x:Operand} (ho:o.op=.box T x) (hk:constOk x=true) {cs:List Prop} {us:List (Nat × AV)} (hb:boxable E T (opg gd S x)=true)
  (h:ret1 o.dst [] (.own (opg gd S x))=some (cs,us)) (hn:∀ d ∈ us.map Prod.fst,noWhen d S) (hr:∀ d ∈ us.map Prod.fst,noRef d S):Does P o a w (Led w0 S us):=by
 obtain ⟨hv,hwf⟩:=opg_ok R hg x hk
 have hp:plain (opg gd S x)=true:=by
  revert hb
  unfold boxable
  cases opg gd S x <;> cases (E.ty T).d <;> simp [plain]
 have hev:=plain_VR hp hv
 have hc:(a.eval x).cells=cellsOf (opg gd S x):=by
  rw [hev]
  revert hb
  unfold boxable
  cases opg gd S x <;> cases (E.ty T).d <;> simp [pv,cellsOf,Value.cells]
 have he:(execOp a.eval o).run P w=.ok (.value (.pointer (some ⟨w.heap.size,0,none⟩))) (w.alloc (.cells (cellsOf (opg gd S x)) T)):=by
  simp only [execOp,ho,Instr.box,Sem.run_bind,Result.andThen_ok,newVar,newRow,run_newObj,Sem.run_pure,hc,World.alloc]
 unfold ret1 at h
 split at h
 ·rename_i d hd
  cases h
  refine does_value he ⟨mset m d (w.heap.size,0),?_⟩
  rw [hd]
  exact R.alloc d _ T hp (wfV_wfP hp hwf) (hr d (by simp)) (hn d (by simp))
 ·rename_i hd
  cases h
  refine does_value he ⟨m,?_⟩
  rw [hd]
  have h2:Below w.heap.size w (w.alloc (.cells (cellsOf (opg gd S x)) T)):=(Below.refl _ _).alloc (Nat.le_refl _) _
  exact R.later h2
theorem pick_ok (R:Rel w0 m S a w) {o:Oper} {c x y:Operand} (ho:o.op=.pick c x y) (hkx:constOk x=true) (hky:constOk y=true) {cs:List Prop} {us:List (Nat × AV)}
  (h:effPick S o.dst c x y=some (cs,us)) (hn:∀ d ∈ us.map Prod.fst,noWhen d S):Does P o a w (Led w0 S us):=by
 unfold effPick at h
 split at h
 ·rename_i t
  have hc:=getG_ok R (gd:=none) trivial t
  have hget:∀ b,get S t=.bool b→a.eval (.tmp t)=.bool b.val:=by
   intro b hb
   have:=vals_get R t
   rw [hb] at this
   exact this.1
  have he:∀ b,get S t=.bool b→(execOp a.eval o).run P w=.ok (.value (if b.val then a.eval x else a.eval y)) w:=by
   intro b hb
   simp only [execOp,ho,hget b hb,asBool,Sem.run_bind,Sem.run_pure,Result.andThen_ok]
  split at h
  ·rename_i hb
   have e1:=he _ hb
   simp only [SB.val,if_true] at e1
   exact moved_ok R (gd:=some (t,true)) ⟨_,hb,rfl⟩ e1 hkx h hn (by intro e;exact absurd rfl e)
  ·rename_i hb
   have e1:=he _ hb
   simp only [SB.val,Bool.false_eq_true,if_false] at e1
   exact moved_ok R (gd:=some (t,false)) ⟨_,hb,rfl⟩ e1 hky h hn (by intro e;exact absurd rfl e)
  ·rename_i p hb
   have e1:=he _ hb
   have hg:GdOK S (some (t,p)):=⟨_,hb,rfl⟩
   simp only [SB.val] at e1
   split at h
   ·rename_i b1 b2 hx hy
    refine led_value (i:=0) R rfl e1 h rfl ?_ trivial hn
    cases p
    ·obtain ⟨hv,_⟩:=opg_ok R hg y hky
     rw [hy] at hv
     simp only [Bool.false_eq_true,if_false,cond_false]
     exact hv
    ·obtain ⟨hv,_⟩:=opg_ok R hg x hkx
     rw [hx] at hv
     simp only [if_true,cond_true]
     exact hv
   ·rename_i k n1 k' n2 hx hy
    split at h
    ·rename_i hk
     subst hk
     cases p
     ·obtain ⟨hv,hwf⟩:=opg_ok R hg y hky
      rw [hy] at hv hwf
      refine led_value (i:=0) R rfl e1 h rfl ?_ ?_ hn
      ·simp only [Bool.false_eq_true,if_false,cond_false];exact hv
      ·exact hwf
     ·obtain ⟨hv,hwf⟩:=opg_ok R hg x hkx
      rw [hx] at hv hwf
      refine led_value (i:=0) R rfl e1 h rfl ?_ ?_ hn
      ·simp only [if_true,cond_true];exact hv
      ·exact hwf
    ·cases h
   ·cases h
  ·cases h
 ·cases h
theorem sure (b off:Nat) (w:World):(Instr.sureAddr (.pointer (some ⟨b,off,none⟩))).run P w=.ok ⟨b,off,none⟩ w:=rfl
theorem own_block (R:Rel w0 m S a w) {s:Nat} {x:AV} (hs:get S s=.own x):(m s).2=0∧(∃ T,w.heap[(m s).1]?=some (.cells (cellsOf x) T (0,0)))∧plain x=true∧wfP x:=by
 obtain ⟨_,b2,b3⟩:=R.blks s x hs
 have:=vals_get R s
 rw [hs] at this
 exact ⟨b2,b3,this.1.2,this.2⟩
theorem load_ok (hP:EnvOK P E) (G:WOK E w0) (R:Rel w0 m S a w) (hg:GdOK S gd) {rd:List Nat} {o:Oper} {T:TypeId} {x:Operand} (ho:o.op=.load T x) (hk:constOk x=true) {cs:List Prop} {us:List (Nat × AV)}
  (h:effLoad E rd gd S o.dst T x=some (cs,us)) (hc:∀ p ∈ cs,p) (hn:∀ d ∈ us.map Prod.fst,noWhen d S):Does P o a w (Led w0 S us):=by
 obtain ⟨hv,_⟩:=opg_ok R hg x hk
 have fin:∀ (b off:Nat) (r:AV) (cs':List Prop),a.eval x=.pointer (some ⟨b,off,none⟩)→(loadVar T ⟨b,off,none⟩).run P w=.ok (pv r) w→plain r=true→wfP r →
   ret1 o.dst cs' r=some (cs,us)→Does P o a w (Led w0 S us):=by
  intro b off r cs' he hl hp hw hret
  refine led_value (i:=0) R rfl ?_ hret (plain_free hp) (VR_pv hp) (wfP_wfV hp hw) hn
  simp only [execOp,ho,Instr.loadAt,he,Sem.run_bind,sure,Result.andThen_ok,hl,Sem.run_pure]
 unfold effLoad at h
 split at h
 ·rename_i v hx
  obtain ⟨t,rfl,ht⟩:=opg_slot R hg hx rfl (by simp)
  rw [hx] at hv
  obtain ⟨h0,⟨T0,hb⟩,hp,hw⟩:=own_block R ht
  split at h
  ·rename_i cs' r hs
   have:=ret1_cs h
   subst this
   obtain ⟨l1,l2,l3⟩:=sub_ok hP hs hc hw hb
   have hev:a.eval (.tmp t)=.pointer (some ⟨(m t).1,0,none⟩):=by
    have:=hv.1
    simp only [slotOf] at this
    rw [this,h0]
   exact fin _ _ _ _ hev l1 l2 l3 h
  ·cases h
 ·rename_i s off hx
  rw [hx] at hv
  split at h
  ·split at h
   ·rename_i v hs
    obtain ⟨h0,⟨T0,hb⟩,hp,hw⟩:=own_block R hs
    split at h
    ·rename_i cs' r hsub
     have:=ret1_cs h
     subst this
     obtain ⟨l1,l2,l3⟩:=sub_ok hP hsub hc hw hb
     have hev:a.eval x=.pointer (some ⟨(m s).1,off.val,none⟩):=by
      have:=hv
      simp only [VR,h0,Nat.zero_add] at this
      exact this
     exact fin _ _ _ _ hev l1 l2 l3 h
    ·cases h
   ·split at h
    ·rename_i k es len f hl
     have hwx:=vals_get R s
     have hin:∀ i,i<len.val*es→inR k (f i):=by
      rcases lst_cases hl with ⟨k',es',len',f',h3,h4⟩ | ⟨k',es',len',f',ps,h3,h4⟩
      ·cases h4;rw [h3] at hwx;exact hwx.2
      ·cases h4;rw [h3] at hwx;exact hwx.2.1
     have hcw:0<len.val→(m s).2=0∧∀ j,j<len.val*es→w.cell? ⟨(m s).1,j,none⟩=some (.int k (f j)):=by
      intro hp
      obtain ⟨e,cap,cur,b1,_,b3,_,_,_,b7,_⟩:=lst_block R hl hp
      exact ⟨b1,fun j hj=>by rw [cell_of_row w _ _ _ e (0,0) b3];exact row_cell b7 hj⟩
     have hpos:∀ n,0<n→off.val+n≤len.val*es→0<len.val:=by
      intro n hn hle
      rcases Nat.eq_zero_or_pos len.val with h0 | h0
      ·rw [h0] at hle;simp at hle;omega
      ·exact h0
     split at h
     ·rename_i k' hd
      split at h
      ·rename_i hkk
       subst hkk
       have:=ret1_cs h
       subst this
       have hle:off.val+1≤len.val*es:=(hc _ (List.mem_singleton.2 rfl)).h
       obtain ⟨b1,hcell⟩:=hcw (hpos 1 (by omega) hle)
       have h1:P.underlying T=some (.int k):=by have:=hP.ty T;unfold TyOK at this;rw [hd] at this;exact this.1
       have hev:a.eval x=.pointer (some ⟨(m s).1,off.val,none⟩):=by
        have:=hv
        simp only [VR,b1,Nat.zero_add] at this
        exact this
       exact fin _ _ (.int k (.sym (f off.val))) _ hev (run_load_one h1 rfl (hcell _ (by omega))) rfl (show inR k (f off.val) from hin _ (by omega)) h
      ·cases h
     all_goals try (cases h;done)
     all_goals
      rename_i hd
      split at h
      ·rename_i hkk
       have:=ret1_cs h
       subst this
       have hle:off.val+(E.ty T).sz≤len.val*es:=(hc _ (List.mem_singleton.2 rfl)).h
       have ha:isA (E.ty T).d=true:=by rw [hd];rfl
       rcases Nat.eq_zero_or_pos (E.ty T).sz with hz | hz
       ·refine fin _ _ (.arr k (E.ty T).sz (fun j=>f (off.val+j))) _ hv (run_load_cells (hP.ty T) ha (k:=k) (f:=fun j=>f (off.val+j)) (by intro j hj;omega)) rfl (fun i (hi:i<(E.ty T).sz)=>by omega) h
       ·obtain ⟨b1,hcell⟩:=hcw (hpos _ hz hle)
        have hev:a.eval x=.pointer (some ⟨(m s).1,off.val,none⟩):=by
         have:=hv
         simp only [VR,b1,Nat.zero_add] at this
         exact this
        refine fin _ _ (.arr k (E.ty T).sz (fun j=>f (off.val+j))) _ hev (run_load_cells (hP.ty T) ha (k:=k) (f:=fun j=>f (off.val+j)) ?_) rfl (fun i (hi:i<(E.ty T).sz)=>hin (off.val+i) (by omega)) h
        intro j hj
        exact hcell _ (by omega)
      ·cases h
    ·cases h
  ·cases h
 ·rename_i g off hx
  rw [hx] at hv
  split at h
  ·rename_i cs' r hsub
   have:=ret1_cs h
   subst this
   have hgl:=(G.later R.below).glob g
   have hne:∃ T fz,plain (E.glob g)=true∧wfP (E.glob g)∧w.heap[g]?=some (.cells (cellsOf (E.glob g)) T fz):=by
    revert hgl hsub
    cases E.glob g <;> intro hsub hgl
    ·unfold sub at hsub;split at hsub <;> simp at hsub
    all_goals exact ⟨hgl.2.2.choose,hgl.2.2.choose_spec.choose,hgl.1,hgl.2.1,hgl.2.2.choose_spec.choose_spec⟩
   obtain ⟨T0,fz,_,hw,hb⟩:=hne
   obtain ⟨l1,l2,l3⟩:=sub_ok hP hsub hc hw hb
   exact fin _ _ _ _ hv l1 l2 l3 h
  ·cases h
 ·rename_i s off hx
  rw [hx] at hv
  split at h
  ·split at h
   ·rename_i k es len cap f hs
    have hwx:=(vals_get R s)
    rw [hs] at hwx
    have hcells:=R.xsls s k es len cap f hs
    have hcw:∀ j,j<len.val*es→w.cell? ⟨(m s).1,(m s).2+j,none⟩=some (.int k (f j)):=by
     intro j hj
     have:=hcells j hj
     rw [R.below.cell (World.block_lt_of_cell? w0 _ this)]
     exact this
    split at h
    ·rename_i k' hd
     split at h
     ·rename_i hkk
      subst hkk
      have:=ret1_cs h
      subst this
      have hle:off.val+1≤len.val*es:=(hc _ (List.mem_singleton.2 rfl)).h
      have h1:P.underlying T=some (.int k):=by have:=hP.ty T;unfold TyOK at this;rw [hd] at this;exact this.1
      exact fin _ _ (.int k (.sym (f off.val))) _ hv (run_load_one h1 rfl (hcw _ (by omega))) rfl (show inR k (f off.val) from hwx.2 _ (by omega)) h
     ·cases h
    all_goals try (cases h;done)
    all_goals
     rename_i hd
     split at h
     ·rename_i hkk
      have:=ret1_cs h
      subst this
      have hle:off.val+(E.ty T).sz≤len.val*es:=(hc _ (List.mem_singleton.2 rfl)).h
      have ha:isA (E.ty T).d=true:=by rw [hd];rfl
      refine fin _ _ (.arr k (E.ty T).sz (fun j=>f (off.val+j))) _ hv (run_load_cells (hP.ty T) ha (k:=k) (f:=fun j=>f (off.val+j)) ?_) rfl (fun i (hi:i<(E.ty T).sz)=>hwx.2 (off.val+i) (by omega)) h
      intro j hj
      rw [Nat.add_assoc]
      exact hcw _ (by omega)
     ·cases h
   ·cases h
  ·cases h
 ·cases h
theorem writeAt_lcells {cur:Array Value} {k:IntKind} {n off:Nat} {f g:Nat→Int} {xs:List Value} (h:cur.toList.take n=lcells k n f) (hn:n≤cur.size) (_hle:off+xs.length≤n) (hg:∀ j,j<n→(if off≤j∧j<off+xs.length then xs[j - off]? else some (.int k (f j)))=some (.int k (g j))) :
  (writeAt cur off xs).toList.take n=lcells k n g:=by
 apply List.ext_getElem?
 intro j
 by_cases hj:j<n
 ·rw [List.getElem?_take,if_pos hj,lcells_get k n g hj,Array.getElem?_toList,writeAt_get xs cur off j (by omega),row_cell h hj]
  exact hg j hj
 ·rw [List.getElem?_eq_none (by simp;omega),List.getElem?_eq_none (by rw [length_lcells];omega)]
theorem storeL_ok (hP:EnvOK P E) (R:Rel w0 m S a w) {o:Oper} {T:TypeId} {x y:Operand} (ho:o.op=.store T x y) {s:Nat} {off:SO} {u:AV} (hv:VR m (slotOf x) (.ref s off) (a.eval x)) (hv2:VR m (slotOf y) u (a.eval y)) (hw2:wfV u)
  {k:IntKind} {es:Nat} {len:SO} {f f':Nat→Int} (hs:get S s=.osl k es len f) {cs:List Prop} (hput:putL E T k es len f off u=some (cs,f')) (hc:∀ p ∈ cs,p) (hd:o.dst=none):Does P o a w (Led w0 S [(s,.osl k es len f')]):=by
 have hl:lst? (get S s)=some (k,es,len,f):=by rw [hs];rfl
 have hin:∀ i,i<len.val*es→inR k (f i):=by
  have:=vals_get R s
  rw [hs] at this
  exact this.2
 have fin:∀ (n:Nat) (inf:TypeInfo),P.info? T=some inf→inf.size=n→(pv u).cells.size=n→0<n→plain u=true→(∀ z ∈ (pv u).cells.toList,z.oneCell'=true)→off.val+n≤len.val*es →
   (∀ j,j<len.val*es→(if off.val≤j∧j<off.val+n then (pv u).cells.toList[j - off.val]? else some (.int k (f j)))=some (.int k (f' j)))→(∀ i,i<len.val*es→inR k (f' i))→Does P o a w (Led w0 S [(s,.osl k es len f')]):=by
  intro n inf hi hsz hcs hn hp h1 hle hg hwf
  have hpos:0<len.val:=by
   rcases Nat.eq_zero_or_pos len.val with h0 | h0
   ·rw [h0] at hle;simp at hle;omega
   ·exact h0
  obtain ⟨e,cap,cur,b1,b2,b3,b4,b5,b6,b7,b8⟩:=lst_block R hl hpos
  have hev:a.eval x=.pointer (some ⟨(m s).1,off.val,none⟩):=by
   have:=hv
   simp only [VR,b1,Nat.zero_add] at this
   exact this
  have hcap:len.val*es≤cur.size:=by rw [b6];exact Nat.mul_le_mul_right _ b4
  have hst:=run_storeVar (P:=P) hi (b:=(m s).1) (off:=off.val) (v:=pv u) b3 (by rw [hcs,hsz]) h1 (by omega)
  have hlen:(pv u).cells.toList.length=n:=by simpa using hcs
  refine does_skip (w':=w.setRow (m s).1 (writeAt cur off.val (pv u).cells.toList)) ?_ ⟨m,?_⟩
  ·have:a.eval y=pv u:=plain_VR hp hv2
   simp only [execOp,ho,Instr.storeAt,hev,this,Sem.run_bind,sure,Result.andThen_ok,hst,Sem.run_pure]
  ·rw [hd]
   refine R.storeL hs hpos b3 (size_writeAt _ _ _) (writeAt_lcells b7 hcap (by rw [hlen];exact hle) ?_) hwf
   intro j hj
   rw [hlen]
   exact hg j hj
 unfold putL at hput
 split at hput
 ·rename_i k' n1
  split at hput
  ·rename_i kt hdt
   split at hput
   ·rename_i hkk
    obtain ⟨rfl,rfl⟩:=hkk
    cases hput
    have ht:=hP.ty T
    unfold TyOK at ht
    rw [hdt] at ht
    obtain ⟨_,_,inf,h2,h3,_⟩:=ht
    have hle:off.val+1≤len.val*es:=(hc _ (List.mem_singleton.2 rfl)).h
    refine fin 1 inf h2 h3 rfl (by omega) rfl (by intro z hz;simp [pv,Value.cells] at hz;subst hz;rfl) hle ?_ ?_
    ·intro j hj
     simp only [upd,pv,Value.cells]
     by_cases hjo:j=off.val
     ·subst hjo;simp
     ·rw [if_neg (by omega),if_neg hjo]
    ·intro i hi
     simp only [upd]
     split
     ·exact hw2
     ·exact hin i hi
   ·cases hput
  ·cases hput
 ·rename_i k' n1 g
  have fin2:∀ (hk:(E.ty T).sz=n1∧k=k'),isA (E.ty T).d=true→cs=[FitsMul off.val n1 len.val es]→f'=splice f off.val n1 g→Does P o a w (Led w0 S [(s,.osl k es len f')]):=by
   intro hk ha hcs hf
   obtain ⟨hk1,hk2⟩:=hk
   subst hk2 hcs hf
   obtain ⟨_,inf,h2,h3,_⟩:=(hP.ty T).agg ha
   have hle:off.val+n1≤len.val*es:=(hc _ (List.mem_singleton.2 rfl)).h
   rcases Nat.eq_zero_or_pos n1 with hz | hz
   ·have hev:∃ p,a.eval x=.pointer (some p):=⟨_,hv⟩
    obtain ⟨p,hev⟩:=hev
    have hf0:splice f off.val n1 g=f:=by
     funext j
     simp only [splice,hz]
     split
     ·rfl
     ·rw [if_neg (by omega)]
    refine does_skip (w':=w) ?_ ⟨m,?_⟩
    ·have h5:a.eval y=.agg (cellsA k n1 g):=hv2
     have h6:(storeVar T p (.agg (cellsA k n1 g))).run P w=.ok () w:=by
      have h7:(cellsA k n1 g)=#[]:=by apply Array.eq_empty_of_size_eq_zero;simp [hz]
      rw [h7]
      simp [storeVar,Sem.run_bind,run_size h2,h3,hk1,hz,Value.cells,storeCells]
     simp only [execOp,ho,Instr.storeAt,hev,h5,Sem.run_bind,Instr.sureAddr,Result.andThen_ok,Sem.run_pure]
     simp [h6]
    ·rw [hd,hf0]
     have:app [(s,.osl k es len f)] S=S:=by
      show S.set s (.osl k es len f)=S
      apply List.ext_getElem?
      intro i
      rw [List.getElem?_set]
      split
      ·rename_i h;subst h
       split
       ·rename_i hlt
        have:=hs
        simp only [get,List.getD_eq_getElem?_getD,List.getElem?_eq_getElem hlt,Option.getD_some] at this
        rw [List.getElem?_eq_getElem hlt,this]
       ·rename_i hlt
        rw [List.getElem?_eq_none (by omega)]
      ·rfl
     rw [this]
     exact R
   ·refine fin n1 inf h2 (by rw [h3,hk1]) (by simp [pv,Value.cells]) hz rfl (cells_one _ _ _) hle ?_ ?_
    ·intro j hj
     simp only [splice,pv,Value.cells]
     by_cases h1:off.val≤j∧j<off.val+n1
     ·rw [if_pos h1,if_neg (by omega),if_pos h1.2]
      have:=cellsA_get k n1 g (j - off.val) (by omega)
      simpa using this
     ·rw [if_neg h1]
      by_cases h2:j<off.val
      ·rw [if_pos h2]
      ·rw [if_neg h2,if_neg (by omega)]
    ·intro i hi
     simp only [splice]
     split
     ·exact hin i hi
     ·split
      ·exact hw2 _ (by omega)
      ·exact hin i hi
  split at hput
  ·rename_i hdt
   split at hput
   ·rename_i hk
    cases hput
    exact fin2 hk (by rw [hdt];rfl) rfl rfl
   ·cases hput
  ·rename_i hdt
   split at hput
   ·rename_i hk
    cases hput
    exact fin2 hk (by rw [hdt];rfl) rfl rfl
   ·cases hput
  ·cases hput
 ·cases hput
theorem store_ok (hP:EnvOK P E) (R:Rel w0 m S a w) (hg:GdOK S gd) {rd ks:List Nat} {o:Oper} {T:TypeId} {x y:Operand} (ho:o.op=.store T x y) (hk:constOk x=true) (hk2:constOk y=true) {cs:List Prop} {us:List (Nat × AV)}
  (h:effStore E rd ks gd S o.dst T x y=some (cs,us)) (hc:∀ p ∈ cs,p):Does P o a w (Led w0 S us):=by
 obtain ⟨hv,_⟩:=opg_ok R hg x hk
 obtain ⟨hv2,hw2⟩:=opg_ok R hg y hk2
 have fin:∀ (s:Nat) (off:SO) (v v':AV) (cs':List Prop),get S s=.own v→a.eval x=.pointer (some ⟨(m s).1,off.val,none⟩)→put E T v off (opg gd S y)=some (cs',v')→(∀ p ∈ cs',p)→o.dst=none →
   Does P o a w (Led w0 S [(s,.own v')]):=by
  intro s off v v' cs' hs he hput hcs hd
  obtain ⟨h0,⟨T0,hb⟩,hp,hw⟩:=own_block R hs
  obtain ⟨s1,s2,s3,s4⟩:=put_ok hP hput hcs hw hw2 hb
  rw [← plain_VR s4 hv2] at s1
  refine does_skip (w':=w.setRow (m s).1 (cellsOf v')) ?_ ⟨m,?_⟩
  ·simp only [execOp,ho,Instr.storeAt,he,Sem.run_bind,sure,Result.andThen_ok,s1,Sem.run_pure]
  ·rw [hd]
   exact R.store s v v' hs s2 s3
 unfold effStore at h
 split at h
 ·cases h
 ·rename_i hd
  split at h
  ·rename_i v hx
   split at h
   ·rename_i t hxt
    split at h
    ·split at h
     ·rename_i cs' v' hput
      cases h
      obtain ⟨t',ht',hs⟩:=opg_slot R hg hx rfl (by simp)
      subst ht'
      cases hxt
      rw [hx] at hv
      obtain ⟨h0,_⟩:=own_block R hs
      refine fin _ (.lit 0) v v' cs hs ?_ hput hc hd
      have:=hv.1
      simp only [slotOf] at this
      rw [this,h0]
      rfl
     ·cases h
    ·cases h
   ·cases h
  ·rename_i s off hx
   split at h
   ·split at h
    ·rename_i v hs
     split at h
     ·rename_i cs' v' hput
      cases h
      rw [hx] at hv
      obtain ⟨h0,_⟩:=own_block R hs
      refine fin s off v v' cs hs ?_ hput hc hd
      simp only [VR,h0,Nat.zero_add] at hv
      exact hv
     ·cases h
    ·rename_i k es len f hs
     split at h
     ·rename_i cs' f' hput
      cases h
      rw [hx] at hv
      exact storeL_ok hP R ho hv hv2 hw2 hs hput hc hd
     ·cases h
    ·cases h
   ·cases h
  ·cases h
theorem asInt_run (k:IntKind) (n:Int) (w:World):(asIntOf (.int k n)).run P w=.ok (k,n) w:=rfl
theorem indexAt_arr {T e:TypeId} {n:Nat} {inf:TypeInfo} (hT:P.underlying T=some (.array n e)) (hi:P.info? e=some inf) {b off:Nat} {k:IntKind} {i:Int} (h0:0≤i) (h1:i<(n:Int)) (w:World) :
  (Instr.indexAt T (.pointer (some ⟨b,off,none⟩)) (.int k i)).run P w=.ok (.pointer (some ⟨b,off+i.toNat * inf.size,none⟩)) w:=by
 simp only [Instr.indexAt,Sem.run_bind,asInt_run,Result.andThen_ok,run_underlying hT,sure,Sem.run_pure,Sem.run_ite,run_size hi,addr_add]
 rw [if_pos ⟨h0,h1⟩]
theorem indexAt_slice {T e:TypeId} {inf:TypeInfo} (hT:P.underlying T=some (.slice e)) (hi:P.info? e=some inf) {b off len cap:Nat} {k:IntKind} {i:Int} (h0:0≤i) (h1:i<(len:Int)) (w:World) :
  (Instr.indexAt T (.slice (some ⟨b,off,none⟩) len cap) (.int k i)).run P w=.ok (.pointer (some ⟨b,off+i.toNat * inf.size,none⟩)) w:=by
 simp only [Instr.indexAt,Sem.run_bind,asInt_run,Result.andThen_ok,run_underlying hT,Sem.run_pure,Sem.run_ite,run_size hi,addr_add]
 rw [if_pos ⟨h0,h1⟩]
theorem sized_info (hP:EnvOK P E) {e:TypeId} (h:sized E e=true):∃ inf,P.info? e=some inf∧inf.size=(E.ty e).sz:=by
 apply (hP.ty e).info
 unfold sized at h
 revert h
 cases (E.ty e).d <;> simp
theorem indexAddr_ok (hP:EnvOK P E) (R:Rel w0 m S a w) (hg:GdOK S gd) {rd:List Nat} {o:Oper} {T:TypeId} {x i:Operand} (ho:o.op=.indexAddr T x i) (hk:constOk x=true) (hk2:constOk i=true) {cs:List Prop} {us:List (Nat × AV)}
  (h:effIndexAddr E rd gd S o.dst T x i=some (cs,us)) (hc:∀ p ∈ cs,p) (hn:∀ d ∈ us.map Prod.fst,noWhen d S):Does P o a w (Led w0 S us):=by
 obtain ⟨hv,_⟩:=opg_ok R hg x hk
 obtain ⟨hvi,_⟩:=opg_ok R hg i hk2
 unfold effIndexAddr at h
 split at h
 ·rename_i ki iv hi
  rw [hi] at hvi
  split at h
  ·rename_i n e hd
   have hT:P.underlying T=some (.array n e):=by have:=hP.ty T;unfold TyOK at this;rw [hd] at this;exact this.1
   split at h
   ·rename_i hse
    obtain ⟨inf,hinf,hsz⟩:=sized_info hP hse
    split at h
    ·rename_i cs1 hw1
     have fin:∀ (b off:Nat) (r:AV),a.eval x=.pointer (some ⟨b,off,none⟩)→ret1 o.dst cs1 r=some (cs,us)→free r=true→VR m 0 r (.pointer (some ⟨b,off+(iv.off E.A).val*(E.ty e).sz,none⟩))→wfV r→Does P o a w (Led w0 S us):=by
      intro b off r he hret hf hvr hwr
      have:=ret1_cs hret
      subst this
      obtain ⟨h0,h1⟩:=within_ok hw1 hc
      refine led_value (i:=0) R rfl ?_ hret hf hvr hwr hn
      have hvi':a.eval i=.int ki iv.val:=hvi
      simp only [execOp,ho,he,hvi',Sem.run_bind,indexAt_arr hT hinf h0 h1,Result.andThen_ok,Sem.run_pure,off_val hP,hsz]
     split at h
     ·rename_i v hx
      split at h
      ·rename_i t hxt
       obtain ⟨t',ht',hs⟩:=opg_slot R hg hx rfl (by simp)
       subst ht'
       cases hxt
       rw [hx] at hv
       refine fin _ _ _ hv.1 h rfl ?_ trivial
       simp only [VR,slotOf,mul_val]
      ·cases h
     ·rename_i s off hx
      rw [hx] at hv
      refine fin _ _ _ hv h rfl ?_ trivial
      simp only [VR,add_val,mul_val,Nat.add_assoc]
     ·rename_i g off hx
      rw [hx] at hv
      refine fin _ _ _ hv h rfl ?_ trivial
      simp only [VR,add_val,mul_val]
     ·cases h
    ·cases h
   ·cases h
  ·rename_i e hd
   have hT:P.underlying T=some (.slice e):=by have:=hP.ty T;unfold TyOK at this;rw [hd] at this;exact this
   have fin:∀ (b off len cap:Nat) (cs1:List Prop) (r:AV),sized E e=true→a.eval x=.slice (some ⟨b,off,none⟩) len cap→(0≤iv.val∧iv.val<(len:Int))→ret1 o.dst cs1 r=some (cs,us)→free r=true →
     VR m 0 r (.pointer (some ⟨b,off+(iv.off E.A).val*(E.ty e).sz,none⟩))→wfV r→Does P o a w (Led w0 S us):=by
    intro b off len cap cs1 r hse he hb hret hf hvr hwr
    obtain ⟨inf,hinf,hsz⟩:=sized_info hP hse
    refine led_value (i:=0) R rfl ?_ hret hf hvr hwr hn
    have hvi':a.eval i=.int ki iv.val:=hvi
    simp only [execOp,ho,he,hvi',Sem.run_bind,indexAt_slice hT hinf hb.1 hb.2,Result.andThen_ok,Sem.run_pure,off_val hP,hsz]
   split at h
   ·rename_i s es off len cap hx
    rw [hx] at hv
    obtain ⟨aa,cc,h1,h2,_⟩:=hv
    split at h
    ·rename_i hh
     obtain ⟨hes,_,hse⟩:=hh
     split at h
     ·rename_i cs1 hw1
      split at h
      ·have:=ret1_cs h
       subst this
       have hb:=within_ok hw1 hc
       refine fin _ _ _ _ _ _ hse (by rw [h1,h2 (by omega)]) hb h rfl ?_ trivial
       simp only [VR,add_val,mul_val,Nat.add_assoc,hes]
      ·have:=ret1_cs h
       subst this
       have hb:=within_ok hw1 hc
       refine fin _ _ _ _ _ _ hse (by rw [h1,h2 (by omega)]) hb h rfl ?_ trivial
       simp only [VR,add_val,mul_val,Nat.add_assoc,hes]
      ·split at h
       ·have:=ret1_cs h
        subst this
        have hb:=within_ok hw1 hc
        refine fin _ _ _ _ _ _ hse (by rw [h1,h2 (by omega)]) hb h rfl ?_ trivial
        simp only [VR,add_val,mul_val,Nat.add_assoc,hes]
       ·cases h
     ·cases h
    ·cases h
   ·rename_i kk es len f hx
    rw [hx] at hv
    obtain ⟨aa,cc,h1,hsl⟩:=hv
    split at h
    ·rename_i hh
     obtain ⟨hes,hse⟩:=hh
     split at h
     ·rename_i t cs1 hxt hw1
      have:=ret1_cs h
      subst this
      obtain ⟨t',ht',hs⟩:=opg_slot R hg hx rfl (by simp)
      subst ht'
      cases hxt
      have hb:=within_ok hw1 hc
      cases aa with
      | none=>have:=hsl.2.1 rfl;omega
      | some q =>
       obtain ⟨q1,q2⟩:=hsl.1 q rfl
       rw [q1] at h1
       refine fin _ _ _ _ _ _ hse h1 hb h rfl ?_ trivial
       simp only [slotOf] at q2
       simp only [VR,slotOf,mul_val,hes,q2]
     ·cases h
    ·cases h
   ·rename_i kk es len cap f hx
    rw [hx] at hv
    obtain ⟨aa,cc,h1,h2,_⟩:=hv
    split at h
    ·rename_i hh
     obtain ⟨hes,hse⟩:=hh
     split at h
     ·rename_i t cs1 hxt hw1
      have:=ret1_cs h
      subst this
      obtain ⟨t',ht',hs⟩:=opg_slot R hg hx rfl (by simp)
      subst ht'
      cases hxt
      have hb:=within_ok hw1 hc
      refine fin _ _ _ _ _ _ hse (by rw [h1,h2 (by omega)]) hb h rfl ?_ trivial
      simp only [VR,slotOf,mul_val,hes]
     ·cases h
    ·cases h
   ·cases h
  ·cases h
 ·cases h
theorem fields_get {fs:Array Field} {l:List (Nat × TypeId)} (h:fs.toList.map (fun f=>(f.offset,f.type))=l) {i o:Nat} {t:TypeId} (hi:l[i]?=some (o,t)):∃ f,fs[i]?=some f∧f.offset=o∧f.type=t:=by
 subst h
 simp only [List.getElem?_map,Option.map_eq_some_iff,Array.getElem?_toList,Prod.mk.injEq] at hi
 exact hi
theorem struct_ty (hP:EnvOK P E) {T:TypeId} {fs:List (Nat × TypeId)} (hd:(E.ty T).d=.struct fs):∃ fields,P.underlying T=some (.struct fields)∧fields.toList.map (fun f=>(f.offset,f.type))=fs:=by
 have:=hP.ty T
 unfold TyOK at this
 rw [hd] at this
 obtain ⟨fields,h1,h2,_⟩:=this
 exact ⟨fields,h1,h2⟩
theorem fieldAddr_ok (hP:EnvOK P E) (R:Rel w0 m S a w) (hg:GdOK S gd) {o:Oper} {T:TypeId} {x:Operand} {fi:Nat} (ho:o.op=.fieldAddr T x fi) (hk:constOk x=true) {cs:List Prop} {us:List (Nat × AV)}
  (h:effFieldAddr E gd S o.dst T x fi=some (cs,us)) (hn:∀ d ∈ us.map Prod.fst,noWhen d S):Does P o a w (Led w0 S us):=by
 obtain ⟨hv,_⟩:=opg_ok R hg x hk
 unfold effFieldAddr at h
 split at h
 ·rename_i fs hd
  obtain ⟨fields,hT,hfs⟩:=struct_ty hP hd
  split at h
  ·rename_i oo ft hf
   obtain ⟨f,hf1,hf2,hf3⟩:=fields_get hfs hf
   split at h
   ·cases h
   ·rename_i hz
    have hz1:(E.ty ft).sz≠0:=fun e=>hz (.inl e)
    have hz2:sized E ft=true:=by
     cases hh:sized E ft
     ·exact absurd (.inr (by simp [hh])) hz
     ·rfl
    obtain ⟨inf,hinf,hsz⟩:=sized_info hP hz2
    have fin:∀ (b off:Nat) (r:AV),a.eval x=.pointer (some ⟨b,off,none⟩)→ret1 o.dst [] r=some (cs,us)→free r=true→VR m 0 r (.pointer (some ⟨b,off+oo,none⟩))→wfV r→Does P o a w (Led w0 S us):=by
     intro b off r he hret hfr hvr hwr
     refine led_value (i:=0) R rfl ?_ hret hfr hvr hwr hn
     simp only [execOp,ho,he,Instr.fieldAt,Sem.run_bind,run_underlying hT,Result.andThen_ok,hf1,sure,fieldPlace,hf3,run_size hinf,Sem.run_ite,hsz,if_neg hz1,Sem.run_pure,addr_add,hf2]
    split at h
    ·rename_i v hx
     split at h
     ·rename_i t hxt
      obtain ⟨t',ht',hs⟩:=opg_slot R hg hx rfl (by simp)
      subst ht'
      cases hxt
      rw [hx] at hv
      exact fin _ _ _ hv.1 h rfl rfl trivial
     ·cases h
    ·rename_i s off hx
     rw [hx] at hv
     refine fin _ _ _ hv h rfl ?_ trivial
     simp only [VR,add_val,lit_val,Nat.add_assoc]
    ·rename_i g off hx
     rw [hx] at hv
     refine fin _ _ _ hv h rfl ?_ trivial
     simp only [VR,add_val,lit_val]
    ·cases h
  ·cases h
 ·cases h
theorem part_ok (hP:EnvOK P E) {T:TypeId} {x:AV} {off:SO} {cs:List Prop} {r:AV} (h:sub E T x off=some (cs,r)) (hc:∀ p ∈ cs,p) {k:IntKind} {n:Nat} {f:Nat→Int} (hx:x=.arr k n f) (hw:wfP (.arr k n f)) (w:World) :
  (part T (cellsA k n f) off.val).run P w=.ok (pv r) w∧plain r=true∧wfP r:=by
 have ht:=hP.ty T
 have agg:∀ (ha:isA (E.ty T).d=true) (o:Nat),o+(E.ty T).sz≤n→(part T (cellsA k n f) o).run P w=.ok (.agg (cellsA k (E.ty T).sz (fun j=>f (o+j)))) w:=by
  intro ha o hle
  obtain ⟨⟨d,hd,hag⟩,inf,hi,hs,_⟩:=ht.agg ha
  have:(cellsA k n f).extract o (o+(E.ty T).sz)=cellsA k (E.ty T).sz (fun j=>f (o+j)):=by
   apply Array.ext
   ·simp;omega
   ·intro i h1 h2
    simp [cellsA]
  simp only [part,Sem.run_bind,run_agg hd,hag,Result.andThen_ok,if_true,run_size hi,hs,this,Sem.run_pure]
 unfold sub at h
 split at h
 ·rename_i k' hd
  have h1:P.underlying T=some (.int k'):=by unfold TyOK at ht;rw [hd] at ht;exact ht.1
  split at h
  ·cases hx
  ·rename_i k2 n2 f2
   cases hx
   split at h
   ·rename_i hkk
    subst hkk
    split at h
    ·rename_i cs' hf
     cases h
     have hle:=fits_ok hf hc
     refine ⟨?_,rfl,hw _ (by omega)⟩
     have hcell:=cellsA_get k' n f off.val (by omega)
     simp only [part,Sem.run_bind,run_agg h1,isG,Result.andThen_ok,Bool.false_eq_true,if_false,hcell]
     rfl
    ·cases h
   ·cases h
  ·cases h
 ·split at h
  ·cases hx
  ·cases h
 all_goals try (rename_i hd;cases h;done)
 all_goals
  rename_i hd
  have ha:isA (E.ty T).d=true:=by rw [hd];rfl
  split at h
  ·rename_i k2 n2 f2
   cases hx
   split at h
   ·rename_i hkk
    split at h
    ·rename_i hnn
     cases h
     refine ⟨?_,rfl,hw⟩
     have:=agg ha 0 (by omega)
     simp only [Nat.zero_add] at this
     rw [hnn] at this
     exact this
    ·split at h
     ·rename_i hnn
      cases h
      refine ⟨?_,rfl,fun i hi=>hw i (by omega)⟩
      have:=agg ha 0 (by omega)
      simp only [Nat.zero_add] at this
      exact this
     ·cases h
   ·cases h
  ·rename_i k2 n2 f2 _
   cases hx
   split at h
   ·rename_i hkk
    split at h
    ·rename_i cs' hf
     cases h
     have hle:=fits_ok hf hc
     exact ⟨agg ha off.val hle,rfl,fun i (hi:i<(E.ty T).sz)=>hw (off.val+i) (by omega)⟩
    ·cases h
   ·cases h
  ·cases h
theorem field_ok (hP:EnvOK P E) (R:Rel w0 m S a w) (hg:GdOK S gd) {o:Oper} {T:TypeId} {x:Operand} {fi:Nat} (ho:o.op=.field T x fi) (hk:constOk x=true) {cs:List Prop} {us:List (Nat × AV)}
  (h:effField E gd S o.dst T x fi=some (cs,us)) (hc:∀ p ∈ cs,p) (hn:∀ d ∈ us.map Prod.fst,noWhen d S):Does P o a w (Led w0 S us):=by
 obtain ⟨hv,hwf⟩:=opg_ok R hg x hk
 unfold effField at h
 split at h
 ·rename_i fs hd
  obtain ⟨fields,hT,hfs⟩:=struct_ty hP hd
  split at h
  ·rename_i oo ft hf
   obtain ⟨f,hf1,hf2,hf3⟩:=fields_get hfs hf
   split at h
   ·rename_i k n g hx
    rw [hx] at hv hwf
    split at h
    ·rename_i cs1 r hsub
     have:=ret1_cs h
     subst this
     obtain ⟨p1,p2,p3⟩:=part_ok hP hsub hc rfl hwf w
     refine led_value (i:=0) R rfl ?_ h (plain_free p2) (VR_pv p2) (wfP_wfV p2 p3) hn
     have hv':a.eval x=.agg (cellsA k n g):=hv
     simp only [SO.val] at p1
     simp only [execOp,ho,hv',Instr.field,Sem.run_bind,run_underlying hT,Result.andThen_ok,hf1,asAgg,Sem.run_pure,hf2,hf3,p1]
    ·cases h
   ·cases h
  ·cases h
 ·cases h
theorem index_ok (hP:EnvOK P E) (R:Rel w0 m S a w) (hg:GdOK S gd) {o:Oper} {T:TypeId} {x i:Operand} (ho:o.op=.index T x i) (hk:constOk x=true) (hk2:constOk i=true) {cs:List Prop} {us:List (Nat × AV)}
  (h:effIndex E gd S o.dst T x i=some (cs,us)) (hc:∀ p ∈ cs,p) (hn:∀ d ∈ us.map Prod.fst,noWhen d S):Does P o a w (Led w0 S us):=by
 obtain ⟨hv,hwf⟩:=opg_ok R hg x hk
 obtain ⟨hvi,_⟩:=opg_ok R hg i hk2
 unfold effIndex at h
 split at h
 ·rename_i n e k mm f ki iv hd hx hi
  have hT:P.underlying T=some (.array n e):=by have:=hP.ty T;unfold TyOK at this;rw [hd] at this;exact this.1
  rw [hx] at hv hwf
  rw [hi] at hvi
  split at h
  ·rename_i hse
   obtain ⟨inf,hinf,hsz⟩:=sized_info hP hse
   split at h
   ·rename_i cs1 cs2 r hw1 hsub
    have:=ret1_cs h
    subst this
    obtain ⟨h0,h1⟩:=within_ok hw1 (fun p hp=>hc p (List.mem_append_left _ hp))
    obtain ⟨p1,p2,p3⟩:=part_ok hP hsub (fun p hp=>hc p (List.mem_append_right _ hp)) rfl hwf w
    refine led_value (i:=0) R rfl ?_ h (plain_free p2) (VR_pv p2) (wfP_wfV p2 p3) hn
    have hv':a.eval x=.agg (cellsA k mm f):=hv
    have hvi':a.eval i=.int ki iv.val:=hvi
    simp only [mul_val,off_val hP] at p1
    simp only [SO.val] at h1
    simp only [execOp,ho,hv',hvi',Instr.index,Sem.run_bind,asInt_run,run_underlying hT,Result.andThen_ok,Sem.run_ite,run_size hinf,hsz,p1,Sem.run_pure]
    rw [if_pos ⟨h0,h1⟩]
    rfl
   ·cases h
  ·cases h
 ·cases h
end
end Sx

namespace Sx
open Go Go.RowKit
section
variable {P:Program} {E:Env} {w0:World} {m:M} {S:St} {a:Act} {w:World} {gd:Gd}
def BR (l:Option SI) (v:Option Value):Prop :=
 match l with
 | none=>v=none
 | some i=>∃ k,v=some (.int k i.val)
theorem bound_run (R:Rel w0 m S a w) (hg:GdOK S gd) {x:Option Operand} (hk:∀ y,x=some y→constOk y=true) {l:Option SI} (h:bound gd S x=some l):BR l (x.map a.eval):=by
 cases x with
 | none=>cases h;rfl
 | some y =>
  simp only [bound] at h
  split at h
  ·rename_i k n hx
   cases h
   obtain ⟨hv,_⟩:=opg_ok R hg y (hk y rfl)
   rw [hx] at hv
   exact ⟨k,by simp only [Option.map_some];rw [hv]⟩
  ·cases h
theorem bounds_run (hP:EnvOK P E) (isS:Bool) (len cap:Nat) (l h:Option SI) (lv hv:Option Value) (el:BR l lv) (eh:BR h hv)
  (n:SO) (hn:n.val=len) (ch:∀ i,h=some i→0≤i.val∧i.val≤(cap:Int)) (cl:∀ i,l=some i→0≤i.val∧i.val≤((orElse E h n).val:Int)) (w:World) :
  (Instr.sliceBounds isS len cap lv hv none).run P w=.ok ((orElse E l (.lit 0)).val,(orElse E h n).val,cap) w:=by
 have hi:∀ i:SI,(i.off E.A).val=i.val.toNat:=off_val hP
 have sb:∀ (k:IntKind) (x:Int) (y:Nat) (cd:BoundsCode),0≤x∧x≤(y:Int)→(Instr.sliceBound (.int k x) y cd).run P w=.ok x.toNat w:=by
  intro k x y cd hxy
  simp only [Instr.sliceBound,Sem.run_bind,asInt_run,Result.andThen_ok,Sem.run_ite,Sem.run_pure]
  rw [if_pos hxy]
 cases h with
 | none =>
  have eh:hv=none:=eh
  subst eh
  cases l with
  | none =>
   have el:lv=none:=el
   subst el
   simp only [Instr.sliceBounds,Sem.run_bind,Sem.run_pure,Result.andThen_ok,orElse,lit_val,hn]
  | some i =>
   obtain ⟨k,rfl⟩:=el
   have:=cl i rfl
   simp only [orElse,hn] at this
   simp only [Instr.sliceBounds,Sem.run_bind,Sem.run_pure,Result.andThen_ok,orElse,sb _ _ _ _ this,hi,hn]
 | some j =>
  obtain ⟨k2,rfl⟩:=eh
  have h1:=ch j rfl
  cases l with
  | none =>
   have el:lv=none:=el
   subst el
   simp only [Instr.sliceBounds,Sem.run_bind,Sem.run_pure,Result.andThen_ok,orElse,lit_val,sb _ _ _ _ h1,hi]
  | some i =>
   obtain ⟨k,rfl⟩:=el
   have h2:=cl i rfl
   simp only [orElse,hi] at h2
   simp only [Instr.sliceBounds,Sem.run_bind,Sem.run_pure,Result.andThen_ok,orElse,sb _ _ _ _ h1,sb _ _ _ _ h2,hi]
theorem upto?_ok {i:Option SI} {n:SO} {cs:List Prop} (h:upto? i n=some cs) (hc:∀ p ∈ cs,p):∀ j,i=some j→0≤j.val∧j.val≤(n.val:Int):=by
 intro j hj
 subst hj
 exact upto_ok h hc
theorem slice_ok (hP:EnvOK P E) (R:Rel w0 m S a w) (hg:GdOK S gd) {o:Oper} {T:TypeId} {x:Operand} {lo hi mx:Option Operand} (ho:o.op=.slice T x lo hi mx) (hk:constOk x=true)
  (hkl:∀ y,lo=some y→constOk y=true) (hkh:∀ y,hi=some y→constOk y=true) {cs:List Prop} {us:List (Nat × AV)}
  (h:effSlice E gd S o.dst T x lo hi mx=some (cs,us)) (hc:∀ p ∈ cs,p) (hn:∀ d ∈ us.map Prod.fst,noWhen d S):Does P o a w (Led w0 S us):=by
 obtain ⟨hv,_⟩:=opg_ok R hg x hk
 unfold effSlice at h
 split at h
 ·cases h
 split at h
 ·rename_i l hh hl1 hh1
  have el:=bound_run R hg hkl hl1
  have eh:=bound_run R hg hkh hh1
  split at h
  ·rename_i n e hd
   have hT:P.underlying T=some (.array n e):=by have:=hP.ty T;unfold TyOK at this;rw [hd] at this;exact this.1
   split at h
   ·rename_i hse0
    obtain ⟨hse,hcap⟩:=hse0
    obtain ⟨inf,hinf,hsz⟩:=sized_info hP hse
    split at h
    ·rename_i v t c1 c2 hx hxt hu1 hu2
     have:=ret1_cs h
     subst this
     obtain ⟨t',ht',hs⟩:=opg_slot R hg hx rfl (by simp)
     subst ht'
     cases hxt
     rw [hx] at hv
     have ch:=upto?_ok hu1 (fun p hp=>hc p (List.mem_append_left _ hp))
     have cl:=upto?_ok hu2 (fun p hp=>hc p (List.mem_append_right _ hp))
     have hb:=bounds_run (P:=P) hP false n n l hh (lo.map a.eval) (hi.map a.eval) el eh (.lit n) rfl ch cl w
     have hle2:(orElse E hh (.lit n)).val≤n:=by
      cases hh with
      | none=>exact Nat.le_refl _
      | some j=>have:=ch j rfl;simp only [orElse,off_val hP];simp only [SO.val] at this;omega
     have hle1:(orElse E l (.lit 0)).val≤(orElse E hh (.lit n)).val:=by
      cases l with
      | none=>simp [orElse,SO.val]
      | some j=>have:=cl j rfl;simp only [orElse,off_val hP];simp only [orElse] at this;omega
     obtain ⟨h0,_⟩:=own_block R hs
     have hev:a.eval (.tmp t)=.pointer (some ⟨(m t).1,0,none⟩):=by
      have:=hv.1
      simp only [slotOf] at this
      rw [this,h0]
     refine led_value (i:=0) R rfl (v:=.slice (some (if n=(orElse E l (.lit 0)).val then ⟨(m t).1,0,none⟩ else ⟨(m t).1,0+(orElse E l (.lit 0)).val*(E.ty e).sz,none⟩)) ((orElse E hh (.lit n)).val - (orElse E l (.lit 0)).val) (n - (orElse E l (.lit 0)).val)) ?_ h rfl ?_ trivial hn
     ·simp only [execOp,ho,hev,Instr.sliceAt,Sem.run_bind,run_underlying hT,Result.andThen_ok,sure,Option.map_none,hb,run_size hinf,hsz,Sem.run_pure,addr_add]
     ·refine ⟨some (if n=(orElse E l (.lit 0)).val then ⟨(m t).1,0,none⟩ else ⟨(m t).1,0+(orElse E l (.lit 0)).val*(E.ty e).sz,none⟩),n - (orElse E l (.lit 0)).val,by simp only [sub_val],?_,?_⟩
      ·intro hp
       simp only [sub_val] at hp
       rw [if_neg (by omega),h0]
       simp only [mul_val]
      ·simp only [sub_val];exact ⟨by omega,by omega⟩
    ·cases h
   ·cases h
  ·rename_i e hd
   have hT:P.underlying T=some (.slice e):=by have:=hP.ty T;unfold TyOK at this;rw [hd] at this;exact this
   split at h
   ·rename_i s es off len cap hx
    rw [hx] at hv
    obtain ⟨aa,cc,hv1,hv2,hv3,hv4⟩:=hv
    split at h
    ·rename_i hcond
     obtain ⟨hes,hse⟩:=hcond
     obtain ⟨inf,hinf,hsz⟩:=sized_info hP hse
     split at h
     ·rename_i c1 c2 hu1 hu2
      have:=ret1_cs h
      subst this
      have ch:=upto?_ok hu1 (fun p hp=>hc p (List.mem_append_left _ hp))
      have cl:=upto?_ok hu2 (fun p hp=>hc p (List.mem_append_right _ hp))
      have hb:=bounds_run (P:=P) hP true len.val cc l hh (lo.map a.eval) (hi.map a.eval) el eh len rfl (fun i hi=>by have:=ch i hi;omega) cl w
      have hle2:(orElse E hh len).val≤len.val:=by
       cases hh with
       | none=>exact Nat.le_refl _
       | some j=>have:=ch j rfl;simp only [orElse,off_val hP];omega
      have hle1:(orElse E l (.lit 0)).val≤(orElse E hh len).val:=by
       cases l with
       | none=>simp [orElse,SO.val]
       | some j=>have:=cl j rfl;simp only [orElse,off_val hP];simp only [orElse] at this;omega
      refine led_value (i:=0) R rfl (v:=.slice (if cc=(orElse E l (.lit 0)).val then aa else aa.map (·.add ((orElse E l (.lit 0)).val*(E.ty e).sz))) ((orElse E hh len).val - (orElse E l (.lit 0)).val) (cc - (orElse E l (.lit 0)).val)) ?_ h rfl ?_ trivial hn
      ·simp only [execOp,ho,hv1,Instr.sliceAt,Instr.slice,Sem.run_bind,run_underlying hT,Result.andThen_ok,Option.map_none,hb,run_size hinf,hsz,Sem.run_pure]
      ·refine ⟨if cc=(orElse E l (.lit 0)).val then aa else aa.map (·.add ((orElse E l (.lit 0)).val*(E.ty e).sz)),cc - (orElse E l (.lit 0)).val,by simp only [sub_val],?_,?_⟩
       ·intro hp
        simp only [sub_val] at hp
        rw [if_neg (by omega)]
        rw [hv2 (by omega)]
        simp only [Option.map_some,addr_add,add_val,mul_val,hes,Nat.add_assoc]
       ·simp only [sub_val];exact ⟨by omega,by omega⟩
     ·cases h
    ·cases h
   ·rename_i k es len f hx
    rw [hx] at hv
    obtain ⟨aa,cc,hv1,hsl1,hsl2,hv3,hv4⟩:=hv
    split at h
    ·rename_i hcond
     obtain ⟨hes,hse⟩:=hcond
     obtain ⟨inf,hinf,hsz⟩:=sized_info hP hse
     split at h
     ·rename_i t c1 c2 hxt hu1 hu2
      have:=ret1_cs h
      subst this
      obtain ⟨t',ht',hs⟩:=opg_slot R hg hx rfl (by simp)
      subst ht'
      cases hxt
      have ch:=upto?_ok hu1 (fun p hp=>hc p (List.mem_append_left _ hp))
      have cl:=upto?_ok hu2 (fun p hp=>hc p (List.mem_append_right _ hp))
      have hb:=bounds_run (P:=P) hP true len.val cc l hh (lo.map a.eval) (hi.map a.eval) el eh len rfl (fun i hi=>by have:=ch i hi;omega) cl w
      have hle2:(orElse E hh len).val≤len.val:=by
       cases hh with
       | none=>exact Nat.le_refl _
       | some j=>have:=ch j rfl;simp only [orElse,off_val hP];omega
      have hle1:(orElse E l (.lit 0)).val≤(orElse E hh len).val:=by
       cases l with
       | none=>simp [orElse,SO.val]
       | some j=>have:=cl j rfl;simp only [orElse,off_val hP];simp only [orElse] at this;omega
      refine led_value (i:=0) R rfl (v:=.slice (if cc=(orElse E l (.lit 0)).val then aa else aa.map (·.add ((orElse E l (.lit 0)).val*(E.ty e).sz))) ((orElse E hh len).val - (orElse E l (.lit 0)).val) (cc - (orElse E l (.lit 0)).val)) ?_ h rfl ?_ trivial hn
      ·simp only [execOp,ho,hv1,Instr.sliceAt,Instr.slice,Sem.run_bind,run_underlying hT,Result.andThen_ok,Option.map_none,hb,run_size hinf,hsz,Sem.run_pure]
      ·refine ⟨if cc=(orElse E l (.lit 0)).val then aa else aa.map (·.add ((orElse E l (.lit 0)).val*(E.ty e).sz)),cc - (orElse E l (.lit 0)).val,by simp only [sub_val],?_,?_⟩
       ·intro hp
        simp only [sub_val] at hp
        rw [if_neg (by omega)]
        cases aa with
        | none=>have:=hsl2 rfl;omega
        | some q =>
         obtain ⟨q1,q2⟩:=hsl1 q rfl
         simp only [slotOf] at q1 q2
         rw [q1,q2]
         simp only [Option.map_some,addr_add,mul_val,hes,Nat.zero_add]
       ·simp only [sub_val];exact ⟨by omega,by omega⟩
     ·cases h
    ·cases h
   ·cases h
  ·cases h
 ·cases h
theorem int_ty (hP:EnvOK P E) {T:TypeId} {k:IntKind} (hd:(E.ty T).d=.int k):P.underlying T=some (.int k):=by
 have:=hP.ty T
 unfold TyOK at this
 rw [hd] at this
 exact this.1
theorem slice_ty (hP:EnvOK P E) {T e:TypeId} (hd:(E.ty T).d=.slice e):P.underlying T=some (.slice e):=by
 have:=hP.ty T
 unfold TyOK at this
 rw [hd] at this
 exact this
theorem convert_ok (hP:EnvOK P E) (R:Rel w0 m S a w) (hg:GdOK S gd) {o:Oper} {s d:TypeId} {x:Operand} (ho:o.op=.convert s d x) (hk:constOk x=true) {cs:List Prop} {us:List (Nat × AV)}
  (h:effConvert E gd S o.dst s d x=some (cs,us)) (hn:∀ d ∈ us.map Prod.fst,noWhen d S):Does P o a w (Led w0 S us):=by
 obtain ⟨hv,_⟩:=opg_ok R hg x hk
 unfold effConvert at h
 split at h
 ·rename_i ks kd kx n hs hd hx
  rw [hx] at hv
  have hv':a.eval x=.int kx n.val:=hv
  refine led_value (i:=0) R rfl (v:=.int kd (kd.wrap n.val)) ?_ h rfl ?_ ?_ hn
  ·simp only [execOp,ho,hv',convert,Sem.run_bind,run_underlying (int_ty hP hs),run_underlying (int_ty hP hd),Result.andThen_ok,Conv.intToInt,Sem.run_pure]
  ·cases n <;> simp [VR,SI.cnv,SI.val,hP.A,realOps]
  ·show inR _ _
   cases n <;> simp only [SI.cnv,SI.val,hP.A,realOps] <;> exact wrap_in _ _
 ·cases h
theorem un_ok (hP:EnvOK P E) (R:Rel w0 m S a w) (hg:GdOK S gd) {o:Oper} {op:UnOp} {t:TypeId} {x:Operand} (ho:o.op=.unOp op t x) (hk:constOk x=true) {cs:List Prop} {us:List (Nat × AV)}
  (h:effUn E gd S o.dst op x=some (cs,us)) (hn:∀ d ∈ us.map Prod.fst,noWhen d S):Does P o a w (Led w0 S us):=by
 obtain ⟨hv,_⟩:=opg_ok R hg x hk
 unfold effUn at h
 split at h
 ·rename_i k n hx
  rw [hx] at hv
  have hv':a.eval x=.int k n.val:=hv
  refine led_value (i:=0) R rfl (v:=.int k (realUn .neg k n.val)) ?_ h rfl ?_ ?_ hn
  ·simp only [execOp,ho,hv',Op.unary,Op.intArith,Sem.run_bind,Result.andThen_ok,Sem.run_pure,realUn]
  ·cases n <;> simp [VR,SI.un,SI.val,hP.A,realOps]
  ·show inR _ _
   cases n <;> simp only [SI.un,SI.val,hP.A,realOps,realUn] <;> exact wrap_in _ _
 ·rename_i k n hx
  rw [hx] at hv
  have hv':a.eval x=.int k n.val:=hv
  refine led_value (i:=0) R rfl (v:=.int k (realUn .xor k n.val)) ?_ h rfl ?_ ?_ hn
  ·simp only [execOp,ho,hv',Op.unary,Op.intBits,Sem.run_bind,Result.andThen_ok,Sem.run_pure,realUn]
  ·cases n <;> simp [VR,SI.un,SI.val,hP.A,realOps]
  ·show inR _ _
   cases n <;> simp only [SI.un,SI.val,hP.A,realOps,realUn] <;> exact wrap_in _ _
 ·rename_i b hx
  rw [hx] at hv
  have hv':a.eval x=.bool b.val:=hv
  refine led_value (i:=0) R rfl (v:=.bool (!b.val)) ?_ h rfl ?_ trivial hn
  ·simp only [execOp,ho,hv',Op.unary,Sem.run_bind,Result.andThen_ok,Sem.run_pure]
  ·cases b <;> rfl
 ·cases h
theorem binop_ok (hP:EnvOK P E) (R:Rel w0 m S a w) (hg:GdOK S gd) {o:Oper} {op:BinOp} {t t2:TypeId} {x y:Operand} (ho:o.op=.binOp op t x y t2) (hk:constOk x=true) (hk2:constOk y=true) {cs cs':List Prop} {r:AV} {us:List (Nat × AV)}
  (hb:binEff E op t (opg gd S x) (opg gd S y)=some (cs',r)) (h:ret1 o.dst cs' r=some (cs,us)) (hc:∀ p ∈ cs,p) (hn:∀ d ∈ us.map Prod.fst,noWhen d S):Does P o a w (Led w0 S us):=by
 obtain ⟨hv,hw⟩:=opg_ok R hg x hk
 obtain ⟨hv2,_⟩:=opg_ok R hg y hk2
 have:=ret1_cs h
 subst this
 obtain ⟨e1,e2,e3,e4⟩:=binEff_ok hP hb hc hv hv2 hw w x y
 refine led_value (i:=0) R rfl ?_ h (plain_free e3) (VR_pv e3) (wfP_wfV e3 e4) hn
 simp only [execOp,ho,Sem.run_bind,e1,e2,Result.andThen_ok,Sem.run_pure]
theorem extract_ok (R:Rel w0 m S a w) (hg:GdOK S gd) {o:Oper} {x:Operand} {i:Nat} (ho:o.op=.extract x i) (hk:constOk x=true) {ps:List AV} {r:AV} {cs:List Prop} {us:List (Nat × AV)}
  (hx:opg gd S x=.tup ps) (hr:ps[i]?=some r) (h:ret1 o.dst [] r=some (cs,us)) (hn:∀ d ∈ us.map Prod.fst,noWhen d S):Does P o a w (Led w0 S us):=by
 obtain ⟨hv,hw⟩:=opg_ok R hg x hk
 rw [hx] at hv hw
 obtain ⟨h1,h2⟩:=hv
 have hmem:r ∈ ps:=List.mem_of_getElem? hr
 have hp:plain r=true:=List.all_eq_true.1 h2 r hmem
 refine led_value (i:=0) R rfl (v:=pv r) ?_ h (plain_free hp) (VR_pv hp) (wfP_wfV hp (hw r hmem)) hn
 simp only [execOp,ho,h1,Instr.extract,Sem.run_bind]
 have:(ps.map pv).toArray[i]?=some (pv r):=by simp [hr]
 rw [this]
 rfl
theorem extract_all (R:Rel w0 m S a w) (hg:GdOK S gd) {o:Oper} {x:Operand} {i:Nat} (ho:o.op=.extract x i) (hk:constOk x=true) {cs:List Prop} {us:List (Nat × AV)}
  (h:effExtract gd S o.dst x i=some (cs,us)) (hn:∀ d ∈ us.map Prod.fst,noWhen d S):Does P o a w (Led w0 S us):=by
 unfold effExtract at h
 split at h
 ·rename_i ps hx
  split at h
  ·rename_i v hv
   split at h
   ·exact extract_ok R hg ho hk hx hv h hn
   ·cases h
  ·cases h
 ·rename_i k es len f ps hx
  obtain ⟨hv,hw⟩:=opg_ok R hg x hk
  rw [hx] at hv hw
  obtain ⟨aa,c,h1,⟨h2,h3,h4,h5⟩,h6⟩:=hv
  split at h
  ·rename_i t
   refine led_value (i:=0) R rfl (v:=.slice aa len.val c) ?_ h rfl ⟨aa,c,rfl,fun hp=>?_,h4,h5⟩ trivial hn
   ·simp only [execOp,ho,h1,Instr.extract,Sem.run_bind]
    rfl
   ·cases aa with
    | none=>have:=h3 rfl;omega
    | some q =>
     obtain ⟨q1,q2⟩:=h2 q rfl
     simp only [slotOf] at q1 q2
     rw [q1,q2]
     rfl
  ·rename_i j
   split at h
   ·rename_i v hr
    split at h
    ·rename_i hp
     have hmem:v ∈ ps:=List.mem_of_getElem? hr
     refine led_value (i:=0) R rfl (v:=pv v) ?_ h (plain_free hp) (VR_pv hp) (wfP_wfV hp (hw.2 v hmem)) hn
     simp only [execOp,ho,h1,Instr.extract,Sem.run_bind]
     have:(Value.slice aa len.val c :: ps.map pv).toArray[j+1]?=some (pv v):=by simp [hr]
     rw [this]
     rfl
    ·cases h
   ·cases h
  ·cases h
 ·cases h
theorem fill_writeAt (cells:Array Value) (off:Nat) (v:Value):(v.cells.zipIdx.foldl (fun cs (c,j)=>cs.setIfInBounds (off+j) c) cells)=writeAt cells off v.cells.toList:=by
 have key:∀ (l:List Value) (k:Nat) (cells:Array Value),(l.zipIdx k).foldl (fun cs (p:Value × Nat)=>cs.setIfInBounds (off+p.2) p.1) cells=writeAt cells (off+k) l:=by
  intro l
  induction l with
  | nil=>intro k cells;rfl
  | cons x l ih =>
   intro k cells
   simp only [List.zipIdx_cons,List.foldl_cons,writeAt,ih,Nat.add_assoc]
 have:=key v.cells.toList 0 cells
 simp only [Nat.add_zero] at this
 rw [← this,← Array.foldl_toList]
 simp
theorem lay_ok (hP:EnvOK P E) (R:Rel w0 m S a w) (hg:GdOK S gd) (place:Nat→Option (Nat × TypeId)) (size:Nat→Option (Nat × Nat)) (hsize:∀ i off T,place i=some (off,T)→size i=some (off,(E.ty T).sz)) :
  ∀ (ps:List (Nat × Operand)) (x x':AV),(∀ p ∈ ps,constOk p.2=true)→wfP x→plain x=true→lay E gd S place x ps=some x' →
   Instr.fill size (cellsOf x) (ps.map fun p=>(p.1,a.eval p.2))=some (cellsOf x')∧wfP x'∧plain x'=true
 | [],x,x',_,hw,hp,h=>by
  simp only [lay] at h
  cases h
  exact ⟨rfl,hw,hp⟩
 | (i,o) :: ps,x,x',hk,hw,hp,h=>by
  simp only [lay] at h
  split at h
  ·rename_i off T hpl
   split at h
   ·rename_i x1 hput
    obtain ⟨hv,hwo⟩:=opg_ok R hg o (hk (i,o) (by simp))
    obtain ⟨c1,c2,c3,c4,_,c6,c7,c8⟩:=put_cells hP hput (fun p hp=>by simp at hp) hw hwo
    obtain ⟨r1,r2,r3⟩:=lay_ok hP R hg place size hsize ps x1 x' (fun p hp=>hk p (by simp [hp])) c7 c6 h
    refine ⟨?_,r2,r3⟩
    have hev:=plain_VR c8 hv
    simp only [List.map_cons,Instr.fill,hsize i off T hpl,hev]
    simp only [lit_val] at c1 c3
    rw [if_neg (by simp [c2];rw [← c2];exact c3),fill_writeAt,c1]
    exact r1
   ·cases h
  ·cases h
theorem mapM_places (hP:EnvOK P E) (fields:Array Field) (w:World) (h:∀ f ∈ fields.toList,sized E f.type=true) :
  (fields.mapM (m:=Sem) fun f=>do pure (f.offset,← Go.sizeOf f.type)).run P w=.ok (fields.map fun f=>(f.offset,(E.ty f.type).sz)) w:=by
 rw [Array.mapM_eq_mapM_toList]
 have key:∀ l:List Field,(∀ f ∈ l,sized E f.type=true)→(l.mapM (m:=Sem) fun f=>do pure (f.offset,← Go.sizeOf f.type)).run P w=.ok (l.map fun f=>(f.offset,(E.ty f.type).sz)) w:=by
  intro l
  induction l with
  | nil=>intro _;rfl
  | cons f l ih =>
   intro hl
   obtain ⟨inf,hi,hs⟩:=sized_info hP (hl f (by simp))
   simp only [List.mapM_cons,Sem.run_bind,run_size hi,Result.andThen_ok,Sem.run_pure,ih (fun g hg=>hl g (by simp [hg])),hs,List.map_cons]
 rw [Sem.run_map,key _ h]
 simp only [Result.andThen_ok]
 congr 1
 apply Array.ext'
 simp
theorem put_arr {T:TypeId} {x v x':AV} {off:SO} {cs:List Prop} (h:put E T x off v=some (cs,x')) (hx:∃ k n f,x=.arr k n f):∃ k n f,x'=.arr k n f:=by
 unfold put at h
 repeat' split at h
 all_goals try (obtain ⟨_,_,_,e⟩:=hx;cases e;done)
 all_goals first | (cases h;done) | (cases h;exact ⟨_,_,_,rfl⟩)
theorem lay_arr {place:Nat→Option (Nat × TypeId)}:∀ (ps:List (Nat × Operand)) (x x':AV),lay E gd S place x ps=some x'→(∃ k n f,x=.arr k n f)→∃ k n f,x'=.arr k n f
 | [],x,x',h,hx=>by simp only [lay] at h;cases h;exact hx
 | (i,o) :: ps,x,x',h,hx=>by
  simp only [lay] at h
  split at h
  ·split at h
   ·rename_i x1 hput
    exact lay_arr ps x1 x' h (put_arr hput hx)
   ·cases h
  ·cases h
theorem put_kn {T:TypeId} {k:IntKind} {n:Nat} {f:Nat→Int} {v x':AV} {off:SO} {cs:List Prop} (h:put E T (.arr k n f) off v=some (cs,x')):∃ f',x'=.arr k n f':=by
 unfold put at h
 repeat' split at h
 all_goals first | (cases h;done) | (rename_i he _ _ _ ;cases he;done) | skip
 all_goals first | (cases h;done) | (simp only [Option.some.injEq,Prod.mk.injEq] at h;obtain ⟨_,rfl⟩:=h;simp_all;done) | skip
theorem lay_kn {place:Nat→Option (Nat × TypeId)}:∀ (ps:List (Nat × Operand)) (x:AV) {k k':IntKind} {n n':Nat} {f f':Nat→Int},lay E gd S place x ps=some (.arr k' n' f')→x=.arr k n f→k'=k∧n'=n
 | [],x,k,k',n,n',f,f',h,hx=>by simp only [lay] at h;subst hx;cases h;exact ⟨rfl,rfl⟩
 | (i,o) :: ps,x,k,k',n,n',f,f',h,hx=>by
  simp only [lay] at h
  split at h
  ·split at h
   ·rename_i x1 hput
    subst hx
    obtain ⟨f1,e⟩:=put_kn hput
    exact lay_kn ps x1 h e
   ·cases h
  ·cases h
theorem zero_wf (k:IntKind) (n:Nat):wfP (.arr k n (fun _=>0)):=fun _ _=>⟨min_nonpos k,max_nonneg k⟩
theorem build_ok (hP:EnvOK P E) (R:Rel w0 m S a w) (hg:GdOK S gd) {o:Oper} {T:TypeId} {ps:Array (Nat × Operand)} (ho:o.op=.build T ps) (hk:∀ p ∈ ps.toList,constOk p.2=true) {cs:List Prop} {us:List (Nat × AV)}
  (h:effBuild E gd S o.dst T ps=some (cs,us)) (hn:∀ d ∈ us.map Prod.fst,noWhen d S):Does P o a w (Led w0 S us):=by
 have ht:=hP.ty T
 have zz:∀ z,isA (E.ty T).d=true→zero E T=some z→z=.arr (E.ty T).k (E.ty T).sz (fun _=>0):=by
  intro z ha hz
  unfold zero at hz
  split at hz
  ·rename_i hd;rw [hd] at ha;cases ha
  ·rename_i hd;rw [hd] at ha;cases ha
  ·cases hz;rfl
  ·cases hz;rfl
  ·cases hz
 have hmap:(ps.map fun (x:Nat × Operand)=>match x with | (i,x)=>(i,a.eval x)).toList=ps.toList.map fun p=>(p.1,a.eval p.2):=by simp
 unfold effBuild at h
 split at h
 ·rename_i n e hd
  have ha:isA (E.ty T).d=true:=by rw [hd];rfl
  obtain ⟨_,inf,hi,hs,hz0,_⟩:=ht.agg ha
  have hT:P.underlying T=some (.array n e):=by unfold TyOK at ht;rw [hd] at ht;exact ht.1
  split at h
  ·rename_i hse
   obtain ⟨inf2,hi2,hs2⟩:=sized_info hP hse
   split at h
   ·rename_i z hz
    have:=zz z ha hz
    subst this
    split at h
    ·rename_i v hl
     obtain ⟨l1,l2,l3⟩:=lay_ok hP R hg _ (fun i=>some (i*(E.ty e).sz,(E.ty e).sz)) (fun i off T' hpl=>by cases hpl;rfl) ps.toList _ v hk (zero_wf _ _) rfl hl
     obtain ⟨k,nn,f,rfl⟩:=lay_arr _ _ _ hl ⟨_,_,_,rfl⟩
     refine led_value (i:=0) R rfl (v:=.agg (cellsA k nn f)) ?_ h rfl rfl l2 hn
     simp only [execOp,ho,Instr.build,Sem.run_bind,run_zero hi hz0,Result.andThen_ok,run_underlying hT,run_size hi2,hs2,hmap,Value.cells]
     simp only [cellsOf] at l1
     rw [l1]
     rfl
    ·cases h
   ·cases h
  ·cases h
 ·rename_i fs hd
  have ha:isA (E.ty T).d=true:=by rw [hd];rfl
  obtain ⟨_,inf,hi,hs,hz0,_⟩:=ht.agg ha
  obtain ⟨fields,hT,hfs⟩:=struct_ty hP hd
  split at h
  ·rename_i hse
   split at h
   ·rename_i z hz
    have:=zz z ha hz
    subst this
    split at h
    ·rename_i v hl
     have hsz:∀ f ∈ fields.toList,sized E f.type=true:=by
      intro f hf
      have:(f.offset,f.type) ∈ fs:=by rw [← hfs];exact List.mem_map.2 ⟨f,hf,rfl⟩
      exact List.all_eq_true.1 hse _ this
     obtain ⟨l1,l2,l3⟩:=lay_ok hP R hg _ (fun i=>(fields.map fun f=>(f.offset,(E.ty f.type).sz))[i]?) (fun i off T' hpl=>by
      obtain ⟨f,g1,g2,g3⟩:=fields_get hfs hpl
      simp only [Array.getElem?_map,g1,Option.map_some,g2,g3]) ps.toList _ v hk (zero_wf _ _) rfl hl
     obtain ⟨k,nn,f,rfl⟩:=lay_arr _ _ _ hl ⟨_,_,_,rfl⟩
     refine led_value (i:=0) R rfl (v:=.agg (cellsA k nn f)) ?_ h rfl rfl l2 hn
     simp only [execOp,ho,Instr.build,Sem.run_bind,run_zero hi hz0,Result.andThen_ok,run_underlying hT,mapM_places hP fields w hsz,hmap,Value.cells]
     simp only [cellsOf] at l1
     rw [l1]
     rfl
    ·cases h
   ·cases h
  ·cases h
 ·cases h
end
end Sx

namespace Sx
open Go Go.RowKit
section
variable {P:Program} {E:Env} {w0:World} {m:M} {S:St} {a:Act} {w:World} {gd:Gd}
theorem argOf_ok (R:Rel w0 m S a w) (hg:GdOK S gd) {rd:List Nat} {x:Operand} (hk:constOk x=true) {cs:List Prop} {v:AV} (h:argOf rd gd S x=some (cs,v)) (hc:∀ p ∈ cs,p) :
  ArgR w v (a.eval x)∧wfV v:=by
 obtain ⟨hv,hw⟩:=opg_ok R hg x hk
 unfold argOf at h
 split at h
 ·rename_i hx;cases h;rw [hx] at hv hw;exact ⟨hv,hw⟩
 ·rename_i hx;cases h;rw [hx] at hv hw;exact ⟨hv,hw⟩
 ·rename_i hx;cases h;rw [hx] at hv hw;exact ⟨hv,hw⟩
 ·rename_i s es off len cap hx
  rw [hx] at hv
  obtain ⟨aa,cc,h1,h2,h3⟩:=hv
  split at h
  ·split at h
   ·rename_i k n f hs
    split at h
    ·rename_i cs1 hle
     cases h
     have hle':=leq_ok hle hc
     rw [add_val,mul_val,lit_val] at hle'
     obtain ⟨h0,⟨T,hb⟩,_,hwf⟩:=own_block R hs
     refine ⟨⟨aa,cc,h1,fun hp=>⟨(m s).1,off.val,by rw [h2 hp,h0,Nat.zero_add],fun j hj=>?_⟩,h3⟩,fun i hi=>hwf _ (by omega)⟩
     rw [cell_of_row w _ _ _ T (0,0) hb]
     exact cellsA_get _ _ _ _ (by omega)
    ·cases h
   ·rename_i k es' len' cap' f hs
    split at h
    ·rename_i cs1 hle
     cases h
     have hle':=leq_ok hle hc
     rw [add_val,mul_val,mul_val] at hle'
     have hwx:=vals_get R s
     rw [hs] at hwx
     refine ⟨⟨aa,cc,h1,fun hp=>⟨(m s).1,(m s).2+off.val,h2 hp,fun j hj=>?_⟩,h3⟩,fun i hi=>hwx.2 _ (by omega)⟩
     have:=R.xsls s k es' len' cap' f hs (off.val+j) (by omega)
     rw [Nat.add_assoc,R.below.cell (World.block_lt_of_cell? w0 _ this)]
     exact this
    ·cases h
   ·split at h
    ·rename_i k es' len' f hl
     split at h
     ·rename_i hes
      subst hes
      split at h
      ·rename_i cs1 hle
       cases h
       have hle':=leq_ok hle hc
       rw [add_val,mul_val,mul_val] at hle'
       have hwx:=vals_get R s
       have hin:∀ i,i<len'.val*es→inR k (f i):=by
        rcases lst_cases hl with ⟨_,_,_,_,h3,h4⟩ | ⟨_,_,_,_,_,h3,h4⟩
        ·cases h4;rw [h3] at hwx;exact hwx.2
        ·cases h4;rw [h3] at hwx;exact hwx.2.1
       refine ⟨⟨aa,cc,h1,fun hp=>⟨(m s).1,(m s).2+off.val,h2 hp,fun j hj=>?_⟩,h3⟩,fun i hi=>hin _ (by omega)⟩
       have hpos:0<len'.val:=by
        rcases Nat.eq_zero_or_pos len'.val with h0 | h0
        ·rw [h0] at hle';simp at hle';rw [hle'.2] at hj;simp at hj
        ·exact h0
       obtain ⟨e,cap,cur,b1,_,b3,_,_,_,b7,_⟩:=lst_block R hl hpos
       rw [b1,Nat.zero_add,cell_of_row w _ _ _ e (0,0) b3]
       exact row_cell b7 (by omega)
      ·cases h
     ·cases h
    ·cases h
  ·cases h
 ·rename_i k es len f hx
  cases h
  rw [hx] at hv hw
  obtain ⟨aa,cc,h1,h2⟩:=hv
  obtain ⟨t,rfl,ht⟩:=opg_slot R hg hx rfl (by simp)
  refine ⟨⟨aa,cc,h1,fun hp=>⟨(m t).1,0,?_,fun j hj=>?_⟩,h2.2.2⟩,hw⟩
  ·cases aa with
   | none=>have:=h2.2.1 rfl;omega
   | some q=>rw [(h2.1 q rfl).1];rfl
  ·obtain ⟨e,cap,cur,b1,_,b3,_,_,_,b7,_⟩:=lst_block R (s:=t) (by rw [ht];rfl) hp
   rw [Nat.zero_add,cell_of_row w _ _ _ e (0,0) b3]
   exact row_cell b7 hj
 ·rename_i hx
  cases h
  rw [hx] at hv
  exact ⟨⟨none,0,hv,(fun h=>by simp [SO.val] at h),Nat.le_refl _,Nat.zero_le _⟩,fun i hi=>by simp [SO.val] at hi⟩
 ·cases h
theorem argsOf_ok (R:Rel w0 m S a w) (hg:GdOK S gd) {rd:List Nat}:∀ (xs:List Operand) (cs:List Prop) (vs:List AV),(∀ x ∈ xs,constOk x=true)→argsOf rd gd S xs=some (cs,vs)→(∀ p ∈ cs,p) →
  All2 (ArgR w) vs (xs.map a.eval)∧∀ v ∈ vs,wfV v
 | [],cs,vs,_,h,_=>by
  simp only [argsOf] at h
  cases h
  exact ⟨trivial,fun v hv=>by simp at hv⟩
 | x :: xs,cs,vs,hk,h,hc=>by
  simp only [argsOf] at h
  split at h
  ·rename_i c1 v h1
   split at h
   ·rename_i c2 vs' h2
    cases h
    obtain ⟨a1,a2⟩:=argOf_ok R hg (hk x (by simp)) h1 (fun p hp=>hc p (List.mem_append_left _ hp))
    obtain ⟨b1,b2⟩:=argsOf_ok R hg xs c2 vs' (fun y hy=>hk y (by simp [hy])) h2 (fun p hp=>hc p (List.mem_append_right _ hp))
    refine ⟨⟨a1,b1⟩,fun u hu=>?_⟩
    rcases List.mem_cons.1 hu with rfl | hu
    ·exact a2
    ·exact b2 u hu
   ·cases h
  ·cases h
theorem ResR_ok {m:M} {B:Nat} {r:AV} {v:Value} (h:ResR B w r v) (hl:lst? r=none):free r=true∧VR m 0 r v∧wfV r:=by
 unfold ResR at h
 split at h
 ·exact ⟨rfl,⟨h.1,h.2.1⟩,h.2.2⟩
 ·cases hl
 ·cases hl
 ·obtain ⟨h1,h2,h3⟩:=h
  subst h3
  exact ⟨plain_free h1,VR_pv h1,wfP_wfV h1 h2⟩
theorem owns_mono {B B':Nat} {e:TypeId} {es:Nat} {v:Value} {n:Nat} {xs:List Value} (h:w.ownsRow B e es v n xs) (hB:B'≤B):w.ownsRow B' e es v n xs:=by
 refine ⟨h.1,?_⟩
 rcases h.2 with h1 | ⟨g,cap,cur,h1,h2,h3⟩
 ·exact .inl h1
 ·exact .inr ⟨g,cap,cur,h1,by omega,h3⟩
theorem Rel.newL {w':World} (R:Rel w0 m S a w) {x:AV} {k:IntKind} {es:Nat} {len:SO} {f:Nat→Int} {vx:Value} (hx:lst? x=some (k,es,len,f)) {e:TypeId} (ho:w'.ownsRow w0.heap.size e es (lv vx) len.val (lcells k (len.val*es) f))
  (hgr:w.grownBy w' none) (hb:∀ b,(lv vx).ownBlock=some b→w.heap.size≤b) (hv:∀ m',m'=blk (lv vx)→∀ d,VR (mset m d m') d x vx) (hwf:wfV x) {dst:Option Tmp} {cs cs':List Prop} {us:List (Nat × AV)}
  (h:ret1 dst cs x=some (cs',us)) (hn:∀ d ∈ us.map Prod.fst,noWhen d S) (hr:∀ d,dst=some d→noRef d S):Led w0 S us (a.put dst vx) w':=by
 unfold ret1 at h
 split at h
 ·rename_i d
  cases h
  exact ⟨_,R.made d x vx hx ho hgr (by intro b e;cases e) (fun b hbb=>R.loose (hb b hbb)) (hv _ rfl d) hwf (hr d rfl) (hn d (by simp))⟩
 ·cases h
  exact ⟨m,R.later ⟨hgr.os,hgr.tape,hgr.output,hgr.size,fun k hk=>hgr.block k hk (by simp)⟩⟩
theorem VR_osl {k:IntKind} {es:Nat} {len:SO} {f:Nat→Int} {v:Value} {w':World} {B:Nat} {e:TypeId} {xs:List Value} (ho:w'.ownsRow B e es v len.val xs) (hl:lv v=v) (m':Nat × Nat) (hm:m'=blk (lv v)) (d:Nat):VR (mset m d m') d (.osl k es len f) v:=by
 subst hm
 obtain ⟨aa,c,h1,h2⟩:=owns_SL ho
 refine ⟨aa,c,h1,?_⟩
 rw [mset_same,hl]
 exact h2
theorem owns_lv {B:Nat} {e:TypeId} {es:Nat} {v:Value} {n:Nat} {xs:List Value} (h:w.ownsRow B e es v n xs):lv v=v:=by
 rcases h.2 with ⟨rfl,_⟩ | ⟨g,cap,cur,rfl,_⟩ <;> rfl
theorem elem_zero (hP:EnvOK P E) {e:TypeId} {k:IntKind} (hk:elemK E e=some k):∃ inf z,P.info? e=some inf∧inf.size=(E.ty e).sz∧inf.zero=some z∧z.cells=cellsA k (E.ty e).sz (fun _=>0)∧inf.bytes=(E.ty e).by_:=by
 have ht:=hP.ty e
 unfold elemK at hk
 split at hk
 ·rename_i k' hd
  cases hk
  unfold TyOK at ht
  rw [hd] at ht
  obtain ⟨_,h1,inf,h2,h3,h4,h5⟩:=ht
  refine ⟨inf,_,h2,by rw [h3,h1],h4,?_,h5⟩
  rw [h1]
  exact Array.toList_inj.1 (by simp [cellsA,Value.cells,List.range_succ])
 ·rename_i hd
  cases hk
  obtain ⟨_,inf,h2,h3,h4,h5⟩:=ht.agg (by rw [hd];rfl)
  exact ⟨inf,_,h2,h3,h4,rfl,h5⟩
 ·rename_i hd
  cases hk
  obtain ⟨_,inf,h2,h3,h4,h5⟩:=ht.agg (by rw [hd];rfl)
  exact ⟨inf,_,h2,h3,h4,rfl,h5⟩
 ·cases hk
theorem made_zero {k:IntKind} {sz n:Nat} (hsz:0<sz):madeCells (cellsA k sz fun _=>0) n=cellsA k n fun _=>0:=by
 apply Array.ext_getElem?
 intro i
 by_cases hi:i<n
 ·rw [cellsA_get k n _ i hi]
  have h1:(cellsA k sz fun _=>(0:Int))[i % sz]?=some (.int k 0):=cellsA_get k sz _ _ (Nat.mod_lt _ hsz)
  have hlt:i % sz<(cellsA k sz fun _=>(0:Int)).size:=by simpa using Nat.mod_lt i hsz
  have h2:(cellsA k sz fun _=>(0:Int))[i % sz]! = .int k 0:=by
   rw [Array.getElem?_eq_getElem hlt] at h1
   rw [getElem!_pos (cellsA k sz fun _=>(0:Int)) (i % sz) hlt]
   exact Option.some.inj h1
  simp [madeCells,hi,h2]
 ·rw [Array.getElem?_eq_none (by simp [size_madeCells];omega),Array.getElem?_eq_none (by simp;omega)]
theorem cells_list (k:IntKind) (n:Nat) (f:Nat→Int):(cellsA k n f).toList=lcells k n f:=by
 simp [cellsA,lcells]
theorem take_lcells (k:IntKind) {n N:Nat} (f:Nat→Int) (h:n≤N):(lcells k N f).take n=lcells k n f:=by
 apply List.ext_getElem?
 intro j
 by_cases hj:j<n
 ·rw [List.getElem?_take,if_pos hj,lcells_get k N f (by omega),lcells_get k n f hj]
 ·rw [List.getElem?_eq_none (by simp [length_lcells] <;> omega),List.getElem?_eq_none (by rw [length_lcells];omega)]
theorem owns_new {e:TypeId} {k:IntKind} {es n c:Nat} {f:Nat→Int} (hB:w0.heap.size≤w.heap.size) (hnc:n≤c) (hc:c≤maxLen):(w.alloc (.cells (cellsA k (c*es) f) e)).ownsRow w0.heap.size e es (.slice (some ⟨w.heap.size,0,none⟩) n c) n (lcells k (n*es) f) :=
 ⟨length_lcells _ _ _,.inr ⟨w.heap.size,c,_,rfl,hB,heap_alloc_new w _,hnc,hc,by simp,by rw [cells_list];exact take_lcells k f (Nat.mul_le_mul_right _ hnc)⟩⟩
theorem make_ok (hP:EnvOK P E) (R:Rel w0 m S a w) (hg:GdOK S gd) {o:Oper} {T:TypeId} {l c:Operand} (ho:o.op=.makeSlice T l c) (hkl:constOk l=true) (hkc:constOk c=true) {cs:List Prop} {us:List (Nat × AV)}
  (h:effMake E gd S o.dst T l c=some (cs,us)) (hc:∀ p ∈ cs,p) (hn:∀ d ∈ us.map Prod.fst,noWhen d S) (hr:∀ d,o.dst=some d→noRef d S):Does P o a w (Led w0 S us):=by
 obtain ⟨hvl,_⟩:=opg_ok R hg l hkl
 obtain ⟨hvc,_⟩:=opg_ok R hg c hkc
 unfold effMake at h
 split at h
 ·rename_i e hd
  split at h
  ·rename_i k ka la kc lb hse hk hl1 hc1
   split at h
   ·cases h
   ·rename_i hsz0
    split at h
    ·rename_i c1 c2 hw1 hu1
     have:=ret1_cs h
     subst this
     rw [hl1] at hvl
     rw [hc1] at hvc
     have h1:=within_ok hw1 (fun p hp=>hc p (by simp [hp]))
     have h2:=upto_ok hu1 (fun p hp=>hc p (by simp [hp]))
     have h3:0≤lb.val:=(hc (NonNeg lb.val) (by simp)).h
     have h4:=(hc (RoomFor (lb.off E.A).val (E.ty e).by_) (by simp)).h
     have h5:=(hc (LeqN (lb.off E.A).val capMax) (by simp)).h
     rw [off_val hP] at h2 h4 h5
     obtain ⟨inf,z,i1,i2,i3,i4,i5⟩:=elem_zero hP hk
     have hT:=slice_ty hP hd
     have hrun:=run_make (P:=P) w T e inf z hT i1 i3 ka kc la.val lb.val h1.1 (by omega) (by
      rw [i5]
      have:(((E.ty e).by_*lb.val.toNat:Nat):Int)=((E.ty e).by_:Int)*lb.val:=by
       rw [Int.natCast_mul,Int.toNat_of_nonneg h3]
      rw [← this,Nat.mul_comm]
      omega) (by unfold capMax at h5;omega)
     have hev1:a.eval l=.int ka la.val:=hvl
     have hev2:a.eval c=.int kc lb.val:=hvc
     have he:(execOp a.eval o).run P w=.ok (.value (.slice (some ⟨w.heap.size,0,none⟩) la.val.toNat lb.val.toNat)) (w.alloc (.cells (cellsA k (lb.val.toNat * (E.ty e).sz) fun _=>0) e)):=by
      simp only [execOp,ho,hev1,hev2,Sem.run_bind,hrun,Result.andThen_ok,Sem.run_pure,i4,i2,made_zero (Nat.pos_of_ne_zero hsz0)]
     have how:(w.alloc (.cells (cellsA k (lb.val.toNat * (E.ty e).sz) fun _=>0) e)).ownsRow w0.heap.size e (E.ty e).sz (.slice (some ⟨w.heap.size,0,none⟩) (la.off E.A).val lb.val.toNat) (la.off E.A).val (lcells k ((la.off E.A).val*(E.ty e).sz) fun _=>0):=by
      rw [off_val hP]
      exact owns_new R.below.size (by omega) (by simp only [maxLen];unfold capMax at h5;omega)
     have hvx:(Value.slice (some ⟨w.heap.size,0,none⟩) la.val.toNat lb.val.toNat)=.slice (some ⟨w.heap.size,0,none⟩) (la.off E.A).val lb.val.toNat:=by rw [off_val hP]
     rw [hvx] at he
     exact does_value he (R.newL rfl how (World.grownBy_alloc w _ none) (by intro b hb;cases hb;exact Nat.le_refl _) (VR_osl how rfl) (fun _ _=>⟨min_nonpos k,max_nonneg k⟩) h hn hr)
    ·cases h
  ·cases h
 ·cases h
theorem buildSlice_ok (hP:EnvOK P E) (R:Rel w0 m S a w) (hg:GdOK S gd) {o:Oper} {T:TypeId} {n:Nat} {ps:Array (Nat × Operand)} (ho:o.op=.buildSlice T n ps) (hk:∀ p ∈ ps.toList,constOk p.2=true) {cs:List Prop} {us:List (Nat × AV)}
  (h:effBuildSlice E gd S o.dst T n ps=some (cs,us)) (hn:∀ d ∈ us.map Prod.fst,noWhen d S) (hr:∀ d,o.dst=some d→noRef d S):Does P o a w (Led w0 S us):=by
 have hmap:(ps.map fun (x:Nat × Operand)=>match x with | (i,x)=>(i,a.eval x)).toList=ps.toList.map fun p=>(p.1,a.eval p.2):=by simp
 unfold effBuildSlice at h
 split at h
 ·rename_i e hd
  split at h
  ·rename_i k hse hke
   split at h
   ·rename_i hb
    obtain ⟨hb1,hb2,hb3,hb4⟩:=hb
    split at h
    ·rename_i kk nn f hl
     obtain ⟨inf,z,i1,i2,i3,i4,i5⟩:=elem_zero hP hke
     have hT:=slice_ty hP hd
     obtain ⟨l1,l2,l3⟩:=lay_ok hP R hg (fun i=>if i<n then some (i*(E.ty e).sz,e) else none) (fun i=>some (i*(E.ty e).sz,(E.ty e).sz)) (by
      intro i off T' hp
      try simp only at hp
      split at hp
      ·cases hp;rfl
      ·cases hp) ps.toList _ _ hk (zero_wf k _) rfl hl
     have hkn:kk=k∧nn=n*(E.ty e).sz:=lay_kn ps.toList _ hl rfl
     obtain ⟨rfl,rfl⟩:=hkn
     have hsize:¬ (2 ^ 24<n*(E.ty e).sz):=by omega
     have he:(execOp a.eval o).run P w=.ok (.value (.slice (some ⟨w.heap.size,0,none⟩) n n)) (w.alloc (.cells (cellsA kk (n*(E.ty e).sz) f) e)):=by
      have hz:madeCells z.cells (n*(E.ty e).sz)=cellsA kk (n*(E.ty e).sz) fun _=>0:=by rw [i4,made_zero hb3]
      unfold madeCells at hz
      have hn0:¬ n*(E.ty e).sz=0:=Nat.ne_of_gt (Nat.mul_pos hb4 hb3)
      simp only [cellsOf] at l1
      simp only [execOp,ho,Instr.buildSlice,Sem.run_bind,run_underlying hT,Result.andThen_ok,run_size i1,i2,Sem.run_pure]
      simp [hz,l1,newRow,hn0,hsize,run_zero i1 i3]
     have how:(w.alloc (.cells (cellsA kk (n*(E.ty e).sz) f) e)).ownsRow w0.heap.size e (E.ty e).sz (.slice (some ⟨w.heap.size,0,none⟩) n n) n (lcells kk (n*(E.ty e).sz) f) :=
      owns_new R.below.size (Nat.le_refl _) (by simp only [maxLen];omega)
     exact does_value he (R.newL (len:=.lit n) rfl how (World.grownBy_alloc w _ none) (by intro b hb;cases hb;exact Nat.le_refl _) (VR_osl (len:=.lit n) how rfl) l2 h hn hr)
    ·cases h
   ·cases h
  ·cases h
 ·cases h
theorem app_run {t ty e:TypeId} {inf:TypeInfo} {z:Value} (ht:P.underlying t=some (.slice e)) (hi:P.info? e=some inf) (hz:inf.zero=some z) (hzs:z.cells.size=inf.size) (hby:0<inf.bytes)
  {B:Nat} {e0:TypeId} {v:Value} {n:Nat} {xs:List Value} (hown:w.ownsRow B e0 inf.size v n xs) (hB:B≤w.heap.size) {x:Value} {m:Nat} {news:List Value} (hlen:(Builtin.lenOf x).run P w=.ok m w)
  (hf:∀ k,(Builtin.firstCells inf.size m x).run P { w with drawn:=k }=.ok news.toArray { w with drawn:=k }) (hl:news.length=m*inf.size) (h1:∀ u ∈ news,u.oneCell'=true)
  (hbytes:(n+m)*inf.bytes≤140737488355328) :
  ∃ v' w' e',(Builtin.append_ #[t,t] ty #[v,x]).run P w=.ok v' w'∧w'.ownsRow B e' inf.size v' (n+m) (xs ++ news)∧w.grownBy w' v.ownBlock∧(v'.ownBlock=v.ownBlock∨∀ b,v'.ownBlock=some b→w.heap.size≤b):=by
 have hsmall:n+m≤140737488355328:=Nat.le_trans (Nat.le_mul_of_pos_right _ hby) hbytes
 have h63:n+m≤maxLen:=by simp only [maxLen];omega
 have hlen2:(xs ++ news).length=(n+m)*inf.size:=by rw [List.length_append,hown.1,hl,Nat.add_mul]
 have hfw:(Builtin.firstCells inf.size m x).run P w=.ok news.toArray w:=hf w.drawn
 have hfd:(Builtin.firstCells inf.size m x).run P w.drew=.ok news.toArray w.drew:=hf (w.drawn+1)
 have grown:∀ (old:Nat),old<n+m→∀ (row:Option Nat),
   (w.drew.alloc (.cells (xs.toArray ++ news.toArray ++ Builtin.zeroCells z.cells (grownCap w (n+m) old e - (n+m))) e)).ownsRow B e inf.size
    (.slice (some ⟨w.heap.size,0,none⟩) (n+m) (grownCap w (n+m) old e)) (n+m) (xs ++ news) ∧
   w.grownBy (w.drew.alloc (.cells (xs.toArray ++ news.toArray ++ Builtin.zeroCells z.cells (grownCap w (n+m) old e - (n+m))) e)) row:=by
  intro old ho row
  have hge:=grownCap_ge w (n+m) old e
  have hcm:grownCap w (n+m) old e≤maxLen:=grownCap_le_maxLen w (n+m) old e h63
  refine ⟨⟨hlen2,.inr ⟨w.heap.size,_,_,rfl,hB,heap_alloc_new w.drew _,hge,hcm,?_,?_⟩⟩,⟨rfl,rfl,rfl,by simp,fun k hk _=>heap_alloc_old w.drew _ k hk⟩⟩
  ·simp only [Array.size_append,List.size_toArray,size_zeroCells,hzs,hown.1,hl,← Nat.add_mul]
   congr 1
   omega
  ·simp only [Array.toList_append,List.append_assoc]
   rw [← List.append_assoc,← hlen2]
   exact List.take_left
 have fresh:∀ (c:Nat) b,(Value.slice (some ⟨w.heap.size,0,none⟩) (n+m) c).ownBlock=some b→w.heap.size≤b:=by
  intro c b hb
  cases hb
  exact Nat.le_refl _
 have n63:¬ (9223372036854775807<((n:Int)+(m:Int))):=by omega
 rcases hown.2 with ⟨rfl,rfl⟩ | ⟨g,cap,cur,rfl,hbg,hg,hnc,hcm,hcs,htake⟩
 ·have hxn:xs=[]:=List.eq_nil_of_length_eq_zero (by simpa using hown.1)
  subst hxn
  by_cases hm:m=0
  ·subst hm
   have hn:news=[]:=List.eq_nil_of_length_eq_zero (by simpa using hl)
   subst hn
   refine ⟨.slice none 0 0,w,e,?_,World.ownsRow_nil w B e inf.size,⟨rfl,rfl,rfl,Nat.le_refl _,fun _ _ _=>rfl⟩,.inl rfl⟩
   simp [Builtin.append_,run_underlying ht,Go.sizeOf,typeInfo,hi,hlen,hfw]
  ·have hgr:=grown 0 (by omega) (Value.ownBlock (.slice none 0 0))
   have h48:¬ (281474976710656<Builtin.nextslicecap m 0*inf.bytes):=by rw [nextslicecap_zero (by omega)];rw [Nat.zero_add] at hbytes;omega
   have n63':¬ (9223372036854775807<(m:Int)):=by omega
   simp only [Nat.zero_add,List.nil_append] at hgr ⊢
   refine ⟨_,_,e,?_,hgr.1,hgr.2,.inr (by simpa using fresh (grownCap w m 0 e))⟩
   simp [Builtin.append_,run_underlying ht,Go.sizeOf,typeInfo,zeroValue,hi,hz,hlen,hm,n63',h48,Question.forced,run_firstCells_none,hfd,newRow,grownCap]
 ·by_cases hroom:n+m≤cap
  ·have hfit:n*inf.size+news.length≤cur.size:=by rw [hl,hcs,← Nat.add_mul];exact Nat.mul_le_mul_right _ hroom
   have hst:=run_storeCells_at P g (n*inf.size) e0 news 0 cur w hg (by simpa using hfit) h1
   simp only [Nat.add_zero] at hst
   refine ⟨.slice (some ⟨g,0,none⟩) (n+m) cap,w.setRow g (cur.toList.take (n*inf.size) ++ news ++ cur.toList.drop (n*inf.size+news.length)).toArray,e0,?_,⟨hlen2,.inr ⟨g,cap,_,rfl,hbg,setRow_heap w g cur _ e0 _ hg,hroom,hcm,?_,?_⟩⟩,⟨rfl,rfl,rfl,by simp,fun k _ hk=>setRow_other w g k _ (fun e=>hk (by simp [Value.ownBlock,e]))⟩,.inl rfl⟩
   ·simp [Builtin.append_,run_underlying ht,Go.sizeOf,typeInfo,hi,hlen,hroom,hfw,Addr.add_lit,hst]
   ·simp only [List.size_toArray,List.length_append,List.length_take,List.length_drop,Array.length_toList]
    omega
   ·rw [htake,← hlen2]
    exact List.take_left
  ·have holds:∀ j u,xs[j]?=some u→w.cell? ((⟨g,0,none⟩:Addr).add j)=some u:=hown.cells (g:=g) rfl
   have hfo:=run_firstCells_some (P:=P) w.drew inf.size n ⟨g,0,none⟩ n cap xs hown.1 (by simpa using holds)
   have h48:¬ (281474976710656<Builtin.nextslicecap (n+m) cap*inf.bytes):=by
    have:=growslice_fits (need:=n+m) (old:=cap) (by omega) hbytes
    omega
   have hgr:=grown cap (by omega) (Value.ownBlock (.slice (some ⟨g,0,none⟩) n cap))
   refine ⟨_,_,e,?_,hgr.1,hgr.2,.inr (fresh _)⟩
   simp [Builtin.append_,run_underlying ht,Go.sizeOf,typeInfo,zeroValue,hi,hz,hlen,hroom,n63,h48,Question.forced,hfd,hfo,newRow,grownCap]
   congr 2
   apply Array.ext'
   simp [List.append_assoc]
theorem src_ok {k:IntKind} {es:Nat} {len cap:SO} {g:Nat→Int} {v:Value} (h:ArgR w (.xsl k es len cap g) v):(Builtin.lenOf v).run P w=.ok len.val w ∧
  ∀ n,n≤len.val→∀ d,(Builtin.firstCells es n v).run P { w with drawn:=d }=.ok (lcells k (n*es) g).toArray { w with drawn:=d }:=by
 obtain ⟨aa,c,h1,h2,_⟩:=h
 subst h1
 refine ⟨rfl,fun n hn d=>?_⟩
 rcases Nat.eq_zero_or_pos n with h0 | h0
 ·subst h0
  have he:lcells k (0*es) g=[]:=by rw [Nat.zero_mul];rfl
  rw [he]
  cases aa with
  | none=>rfl
  | some q=>exact run_firstCells_some (P:=P) _ es 0 q len.val c [] (by simp) (fun j v hj=>by simp at hj)
 ·obtain ⟨b,off,h3,h4⟩:=h2 (by omega)
  subst h3
  refine run_firstCells_some (P:=P) _ es n _ len.val c _ (length_lcells _ _ _) (fun j v hj=>?_)
  have hlt:j<n*es:=by
   rcases Nat.lt_or_ge j (n*es) with h5 | h5
   ·exact h5
   ·rw [List.getElem?_eq_none (by rw [length_lcells];exact h5)] at hj;cases hj
  rw [lcells_get k _ g hlt] at hj
  cases hj
  rw [addr_add]
  exact h4 j (Nat.lt_of_lt_of_le hlt (Nat.mul_le_mul_right _ hn))
theorem lcells_one (k:IntKind) (n:Nat) (f:Nat→Int):∀ u ∈ lcells k n f,u.oneCell'=true:=by
 intro u hu
 obtain ⟨j,_,rfl⟩:=List.mem_map.1 hu
 rfl
theorem lcells_join (k:IntKind) (a b:Nat) (f g:Nat→Int):lcells k a f ++ lcells k b g=lcells k (a+b) (joinF a f g):=by
 apply List.ext_getElem?
 intro j
 by_cases h1:j<a
 ·rw [List.getElem?_append_left (by rw [length_lcells];exact h1),lcells_get k a f h1,lcells_get k _ _ (by omega)]
  simp [joinF,h1]
 ·rw [List.getElem?_append_right (by rw [length_lcells];omega),length_lcells]
  by_cases h2:j<a+b
  ·rw [lcells_get k b g (by omega),lcells_get k _ _ h2]
   simp [joinF,h1]
  ·rw [List.getElem?_eq_none (by rw [length_lcells];omega),List.getElem?_eq_none (by rw [length_lcells];omega)]
theorem append_ok (hP:EnvOK P E) (R:Rel w0 m S a w) (hg:GdOK S gd) {rd ks:List Nat} {o:Oper} {c:Go.Call} (ho:o.op=.call c) (hcal:c.callee=.builtin .append) {x y:Operand} {t e:TypeId} (hargs:c.args.toList=[x,y]) (htys:c.argTypes.toList=[t,t]) (hT:P.underlying t=some (.slice e))
  (hkx:constOk x=true) (hky:constOk y=true) {cs:List Prop} {us:List (Nat × AV)} (h:effAppend E rd ks gd S o.dst e x y=some (cs,us)) (hc:∀ p ∈ cs,p) (hn:∀ d ∈ us.map Prod.fst,noWhen d S) (hr:∀ d,o.dst=some d→noRef d S):Does P o a w (Led w0 S us):=by
 have h1a:c.args=#[x,y]:=Array.toList_inj.1 (by simp [hargs])
 have h2a:c.argTypes=#[t,t]:=Array.toList_inj.1 (by simp [htys])
 have hex:∀ v' w',(Builtin.append_ #[t,t] o.type #[a.eval x,a.eval y]).run P w=.ok v' w'→(execOp a.eval o).run P w=.ok (.value v') w':=by
  intro v' w' hrun
  simp only [execOp,ho,Sem.run_bind,resolve,hcal,h1a,h2a,Sem.run_pure,Result.andThen_ok,invoke,builtin,List.map_toArray,List.map_cons,List.map_nil,hrun]
 obtain ⟨hvx,hwx⟩:=opg_ok R hg x hkx
 unfold effAppend at h
 split at h
 ·rename_i d ke cs1 k' es' len' cap' g hd hke harg
  split at h
  ·rename_i hcond
   obtain ⟨rfl,rfl,hsz,hbyp⟩:=hcond
   obtain ⟨inf,z,i1,i2,i3,i4,i5⟩:=elem_zero hP hke
   have hcs1:∀ p ∈ cs1,p:=by
    intro p hp
    split at h
    ·split at h
     ·cases h;exact hc p (by simp [hp])
     ·cases h
    ·cases h;exact hc p (by simp [hp])
    ·cases h
   obtain ⟨harg1,harg2⟩:=argOf_ok R hg hky harg hcs1
   obtain ⟨hlen,hfc⟩:=src_ok (P:=P) harg1
   have key:∀ {v:Value} {n:Nat} {xs:List Value} {e0:TypeId},a.eval x=v→w.ownsRow w0.heap.size e0 (E.ty e).sz v n xs→(n+len'.val)*(E.ty e).by_≤140737488355328 →
     ∃ v' w' e',(execOp a.eval o).run P w=.ok (.value v') w'∧w'.ownsRow w0.heap.size e' (E.ty e).sz v' (n+len'.val) (xs ++ lcells k' (len'.val*(E.ty e).sz) g)∧w.grownBy w' v.ownBlock∧(v'.ownBlock=v.ownBlock∨∀ b,v'.ownBlock=some b→w.heap.size≤b):=by
    intro v n xs e0 hv ho' hb
    rw [← i2] at ho' ⊢
    obtain ⟨v',w',e',r1,r2,r3,r4⟩:=app_run (P:=P) (w:=w) (ty:=o.type) hT i1 i3 (by rw [i4,i2];simp) (by rw [i5];exact hbyp) ho' R.below.size hlen (by rw [i2];exact hfc len'.val (Nat.le_refl _)) (by rw [length_lcells,i2]) (lcells_one _ _ _) (by rw [i5];exact hb)
    exact ⟨v',w',e',hex v' w' (by rw [hv];exact r1),by rw [← i2] at r2;exact r2,r3,r4⟩
   split at h
   ·rename_i k es len f tx hx hxt
    split at h
    ·rename_i hcond2
     obtain ⟨rfl,rfl,hdt,_⟩:=hcond2
     cases h
     obtain ⟨t',ht',hst⟩:=opg_slot R hg hx rfl (by simp)
     subst ht'
     cases hxt
     have hl0:lst? (get S tx)=some (k,(E.ty e).sz,len,f):=by rw [hst];rfl
     obtain ⟨e0,hown⟩:=R.lsts tx _ _ _ _ hl0
     have hv0:=vals_get R tx
     rw [hst] at hv0
     have hlv:lv (a.tmps.getD tx undef)=a.tmps.getD tx undef:=by
      obtain ⟨aa,cc,h5,_⟩:=hv0.1
      rw [h5];rfl
     rw [hlv] at hown
     have hroom:=(hc (RoomFor (len.add len').val (E.ty e).by_) (by simp)).h
     rw [add_val] at hroom
     obtain ⟨v',w',e',r1,r2,r3,r4⟩:=key (v:=a.tmps.getD tx undef) rfl hown hroom
     rw [lcells_join,← Nat.add_mul,← add_val,← mul_val len] at r2
     have htl:tx<S.length:=get_lt (by rw [hst];simp)
     have hlv':=owns_lv r2
     have loose:∀ b,(a.tmps.getD tx undef).ownBlock=some b→Loose m (S.set tx .junk) a b:=by
      intro b hb
      refine ⟨fun i u hi=>?_,fun i u hi=>?_⟩
      ·by_cases hix:i=tx
       ·subst hix;rw [get_set_same htl] at hi;cases hi
       ·rw [get_set_ne (fun e=>hix e.symm)] at hi
        exact R.inj1 i tx u _ b hi hl0 (by rw [hlv];exact hb)
      ·by_cases hix:i=tx
       ·subst hix;rw [get_set_same htl] at hi;cases hi
       ·rw [get_set_ne (fun e=>hix e.symm)] at hi
        exact R.inj2 tx i _ u b (fun e=>hix e.symm) hl0 hi (by rw [hlv];exact hb)
     refine does_value r1 ⟨mset m d (blk (lv v')),?_⟩
     rw [hd]
     refine (R.forget tx).made d (.osl k (E.ty e).sz (len.add len') (joinF (len.mul (E.ty e).sz).val f g)) v' rfl (by rw [hlv'];exact r2) r3 ?_ ?_ (VR_osl r2 hlv' _ rfl d) ?_ ?_ ?_
     ·intro b hb
      refine ⟨?_,loose b hb⟩
      exact (hown.lt b hb).1
     ·intro b hb
      rw [hlv'] at hb
      rcases r4 with h6 | h6
      ·rw [h6] at hb;exact loose b hb
      ·exact (R.forget tx).loose (h6 b hb)
     ·intro i hi
      rw [add_val,Nat.add_mul] at hi
      simp only [joinF,mul_val]
      split
      ·exact hv0.2 i (by assumption)
      ·exact harg2 _ (by omega)
     ·intro i
      by_cases hix:i=tx
      ·subst hix;rw [get_set_same htl];trivial
      ·rw [get_set_ne (fun e=>hix e.symm)]
       exact hr d hd i
     ·intro i gg b z hi
      by_cases hix:i=tx
      ·subst hix;rw [get_set_same htl] at hi;cases hi
      ·rw [get_set_ne (fun e=>hix e.symm)] at hi
       exact hn d (by simp) i gg b z hi
    ·cases h
   ·rename_i hx
    cases h
    rw [hx] at hvx
    have hroom:=(hc (RoomFor len'.val (E.ty e).by_) (by simp)).h
    have hev:a.eval x=.slice none 0 0:=hvx
    obtain ⟨v',w',e',r1,r2,r3,r4⟩:=key (n:=0) (xs:=[]) (e0:=e) hev (World.ownsRow_nil w _ _ _) (by rw [Nat.zero_add];exact hroom)
    rw [Nat.zero_add,List.nil_append] at r2
    have hlv':=owns_lv r2
    refine does_value r1 ⟨mset m d (blk (lv v')),?_⟩
    rw [hd]
    refine R.made d (.osl k' (E.ty e).sz len' g) v' rfl (by rw [hlv'];exact r2) (row:=none) r3 (by intro b e;cases e) ?_ (VR_osl r2 hlv' _ rfl d) harg2 (hr d hd) (hn d (by simp))
    intro b hb
    rw [hlv'] at hb
    rcases r4 with h6 | h6
    ·rw [h6] at hb;cases hb
    ·exact R.loose (h6 b hb)
   ·cases h
  ·cases h
 ·cases h
theorem splice_take {k:IntKind} {N off n:Nat} {f g:Nat→Int} (h:off+n≤N):((cellsA k N f).toList.take off ++ lcells k n g ++ (cellsA k N f).toList.drop (off+n)).toArray=cellsA k N (splice f off n g):=by
 apply Array.ext_getElem?
 intro i
 rw [cells_list]
 simp only [List.getElem?_toArray]
 by_cases h1:i<off
 ·rw [List.getElem?_append_left (by simp [length_lcells] <;> omega),List.getElem?_append_left (by simp [length_lcells] <;> omega),List.getElem?_take,if_pos h1,lcells_get k N f (by omega),cellsA_get k N _ i (by omega)]
  simp [splice,h1]
 ·by_cases h2:i<off+n
  ·rw [List.getElem?_append_left (by simp [length_lcells] <;> omega),List.getElem?_append_right (by simp [length_lcells] <;> omega)]
   simp only [List.length_take,length_lcells]
   rw [Nat.min_eq_left (by omega),lcells_get k n g (by omega),cellsA_get k N _ i (by omega)]
   simp [splice,h1,h2]
  ·rw [List.getElem?_append_right (by simp [length_lcells] <;> omega)]
   simp only [List.length_append,List.length_take,length_lcells,List.getElem?_drop]
   rw [Nat.min_eq_left (by omega)]
   have e:off+n+(i - (off+n))=i:=by omega
   rw [e]
   by_cases h3:i<N
   ·rw [lcells_get k N f h3,cellsA_get k N _ i h3]
    simp [splice,h1,h2]
   ·rw [List.getElem?_eq_none (by rw [length_lcells];omega),Array.getElem?_eq_none (by simp;omega)]
theorem copy_ok (hP:EnvOK P E) (R:Rel w0 m S a w) (hg:GdOK S gd) {rd ks:List Nat} {o:Oper} {c:Go.Call} (ho:o.op=.call c) (hcal:c.callee=.builtin .copy) {x y:Operand} {t e:TypeId} (hargs:c.args.toList=[x,y]) (htys:c.argTypes.toList=[t,t]) (hT:P.underlying t=some (.slice e)) (hse:sized E e=true)
  (hkx:constOk x=true) (hky:constOk y=true) {cs:List Prop} {us:List (Nat × AV)} (h:effCopy E rd ks gd S o.dst e x y=some (cs,us)) (hc:∀ p ∈ cs,p) (hn:∀ d ∈ us.map Prod.fst,noWhen d S):Does P o a w (Led w0 S us):=by
 have h1a:c.args=#[x,y]:=Array.toList_inj.1 (by simp [hargs])
 have h2a:c.argTypes=#[t,t]:=Array.toList_inj.1 (by simp [htys])
 have hex:∀ v' w',(Builtin.copy_ #[t,t] o.type #[a.eval x,a.eval y]).run P w=.ok v' w'→(execOp a.eval o).run P w=.ok (.value v') w':=by
  intro v' w' hrun
  simp only [execOp,ho,Sem.run_bind,resolve,hcal,h1a,h2a,Sem.run_pure,Result.andThen_ok,invoke,builtin,List.map_toArray,List.map_cons,List.map_nil,hrun]
 obtain ⟨hvx,_⟩:=opg_ok R hg x hkx
 unfold effCopy at h
 split at h
 ·rename_i d s es off n cp cs1 k' es' n' cap' g hd hx harg
  split at h
  ·rename_i hcond
   obtain ⟨rfl,rfl,_,_,hds⟩:=hcond
   split at h
   ·rename_i k N f hs
    split at h
    ·rename_i hk
     subst hk
     split at h
     ·rename_i cs2 hfit
      cases h
      obtain ⟨harg1,harg2⟩:=argOf_ok R hg hky harg (fun p hp=>hc p (by simp [hp]))
      obtain ⟨hlen,hfc⟩:=src_ok (P:=P) harg1
      have hfit':=fits_ok hfit (fun p hp=>hc p (by simp [hp]))
      rw [hx] at hvx
      obtain ⟨aa,cc,h1,h2,h3⟩:=hvx
      obtain ⟨b0,⟨T0,hb⟩,hp,hwf⟩:=own_block R hs
      obtain ⟨inf,hinf,hsz⟩:=sized_info hP hse
      have hmin:min n n'≤n':=Nat.min_le_right _ _
      have hcells:=hfc (min n n') (by simpa [SO.val] using hmin) w.drawn
      have hle:off.val+min n n'*(E.ty e).sz≤N:=by
       have:min n n'*(E.ty e).sz≤n*(E.ty e).sz:=Nat.mul_le_mul_right _ (Nat.min_le_left _ _)
       omega
      have hlen':(Builtin.lenOf (a.eval y)).run P w=.ok n' w:=hlen
      have hmc:n'.min n=min n n':=Nat.min_comm _ _
      have hrun:(Builtin.copy_ #[t,t] o.type #[a.eval x,a.eval y]).run P w=.ok (goInt ((min n n':Nat):Int)) (w.setRow (m s).1 (cellsA k N (splice f off.val (min n n'*(E.ty e).sz) g))):=by
       have h1':a.eval x=.slice aa n cc:=h1
       rw [h1']
       rcases Nat.eq_zero_or_pos (min n n'*(E.ty e).sz) with hz | hz
       ·have hf0:splice f off.val (min n n'*(E.ty e).sz) g=f:=by
         funext j
         simp only [splice,hz]
         split
         ·rfl
         ·rw [if_neg (by omega)]
        have hl0:lcells k (min n n'*(E.ty e).sz) g=[]:=by rw [hz];rfl
        rw [hl0] at hcells
        have hcells':(Builtin.firstCells (E.ty e).sz (min n n') (a.eval y)).run P w=.ok #[] w:=hcells
        have hsr:w.setRow (m s).1 (cellsA k N f)=w:=setRow_self w _ _ _ _ hb
        rw [hf0,hsr]
        cases aa with
        | none =>
         simp [Builtin.copy_,run_underlying hT,Go.sizeOf,typeInfo,hinf,hsz,hlen',hmc,hcells']
        | some q =>
         simp [Builtin.copy_,run_underlying hT,Go.sizeOf,typeInfo,hinf,hsz,hlen',hmc,hcells',storeCells]
       ·have hn0:0<n:=by
         rcases Nat.eq_zero_or_pos n with h0 | h0
         ·subst h0;simp at hz
         ·exact h0
        have haa:=h2 hn0
        rw [b0,Nat.zero_add] at haa
        subst haa
        have hst:=run_storeCells_at P (m s).1 off.val T0 (lcells k (min n n'*(E.ty e).sz) g) 0 (cellsA k N f) w hb (by simp [length_lcells] <;> omega) (lcells_one _ _ _)
        simp only [Nat.add_zero,length_lcells] at hst
        rw [splice_take hle] at hst
        have hcells':(Builtin.firstCells (E.ty e).sz (min n n') (a.eval y)).run P w=.ok (lcells k (min n n'*(E.ty e).sz) g).toArray w:=hcells
        simp [Builtin.copy_,run_underlying hT,Go.sizeOf,typeInfo,hinf,hsz,hlen',hmc,hcells',hst]
      have hwf':wfP (.arr k N (splice f off.val (min n n'*(E.ty e).sz) g)):=by
       intro i hi
       simp only [splice]
       split
       ·exact hwf i hi
       ·split
        ·refine harg2 _ ?_
         have:min n n'*(E.ty e).sz≤n'*(E.ty e).sz:=Nat.mul_le_mul_right _ (Nat.min_le_right _ _)
         show _<n'*_
         omega
        ·exact hwf i hi
      have R1:=R.store s _ (.arr k N (splice f off.val (min n n'*(E.ty e).sz) g)) hs rfl hwf'
      have hsl:s<S.length:=get_lt (by rw [hs];simp)
      refine does_value (hex _ _ hrun) ⟨m,?_⟩
      rw [hd]
      have hle63:(min n n':Nat)≤capMax:=by
       have:n≤capMax:=Nat.le_trans h3.1 h3.2
       exact Nat.le_trans (Nat.min_le_left _ _) this
      refine R1.put d (.int .i64 (.lit (min n n':Nat))) (goInt ((min n n':Nat):Int)) (by simp) (by simp) rfl (fun _=>⟨rfl,?_⟩) ?_
      ·show inR _ _
       unfold capMax at hle63
       simp [SI.val,inR,IntKind.min,IntKind.max,IntKind.signed,IntKind.bits]
       omega
      ·intro i gg b z hi
       by_cases his:i=s
       ·subst his;rw [get_set_same hsl] at hi;cases hi
       ·rw [get_set_ne (fun e=>his e.symm)] at hi
        exact hn d (by simp) i gg b z hi
     ·cases h
    ·cases h
   ·cases h
  ·cases h
 ·cases h
theorem enter_ok (hP:EnvOK P E) (G:WOK E w0) (R:Rel w0 m S a w) {o:Oper} {c:Go.Call} {f:FuncId} (ho:o.op=.call c) (hcal:c.callee=.value (.func f)) {vs:List AV} {c1 c2:List Prop} {r:AV} (hcon:E.call f vs=some (c2,r))
  (hc2:∀ p ∈ c2,p) (hwf:∀ x ∈ vs,wfV x) (ha:All2 (ArgR w) vs (c.args.toList.map a.eval)) {cs:List Prop} {us:List (Nat × AV)} (h:ret1 o.dst c1 r=some (cs,us)) (hn:∀ d ∈ us.map Prod.fst,noWhen d S) (hr:∀ d,o.dst=some d→noRef d S):Does P o a w (Led w0 S us):=by
 have hs:=hP.call f vs c2 r hcon hc2 hwf w (G.later R.below).mem (G.later R.below).glob _ ha
 have hex:execOp a.eval o=(do let d ← resolve a.eval c o.type;invoke d.target d.args):=by simp only [execOp,ho]
 have hres:(resolve a.eval c o.type).run P w=.ok { target:=.fn (.func f) #[],args:=c.args.map a.eval } w:=by
  simp only [resolve,hcal,Act.eval,Deferred.ofValue]
  simp
 have hrun:(execOp a.eval o).run P w=(callFunc f (c.args.map a.eval)).run P w:=by
  rw [hex,Sem.run_bind,hres]
  simp [invoke]
 have hto:(c.args.toList.map a.eval).toArray=c.args.map a.eval:=by
  apply Array.ext'
  simp
 rw [hto] at hs
 rcases hs with ⟨fn,hf,hbody,hname,hcalls⟩ | ⟨v,hnl,hr0,hdir⟩
 ·refine does_call (f:=f) (args:=c.args.map a.eval) (w':=w) ?_ hcalls ?_
  ·rw [hrun]
   simp only [callFunc,Sem.run_bind,run_program,Result.andThen_ok,hf,hname,hbody,Bool.false_eq_true,if_false,Sem.run_pure]
  ·intro e w'' ⟨v,he,hr1,hb⟩
   refine ⟨v,he,?_⟩
   by_cases hnl:lst? r=none
   ·obtain ⟨q1,q2,q3⟩:=ResR_ok (m:=m) hr1 hnl
    exact ⟨m,ret1_ok (R.later hb) h q1 q2 q3 hn⟩
   ·have hgr:=grownBy_below hb
    obtain ⟨y,hy⟩:∃ y,lst? r=some y:=by
     cases hh:lst? r with
     | none=>exact absurd hh hnl
     | some y=>exact ⟨y,rfl⟩
    rcases lst_cases hy with ⟨k,es,len,f',rfl,_⟩ | ⟨k,es,len,f',ps,rfl,_⟩
    ·obtain ⟨⟨e',ho'⟩,hin⟩:=hr1
     have hlv:=owns_lv ho'
     have ho2:=owns_mono ho' R.below.size
     exact R.newL (x:=.osl k es len f') rfl (by rw [hlv];exact ho2) hgr (by rw [hlv];exact fun b hb=>(ho'.lt b hb).1) (VR_osl ho2 hlv) hin h hn hr
    ·obtain ⟨u,hu,⟨⟨e',ho'⟩,hin⟩,hpl,hwp⟩:=hr1
     have hlv:lv v=u:=by rw [hu];simp [lv]
     have ho2:=owns_mono ho' R.below.size
     refine R.newL (x:=.otup k es len f' ps) rfl (by rw [hlv];exact ho2) hgr (by rw [hlv];exact fun b hb=>(ho'.lt b hb).1) ?_ ⟨hin,hwp⟩ h hn hr
     intro m' hm d
     subst hm
     rw [hlv]
     obtain ⟨aa,cc,h5,h6⟩:=owns_SL ho2
     refine ⟨aa,cc,?_,?_,hpl⟩
     ·rw [hu,h5]
     ·rw [mset_same];exact h6
 ·obtain ⟨q1,q2,q3⟩:=ResR_ok (m:=m) hr0 hnl
  exact led_value (i:=0) R rfl (by rw [hrun];exact hdir) h q1 q2 q3 hn
theorem call_ok (hP:EnvOK P E) (G:WOK E w0) (R:Rel w0 m S a w) (hg:GdOK S gd) {rd ks:List Nat} {o:Oper} {c:Go.Call} (ho:o.op=.call c) (hk:∀ x ∈ c.args.toList,constOk x=true) {cs:List Prop} {us:List (Nat × AV)}
  (h:effCall E rd ks gd S o.dst c=some (cs,us)) (hc:∀ p ∈ cs,p) (hn:∀ d ∈ us.map Prod.fst,noWhen d S) (hr:∀ d,o.dst=some d→noRef d S):Does P o a w (Led w0 S us):=by
 unfold effCall at h
 split at h
 ·rename_i hcal
  split at h
  ·rename_i x y t t' hargs htys
   split at h
   ·rename_i e hd
    split at h
    ·rename_i htt
     obtain ⟨rfl,hse⟩:=htt
     exact append_ok hP R hg ho hcal hargs htys (slice_ty hP hd) (hk x (by rw [hargs];simp)) (hk y (by rw [hargs];simp)) h hc hn hr
    ·cases h
   ·cases h
  ·cases h
 ·rename_i hcal
  split at h
  ·rename_i x y t t' hargs htys
   split at h
   ·rename_i e hd
    split at h
    ·rename_i htt
     obtain ⟨rfl,hse⟩:=htt
     exact copy_ok hP R hg ho hcal hargs htys (slice_ty hP hd) hse (hk x (by rw [hargs];simp)) (hk y (by rw [hargs];simp)) h hc hn
    ·cases h
   ·cases h
  ·cases h
 ·rename_i f hcal
  split at h
  ·rename_i c1 vs hargs
   split at h
   ·rename_i c2 r hcon
    split at h
    case isFalse=>cases h
    have:=ret1_cs h
    subst this
    obtain ⟨ha,hwf⟩:=argsOf_ok R hg _ _ _ hk hargs (fun p hp=>hc p (List.mem_append_left _ hp))
    exact enter_ok hP G R ho hcal hcon (fun p hp=>hc p (List.mem_append_right _ hp)) hwf ha h hn hr
   ·cases h
  ·cases h
 ·rename_i hcal
  split at h
  ·rename_i x t hargs htys
   split at h
   ·rename_i e hd
    have hT:=slice_ty hP hd
    obtain ⟨hv,hw⟩:=opg_ok R hg x (hk x (by rw [hargs];simp))
    have hlen:∀ (aa:Option Addr) (l cp:Nat),a.eval x=.slice aa l cp→(execOp a.eval o).run P w=.ok (.value (.int .i64 l)) w:=by
     intro aa l cp hev
     have h1:c.args=#[x]:=Array.toList_inj.1 (by simp [hargs])
     have h2:c.argTypes=#[t]:=Array.toList_inj.1 (by simp [htys])
     simp only [execOp,ho,Sem.run_bind,resolve,hcal,h1,h2,Sem.run_pure,Result.andThen_ok,invoke,builtin,Builtin.len_,List.map_toArray,List.map_cons,List.map_nil,hev]
     simp only [List.getElem?_toArray,List.getElem?_cons_zero,Sem.run_bind,run_underlying hT,Result.andThen_ok,Sem.run_pure,goInt]
    have fin:∀ (l:SO) (cp:Nat) (aa:Option Addr),a.eval x=.slice aa l.val cp→ret1 o.dst [] (.int .i64 (lenSI l))=some (cs,us)→l.val≤9223372036854775807→Does P o a w (Led w0 S us):=by
     intro l cp aa hev hret hle
     refine led_value (i:=0) R rfl (hlen _ _ _ hev) hret rfl ?_ ?_ hn
     ·cases l <;> rfl
     ·show inR _ _
      cases l <;> simp [lenSI,SI.val,inR,IntKind.min,IntKind.max,IntKind.signed,IntKind.bits,SO.val] at hle ⊢ <;> omega
    split at h
    ·rename_i hx
     rw [hx] at hv
     obtain ⟨aa,cc,h1,h2,h3,h4⟩:=hv
     unfold capMax at h4
     exact fin _ _ _ h1 h (by omega)
    ·rename_i hx
     rw [hx] at hv
     obtain ⟨aa,cc,h1,h2,h3,h4⟩:=hv
     unfold capMax at h4
     exact fin _ _ _ h1 h (by omega)
    ·rename_i hx
     rw [hx] at hv
     obtain ⟨aa,cc,h1,h2,h3,h4,h5⟩:=hv
     unfold capMax at h5
     exact fin _ _ _ h1 h (by omega)
    ·cases h
   ·cases h
  ·cases h
 ·cases h
end
end Sx

