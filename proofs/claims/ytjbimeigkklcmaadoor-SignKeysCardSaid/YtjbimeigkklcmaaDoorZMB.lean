/-
  Plain arithmetic that the proofs share: second part. No condition.
-/
import Derived.Test.YtjbimeigkklcmaaDoorZEB

namespace Sy
open Go Sx
inductive HA where
 | junk
 | nil
 | pl (x:AV)
 | ptr (l ver:Nat) (off:SO)
 | gptr (g:Nat) (off:SO)
 | xptr (k:IntKind) (n:SO) (f:Nat→Int)
 | sl (l ver es:Nat) (off len:SO)
 | ls (l ver es:Nat) (len:SO)
 | gsl (g es:Nat) (off len:SO)
 | xsl (k:IntKind) (es:Nat) (len:SO) (f:Nat→Int)
inductive HV where
 | at (x:HA)
 | mx (ps:List HA)
 | tup (ps:List HA)
inductive HB where
 | none
 | fix (ps:List HA)
 | row (ver:Nat) (k:IntKind) (es:Nat) (len:SO) (f:Nat→Int)
 | frz (k:IntKind) (n:Nat) (f:Nat→Int)
structure HS where
 fr:List (List HV)
 sl:List HV
 bl:List HB
inductive HAnn:Type 1 where
 | unroll (n:Nat)
 | cut (n:Nat)
 | inv (α:Type) (st:HS→α→HS) (μ:α→Nat)
structure HE:Type 1 where
 E:Env
 zm:TypeId→Option (List HA)
 sz:TypeId→Option Nat
 pt:TypeId→Bool
 loops:Nat→HS→HAnn
def jV:HV:=.at .junk
def undefV:HV:=.at (.pl (.val undef))
def get1:List HV→Nat→HV
 | [],_=>jV
 | x :: _,0=>x
 | _ :: l,i+1=>get1 l i
def getV:List HV→Nat→HV
 | a0 :: a1 :: a2 :: a3 :: a4 :: a5 :: a6 :: a7 :: a8 :: a9 :: a10 :: a11 :: a12 :: a13 :: a14 :: a15 :: r,i =>
  match Nat.ble 16 i with
  | true=>getV r (i - 16)
  | false=>get1 (a0 :: a1 :: a2 :: a3 :: a4 :: a5 :: a6 :: a7 :: a8 :: a9 :: a10 :: a11 :: a12 :: a13 :: a14 :: a15 :: []) i
 | l,i=>get1 l i
def setV:List HV→Nat→HV→List HV
 | a0 :: a1 :: a2 :: a3 :: a4 :: a5 :: a6 :: a7 :: a8 :: a9 :: a10 :: a11 :: a12 :: a13 :: a14 :: a15 :: r,i,v =>
  match Nat.ble 16 i with
  | true=>a0 :: a1 :: a2 :: a3 :: a4 :: a5 :: a6 :: a7 :: a8 :: a9 :: a10 :: a11 :: a12 :: a13 :: a14 :: a15 :: setV r (i - 16) v
  | false=>List.set (a0 :: a1 :: a2 :: a3 :: a4 :: a5 :: a6 :: a7 :: a8 :: a9 :: a10 :: a11 :: a12 :: a13 :: a14 :: a15 :: r) i v
 | l,i,v=>List.set l i v
def getB:List HB→Nat→HB
 | [],_=>.none
 | x :: _,0=>x
 | _ :: l,i+1=>getB l i
theorem get1_D:∀ (l:List HV) (i:Nat),get1 l i=l.getD i jV
 | [],_=>by simp [get1]
 | _ :: _,0=>rfl
 | _ :: l,i+1=>by simpa [get1] using get1_D l i
theorem get1_cut:∀ (a r:List HV) (i:Nat),i<a.length→get1 a i=get1 (a ++ r) i
 | [],r,i,h=>by simp at h
 | x :: a,r,0,h=>rfl
 | x :: a,r,i+1,h=>get1_cut a r i (by simpa using h)
theorem get1_skip:∀ (a r:List HV) (i:Nat),get1 r i=get1 (a ++ r) (a.length+i)
 | [],r,i=>by simp
 | x :: a,r,i=>by
  rw [List.length_cons,Nat.add_right_comm]
  exact get1_skip a r i
theorem getV_1:∀ (l:List HV) (i:Nat),getV l i=get1 l i:=by
 intro l i
 fun_induction getV l i with
 | case1 => 
  rename_i h ih
  rw [ih]
  simp only [Nat.ble_eq] at h
  rw [get1_skip [_,_,_,_,_,_,_,_,_,_,_,_,_,_,_,_] _ _]
  congr 1
  simp only [List.length_cons,List.length_nil]
  omega
 | case2 =>
  rename_i i h
  have h:¬ 16≤i:=by
   intro h2
   have h3:Nat.ble 16 i=true:=by simpa using h2
   rw [h3] at h
   cases h
  exact get1_cut [_,_,_,_,_,_,_,_,_,_,_,_,_,_,_,_] _ _ (by simp only [List.length_cons,List.length_nil];omega)
 | case3=>rfl
theorem set_skip:∀ (a r:List HV) (i:Nat) (v:HV),(a ++ r).set (a.length+i) v=a ++ r.set i v
 | [],r,i,v=>by simp
 | x :: a,r,i,v=>by
  rw [List.length_cons,Nat.add_right_comm]
  simp only [List.cons_append,List.set_cons_succ,set_skip a r i v]
theorem setV_1:∀ (l:List HV) (i:Nat) (v:HV),setV l i v=l.set i v:=by
 intro l i v
 fun_induction setV l i v with
 | case1 =>
  rename_i a0 a1 a2 a3 a4 a5 a6 a7 a8 a9 a10 a11 a12 a13 a14 a15 r i v h ih
  rw [ih]
  simp only [Nat.ble_eq] at h
  have:=set_skip [a0,a1,a2,a3,a4,a5,a6,a7,a8,a9,a10,a11,a12,a13,a14,a15] r (i - 16) v
  rw [show [a0,a1,a2,a3,a4,a5,a6,a7,a8,a9,a10,a11,a12,a13,a14,a15].length+(i - 16)=i by simp only [List.length_cons,List.length_nil];omega] at this
  exact this.symm
 | case2=>rfl
 | case3=>rfl
theorem getV_D (l:List HV) (i:Nat):getV l i=l.getD i jV:=by rw [getV_1,get1_D]
theorem getB_D:∀ (l:List HB) (i:Nat),getB l i=l.getD i .none
 | [],_=>by simp [getB]
 | _ :: _,0=>rfl
 | _ :: l,i+1=>by simpa [getB] using getB_D l i
def opH (sl:List HV):Operand→HV
 | .tmp t=>getV sl t
 | .const (.int k n)=>.at (.pl (.int k (.lit n)))
 | .const (.bool b)=>.at (.pl (.bool (.lit b)))
 | .const (.slice none 0 0)=>.at .nil
 | .const v=>.at (.pl (.val v))
 | .global g=>.at (.gptr g (.lit 0))
 | .func f=>.at (.pl (.val (.func (.func f) #[] #[])))
def labA:HA→List Nat
 | .ptr l _ _=>[l]
 | .sl l _ _ _ _=>[l]
 | .ls l _ _ _=>[l]
 | _=>[]
def labV:HV→List Nat
 | .at x=>labA x
 | _=>[]
theorem seal_min:Nonempty { f:Int→Int→Int // f=fun a b=>if b<a then b else a }:=⟨⟨_,rfl⟩⟩
noncomputable def imin (a b:Int):Int:=(Classical.choice seal_min).1 a b
theorem imin_eq (a b:Int):imin a b=if b<a then b else a:=congrFun (congrFun (Classical.choice seal_min).2 a) b
noncomputable def minI:SI→SI→SI
 | .lit a,.lit b=>.lit (if b<a then b else a)
 | .lit a,.sym b=>.sym (imin a b)
 | .sym a,.lit b=>.sym (imin a b)
 | .sym a,.sym b=>.sym (imin a b)
def szA:HA→Nat
 | .pl (.arr _ n _)=>n
 | _=>1
def szL:List HA→Nat
 | []=>0
 | p :: ps=>szA p+szL ps
def cutP:Nat→List HA→Option (List HA × List HA)
 | 0,ps=>some ([],ps)
 | _+1,[]=>none
 | n+1,p :: ps =>
  if szA p≤n+1 then
   match cutP (n+1 - szA p) ps with
   | some (a,b)=>some (p :: a,b)
   | none=>none
  else none
def findP:Nat→List HA→Option (List HA × Nat × HA × List HA)
 | _,[]=>none
 | o,p :: ps =>
  if o<szA p then some ([],o,p,ps)
  else match findP (o - szA p) ps with
   | some (a,o',q,b)=>some (p :: a,o',q,b)
   | none=>none
abbrev HR:=Option (List Prop × HV × Option (Nat × HB))
def cellA:HA→Bool
 | .nil | .ptr .. | .gptr .. | .sl .. | .ls .. | .gsl .. | .xsl ..=>true
 | _=>false
def isMix:Ty→Bool
 | .mix _=>true
 | _=>false
def isSlice:Ty→Bool
 | .slice _=>true
 | _=>false
def plR (r:Option (List Prop × AV)):Option (List Prop × HV) :=
 match r with
 | some (cs,v)=>some (cs,.at (.pl v))
 | none=>none
def loadP (H:HE) (T:TypeId) (ps:List HA) (off:SO):Option (List Prop × HV) :=
 match ps with
 | [.pl x]=>plR (sub H.E T x off)
 | ps =>
  match off with
  | .lit o =>
   match (H.E.ty T).d with
   | .mix _ =>
    match cutP o ps with
    | some (_,b) =>
     (match cutP (H.E.ty T).sz b with
     | some (c,_)=>some ([],.mx c)
     | none=>none)
    | none=>none
   | .slice _ =>
    match findP o ps with
    | some (_,0,p,_)=>if cellA p then some ([],.at p) else none
    | _=>none
   | _ =>
    match findP o ps with
    | some (_,o',.pl x,_)=>plR (sub H.E T x (.lit o'))
    | _=>none
  | .sym _=>none
def okPs (r:Option (List Prop × AV)) (a b:List HA):Option (List Prop × List HA) :=
 match r with
 | some (cs,x)=>some (cs,a ++ .pl x :: b)
 | none=>none
def storeP (H:HE) (T:TypeId) (ps:List HA) (off:SO) (v:HV):Option (List Prop × List HA) :=
 match v with
 | .at (.pl y) =>
  (match ps with
  | [.pl x]=>okPs (put H.E T x off y) [] []
  | ps =>
   match off with
   | .lit o =>
    match findP o ps with
    | some (a,o',.pl x,b)=>okPs (put H.E T x (.lit o') y) a b
    | _=>none
   | .sym _=>none)
 | .at q =>
  if cellA q=true∧H.sz T=some 1 then
   match off with
   | .lit o =>
    match findP o ps with
    | some (a,0,p,b)=>if szA p=1 then some ([],a ++ q :: b) else none
    | _=>none
   | .sym _=>none
  else none
 | .mx qs =>
  match off with
  | .lit o =>
   if isMix (H.E.ty T).d=true∧szL qs=(H.E.ty T).sz then
   match cutP o ps with
   | some (a,b) =>
    (match cutP (H.E.ty T).sz b with
    | some (_,c)=>some ([],a ++ (qs ++ c))
    | none=>none)
   | none=>none
   else none
  | .sym _=>none
 | .tup _=>none
def hLoad (H:HE) (T:TypeId) (x:HV) (bk:Nat→HB):HR :=
 match x with
 | .at (.ptr l ver off) =>
  (match bk l with
  | .fix ps=>if ver=0 then (match loadP H T ps off with
   | some (cs,v)=>some (cs,v,none)
   | none=>none) else none
  | .row v k es len f =>
   if ver=v then
   (match (H.E.ty T).d with
   | .int k'=>if k=k' then some ([FitsMul off.val 1 len.val es],.at (.pl (.int k (.sym (f off.val)))),none) else none
   | .arr .. =>
    (match sub H.E T (.arr k (len.val*es) f) (.sym off.val) with
    | some (cs,r)=>some (cs,.at (.pl r),none)
    | none=>none)
   | _=>none)
   else none
  | _=>none)
 | .at (.gptr g off) =>
  (match sub H.E T (H.E.glob g) off with
  | some (cs,r)=>some (cs,.at (.pl r),none)
  | none=>none)
 | .at (.xptr k n f) =>
  (match (H.E.ty T).d with
  | .int k'=>if k=k' then some ([LeqN 1 n.val],.at (.pl (.int k (.sym (f 0)))),none) else none
  | _=>none)
 | _=>none
def hStore (H:HE) (T:TypeId) (a v:HV) (bk:Nat→HB):HR :=
 match a with
 | .at (.ptr l ver off) =>
  (match bk l with
  | .fix ps=>if ver=0 then (match storeP H T ps off v with
   | some (cs,qs)=>some (cs,undefV,some (l,.fix qs))
   | none=>none) else none
  | _=>none)
 | _=>none
noncomputable def hFieldAddr (H:HE) (T:TypeId) (x:HV) (fi:Nat):HR :=
 match (H.E.ty T).d with
 | .struct fs =>
  match fs[fi]? with
  | some (o,ft) =>
   if (H.E.ty ft).sz=0∨¬ sized H.E ft then none else
   match x with
   | .at (.ptr l ver off)=>some ([],.at (.ptr l ver (off.add (.lit o))),none)
   | .at (.gptr g off)=>some ([],.at (.gptr g (off.add (.lit o))),none)
   | _=>none
  | none=>none
 | .mix fs =>
  match fs[fi]? with
  | some (o,_) =>
   match x with
   | .at (.ptr l ver off)=>some ([],.at (.ptr l ver (off.add (.lit o))),none)
   | _=>none
  | none=>none
 | _=>none
noncomputable def hIndexAddr (H:HE) (T:TypeId) (x i:HV):HR :=
 match i with
 | .at (.pl (.int _ iv)) =>
  (match (H.E.ty T).d with
  | .arr n e =>
   match H.sz e with
   | some z =>
    (match within iv (.lit n) with
    | some cs =>
     (match x with
     | .at (.ptr l ver off)=>some (cs,.at (.ptr l ver (off.add ((iv.off H.E.A).mul z))),none)
     | .at (.gptr g off)=>some (cs,.at (.gptr g (off.add ((iv.off H.E.A).mul z))),none)
     | _=>none)
    | none=>none)
   | none=>none
  | .slice e =>
   match H.sz e with
   | some z =>
    (match x with
    | .at (.sl l ver es off len) =>
     if es=z then (match within iv len with
      | some cs=>some (cs,.at (.ptr l ver (off.add ((iv.off H.E.A).mul z))),none)
      | none=>none) else none
    | .at (.ls l ver es len) =>
     if es=z then (match within iv len with
      | some cs=>some (cs,.at (.ptr l ver ((iv.off H.E.A).mul z)),none)
      | none=>none) else none
    | .at (.gsl g es off len) =>
     if es=z then (match within iv len with
      | some cs=>some (cs,.at (.gptr g (off.add ((iv.off H.E.A).mul z))),none)
      | none=>none) else none
    | .at (.xsl k es len f) =>
     if es=z then (match within iv len with
      | some cs=>some (cs,.at (.xptr k (.lit z) (fun j=>f (((iv.off H.E.A).mul z).val+j))),none)
      | none=>none) else none
    | _=>none)
   | none=>none
  | _=>none)
 | _=>none
def hBound:Option Operand→List HV→Option (Option SI × List HV)
 | none,vs=>some (none,vs)
 | some _,.at (.pl (.int _ n)) :: vs=>some (some n,vs)
 | some _,_=>none
noncomputable def hSlice (H:HE) (T:TypeId) (lo hi mx:Option Operand) (vs:List HV):HR :=
 match mx,vs with
 | none,x :: vs =>
  match hBound lo vs with
  | some (l,vs1) =>
   (match hBound hi vs1 with
   | some (h,[]) =>
    (match (H.E.ty T).d with
    | .arr n e =>
     match H.sz e with
     | some z =>
      if n≤capMax then
      (match upto? h (.lit n),upto? l (orElse H.E h (.lit n)) with
      | some c1,some c2 =>
       (match x with
       | .at (.ptr b ver off)=>some (c1 ++ c2,.at (.sl b ver z (off.add ((orElse H.E l (.lit 0)).mul z)) ((orElse H.E h (.lit n)).sub (orElse H.E l (.lit 0)))),none)
       | .at (.gptr g off)=>some (c1 ++ c2,.at (.gsl g z (off.add ((orElse H.E l (.lit 0)).mul z)) ((orElse H.E h (.lit n)).sub (orElse H.E l (.lit 0)))),none)
       | _=>none)
      | _,_=>none)
      else none
     | none=>none
    | .slice e =>
     match H.sz e with
     | some z =>
      (match x with
      | .at (.sl b ver es off len) =>
       if es=z then
       (match upto? h len,upto? l (orElse H.E h len) with
       | some c1,some c2=>some (c1 ++ c2,.at (.sl b ver es (off.add ((orElse H.E l (.lit 0)).mul z)) ((orElse H.E h len).sub (orElse H.E l (.lit 0)))),none)
       | _,_=>none)
       else none
      | .at (.ls b ver es len) =>
       if es=z then
       (match upto? h len,upto? l (orElse H.E h len) with
       | some c1,some c2 =>
        (match l with
        | none=>some (c1 ++ c2,.at (.ls b ver es (orElse H.E h len)),none)
        | some l'=>some (c1 ++ c2,.at (.sl b ver es ((l'.off H.E.A).mul z) ((orElse H.E h len).sub (l'.off H.E.A))),none))
       | _,_=>none)
       else none
      | .at (.xsl k es len f) =>
       if es=z then
       (match upto? h len,upto? l (orElse H.E h len) with
       | some c1,some c2 =>
        (match l with
        | none=>some (c1 ++ c2,.at (.xsl k es (orElse H.E h len) f),none)
        | some l'=>some (c1 ++ c2,.at (.xsl k es ((orElse H.E h len).sub (l'.off H.E.A)) (fun j=>f (((l'.off H.E.A).mul z).val+j))),none))
       | _,_=>none)
       else none
      | _=>none)
     | none=>none
    | _=>none)
   | _=>none)
  | none=>none
 | _,_=>none
def fresh (l n:Nat) (bk:Nat→HB):Bool :=
 match bk l with
 | .none=>decide (l<n)
 | _=>false
def hAlloc (H:HE) (T:TypeId) (l n:Nat) (bk:Nat→HB):HR :=
 if fresh l n bk then
  match H.zm T with
  | some ps=>some ([],.at (.ptr l 0 (.lit 0)),some (l,.fix ps))
  | none =>
   (match zero H.E T with
   | some x=>some ([],.at (.ptr l 0 (.lit 0)),some (l,.fix [.pl x]))
   | none=>none)
 else none
def hBox (H:HE) (T:TypeId) (v:HV) (l n:Nat) (bk:Nat→HB):HR :=
 if fresh l n bk then
  match v with
  | .at (.pl x)=>if boxable H.E T x then some ([],.at (.ptr l 0 (.lit 0)),some (l,.fix [.pl x])) else none
  | .mx ps=>some ([],.at (.ptr l 0 (.lit 0)),some (l,.fix ps))
  | _=>none
 else none
def layH (H:HE) (place:Nat→Option (Nat × TypeId)):List HA→List (Nat × HV)→Option (List HA)
 | ps,[]=>some ps
 | ps,(i,v) :: r =>
  match place i with
  | some (o,T) =>
   (match storeP H T ps (.lit o) v with
   | some ([],qs)=>layH H place qs r
   | _=>none)
  | none=>none
def hBuild (H:HE) (T:TypeId) (ix:List Nat) (vs:List HV):HR :=
 match (H.E.ty T).d with
 | .mix fs =>
  match H.zm T with
  | some ps =>
   (match layH H (fun i=>fs[i]?) ps (ix.zip vs) with
   | some qs=>some ([],.mx qs,none)
   | none=>none)
  | none=>none
 | .arr _ e =>
  match zero H.E T,H.sz e with
  | some z,some n =>
   (match layH H (fun i=>some (i*n,e)) [.pl z] (ix.zip vs) with
   | some [.pl (.arr k m f)]=>some ([],.at (.pl (.arr k m f)),none)
   | _=>none)
  | _,_=>none
 | _=>none
def isNilZ:Option (List HA)→Bool
 | some [.nil]=>true
 | _=>false
def hBuildSlice (H:HE) (T:TypeId) (c:Nat) (ix:List Nat) (vs:List HV) (l n:Nat) (bk:Nat→HB):HR :=
 if fresh l n bk then
 match (H.E.ty T).d with
 | .slice e =>
  match elemK H.E e,H.sz e with
  | some k,some z =>
   if c*z≤16777216∧0<z∧0<c∧z=(H.E.ty e).sz∧sized H.E e=true then
   (match layH H (fun i=>if i<c then some (i*z,e) else none) [.pl (.arr k (c*z) (fun _=>0))] (ix.zip vs) with
   | some ps=>some ([],.at (.sl l 0 z (.lit 0) (.lit c)),some (l,.fix ps))
   | none=>none)
   else none
  | none,some z =>
   if z=1∧c≤16777216∧0<c∧isSlice (H.E.ty e).d=true∧isNilZ (H.zm e)=true then
   (match layH H (fun i=>if i<c then some (i*z,e) else none) (List.replicate c .nil) (ix.zip vs) with
   | some ps=>some ([],.at (.sl l 0 1 (.lit 0) (.lit c)),some (l,.fix ps))
   | none=>none)
   else none
  | _,_=>none
 | _=>none
 else none
def hMake (H:HE) (T:TypeId) (a b:HV) (l n:Nat) (bk:Nat→HB):HR :=
 if fresh l n bk then
 match (H.E.ty T).d,a,b with
 | .slice e,.at (.pl (.int _ a)),.at (.pl (.int _ b)) =>
  (match sized H.E e,elemK H.E e with
  | true,some k =>
   if (H.E.ty e).sz=0 then none else
   (match within a (.lit capMax),upto a (b.off H.E.A) with
   | some c1,some c2=>some (c1 ++ c2 ++ [NonNeg b.val,RoomFor (b.off H.E.A).val (H.E.ty e).by_,LeqN (b.off H.E.A).val capMax],.at (.ls l 0 (H.E.ty e).sz (a.off H.E.A)),some (l,.row 0 k (H.E.ty e).sz (a.off H.E.A) (fun _=>0)))
   | _,_=>none)
  | _,_=>none)
 | _,_,_=>none
 else none
noncomputable def srcH (k:IntKind) (z:Nat) (y:HV) (bk:Nat→HB):Option (List Prop × SO × (Nat→Int)) :=
 match y with
 | .at .nil=>some ([],.lit 0,fun _=>0)
 | .at (.xsl k' es len f)=>if k'=k∧es=z then some ([],len,f) else none
 | .at (.sl l ver es off len) =>
  if es=z then
  (match bk l with
  | .fix [.pl (.arr k' n f)]=>if ver=0∧k'=k then (match (off.add (len.mul es)).leq (.lit n) with
   | some cs=>some (cs,len,fun j=>f (off.val+j))
   | none=>none) else none
  | .row v k' es' len' f=>if ver=v∧k'=k∧es'=es then (match (off.add (len.mul es)).leq (len'.mul es') with
   | some cs=>some (cs,len,fun j=>f (off.val+j))
   | none=>none) else none
  | .frz k' n f=>if ver=0∧k'=k then (match (off.add (len.mul es)).leq (.lit n) with
   | some cs=>some (cs,len,fun j=>f (off.val+j))
   | none=>none) else none
  | _=>none)
  else none
 | .at (.ls l ver es len) =>
  if es=z then
  (match bk l with
  | .row v k' es' _ f=>if ver=v∧k'=k∧es'=es then some ([],len,f) else none
  | _=>none)
  else none
 | _=>none
noncomputable def hAppend (H:HE) (e:TypeId) (x y:HV) (l n:Nat) (bk:Nat→HB):HR :=
 match elemK H.E e with
 | some k =>
  if 0<(H.E.ty e).sz∧0<(H.E.ty e).by_ then
  (match srcH k (H.E.ty e).sz y bk with
  | some (cs,len',g) =>
   (match x with
   | .at .nil=>if fresh l n bk then some (cs ++ [RoomFor len'.val (H.E.ty e).by_],.at (.ls l 0 (H.E.ty e).sz len'),some (l,.row 0 k (H.E.ty e).sz len' g)) else none
   | .at (.ls b ver es len) =>
    (match bk b with
    | .row v k' es' _ f =>
     if ver=v∧k'=k∧es'=es∧es=(H.E.ty e).sz then
      some (cs ++ [RoomFor (len.add len').val (H.E.ty e).by_],.at (.ls b (ver+1) es (len.add len')),some (b,.row (ver+1) k es (len.add len') (joinF (len.mul es).val f g)))
     else none
    | _=>none)
   | _=>none)
  | none=>none)
  else none
 | none=>none
noncomputable def hCopy (H:HE) (e:TypeId) (x y:HV) (bk:Nat→HB):HR :=
 match x with
 | .at (.sl b ver es (.lit off) (.lit n)) =>
  (match bk b with
  | .fix [.pl (.arr k N f)] =>
   if ver=0∧es=(H.E.ty e).sz∧off+n*es≤N then
   (match srcH k es y bk with
   | some (cs,.lit n',g)=>some (cs,.at (.pl (.int .i64 (.lit (min n n':Nat)))),some (b,.fix [.pl (.arr k N (splice f off (min n n'*es) g))]))
   | _=>none)
   else none
  | _=>none)
 | _=>none
def hLen (x:HV):Option SI :=
 match x with
 | .at .nil=>some (.lit 0)
 | .at (.sl _ _ _ _ len)=>some (lenSI len)
 | .at (.ls _ _ _ len)=>some (lenSI len)
 | .at (.gsl _ _ _ len)=>some (lenSI len)
 | .at (.xsl _ _ len _)=>some (lenSI len)
 | _=>none
noncomputable def argA (bk:Nat→HB) (v:HV):Option (List Prop × AV) :=
 match v with
 | .at (.pl x)=>if pure? x then some ([],x) else none
 | .at (.xsl k es len f)=>some ([],.xsl k es len (.lit 0) f)
 | .at (.sl l ver es off len) =>
  (match bk l with
  | .fix [.pl (.arr k _ _)] | .frz k _ _ | .row _ k _ _ _=>(match srcH k es (.at (.sl l ver es off len)) bk with
   | some (cs,len',g)=>some (cs,.xsl k es len' (.lit 0) g)
   | none=>none)
  | _=>none)
 | _=>none
noncomputable def plains (bk:Nat→HB):List HV→Option (List Prop × List AV)
 | []=>some ([],[])
 | v :: vs=>(match argA bk v,plains bk vs with
  | some (cs,x),some (cs',l)=>some (cs ++ cs',x :: l)
  | _,_=>none)
def resV:AV→Option HV
 | .int k n=>some (.at (.pl (.int k n)))
 | .bool b=>some (.at (.pl (.bool b)))
 | .arr k n f=>some (.at (.pl (.arr k n f)))
 | .tup ps=>some (.tup (ps.map .pl))
 | _=>none
noncomputable def hCall (H:HE) (c:Go.Call) (vs:List HV) (l n:Nat) (bk:Nat→HB):HR :=
 match c.callee with
 | .builtin .append =>
  match vs,c.argTypes.toList with
  | [x,y],[t,t'] =>
   (match (H.E.ty t).d with
   | .slice e=>if t=t'∧sized H.E e then hAppend H e x y l n bk else none
   | _=>none)
  | _,_=>none
 | .builtin .len =>
  match vs,c.argTypes.toList with
  | [x],[t] =>
   (match (H.E.ty t).d,hLen x with
   | .slice _,some n=>some ([],.at (.pl (.int .i64 n)),none)
   | _,_=>none)
  | _,_=>none
 | .builtin .min =>
  match vs with
  | [.at (.pl (.int k a)),.at (.pl (.int k' b))]=>if k=k' then some ([],.at (.pl (.int k (minI a b))),none) else none
  | _=>none
 | .builtin .copy =>
  match vs,c.argTypes.toList with
  | [x,y],[t,t'] =>
   (match (H.E.ty t).d with
   | .slice e=>if t=t'∧sized H.E e then hCopy H e x y bk else none
   | _=>none)
  | _,_=>none
 | .value (.func f) =>
  match plains bk (vs.drop 1) with
  | some (cs0,l) =>
   (match H.E.call f l with
   | some (cs,r)=>(match resV r with
    | some v=>some (cs0 ++ cs,v,none)
    | none=>none)
   | none=>none)
  | none=>none
 | _=>none
def hBin (H:HE) (o:BinOp) (T:TypeId) (x y:HV):HR :=
 match x,y with
 | .at (.pl x),.at (.pl y) =>
  (match binEff H.E o T x y with
  | some (cs,r)=>some (cs,.at (.pl r),none)
  | none=>none)
 | .at (.ptr ..),.at (.pl (.val (.pointer none))) =>
  (match o with
  | .eql=>if H.pt T then some ([],.at (.pl (.bool (.lit false))),none) else none
  | _=>none)
 | _,_=>none
def hUn (H:HE) (op:UnOp) (x:HV):HR :=
 match op,x with
 | .neg,.at (.pl (.int k n))=>some ([],.at (.pl (.int k (n.un H.E.A .neg k))),none)
 | .xor,.at (.pl (.int k n))=>some ([],.at (.pl (.int k (n.un H.E.A .xor k))),none)
 | .not,.at (.pl (.bool b))=>some ([],.at (.pl (.bool b.not)),none)
 | _,_=>none
def isU8:Ty→Bool
 | .int .u8=>true
 | _=>false
def hConvert (H:HE) (s d:TypeId) (x:HV) (bk:Nat→HB):HR :=
 match (H.E.ty s).d,(H.E.ty d).d,x with
 | .int _,.int k,.at (.pl (.int _ n))=>some ([],.at (.pl (.int k (n.cnv H.E.A k))),none)
 | .slice _,.slice e,.at (.sl l ver es off (.lit (n+1))) =>
  (match bk l with
  | .fix [.pl (.arr k N f)]=>if s=d∧ver=0∧isU8 (H.E.ty e).d=true then some ([],.at (.sl l ver es off (.lit (n+1))),some (l,.frz k N f)) else none
  | _=>none)
 | _,_,_=>none
def hArr (H:HE) (T:TypeId) (x:HV):HR :=
 match (H.E.ty T).d with
 | .arr n _ =>
  match x with
  | .at (.sl l ver _ off len) =>
   if 0<n then (match (SO.lit n).leq len with
    | some cs=>some (cs,.at (.ptr l ver off),none)
    | none=>none) else none
  | .at (.ls l ver _ len) =>
   if 0<n then (match (SO.lit n).leq len with
    | some cs=>some (cs,.at (.ptr l ver (.lit 0)),none)
    | none=>none) else none
  | _=>none
 | _=>none
noncomputable def hIndex (H:HE) (T:TypeId) (x i:HV):HR :=
 match (H.E.ty T).d,x,i with
 | .arr n e,.at (.pl (.arr k m f)),.at (.pl (.int _ iv)) =>
  if sized H.E e then
  (match within iv (.lit n),sub H.E e (.arr k m f) ((iv.off H.E.A).mul (H.E.ty e).sz) with
  | some cs,some (cs',r)=>some (cs ++ cs',.at (.pl r),none)
  | _,_=>none)
  else none
 | _,_,_=>none
noncomputable def step (H:HE) (op:Go.Op) (vs:List HV) (l n:Nat) (bk:Nat→HB):HR :=
 match op,vs with
 | .move _,[v]=>some ([],v,none)
 | .assign _,[v]=>some ([],v,none)
 | .pick ..,[.at (.pl (.bool (.lit b))),x,y]=>some ([],cond b x y,none)
 | .alloc T,[]=>hAlloc H T l n bk
 | .box T _,[v]=>hBox H T v l n bk
 | .build T ps,vs=>hBuild H T (ps.toList.map Prod.fst) vs
 | .buildSlice T c ps,vs=>hBuildSlice H T c (ps.toList.map Prod.fst) vs l n bk
 | .makeSlice T _ _,[a,b]=>hMake H T a b l n bk
 | .load T _,[x]=>hLoad H T x bk
 | .store T _ _,[a,v]=>hStore H T a v bk
 | .nilCheck _,[.at (.ptr b ver off)]=>some ([],.at (.ptr b ver off),none)
 | .indexAddr T _ _,[x,i]=>hIndexAddr H T x i
 | .index T _ _,[x,i]=>hIndex H T x i
 | .fieldAddr T _ fi,[x]=>hFieldAddr H T x fi
 | .slice T _ lo hi mx,vs=>hSlice H T lo hi mx vs
 | .sliceToArrayPointer T _,[x]=>hArr H T x
 | .binOp o T _ _ _,[x,y]=>hBin H o T x y
 | .unOp o _ _,[x]=>hUn H o x
 | .convert s d _,[x]=>hConvert H s d x bk
 | .extract _ i,[.tup ps]=>(match ps[i]? with
  | some p=>some ([],.at p,none)
  | none=>none)
 | .call c,vs=>hCall H c vs l n bk
 | _,_=>none
def looks (op:Go.Op) (vs:List HV) (l:Nat):List Nat :=
 match op with
 | .load .. | .store .. | .convert ..=>vs.flatMap labV
 | .alloc _ | .box .. | .buildSlice .. | .makeSlice ..=>[l]
 | .call c=>(match c.callee with
  | .value _=>vs.flatMap labV
  | _=>l :: vs.flatMap labV)
 | _=>[]
structure HOp where
 dst:Option Nat
 op:Go.Op
 gd:Gd
 ord:Nat
 m:Nat
def valsH (sl:List HV) (o:HOp):List HV:=o.op.operands.toList.map (opH sl)
noncomputable def goH (H:HE) (base:Nat) (o:HOp) (S:HS):HR:=step H o.op (valsH S.sl o) (base+o.ord) S.bl.length (getB S.bl)
noncomputable def exH (H:HE) (base:Nat) (o:HOp) (S:HS):HR :=
 match o.gd with
 | none=>goH H base o S
 | some (g,want) =>
  match getV S.sl g with
  | .at (.pl (.bool (.lit b)))=>if b=want then goH H base o S else some ([],undefV,none)
  | .at (.pl (.val (.tuple _)))=>some ([],undefV,none)
  | _=>none
def setD (d:Option Nat) (v:HV) (l:List HV):List HV :=
 match d with
 | some d=>setV l d v
 | none=>l
def setL (b:Option (Nat × HB)) (l:List HB):List HB :=
 match b with
 | some (i,B)=>l.set i B
 | none=>l
def appH (o:HOp) (v:HV) (b:Option (Nat × HB)) (S:HS):HS:={ S with sl:=setD o.dst v S.sl,bl:=setL b S.bl }
noncomputable def runH (H:HE) (base:Nat):List HOp→HS→Option (List Prop × HS)
 | [],S=>some ([],S)
 | o :: l,S =>
  match exH H base o S with
  | some (cs,v,b) =>
   (match runH H base l (appH o v b S) with
   | some (cs',S')=>some (cs ++ cs',S')
   | none=>none)
  | none=>none
structure FP where
 i:Nat
 rd:List Nat
 wr:List Nat
def fpOf (base:Nat) (o:HOp) (i:Nat) (S:HS) (b:Option (Nat × HB)):FP:=⟨i,looks o.op (valsH S.sl o) (base+o.ord),(b.map Prod.fst).toList⟩
def fpApart (p q:FP):Bool:=disj p.wr (q.rd ++ q.wr) && disj q.wr p.rd
def fpAll (m:Nat) (q:FP):List FP→Bool
 | []=>true
 | p :: ps =>
  match m.testBit p.i with
  | true=>fpAll m q ps
  | false=>(match fpApart p q with
   | true=>fpAll m q ps
   | false=>false)
noncomputable def runD (H:HE) (base:Nat):List FP→Nat→List HOp→HS→Option (List Prop × HS)
 | _,_,[],S=>some ([],S)
 | ps,i,o :: l,S =>
  match exH H base o S with
  | some (cs,v,b) =>
   (match fpOf base o i S b with
   | ⟨_,[],[]⟩ =>
    (match runD H base ps (i+1) l (appH o v b S) with
    | some (cs',S')=>some (cs ++ cs',S')
    | none=>none)
   | q =>
    match fpAll o.m q ps with
    | true =>
     (match runD H base (ps ++ [q]) (i+1) l (appH o v b S) with
     | some (cs',S')=>some (cs ++ cs',S')
     | none=>none)
    | false=>none)
  | none=>none
noncomputable def runX (H:HE) (draw:Bool) (base i:Nat) (l:List HOp) (S:HS):Option (List Prop × HS) :=
 match draw with
 | false=>runH H base l S
 | true=>runD H base [] i l S
inductive HC where
 | skip
 | reg (draw:Bool) (n:Nat) (l:List HOp)
 | regC (draw:Bool) (n:Nat) (l1:List HOp) (dst:Option Nat) (args:List Operand) (nt:Nat) (rs:List ResultVar) (c:HC) (l2:List HOp)
 | seq (a b:HC)
 | cond (c:Operand) (a b:HC)
 | block (id:Nat) (c:HC)
 | loop (id:Nat) (c:HC)
 | trim (k:Nat) (ks:List Nat)
 | sub (c:HC)
 | exit (id:Nat)
 | ret
 | bad
def keepF (s:List HV):List Nat→List HV→List HV
 | [],l=>l
 | i :: ks,l=>keepF s ks (setV l i (getV s i))
def trimV (k:Nat) (ks:List Nat) (s:List HV):List HV:=keepF s ks (s.take k ++ List.replicate (s.length - k) jV)
def reserve (n:Nat) (S:HS):HS:={ S with bl:=S.bl ++ List.replicate n .none }
def resH1 (H:HE) (S:HS):ResultVar→Option HV
 | .tmp t=>some (getV S.sl t)
 | .cell t T =>
  match getV S.sl t with
  | .at (.ptr l ver off) =>
   (match getB S.bl l with
   | .fix ps=>if ver=0 then (match loadP H T ps off with
    | some ([],v)=>some v
    | _=>none) else none
   | _=>none)
  | _=>none
def resHs (H:HE) (S:HS):List ResultVar→Option (List HA)
 | []=>some []
 | r :: rs =>
  match resH1 H S r,resHs H S rs with
  | some (.at x),some l=>some (x :: l)
  | _,_=>none
def resH (H:HE) (S:HS):List ResultVar→Option HV
 | [r]=>resH1 H S r
 | rs=>(match resHs H S rs with
  | some l=>some (.tup l)
  | none=>none)
def curV:HB→Option Nat
 | .none=>none
 | .fix _=>some 0
 | .row v _ _ _ _=>some v
 | .frz ..=>some 0
def leP:AV→AV→Prop
 | .int k n,.int k' n'=>k=k'∧n.val=n'.val
 | .bool b,.bool b'=>b.val=b'.val
 | .arr k n f,.arr k' n' g=>k=k'∧n=n'∧∀ i,i<n→f i=g i
 | .val v,.val v'=>v=v'
 | _,_=>False
def okN (bs bt:List HB) (l ver ver':Nat):Bool :=
 match curV (getB bt l) with
 | some v=>if v=ver' then (match curV (getB bs l) with
  | some u=>u == ver
  | none=>false) else (ver == ver' && Nat.ble (ver+1) v)
 | none=>false
def leA (bs bt:List HB):HA→HA→Prop
 | _,.junk=>True
 | .nil,.nil=>True
 | .pl x,.pl y=>leP x y
 | .ptr l ver off,.ptr l' ver' off'=>l=l'∧okN bs bt l ver ver'=true∧off.val=off'.val
 | .gptr g off,.gptr g' off'=>g=g'∧off.val=off'.val
 | .sl l ver es off len,.sl l' ver' es' off' len'=>l=l'∧es=es'∧okN bs bt l ver ver'=true∧off.val=off'.val∧len.val=len'.val
 | .ls l ver es len,.ls l' ver' es' len'=>l=l'∧es=es'∧okN bs bt l ver ver'=true∧len.val=len'.val
 | .ls l ver es len,.sl l' ver' es' off' len'=>l=l'∧es=es'∧okN bs bt l ver ver'=true∧off'.val=0∧len.val=len'.val
 | .gsl g es off len,.gsl g' es' off' len'=>g=g'∧es=es'∧off.val=off'.val∧len.val=len'.val
 | .xsl k es len f,.xsl k' es' len' g=>k=k'∧es=es'∧len.val=len'.val∧∀ i,i<len.val*es→f i=g i
 | _,_=>False
def leAs (bs bt:List HB):List HA→List HA→Prop
 | [],[]=>True
 | x :: xs,y :: ys=>leA bs bt x y∧leAs bs bt xs ys
 | _,_=>False
def szEq:List HA→List HA→Prop
 | [],[]=>True
 | x :: xs,y :: ys=>szA x=szA y∧szEq xs ys
 | _,_=>False
def leV (bs bt:List HB):HV→HV→Prop
 | _,.at .junk=>True
 | .at x,.at y=>leA bs bt x y
 | .mx ps,.mx qs=>leAs bs bt ps qs∧szEq ps qs
 | .tup ps,.tup qs=>leAs bs bt ps qs
 | _,_=>False
def leVs (bs bt:List HB):List HV→List HV→Prop
 | [],[]=>True
 | x :: xs,y :: ys=>leV bs bt x y∧leVs bs bt xs ys
 | _,_=>False
def leFs (bs bt:List HB):List (List HV)→List (List HV)→Prop
 | [],[]=>True
 | x :: xs,y :: ys=>leVs bs bt x y∧leFs bs bt xs ys
 | _,_=>False
def leB (bs bt:List HB):HB→HB→Prop
 | _,.none=>True
 | .fix ps,.fix qs=>leAs bs bt ps qs∧szEq ps qs
 | .row _ k es len f,.row _ k' es' len' g=>k=k'∧es=es'∧len.val=len'.val∧∀ i,i<len.val*es→f i=g i
 | _,_=>False
def leBs (bs bt:List HB):List HB→List HB→Prop
 | _,[]=>True
 | x :: xs,y :: ys=>leB bs bt x y∧leBs bs bt xs ys
 | [],_ :: _=>False
structure LeFs (bs bt:List HB) (x y:List (List HV)):Prop where
 h:leFs bs bt x y
structure LeBs (bs bt x y:List HB):Prop where
 h:leBs bs bt x y
def leHS (S T:HS):Prop:=leVs S.bl T.bl S.sl T.sl∧LeFs S.bl T.bl S.fr T.fr∧LeBs S.bl T.bl S.bl T.bl
def wfA:HA→Prop
 | .pl x=>wfP x
 | .xsl k es len f=>∀ j,j<len.val*es→inR k (f j)
 | _=>True
def wfAs:List HA→Prop
 | []=>True
 | x :: xs=>wfA x∧wfAs xs
def wfHV:HV→Prop
 | .at x=>wfA x
 | .mx ps=>wfAs ps
 | .tup ps=>wfAs ps
def wfVs:List HV→Prop
 | []=>True
 | x :: xs=>wfHV x∧wfVs xs
def wfB:HB→Prop
 | .none=>True
 | .fix ps=>wfAs ps
 | .row _ k es len f=>∀ j,j<len.val*es→inR k (f j)
 | .frz k n f=>∀ j,j<n→inR k (f j)
def wfBs:List HB→Prop
 | []=>True
 | x :: xs=>wfB x∧wfBs xs
def wfHS (S:HS):Prop:=wfVs S.sl∧wfBs S.bl
def roundsH (body:HS→(Ex→HS→Prop)→Prop) (Q:Ex→HS→Prop):Nat→HS→Prop
 | 0,_=>False
 | n+1,S=>body S (fun e S'=>match e with
  | .normal=>roundsH body Q n S'
  | .exit id=>Q (.exit id) S'
  | .ret=>Q .ret S')
def roundsHL (body:HS→(Ex→HS→Prop)→Prop) (Q:Ex→HS→Prop):Nat→HS→Prop
 | 0,_=>False
 | n+1,S=>body S (fun e S'=>match e with
  | .normal=>Later fun _=>roundsHL body Q n S'
  | .exit id=>Q (.exit id) S'
  | .ret=>Q .ret S')
noncomputable def backH (H:HE) (draw:Bool) (base i:Nat) (dst:Option Nat) (rs:List ResultVar) (l2:List HOp) (S:HS) (Q:Ex→HS→Prop):Prop :=
 match S.fr,resH H S rs with
 | s :: fr,some v =>
  (match runX H draw base i l2 { fr:=fr,sl:=setD dst v s,bl:=S.bl } with
  | some (cs,S')=>andAll cs (Q .normal S')
  | none=>False)
 | _,_=>False
noncomputable def wpH (H:HE):HC→HS→(Ex→HS→Prop)→Prop
 | .skip,S,Q=>Q .normal S
 | .reg draw n l,S,Q =>
  match runX H draw S.bl.length 0 l (reserve n S) with
  | some (cs,S')=>andAll cs (Q .normal S')
  | none=>False
 | .regC draw n l1 dst args nt rs c l2,S,Q =>
  match runX H draw S.bl.length 0 l1 (reserve n S) with
  | some (cs,S')=>andAll cs (Later fun _=>wpH H c { fr:=S'.sl :: S'.fr,sl:=args.map (opH S'.sl) ++ List.replicate (nt - args.length) jV,bl:=S'.bl } (fun e S2=>match e with
   | .exit _=>False
   | .normal=>backH H draw S.bl.length (l1.length+1) dst rs l2 S2 Q
   | .ret=>backH H draw S.bl.length (l1.length+1) dst rs l2 S2 Q))
  | none=>False
 | .seq a b,S,Q=>wpH H a S (fun e S'=>match e with
  | .normal=>wpH H b S' Q
  | .exit id=>Q (.exit id) S'
  | .ret=>Q .ret S')
 | .cond c a b,S,Q =>
  match opH S.sl c with
  | .at (.pl (.bool (.lit true)))=>wpH H a S Q
  | .at (.pl (.bool (.lit false)))=>wpH H b S Q
  | .at (.pl (.bool (.sym p)))=>(p=true→wpH H a S Q)∧(p=false→wpH H b S Q)
  | _=>False
 | .block id c,S,Q=>wpH H c S (fun e S'=>match e with
  | .normal=>Q .normal S'
  | .exit id'=>if id'=id then Q .normal S' else Q (.exit id') S'
  | .ret=>Q .ret S')
 | .loop id c,S,Q =>
  match H.loops id S with
  | .unroll n=>roundsH (wpH H c) Q n S
  | .cut n=>Later fun _=>roundsHL (wpH H c) Q n S
  | .inv α st μ=>(∃ a:α,leHS S (st S a))∧∀ a:α,wfHS (st S a)→wpH H c (st S a) (fun e S'=>match e with
   | .normal=>∃ a',leHS S' (st S a')∧μ a'<μ a
   | .exit id=>Q (.exit id) S'
   | .ret=>Q .ret S')
 | .trim k ks,S,Q=>Q .normal { S with sl:=trimV k ks S.sl }
 | .sub c,S,Q=>Later fun _=>wpH H c S Q
 | .exit id,S,Q=>Q (.exit id) S
 | .ret,S,Q=>Q .ret S
 | .bad,_,_=>False
structure HF where
 nt:Nat
 rs:List ResultVar
 np:Nat
 c:HC
def makes (o:Oper):Bool :=
 match o.op with
 | .alloc _ | .box .. | .buildSlice .. | .makeSlice ..=>true
 | .call c=>(match c.callee with
  | .builtin .append=>true
  | _=>false)
 | _=>false
def footH (ops:List Oper):Nat→List Nat→List Oper→Option (List HOp)
 | _,_,[]=>some []
 | n,ms,o :: l =>
  match gslot ops o with
  | some gd =>
   (match footH ops (if makes o then n+1 else n) (ms.drop 1) l with
   | some r=>some ({ dst:=o.dst,op:=o.op,gd:=gd,ord:=n,m:=ms.headD 0 } :: r)
   | none=>none)
  | none=>none
def countM:List Oper→Nat
 | []=>0
 | o :: l=>(if makes o then 1 else 0)+countM l
def slotsOf (o:HOp):List Nat:=(o.op.operands.toList.filterMap fun | .tmp t=>some t | _=>none) ++ gslots o.gd
def slApart (x y:HOp):Bool:=disj x.dst.toList (slotsOf y ++ y.dst.toList) && disj y.dst.toList (slotsOf x)
def pairsH (i:Nat) (r:HOp):Nat→List HOp→Bool
 | _,[]=>true
 | j,r' :: l=>(if j<i then r.m.testBit j || slApart r' r else true) && pairsH i r (j+1) l
def drawH (ops:List Oper) (all:List HOp):Nat→List HOp→Bool
 | _,[]=>true
 | i,r :: l=>pairsH i r 0 all && ((preds (ops.getD i default)).all fun j=>decide (j<i)) && drawH ops all (i+1) l
def inlCall (inl:FuncId→Option HF) (o:HOp):Option (HF × List Operand) :=
 match o.op with
 | .call c =>
  (match c.callee with
  | .value (.func f) =>
   (match inl f with
   | some h=>if c.args.size=h.np∧h.np≤h.nt∧o.gd=none then some (h,c.args.toList) else none
   | none=>none)
  | _=>none)
 | _=>none
def splitC (inl:FuncId→Option HF):List HOp→Option (List HOp × HOp × HF × List Operand × List HOp)
 | []=>none
 | o :: l =>
  match inlCall inl o with
  | some (h,as)=>some ([],o,h,as,l)
  | none =>
   match splitC inl l with
   | some (a,c,h,as,b)=>some (o :: a,c,h,as,b)
   | none=>none
def phased (k:Nat) (l:List HOp):Bool :=
 (match l[k]? with
 | some o=>(List.range k).all fun j=>o.m.testBit j
 | none=>false) && (l.drop (k+1)).all fun o=>(List.range (k+1)).all fun j=>o.m.testBit j
def regH (inl:FuncId→Option HF) (ops:List Oper) (draw:Bool):HC :=
 match footH ops 0 (closure [] ops) ops with
 | some l =>
  if ops.all (fun o=>o.op.operands.all constOk) && (!draw || drawH ops l 0 l) then
   (match splitC inl l with
   | none=>.reg draw (countM ops) l
   | some (l1,o,h,as,l2) =>
    if !draw || phased l1.length l then .regC draw (countM ops) l1 o.dst as h.nt h.rs h.c l2 else .bad)
  else .bad
 | none=>.bad
def trimH (id:Nat):Option (Nat × Nat × List Nat)→HC→HC
 | none,c=>c
 | some (lim,k,ks),c =>
  match Nat.blt id lim with
  | true=>.seq c (.trim k ks)
  | false=>c
def stripH (inl:FuncId→Option HF) (tr:Option (Nat × Nat × List Nat)) (key:Nat):Code→HC
 | .skip=>.skip
 | .label _=>.skip
 | .region id ops draw=>trimH id tr (regH inl ops.toList draw)
 | .seq a b=>.seq (stripH inl tr key a) (stripH inl tr key b)
 | .cond c a b=>.cond c (stripH inl tr key a) (stripH inl tr key b)
 | .block id c=>.block id (stripH inl tr key c)
 | .loop c=>.loop (key+firstRegion c) (stripH inl tr key c)
 | .exit id=>.exit id
 | .ret=>.ret
 | _=>.bad
end Sy

namespace Sy
open Go Go.RowKit Sx
abbrev LM:=Nat→Nat→Value
def bn:Value→Option Nat
 | .pointer (some a)=>some a.block
 | .slice (some a) _ _=>some a.block
 | _=>none
def HD (a:Option Addr) (n:Nat):Prop:=(∀ q,a=some q→q=⟨q.block,0,none⟩)∧(a=none→n=0)
def AR (w0:World) (m:LM):HA→Value→Prop
 | .junk,_=>True
 | .nil,v=>v=.slice none 0 0
 | .pl x,v=>v=pv x∧plain x=true∧wfP x
 | .ptr l ver off,v=>∃ b,bn (m l ver)=some b∧v=.pointer (some ⟨b,off.val,none⟩)
 | .gptr g off,v=>v=.pointer (some ⟨g,off.val,none⟩)
 | .xptr k n f,v=>∃ b o,v=.pointer (some ⟨b,o,none⟩)∧∀ j,j<n.val→w0.cell? ⟨b,o+j,none⟩=some (.int k (f j))∧inR k (f j)
 | .sl l ver _ off len,v=>∃ a c,v=.slice a len.val c∧(0<len.val→∃ b,bn (m l ver)=some b∧a=some ⟨b,off.val,none⟩)∧len.val≤c∧c≤capMax
 | .ls l ver _ len,v=>∃ a n c,m l ver=.slice a n c∧v=.slice a len.val c∧len.val≤n∧n≤c∧c≤capMax∧HD a n
 | .gsl g _ off len,v=>∃ a c,v=.slice a len.val c∧(0<len.val→a=some ⟨g,off.val,none⟩)∧len.val≤c∧c≤capMax
 | .xsl k es len f,v=>∃ a c,v=.slice a len.val c∧(0<len.val→∃ b o,a=some ⟨b,o,none⟩∧∀ j,j<len.val*es→w0.cell? ⟨b,o+j,none⟩=some (.int k (f j)))∧len.val≤c∧c≤capMax∧∀ j,j<len.val*es→inR k (f j)
def shapeA:AV→Bool
 | .int .. | .bool _ | .arr ..=>true
 | _=>false
def PR (w0:World) (m:LM):HA→List Value→Prop
 | .pl x,l=>l=(cellsOf x).toList∧shapeA x=true∧wfP x
 | p,l=>∃ v,l=[v]∧AR w0 m p v∧v.oneCell'=true
def CL (w0:World) (m:LM):List HA→List Value→Prop
 | [],l=>l=[]
 | p :: ps,l=>∃ x y,l=x ++ y∧PR w0 m p x∧CL w0 m ps y
def VRH (w0:World) (m:LM):HV→Value→Prop
 | .at x,v=>AR w0 m x v
 | .mx ps,v=>∃ cs,v=.agg cs∧CL w0 m ps cs.toList
 | .tup ps,v=>∃ vs,v=.tuple vs∧All2 (AR w0 m) ps vs.toList
def BRH (w0:World) (m:LM) (w:World) (l:Nat):HB→Prop
 | .none=>True
 | .fix ps=>∃ b cs T,m l 0=.pointer (some ⟨b,0,none⟩)∧w0.heap.size≤b∧w.heap[b]?=some (.cells cs T (0,0))∧CL w0 m ps cs.toList
 | .row ver k es len f=>(∃ e,w.ownsRow w0.heap.size e es (m l ver) len.val (lcells k (len.val*es) f))∧∀ j,j<len.val*es→inR k (f j)
 | .frz k n f=>∃ b T fz,m l 0=.pointer (some ⟨b,0,none⟩)∧w0.heap.size≤b∧w.heap[b]?=some (.cells (cellsA k n f) T fz)∧∀ j,j<n→inR k (f j)
def curb (m:LM) (l:Nat):HB→Option Nat
 | .none=>none
 | .fix _=>bn (m l 0)
 | .row ver _ _ _ _=>bn (m l ver)
 | .frz ..=>bn (m l 0)
def over:HB→Nat→Prop
 | .none,_=>True
 | .fix _,ver=>0<ver
 | .row v _ _ _ _,ver=>v<ver
 | .frz ..,ver=>0<ver
structure HRel (w0:World) (m:LM) (as:List (Array Value)) (S:HS) (a:Act) (w:World):Prop where
 defers:a.defers=[]
 size:a.tmps.size=S.sl.length
 below:Below w0.heap.size w0 w
 vals:∀ i,VRH w0 m (getV S.sl i) (a.tmps.getD i undef)
 outs:All2 (fun s t=>Array.size t=s.length∧∀ i,VRH w0 m (getV s i) (Array.getD t i undef)) S.fr as
 blks:∀ l,BRH w0 m w l (getB S.bl l)
 inj:∀ l l' b,l≠l'→curb m l (getB S.bl l)=some b→curb m l' (getB S.bl l')≠some b
 top:∀ l ver,over (getB S.bl l) ver→m l ver=undef
def Ext (m m':LM):Prop:=∀ l ver,m l ver≠undef→m' l ver=m l ver
theorem Ext.refl (m:LM):Ext m m:=fun _ _ _=>rfl
section
variable {w0:World} {m m':LM}
theorem bn_some {v:Value} {b:Nat} (h:bn v=some b):v≠undef:=by
 intro e;rw [e] at h;cases h
theorem slice_ne {a:Option Addr} {n c:Nat} {v:Value} (h:v=.slice a n c):v≠undef:=by
 intro e;rw [e] at h;cases h
theorem AR.ext (he:Ext m m') {x:HA} {v:Value} (h:AR w0 m x v):AR w0 m' x v:=by
 cases x with
 | ptr l ver off =>
  obtain ⟨b,h1,h2⟩:=h
  exact ⟨b,by rw [he l ver (bn_some h1)];exact h1,h2⟩
 | sl l ver es off len =>
  obtain ⟨a,c,h1,h2,h3⟩:=h
  refine ⟨a,c,h1,fun hp=>?_,h3⟩
  obtain ⟨b,h4,h5⟩:=h2 hp
  exact ⟨b,by rw [he l ver (bn_some h4)];exact h4,h5⟩
 | ls l ver es len =>
  obtain ⟨a,n,c,h1,h2⟩:=h
  exact ⟨a,n,c,by rw [he l ver (slice_ne h1)];exact h1,h2⟩
 | _=>exact h
theorem PR.ext (he:Ext m m') {x:HA} {l:List Value} (h:PR w0 m x l):PR w0 m' x l:=by
 cases x with
 | pl x=>exact h
 | _ =>
  obtain ⟨v,h1,h2,h3⟩:=h
  exact ⟨v,h1,AR.ext he h2,h3⟩
theorem CL.ext (he:Ext m m'):∀ {ps:List HA} {l:List Value},CL w0 m ps l→CL w0 m' ps l
 | [],_,h=>h
 | _ :: _,_,⟨x,y,h1,h2,h3⟩=>⟨x,y,h1,h2.ext he,h3.ext he⟩
theorem All2.imp {α β:Type} {r r':α→β→Prop} (h:∀ a b,r a b→r' a b):∀ {as:List α} {bs:List β},All2 r as bs→All2 r' as bs
 | [],[],_=>trivial
 | _ :: _,_ :: _,⟨h1,h2⟩=>⟨h _ _ h1,All2.imp h h2⟩
 | [],_ :: _,h=>h.elim
 | _ :: _,[],h=>h.elim
theorem VRH.ext (he:Ext m m') {x:HV} {v:Value} (h:VRH w0 m x v):VRH w0 m' x v:=by
 cases x with
 | «at» x=>exact AR.ext he h
 | mx ps=>obtain ⟨cs,h1,h2⟩:=h;exact ⟨cs,h1,h2.ext he⟩
 | tup ps=>obtain ⟨cs,h1,h2⟩:=h;exact ⟨cs,h1,All2.imp (fun _ _ h=>AR.ext he h) h2⟩
theorem owns_ne {w:World} {B:Nat} {e:TypeId} {es:Nat} {v:Value} {n:Nat} {xs:List Value} (h:w.ownsRow B e es v n xs):v≠undef:=by
 rcases h.2 with ⟨rfl,_⟩ | ⟨g,cap,cur,rfl,_⟩ <;> intro e <;> cases e
theorem owns_bn {w:World} {B:Nat} {e:TypeId} {es:Nat} {v:Value} {n:Nat} {xs:List Value} (h:w.ownsRow B e es v n xs):bn v=v.ownBlock:=by
 rcases h.2 with ⟨rfl,_⟩ | ⟨g,cap,cur,rfl,_⟩ <;> rfl
theorem BRH.kept {w w':World} {l:Nat} {B:HB} {row:Option Nat} (h:BRH w0 m w l B) (he:Ext m m') (hg:w.grownBy w' row) (hne:∀ b,curb m l B=some b→some b≠row):BRH w0 m' w' l B:=by
 cases B with
 | none=>trivial
 | fix ps =>
  obtain ⟨b,cs,T,h1,h2,h3,h4⟩:=h
  refine ⟨b,cs,T,by rw [he l 0 (by rw [h1];intro e;cases e)];exact h1,h2,?_,h4.ext he⟩
  rw [hg.block b (Array.getElem?_eq_some_iff.1 h3).1 (hne b (by simp [curb,h1,bn]))]
  exact h3
 | row ver k es len f =>
  obtain ⟨⟨e,h1⟩,h2⟩:=h
  have hb:=owns_bn h1
  refine ⟨⟨e,?_⟩,h2⟩
  rw [he l ver (owns_ne h1)]
  refine h1.kept hg ?_
  cases hh:(m l ver).ownBlock with
  | none=>exact .inl rfl
  | some b =>
   rw [hh] at hb
   exact .inr (hne b hb)
 | frz k n f =>
  obtain ⟨b,T,fz,h1,h2,h3,h4⟩:=h
  refine ⟨b,T,fz,by rw [he l 0 (by rw [h1];intro e;cases e)];exact h1,h2,?_,h4⟩
  rw [hg.block b (Array.getElem?_eq_some_iff.1 h3).1 (hne b (by simp [curb,h1,bn]))]
  exact h3
theorem curb_kept {w:World} {l:Nat} {B:HB} (h:BRH w0 m w l B) (he:Ext m m'):curb m' l B=curb m l B:=by
 cases B with
 | none=>rfl
 | fix ps =>
  obtain ⟨b,cs,T,h1,_⟩:=h
  simp only [curb]
  rw [he l 0 (by rw [h1];intro e;cases e)]
 | row ver k es len f =>
  obtain ⟨⟨e,h1⟩,_⟩:=h
  simp only [curb]
  rw [he l ver (owns_ne h1)]
 | frz k n f =>
  obtain ⟨b,T,fz,h1,_⟩:=h
  simp only [curb]
  rw [he l 0 (by rw [h1];intro e;cases e)]
theorem curb_lt {w:World} {l:Nat} {B:HB} (h:BRH w0 m w l B) {b:Nat} (hb:curb m l B=some b):w0.heap.size≤b∧b<w.heap.size:=by
 cases B with
 | none=>cases hb
 | fix ps =>
  obtain ⟨b',cs,T,h1,h2,h3,_⟩:=h
  simp only [curb,h1,bn,Option.some.injEq] at hb
  subst hb
  exact ⟨h2,(Array.getElem?_eq_some_iff.1 h3).1⟩
 | row ver k es len f =>
  obtain ⟨⟨e,h1⟩,_⟩:=h
  simp only [curb] at hb
  rw [owns_bn h1] at hb
  exact h1.lt b hb
 | frz k n f =>
  obtain ⟨b',T,fz,h1,h2,h3,_⟩:=h
  simp only [curb,h1,bn,Option.some.injEq] at hb
  subst hb
  exact ⟨h2,(Array.getElem?_eq_some_iff.1 h3).1⟩
theorem getB_set {bl:List HB} {l:Nat} {B:HB} (i:Nat):getB (bl.set l B) i=if i=l∧i<bl.length then B else getB bl i:=by
 simp only [getB_D,List.getD_eq_getElem?_getD,List.getElem?_set]
 by_cases h:l=i
 ·subst h
  by_cases h2:l<bl.length
  ·simp [h2]
  ·simp [h2]
 ·rw [if_neg h,if_neg (fun e=>h e.1.symm)]
theorem getV_set {sl:List HV} {d:Nat} {v:HV} (i:Nat):getV (sl.set d v) i=if i=d∧i<sl.length then v else getV sl i:=by
 simp only [getV_D,List.getD_eq_getElem?_getD,List.getElem?_set]
 by_cases h:d=i
 ·subst h
  by_cases h2:d<sl.length
  ·simp [h2]
  ·simp [h2]
 ·rw [if_neg h,if_neg (fun e=>h e.1.symm)]
variable {as:List (Array Value)} {S:HS} {a:Act} {w:World}
theorem HRel.put (R:HRel w0 m as S a w) (d:Option Nat) {v:HV} {u:Value} (hv:VRH w0 m v u):HRel w0 m as { S with sl:=setD d v S.sl } (a.put d u) w:=by
 cases d with
 | none=>exact R
 | some d =>
  refine ⟨R.defers,by simpa [Act.put,setD,setV_1] using R.size,R.below,fun i=>?_,R.outs,R.blks,R.inj,R.top⟩
  rw [tmps_put]
  simp only [setD,setV_1]
  rw [getV_set,R.size]
  split
  ·exact hv
  ·exact R.vals i
theorem HRel.grow (R:HRel w0 m as S a w) {w':World} (hb:Below w.heap.size w w'):HRel w0 m as S a w':=by
 have hg:=grownBy_below hb
 refine ⟨R.defers,R.size,R.below.trans (hb.mono R.below.size),R.vals,R.outs,fun l=>(R.blks l).kept (Ext.refl m) hg (by intro b _ e;cases e),R.inj,R.top⟩
theorem HRel.upd (R:HRel w0 m as S a w) {l:Nat} {B:HB} {w':World} {row:Option Nat} (he:Ext m m') (ho:∀ l' ver,l'≠l→m' l' ver=m l' ver) (hl:l<S.bl.length) (hg:w.grownBy w' row)
  (hrow:∀ b,row=some b→curb m l (getB S.bl l)=some b) (hB:BRH w0 m' w' l B) (hn:∀ b,curb m' l B=some b→curb m l (getB S.bl l)=some b∨w.heap.size≤b) (ht:∀ ver,over B ver→m' l ver=undef) :
  HRel w0 m' as { S with bl:=S.bl.set l B } a w':=by
 have hbel:Below w0.heap.size w0 w':=by
  refine R.below.trans ⟨hg.os,hg.tape,hg.output,hg.size,fun k hk=>hg.block k (by have:=R.below.size;omega) ?_⟩
  intro e
  have:=(curb_lt (R.blks l) (hrow k e.symm)).1
  omega
 have oth:∀ i,i≠l→curb m' i (getB S.bl i)=curb m i (getB S.bl i):=fun i _=>curb_kept (R.blks i) he
 have key:∀ i b,i≠l→curb m i (getB S.bl i)=some b→curb m' l B≠some b:=by
  intro i b hi hb hb'
  rcases hn b hb' with h | h
  ·exact R.inj i l b hi hb h
  ·have:=(curb_lt (R.blks i) hb).2
   omega
 refine ⟨R.defers,R.size,hbel,fun i=>(R.vals i).ext he,All2.imp (fun _ _ h=>⟨h.1,fun i=>(h.2 i).ext he⟩) R.outs,fun i=>?_,fun i i' b hii h1 h2=>?_,fun i ver h=>?_⟩
 ·simp only [getB_set]
  split
  ·rename_i h;rw [h.1];exact hB
  ·rename_i h
   have hil:i≠l:=fun e=>h ⟨e,by rw [e];exact hl⟩
   refine (R.blks i).kept he hg ?_
   intro b hb e
   exact R.inj i l b hil hb (hrow b e.symm)
 ·simp only [getB_set] at h1 h2
  by_cases hi:i=l
  ·subst hi
   rw [if_pos ⟨rfl,hl⟩] at h1
   rw [if_neg (fun e=>hii e.1.symm),oth i' (fun e=>hii e.symm)] at h2
   exact key i' b (fun e=>hii e.symm) h2 h1
  ·rw [if_neg (fun e=>hi e.1),oth i hi] at h1
   by_cases hi':i'=l
   ·subst hi'
    rw [if_pos ⟨rfl,hl⟩] at h2
    exact key i b hi h1 h2
   ·rw [if_neg (fun e=>hi' e.1),oth i' hi'] at h2
    exact R.inj i i' b hii h1 h2
 ·simp only [getB_set] at h
  split at h
  ·rename_i h';rw [h'.1];exact ht ver h
  ·rename_i h'
   have hil:i≠l:=fun e=>h' ⟨e,by rw [e];exact hl⟩
   rw [ho i ver hil]
   exact R.top i ver h
def lset (m:LM) (l ver:Nat) (v:Value):LM:=fun i j=>if i=l∧j=ver then v else m i j
theorem lset_same (m:LM) (l ver:Nat) (v:Value):lset m l ver v l ver=v:=by simp [lset]
theorem lset_ne (m:LM) {l ver i:Nat} (v:Value) (h:i≠l) (j:Nat):lset m l ver v i j=m i j:=by simp [lset,h]
theorem lset_ne2 (m:LM) {l ver i:Nat} (v:Value) {j:Nat} (h:j≠ver):lset m l ver v i j=m i j:=by simp [lset,h]
theorem lset_ext {m:LM} {l ver:Nat} {v:Value} (h:m l ver=undef):Ext m (lset m l ver v):=by
 intro i j hij
 simp only [lset]
 split
 ·rename_i e;rw [e.1,e.2] at hij;exact absurd h hij
 ·rfl
theorem fresh_ok {l n:Nat} {bk:Nat→HB} (h:fresh l n bk=true):bk l=.none∧l<n:=by
 unfold fresh at h
 split at h
 ·rename_i e;exact ⟨e,by simpa using h⟩
 ·cases h
theorem HRel.newB (R:HRel w0 m as S a w) {l:Nat} (hf:fresh l S.bl.length (getB S.bl)=true) {ps:List HA} {cs:Array Value} (T:TypeId) (hc:CL w0 m ps cs.toList) :
  ∃ m',Ext m m'∧m' l 0=.pointer (some ⟨w.heap.size,0,none⟩)∧HRel w0 m' as { S with bl:=S.bl.set l (.fix ps) } a (w.alloc (.cells cs T)):=by
 obtain ⟨h1,h2⟩:=fresh_ok hf
 have hu:∀ ver,m l ver=undef:=fun ver=>R.top l ver (by rw [h1];trivial)
 have he:Ext m (lset m l 0 (.pointer (some ⟨w.heap.size,0,none⟩))):=lset_ext (hu 0)
 refine ⟨lset m l 0 (.pointer (some ⟨w.heap.size,0,none⟩)),he,lset_same _ _ _ _,?_⟩
 refine R.upd he (fun l' ver h=>lset_ne m _ h ver) h2 (World.grownBy_alloc w _ none) (by intro b e;cases e) ?_ ?_ ?_
 ·exact ⟨w.heap.size,cs,T,lset_same _ _ _ _,R.below.size,heap_alloc_new w _,hc.ext he⟩
 ·intro b hb
  simp only [curb,lset_same,bn,Option.some.injEq] at hb
  exact .inr (by omega)
 ·intro ver hv
  have hv:0<ver:=hv
  rw [lset_ne2 m _ (by omega)]
  exact hu ver
theorem HRel.newR (R:HRel w0 m as S a w) {l ver:Nat} {w':World} {v:Value} {row:Option Nat} {e:TypeId} {k:IntKind} {es:Nat} {len:SO} {f:Nat→Int} (hl:l<S.bl.length) (hov:∀ j,ver≤j→over (getB S.bl l) j)
  (hg:w.grownBy w' row) (hrow:∀ b,row=some b→curb m l (getB S.bl l)=some b) (ho:w'.ownsRow w0.heap.size e es v len.val (lcells k (len.val*es) f)) (hin:∀ j,j<len.val*es→inR k (f j))
  (hn:∀ b,v.ownBlock=some b→curb m l (getB S.bl l)=some b∨w.heap.size≤b) :
  ∃ m',Ext m m'∧m' l ver=v∧HRel w0 m' as { S with bl:=S.bl.set l (.row ver k es len f) } a w':=by
 have he:Ext m (lset m l ver v):=lset_ext (R.top l ver (hov ver (Nat.le_refl _)))
 refine ⟨lset m l ver v,he,lset_same _ _ _ _,?_⟩
 refine R.upd he (fun l' ver h=>lset_ne m _ h ver) hl hg hrow ?_ ?_ ?_
 ·exact ⟨⟨e,by rw [lset_same];exact ho⟩,hin⟩
 ·intro b hb
  simp only [curb,lset_same] at hb
  rw [owns_bn ho] at hb
  exact hn b hb
 ·intro j hj
  have hj:ver<j:=hj
  rw [lset_ne2 m _ (by omega)]
  exact R.top l j (hov j (by omega))
theorem HRel.setB (R:HRel w0 m as S a w) {l b:Nat} {ps qs:List HA} {cs cs':Array Value} {T:TypeId} (hb:getB S.bl l=.fix ps) (hm:m l 0=.pointer (some ⟨b,0,none⟩)) (hh:w.heap[b]?=some (.cells cs T (0,0)))
  (hc:CL w0 m qs cs'.toList):HRel w0 m as { S with bl:=S.bl.set l (.fix qs) } a (w.setRow b cs'):=by
 have hl:l<S.bl.length:=by
  rcases Nat.lt_or_ge l S.bl.length with h | h
  ·exact h
  ·simp [getB_D,List.getElem?_eq_none h] at hb
 have hcur:curb m l (getB S.bl l)=some b:=by rw [hb];simp [curb,hm,bn]
 have hB:=R.blks l
 rw [hb] at hB
 obtain ⟨b',cs2,T2,h1,h2,h3,_⟩:=hB
 have hbb:b=b':=by rw [h1] at hm;cases hm;rfl
 subst hbb
 refine R.upd (Ext.refl m) (fun _ _ _=>rfl) hl (grownBy_setRow w b cs') ?_ ?_ ?_ ?_
 ·intro b2 e;cases e;exact hcur
 ·exact ⟨b,cs',T,hm,h2,setRow_heap w b cs cs' T (0,0) hh,hc⟩
 ·intro b2 hb2
  simp only [curb,hm,bn,Option.some.injEq] at hb2
  subst hb2
  exact .inl hcur
 ·intro ver hv
  exact R.top l ver (by rw [hb];exact hv)
theorem freeze_block {w:World} {b o n:Nat} {cs:Array Value} {T:TypeId} {fz:Nat × Nat} (hh:w.heap[b]?=some (.cells cs T fz)):∃ fz',(w.freeze ⟨b,o,none⟩ n).heap[b]?=some (.cells cs T fz'):=by
 unfold World.freeze
 split
 ·exact ⟨fz,hh⟩
 ·simp only [Array.getElem?_modify,hh]
  obtain ⟨lo,hi⟩:=fz
  exact ⟨_,rfl⟩
theorem grownBy_freeze (w:World) (b o n:Nat):w.grownBy (w.freeze ⟨b,o,none⟩ n) (some b):=by
 unfold World.freeze
 split
 ·exact ⟨rfl,rfl,rfl,Nat.le_refl _,fun _ _ _=>rfl⟩
 ·exact ⟨rfl,rfl,rfl,by simp,fun k _ hk=>by
   simp only [Array.getElem?_modify]
   rw [if_neg (fun e=>hk (by rw [e]))]⟩
theorem HRel.setF (R:HRel w0 m as S a w) {l b o n:Nat} {k:IntKind} {N:Nat} {f:Nat→Int} (hb:getB S.bl l=.fix [.pl (.arr k N f)]) (hm:m l 0=.pointer (some ⟨b,0,none⟩)) :
  HRel w0 m as { S with bl:=S.bl.set l (.frz k N f) } a (w.freeze ⟨b,o,none⟩ n):=by
 have hl:l<S.bl.length:=by
  rcases Nat.lt_or_ge l S.bl.length with h | h
  ·exact h
  ·simp [getB_D,List.getElem?_eq_none h] at hb
 have hcur:curb m l (getB S.bl l)=some b:=by rw [hb];simp [curb,hm,bn]
 have hB:=R.blks l
 rw [hb] at hB
 obtain ⟨b',cs2,T2,h1,h2,h3,h4⟩:=hB
 have hbb:b=b':=by rw [h1] at hm;cases hm;rfl
 subst hbb
 obtain ⟨y1,z1,e1,⟨e2,e3,e4⟩,e5⟩:=h4
 simp only [CL] at e5
 subst e5
 rw [List.append_nil,e2] at e1
 have e1:cs2=cellsA k N f:=Array.toList_inj.1 e1
 subst e1
 obtain ⟨fz,h5⟩:=freeze_block (o:=o) (n:=n) h3
 refine R.upd (Ext.refl m) (fun _ _ _=>rfl) hl (grownBy_freeze w b o n) ?_ ?_ ?_ ?_
 ·intro b2 e;cases e;exact hcur
 ·exact ⟨b,T2,fz,hm,h2,h5,e4⟩
 ·intro b2 hb2
  simp only [curb,hm,bn,Option.some.injEq] at hb2
  subst hb2
  exact .inl hcur
 ·intro ver hv
  exact R.top l ver (by rw [hb];exact hv)
theorem PR_len {p:HA} {l:List Value} (h:PR w0 m p l):l.length=szA p:=by
 cases p with
 | pl x =>
  obtain ⟨rfl,h2,_⟩:=h
  cases x <;> simp [shapeA] at h2 <;> simp [cellsOf,szA]
 | _=>obtain ⟨v,rfl,_⟩:=h;rfl
theorem CL_len:∀ {ps:List HA} {l:List Value},CL w0 m ps l→l.length=szL ps
 | [],l,h=>by simp only [CL] at h;subst h;rfl
 | p :: ps,l,⟨x,y,h1,h2,h3⟩=>by subst h1;simp [szL,PR_len h2,CL_len h3]
theorem CL_append:∀ {a b:List HA} {x y:List Value},CL w0 m a x→CL w0 m b y→CL w0 m (a ++ b) (x ++ y)
 | [],b,x,y,h1,h2=>by simp only [CL] at h1;subst h1;exact h2
 | p :: a,b,x,y,⟨u,v,h1,h2,h3⟩,h4=>⟨u,v ++ y,by rw [h1,List.append_assoc],h2,CL_append h3 h4⟩
theorem CL_one {p:HA} {l:List Value} (h:PR w0 m p l):CL w0 m [p] l:=⟨l,[],by simp,h,rfl⟩
theorem cutP_ok (n:Nat):∀ (ps a b:List HA),cutP n ps=some (a,b)→∀ {l:List Value},CL w0 m ps l→∃ x y,l=x ++ y∧x.length=n∧CL w0 m a x∧CL w0 m b y:=by
 intro ps
 induction ps generalizing n with
 | nil =>
  intro a b h l hc
  cases n with
  | zero=>simp only [cutP] at h;cases h;exact ⟨[],l,rfl,rfl,rfl,hc⟩
  | succ n=>simp [cutP] at h
 | cons p ps ih =>
  intro a b h l hc
  cases n with
  | zero=>simp only [cutP] at h;cases h;exact ⟨[],l,rfl,rfl,rfl,hc⟩
  | succ n =>
   unfold cutP at h
   split at h
   ·rename_i hle
    split at h
    ·rename_i a' b' hcut
     cases h
     obtain ⟨x,y,h1,h2,h3⟩:=hc
     have hlen:=PR_len h2
     obtain ⟨x',y',g1,g2,g3,g4⟩:=ih (n+1 - szA p) a' b hcut h3
     refine ⟨x ++ x',y',by rw [h1,g1,List.append_assoc],by rw [List.length_append,hlen,g2];omega,⟨x,x',rfl,h2,g3⟩,g4⟩
    ·cases h
   ·cases h
theorem findP_ok:∀ (ps:List HA) (o:Nat) (a b:List HA) (o':Nat) (p:HA),findP o ps=some (a,o',p,b)→∀ {l:List Value},CL w0 m ps l →
  ∃ x y z,l=x ++ (y ++ z)∧x.length+o'=o∧o'<szA p∧CL w0 m a x∧PR w0 m p y∧CL w0 m b z
 | [],o,a,b,o',p,h,l,hc=>by simp [findP] at h
 | q :: ps,o,a,b,o',p,h,l,hc=>by
  unfold findP at h
  obtain ⟨x,y,h1,h2,h3⟩:=hc
  split at h
  ·rename_i hlt
   cases h
   exact ⟨[],x,y,by simpa using h1,by simp,hlt,rfl,h2,h3⟩
  ·rename_i hge
   split at h
   ·rename_i a' o2 q' b' hf
    cases h
    obtain ⟨u,v,z,g1,g2,g3,g4,g5,g6⟩:=findP_ok ps _ _ _ _ _ hf h3
    refine ⟨x ++ u,v,z,by rw [h1,g1,List.append_assoc],?_,g3,⟨x,u,rfl,h2,g4⟩,g5,g6⟩
    rw [List.length_append,PR_len h2]
    omega
   ·cases h
theorem writeAt_mid (x y z:List Value) (o:Nat) (vs:List Value) (h:o+vs.length≤y.length):(writeAt (x ++ (y ++ z)).toArray (x.length+o) vs).toList=x ++ ((writeAt y.toArray o vs).toList ++ z):=by
 apply List.ext_getElem?
 intro i
 by_cases hi:i<(x ++ (y ++ z)).length
 ·rw [Array.getElem?_toList,writeAt_get vs _ _ i (by simpa using hi)]
  simp only [List.getElem?_toArray]
  by_cases h1:i<x.length
  ·rw [if_neg (by omega),List.getElem?_append_left h1,List.getElem?_append_left h1]
  ·have hx:x.length≤i:=by omega
   rw [List.getElem?_append_right (l₁:=x) (l₂:=y ++ z) hx,List.getElem?_append_right (l₁:=x) (l₂:=(writeAt y.toArray o vs).toList ++ z) hx]
   have hl:(writeAt y.toArray o vs).toList.length=y.length:=by simp
   by_cases h2:i - x.length<y.length
   ·rw [List.getElem?_append_left h2,List.getElem?_append_left (by rw [hl];exact h2)]
    have e1:(writeAt y.toArray o vs).toList[i - x.length]?=(writeAt y.toArray o vs)[i - x.length]?:=Array.getElem?_toList
    rw [e1,writeAt_get vs y.toArray o _ (by simpa using h2)]
    simp only [List.getElem?_toArray]
    by_cases h3:o≤i - x.length∧i - x.length<o+vs.length
    ·rw [if_pos h3,if_pos (by omega)]
     congr 1
     omega
    ·rw [if_neg h3,if_neg (by omega)]
   ·rw [List.getElem?_append_right (by omega),List.getElem?_append_right (by rw [hl];omega),hl,if_neg (by omega)]
 ·rw [List.getElem?_eq_none (by simp at hi ⊢;omega),List.getElem?_eq_none (by simp at hi ⊢;omega)]
theorem writeAt_all (y vs:List Value) (h:vs.length=y.length):(writeAt y.toArray 0 vs).toList=vs:=by
 apply List.ext_getElem?
 intro i
 by_cases hi:i<y.length
 ·rw [Array.getElem?_toList,writeAt_get vs _ _ i (by simpa using hi),if_pos (by omega),Nat.sub_zero]
 ·rw [List.getElem?_eq_none (by simp;omega),List.getElem?_eq_none (by omega)]
end
end Sy

namespace Sy
open Go Go.RowKit Sx
structure HEOK (P:Program) (H:HE):Prop where
 ok:EnvOK P H.E
 zm:∀ T ps,H.zm T=some ps→∃ inf z,P.info? T=some inf∧inf.zero=some z∧inf.size=z.cells.size∧∀ w0 m,CL w0 m ps z.cells.toList
 sz:∀ T n,H.sz T=some n→∃ inf,P.info? T=some inf∧inf.size=n
 pt:∀ T,H.pt T=true→∃ e,P.underlying T=some (.pointer e)
def HLed (w0:World) (as:List (Array Value)) (S:HS) (a':Act) (w':World):Prop:=∃ m',HRel w0 m' as S a' w'
section
variable {P:Program} {H:HE} {w0:World} {m:LM} {as:List (Array Value)} {S:HS} {a:Act} {w:World}
theorem opH_ok (R:HRel w0 m as S a w) (x:Operand) (hk:constOk x=true):VRH w0 m (opH S.sl x) (a.eval x):=by
 unfold opH
 split
 ·exact R.vals _
 ·rename_i k n
  exact ⟨rfl,rfl,by simpa [constOk,wfP,inR,SI.val] using hk⟩
 ·exact ⟨rfl,rfl,trivial⟩
 ·rfl
 ·exact ⟨rfl,rfl,trivial⟩
 ·rfl
 ·exact ⟨rfl,rfl,trivial⟩
theorem hval (R:HRel w0 m as S a w) {o:Oper} {v:HV} {u:Value} (he:(execOp a.eval o).run P w=.ok (.value u) w) (hv:VRH w0 m v u):Does P o a w (HLed w0 as { S with sl:=setD o.dst v S.sl,bl:=setL none S.bl }) :=
 does_value he ⟨m,R.put o.dst hv⟩
theorem subC (hP:EnvOK P H.E) {T:TypeId} {x:AV} {off:SO} {cs:List Prop} {r:AV} (h:sub H.E T x off=some (cs,r)) (hc:∀ p ∈ cs,p) (hw:wfP x) {b base:Nat} (hcell:∀ j,j<(cellsOf x).size→w.cell? ⟨b,base+j,none⟩=(cellsOf x)[j]?) :
  (loadVar T ⟨b,base+off.val,none⟩).run P w=.ok (pv r) w∧plain r=true∧wfP r∧shapeA r=true:=by
 have ht:=hP.ty T
 unfold sub at h
 split at h
 ·rename_i k hd
  have h1:P.underlying T=some (.int k):=by unfold TyOK at ht;rw [hd] at ht;exact ht.1
  split at h
  ·rename_i k' n
   split at h
   ·rename_i hkk
    subst hkk
    cases h
    refine ⟨run_load_one h1 rfl ?_,rfl,hw,rfl⟩
    have:=hcell 0 (by simp [cellsOf])
    simp only [SO.val]
    rw [this]
    rfl
   ·cases h
  ·rename_i k' n f off'
   split at h
   ·rename_i hkk
    subst hkk
    split at h
    ·rename_i cs' hf
     cases h
     have hle:=fits_ok hf hc
     refine ⟨run_load_one h1 rfl ?_,rfl,hw off.val (by omega),rfl⟩
     rw [hcell off.val (by simp [cellsOf];omega)]
     simp only [cellsOf]
     rw [cellsA_get _ _ _ _ (by omega)]
     rfl
    ·cases h
   ·cases h
  ·cases h
 ·rename_i hd
  have h1:P.underlying T=some .bool:=by unfold TyOK at ht;rw [hd] at ht;exact ht.1
  split at h
  ·cases h
   refine ⟨run_load_one h1 rfl ?_,rfl,trivial,rfl⟩
   have:=hcell 0 (by simp [cellsOf])
   simp only [SO.val]
   rw [this]
   rfl
  ·cases h
 all_goals try (rename_i hd;cases h;done)
 all_goals
  rename_i hd
  have ha:isA (H.E.ty T).d=true:=by rw [hd];rfl
  split at h
  ·rename_i k2 n2 f2
   split at h
   ·rename_i hkk
    have fin:∀ hle:(H.E.ty T).sz≤n2,(loadVar T ⟨b,base+SO.val (.lit 0),none⟩).run P w=.ok (pv (.arr k2 (H.E.ty T).sz f2)) w:=by
     intro hle
     refine run_load_cells ht ha (k:=k2) (f:=f2) ?_
     intro j hj
     simp only [SO.val,Nat.add_zero]
     rw [hcell j (by simp [cellsOf];omega)]
     simp only [cellsOf]
     rw [cellsA_get _ _ _ _ (by omega)]
    split at h
    ·rename_i hnn
     cases h
     have:=fin (by omega)
     rw [hnn] at this
     exact ⟨this,rfl,hw,rfl⟩
    ·split at h
     ·rename_i hnn
      cases h
      exact ⟨fin hnn,rfl,fun i hi=>hw i (by omega),rfl⟩
     ·cases h
   ·cases h
  ·rename_i k2 n2 f2 _
   split at h
   ·rename_i hkk
    split at h
    ·rename_i cs' hf
     cases h
     have hle:=fits_ok hf hc
     refine ⟨?_,rfl,fun i (hi:i<(H.E.ty T).sz)=>hw (off.val+i) (by omega),rfl⟩
     refine run_load_cells ht ha (k:=k2) (f:=fun j=>f2 (off.val+j)) ?_
     intro j hj
     rw [Nat.add_assoc,hcell (off.val+j) (by simp [cellsOf];omega)]
     simp only [cellsOf]
     rw [cellsA_get _ _ _ _ (by omega)]
    ·cases h
   ·cases h
  ·cases h
theorem cellAR {p:HA} {l:List Value} (hp:cellA p=true) (h:PR w0 m p l):∃ v,l=[v]∧AR w0 m p v∧v.oneCell'=true:=by
 cases p with
 | pl x=>simp [cellA] at hp
 | _=>exact h
theorem mid_get {x y z:List Value} {j:Nat} (hj:j<y.length):(x ++ (y ++ z))[x.length+j]?=y[j]?:=by
 rw [List.getElem?_append_right (by omega),Nat.add_sub_cancel_left,List.getElem?_append_left hj]
theorem loadP_ok (hH:HEOK P H) {T:TypeId} {ps:List HA} {off:SO} {cs:List Prop} {v:HV} (h:loadP H T ps off=some (cs,v)) (hc:∀ p ∈ cs,p) {b:Nat} {c:Array Value} {T0:TypeId} {fz:Nat × Nat} (hh:w.heap[b]?=some (.cells c T0 fz)) (hcl:CL w0 m ps c.toList) :
  ∃ u,(loadVar T ⟨b,off.val,none⟩).run P w=.ok u w∧VRH w0 m v u:=by
 have ht:=hH.ok.ty T
 have hcell:∀ o,w.cell? ⟨b,o,none⟩=c.toList[o]?:=fun o=>by rw [cell_of_row w b _ _ T0 fz hh,Array.getElem?_toList]
 have plr:∀ (x:AV) (off':SO) (base:Nat) (y:List Value),plR (sub H.E T x off')=some (cs,v)→PR w0 m (.pl x) y→off.val=base+off'.val→(∀ j,j<y.length→c.toList[base+j]?=y[j]?)→∃ u,(loadVar T ⟨b,off.val,none⟩).run P w=.ok u w∧VRH w0 m v u:=by
  intro x off' base y hr hy ho hj
  obtain ⟨rfl,h2,h3⟩:=hy
  unfold plR at hr
  split at hr
  ·rename_i cs' r hs
   cases hr
   obtain ⟨s1,s2,s3,_⟩:=subC hH.ok hs hc h3 (b:=b) (base:=base) (w:=w) (fun j hjj=>by rw [hcell,hj j (by simpa using hjj),Array.getElem?_toList])
   rw [ho]
   exact ⟨_,s1,rfl,s2,s3⟩
  ·cases hr
 unfold loadP at h
 split at h
 ·rename_i x
  obtain ⟨y,z,h1,h2,h3⟩:=hcl
  simp only [CL] at h3
  subst h3
  rw [List.append_nil] at h1
  exact plr x off 0 y h h2 (by simp) (fun j hj=>by rw [h1,Nat.zero_add])
 ·split at h
  ·rename_i o
   split at h
   ·rename_i fs hd
    split at h
    ·rename_i q bb hcut
     split at h
     ·rename_i cc dd hcut2
      cases h
      obtain ⟨x,y,h1,h2,h3,h4⟩:=cutP_ok _ _ _ _ hcut hcl
      obtain ⟨x2,y2,g1,g2,g3,g4⟩:=cutP_ok _ _ _ _ hcut2 h4
      unfold TyOK at ht
      rw [hd] at ht
      obtain ⟨fields,t1,t2,⟨inf,t3,t4⟩,t5⟩:=ht
      have hl:(loadCells ⟨b,o,none⟩ (H.E.ty T).sz).run P w=.ok x2.toArray w:=by
       rw [← g2]
       have:=run_loadCells_list (P:=P) w ⟨b,o,none⟩ x2 (fun j u hj=>by
        have hjl:j<x2.length:=by
         rcases Nat.lt_or_ge j x2.length with hh | hh
         ·exact hh
         ·rw [List.getElem?_eq_none hh] at hj;cases hj
        rw [addr_add,hcell,h1,g1,← h2,mid_get hjl]
        exact hj)
       simpa using this
      refine ⟨.agg x2.toArray,?_,x2.toArray,rfl,by simpa using g3⟩
      simp only [loadVar,Sem.run_bind,run_agg t1,isG,Result.andThen_ok,if_true,run_size t3,t4,SO.val,hl,Sem.run_pure]
     ·cases h
    ·cases h
   ·rename_i e hd
    split at h
    ·rename_i q p bb hf
     split at h
     ·rename_i hp
      cases h
      obtain ⟨x,y,z,h1,h2,h3,h4,h5,h6⟩:=findP_ok _ _ _ _ _ _ hf hcl
      obtain ⟨u,rfl,hu,_⟩:=cellAR hp h5
      refine ⟨u,run_load_one (slice_ty hH.ok hd) rfl ?_,hu⟩
      have:=mid_get (x:=x) (y:=[u]) (z:=z) (j:=0) (by simp)
      rw [hcell,h1]
      simp only [SO.val]
      rw [← h2]
      first | exact this | simpa using this
     ·cases h
    ·cases h
   ·split at h
    ·rename_i q o' x bb hf
     obtain ⟨x1,y,z,h1,h2,h3,h4,h5,h6⟩:=findP_ok _ _ _ _ _ _ hf hcl
     exact plr x (.lit o') x1.length y h h5 (by simp only [SO.val];omega) (fun j hj=>by rw [h1];exact mid_get hj)
    ·cases h
  ·cases h
theorem put_shape {T:TypeId} {x x' y:AV} {off:SO} {cs:List Prop} (h:put H.E T x off y=some (cs,x')):shapeA x'=true∧shapeA y=true:=by
 unfold put at h
 repeat' split at h
 all_goals first | (cases h;done) | (cases h;exact ⟨rfl,rfl⟩)
theorem storeP_ok (hH:HEOK P H) {T:TypeId} {ps qs:List HA} {off:SO} {v:HV} {u:Value} {cs:List Prop} (h:storeP H T ps off v=some (cs,qs)) (hc:∀ p ∈ cs,p) (hv:VRH w0 m v u) {c:List Value} (hcl:CL w0 m ps c) :
  (∃ inf,P.info? T=some inf∧inf.size=u.cells.size)∧off.val+u.cells.size≤c.length∧(∀ z ∈ u.cells.toList,z.oneCell'=true)∧CL w0 m qs (writeAt c.toArray off.val u.cells.toList).toList:=by
 have plain:∀ (x y:AV) (off':SO) (a b:List HA) (x1 y1 z1:List Value),v=.at (.pl y)→okPs (put H.E T x off' y) a b=some (cs,qs)→c=x1 ++ (y1 ++ z1)→CL w0 m a x1→PR w0 m (.pl x) y1→CL w0 m b z1→off.val=x1.length+off'.val →
   (∃ inf,P.info? T=some inf∧inf.size=u.cells.size)∧off.val+u.cells.size≤c.length∧(∀ z ∈ u.cells.toList,z.oneCell'=true)∧CL w0 m qs (writeAt c.toArray off.val u.cells.toList).toList:=by
  intro x y off' a b x1 y1 z1 hvv hok hcc ha hy hb ho
  subst hvv
  obtain ⟨hu,hp,hw⟩:=hv
  obtain ⟨rfl,hs,hwx⟩:=hy
  unfold okPs at hok
  split at hok
  ·rename_i cs' x' hput
   cases hok
   have hwy:wfV y:=wfP_wfV hp hw
   obtain ⟨p1,p2,p3,p4,⟨inf,p5,p6⟩,p7,p8,p9⟩:=put_cells hH.ok hput hc hwx hwy
   subst hu hcc
   refine ⟨⟨inf,p5,by rw [p6,p2]⟩,?_,p4,?_⟩
   ·simp only [List.length_append,Array.length_toList]
    omega
   ·rw [ho,writeAt_mid]
    ·refine CL_append ha ⟨_,z1,rfl,⟨?_,(put_shape hput).1,p8⟩,hb⟩
     rw [← p1]
    ·simp only [Array.length_toList]
     omega
  ·cases hok
 have cell:∀ q,v=.at q→(if cellA q=true∧H.sz T=some 1 then
   match off with
   | .lit o =>
    match findP o ps with
    | some (a,0,p,b)=>if szA p=1 then some ([],a ++ q :: b) else none
    | _=>none
   | .sym _=>none
  else none)=some (cs,qs)→(∃ inf,P.info? T=some inf∧inf.size=u.cells.size)∧off.val+u.cells.size≤c.length∧(∀ z ∈ u.cells.toList,z.oneCell'=true)∧CL w0 m qs (writeAt c.toArray off.val u.cells.toList).toList:=by
  intro q hvv h0
  subst hvv
  split at h0
  ·rename_i hq
   obtain ⟨inf,i1,i2⟩:=hH.sz T 1 hq.2
   have huc:u.cells=#[u]∧u.oneCell'=true:=by
    have hv:AR w0 m q u:=hv
    have:=hq.1
    revert hv
    cases q <;> simp [cellA] at this <;> intro hv
    ·subst hv;exact ⟨rfl,rfl⟩
    ·obtain ⟨b,_,rfl⟩:=hv;exact ⟨rfl,rfl⟩
    ·cases hv;exact ⟨rfl,rfl⟩
    ·obtain ⟨a,c,rfl,_⟩:=hv;exact ⟨rfl,rfl⟩
    ·obtain ⟨a,n,c,_,rfl,_⟩:=hv;exact ⟨rfl,rfl⟩
    ·obtain ⟨a,c,rfl,_⟩:=hv;exact ⟨rfl,rfl⟩
    ·obtain ⟨a,c,rfl,_⟩:=hv;exact ⟨rfl,rfl⟩
   rw [huc.1]
   split at h0
   ·rename_i o
    split at h0
    ·rename_i a p b hf
     split at h0
     ·rename_i hsz
      cases h0
      obtain ⟨x,y,z,h1,h2,h3,h4,h5,h6⟩:=findP_ok _ _ _ _ _ _ hf hcl
      have hy:=PR_len h5
      rw [hsz] at hy
      subst h1
      refine ⟨⟨inf,i1,by simpa using i2⟩,?_,?_,?_⟩
      ·simp only [SO.val,List.size_toArray,List.length_cons,List.length_nil,List.length_append];omega
      ·intro z hz;simp at hz;subst hz;exact huc.2
      ·simp only [SO.val]
       have e1:o=x.length+0:=by omega
       rw [e1,writeAt_mid _ _ _ _ _ (by simp;omega),writeAt_all _ _ (by simp;omega)]
       refine CL_append h4 ⟨[u],z,rfl,?_,h6⟩
       have hv:AR w0 m q u:=hv
       have hqq:=hq.1
       cases q <;> simp [cellA] at hqq <;> exact ⟨u,rfl,hv,huc.2⟩
     ·cases h0
    ·cases h0
   ·cases h0
  ·cases h0
 unfold storeP at h
 split at h
 ·rename_i y
  split at h
  ·rename_i x
   obtain ⟨y1,z1,h1,h2,h3⟩:=hcl
   exact plain x y off [] [] [] y1 z1 rfl h (by simpa using h1) rfl h2 h3 (by simp)
  ·split at h
   ·rename_i o
    split at h
    ·rename_i a o' x b hf
     obtain ⟨x1,y1,z,h1,h2,h3,h4,h5,h6⟩:=findP_ok _ _ _ _ _ _ hf hcl
     exact plain x y (.lit o') a b x1 y1 z rfl h h1 h4 h5 h6 (by simp only [SO.val];omega)
    ·cases h
   ·cases h
 ·rename_i q _
  exact cell q rfl h
 ·rename_i q2
  split at h
  ·rename_i o
   split at h
   ·rename_i hm
    split at h
    ·rename_i aa bb hcut
     split at h
     ·rename_i dd cc hcut2
      cases h
      obtain ⟨x,y,h1,h2,h3,h4⟩:=cutP_ok _ _ _ _ hcut hcl
      obtain ⟨x2,y2,g1,g2,g3,g4⟩:=cutP_ok _ _ _ _ hcut2 h4
      obtain ⟨cs',rfl,hcq⟩:=hv
      have hlen:=CL_len hcq
      have ht:=hH.ok.ty T
      unfold TyOK at ht
      unfold isMix at hm
      split at hm
      ·rename_i fs hd
       rw [hd] at ht
       obtain ⟨fields,t1,t2,⟨inf,t3,t4⟩,t5⟩:=ht
       have hsz:cs'.size=(H.E.ty T).sz:=by rw [← hm.2,← hlen];simp
       subst h1 g1
       refine ⟨⟨inf,t3,by simp only [Value.cells];omega⟩,?_,?_,?_⟩
       ·simp only [SO.val,Value.cells,List.length_append];omega
       ·simp only [Value.cells]
        have key:∀ (ps:List HA) (l:List Value),CL w0 m ps l→∀ z ∈ l,z.oneCell'=true:=by
         intro ps
         induction ps with
         | nil=>intro l h z hz;simp only [CL] at h;subst h;simp at hz
         | cons p ps ih =>
          intro l ⟨x,y,e1,e2,e3⟩ z hz
          subst e1
          rcases List.mem_append.1 hz with hz | hz
          ·cases p with
           | pl x0 =>
            obtain ⟨rfl,k1,k2⟩:=e2
            cases x0 <;> simp [shapeA] at k1 <;> simp [cellsOf] at hz
            ·subst hz;rfl
            ·subst hz;rfl
            ·exact cells_one _ _ _ z (by simpa using hz)
           | _=>obtain ⟨v,rfl,_,hv1⟩:=e2;simp at hz;subst hz;exact hv1
          ·exact ih y e3 z hz
        exact key _ _ hcq
       ·simp only [SO.val,Value.cells]
        have e1:o=x.length+0:=by omega
        rw [e1,writeAt_mid _ _ _ _ _ (by simp;omega),writeAt_all _ _ (by simp;omega)]
        exact CL_append h3 (CL_append hcq g4)
      ·exact absurd hm.1 (by simp)
     ·cases h
    ·cases h
   ·cases h
  ·cases h
 ·cases h
end
end Sy

namespace Sy
open Go Go.RowKit Sx
section
variable {P:Program} {H:HE} {w0:World} {m:LM} {as:List (Array Value)} {S:HS} {a:Act} {w:World}
abbrev aft (S:HS) (o:Oper) (v:HV) (b:Option (Nat × HB)):HS:={ S with sl:=setD o.dst v S.sl,bl:=setL b S.bl }
theorem getB_lt {bl:List HB} {l:Nat} (h:getB bl l≠.none):l<bl.length:=by
 rcases Nat.lt_or_ge l bl.length with h' | h'
 ·exact h'
 ·exact absurd (by simp [getB_D,List.getElem?_eq_none h']) h
theorem row_block (R:HRel w0 m as S a w) {l ver es:Nat} {k:IntKind} {len:SO} {f:Nat→Int} (hb:getB S.bl l=.row ver k es len f) {b:Nat} (hm:bn (m l ver)=some b) :
  ∃ e cap cur,m l ver=.slice (some ⟨b,0,none⟩) len.val cap∧w0.heap.size≤b∧w.heap[b]?=some (.cells cur e (0,0))∧len.val≤cap∧cur.size=cap*es∧cur.toList.take (len.val*es)=lcells k (len.val*es) f:=by
 have h:=R.blks l
 rw [hb] at h
 obtain ⟨⟨e,h1⟩,_⟩:=h
 rcases h1.2 with ⟨h2,_⟩ | ⟨g,cap,cur,h2,h3,h4,h5,_,h6,h7⟩
 ·rw [h2] at hm;cases hm
 ·rw [h2] at hm
  cases hm
  exact ⟨e,cap,cur,h2,h3,h4,h5,h6,h7⟩
theorem load_h (hH:HEOK P H) (G:WOK H.E w0) (R:HRel w0 m as S a w) {o:Oper} {T:TypeId} {x:Operand} (ho:o.op=.load T x) {X:HV} (hx:VRH w0 m X (a.eval x)) {cs:List Prop} {v:HV} {b:Option (Nat × HB)}
  (h:hLoad H T X (getB S.bl)=some (cs,v,b)) (hc:∀ p ∈ cs,p):Does P o a w (HLed w0 as (aft S o v b)):=by
 have fin:∀ (bk off:Nat) (u:Value),a.eval x=.pointer (some ⟨bk,off,none⟩)→(loadVar T ⟨bk,off,none⟩).run P w=.ok u w→VRH w0 m v u→b=none→Does P o a w (HLed w0 as (aft S o v b)):=by
  intro bk off u he hl hv hb
  subst hb
  refine hval R ?_ hv
  simp only [execOp,ho,Instr.loadAt,he,Sem.run_bind,sure,Result.andThen_ok,hl,Sem.run_pure]
 unfold hLoad at h
 split at h
 ·rename_i l ver off
  obtain ⟨b0,hb0,hev⟩:=hx
  split at h
  ·rename_i ps hB
   split at h
   ·rename_i hver
    subst hver
    split at h
    ·rename_i cs' v' hl
     cases h
     have hblk:=R.blks l
     rw [hB] at hblk
     obtain ⟨b1,c,T0,h1,h2,h3,h4⟩:=hblk
     rw [h1] at hb0
     cases hb0
     obtain ⟨u,u1,u2⟩:=loadP_ok hH hl hc h3 h4
     exact fin _ _ u hev u1 u2 rfl
    ·cases h
   ·cases h
  ·rename_i v' k es len f hB
   split at h
   ·rename_i hver
    subst hver
    split at h
    ·rename_i k' hd
     split at h
     ·rename_i hkk
      subst hkk
      cases h
      obtain ⟨e,cap,cur,r1,r2,r3,r4,r5,r6⟩:=row_block R hB hb0
      have hle:off.val+1≤len.val*es:=(hc _ (List.mem_singleton.2 rfl)).h
      have h1:P.underlying T=some (.int k):=by have:=hH.ok.ty T;unfold TyOK at this;rw [hd] at this;exact this.1
      have hin:=R.blks l
      rw [hB] at hin
      refine fin _ _ (.int k (f off.val)) hev (run_load_one h1 rfl ?_) ⟨rfl,rfl,hin.2 _ (by omega)⟩ rfl
      rw [cell_of_row w _ _ _ e (0,0) r3]
      exact row_cell r6 (by omega)
     ·cases h
    ·rename_i n0 e0 hd
     split at h
     ·rename_i cs' r hsub
      cases h
      obtain ⟨e,cap,cur,r1,r2,r3,r4,r5,r6⟩:=row_block R hB hb0
      have hin:=R.blks l
      rw [hB] at hin
      have:=subC hH.ok hsub hc (show wfP (.arr k (len.val*es) f) from hin.2) (b:=b0) (base:=0) (w:=w) (fun j hj=>by
       have hj':j<len.val*es:=by simpa [cellsOf,cellsA] using hj
       rw [Nat.zero_add,cell_of_row w _ _ _ e (0,0) r3,row_cell r6 hj']
       simp [cellsOf,cellsA,hj'])
      obtain ⟨l1,l2,l3,l4⟩:=this
      rw [Nat.zero_add] at l1
      exact fin _ _ _ hev l1 ⟨rfl,l2,l3⟩ rfl
     ·cases h
    ·cases h
   ·cases h
  ·cases h
 ·rename_i g off
  split at h
  ·rename_i cs' r hsub
   cases h
   have hgl:=(G.later R.below).glob g
   have hne:∃ T fz,plain (H.E.glob g)=true∧wfP (H.E.glob g)∧w.heap[g]?=some (.cells (cellsOf (H.E.glob g)) T fz):=by
    revert hgl hsub
    cases H.E.glob g <;> intro hsub hgl
    ·unfold sub at hsub;split at hsub <;> simp at hsub
    all_goals exact ⟨hgl.2.2.choose,hgl.2.2.choose_spec.choose,hgl.1,hgl.2.1,hgl.2.2.choose_spec.choose_spec⟩
   obtain ⟨T0,fz,_,hw,hb⟩:=hne
   obtain ⟨l1,l2,l3⟩:=sub_ok hH.ok hsub hc hw hb
   exact fin _ _ _ hx l1 ⟨rfl,l2,l3⟩ rfl
  ·cases h
 ·rename_i k n f
  obtain ⟨b0,o0,hev,hcell⟩:=hx
  split at h
  ·rename_i k' hd
   split at h
   ·rename_i hkk
    subst hkk
    cases h
    have hle:1≤n.val:=(hc _ (List.mem_singleton.2 rfl)).h
    have h1:P.underlying T=some (.int k):=by have:=hH.ok.ty T;unfold TyOK at this;rw [hd] at this;exact this.1
    obtain ⟨c1,c2⟩:=hcell 0 (by omega)
    refine fin _ _ (.int k (f 0)) hev (run_load_one h1 rfl ?_) ⟨rfl,rfl,c2⟩ rfl
    rw [Nat.add_zero] at c1
    rw [R.below.cell (World.block_lt_of_cell? w0 _ c1)]
    exact c1
   ·cases h
  ·cases h
 ·cases h
theorem store_h (hH:HEOK P H) (R:HRel w0 m as S a w) {o:Oper} {T:TypeId} {x y:Operand} (ho:o.op=.store T x y) {X Y:HV} (hx:VRH w0 m X (a.eval x)) (hy:VRH w0 m Y (a.eval y)) {cs:List Prop} {v:HV} {b:Option (Nat × HB)}
  (h:hStore H T X Y (getB S.bl)=some (cs,v,b)) (hc:∀ p ∈ cs,p):Does P o a w (HLed w0 as (aft S o v b)):=by
 unfold hStore at h
 split at h
 ·rename_i l ver off
  obtain ⟨b0,hb0,hev⟩:=hx
  split at h
  ·rename_i ps hB
   split at h
   ·rename_i hver
    subst hver
    split at h
    ·rename_i cs' qs hl
     cases h
     have hblk:=R.blks l
     rw [hB] at hblk
     obtain ⟨b1,c,T0,h1,h2,h3,h4⟩:=hblk
     have hbb:b1=b0:=by rw [h1] at hb0;cases hb0;rfl
     subst hbb
     obtain ⟨⟨inf,i1,i2⟩,s2,s3,s4⟩:=storeP_ok hH hl hc hy h4
     have hst:=run_storeVar (P:=P) i1 (off:=off.val) h3 i2.symm s3 (by simpa using s2)
     refine does_skip (w':=w.setRow b1 (writeAt c off.val (a.eval y).cells.toList)) ?_ ⟨m,?_⟩
     ·simp only [execOp,ho,Instr.storeAt,hev,Sem.run_bind,sure,Result.andThen_ok,hst,Sem.run_pure]
     ·have:=R.setB hB h1 h3 (qs:=qs) (cs':=writeAt c off.val (a.eval y).cells.toList) (by simpa using s4)
      exact this.put o.dst ⟨rfl,rfl,trivial⟩
    ·cases h
   ·cases h
  ·cases h
 ·cases h
theorem zero_ok (hP:EnvOK P H.E) {T:TypeId} {v:AV} (hz:zero H.E T=some v):∃ inf,P.info? T=some inf∧inf.zero=some (pv v)∧shapeA v=true∧wfP v∧(pv v).cells=cellsOf v:=by
 have ht:=hP.ty T
 unfold zero at hz
 split at hz
 ·rename_i k hd
  cases hz
  unfold TyOK at ht;rw [hd] at ht
  obtain ⟨_,_,inf,h2,_,h3,_⟩:=ht
  exact ⟨inf,h2,h3,rfl,⟨min_nonpos k,max_nonneg k⟩,rfl⟩
 ·rename_i hd
  cases hz
  unfold TyOK at ht;rw [hd] at ht
  obtain ⟨_,_,inf,h2,_,h3,_⟩:=ht
  exact ⟨inf,h2,h3,rfl,trivial,rfl⟩
 ·rename_i hd
  cases hz
  obtain ⟨_,inf,h2,_,h3,_⟩:=ht.agg (by rw [hd];rfl)
  exact ⟨inf,h2,h3,rfl,fun _ _=>⟨min_nonpos _,max_nonneg _⟩,rfl⟩
 ·rename_i hd
  cases hz
  obtain ⟨_,inf,h2,_,h3,_⟩:=ht.agg (by rw [hd];rfl)
  exact ⟨inf,h2,h3,rfl,fun _ _=>⟨min_nonpos _,max_nonneg _⟩,rfl⟩
 ·cases hz
theorem newB_does (R:HRel w0 m as S a w) {o:Oper} {l:Nat} (hf:fresh l S.bl.length (getB S.bl)=true) {ps:List HA} {c:Array Value} {T:TypeId} (hcl:CL w0 m ps c.toList) {V:HV} {u:Value}
  (he:(execOp a.eval o).run P w=.ok (.value u) (w.alloc (.cells c T))) (hV:∀ m',m' l 0=.pointer (some ⟨w.heap.size,0,none⟩)→VRH w0 m' V u):Does P o a w (HLed w0 as (aft S o V (some (l,.fix ps)))):=by
 obtain ⟨m',e1,e2,R'⟩:=R.newB hf T hcl
 exact does_value he ⟨m',R'.put o.dst (hV m' e2)⟩
theorem alloc_h (hH:HEOK P H) (R:HRel w0 m as S a w) {o:Oper} {T:TypeId} (ho:o.op=.alloc T) {l:Nat} {cs:List Prop} {v:HV} {b:Option (Nat × HB)}
  (h:hAlloc H T l S.bl.length (getB S.bl)=some (cs,v,b)):Does P o a w (HLed w0 as (aft S o v b)):=by
 have hp:∀ m':LM,m' l 0=.pointer (some ⟨w.heap.size,0,none⟩)→VRH w0 m' (.at (.ptr l 0 (.lit 0))) (.pointer (some ⟨w.heap.size,0,none⟩)):=fun m' hm=>⟨w.heap.size,by rw [hm];rfl,rfl⟩
 have go:∀ (inf:TypeInfo) (z:Value) (ps:List HA),P.info? T=some inf→inf.zero=some z→CL w0 m ps z.cells.toList→fresh l S.bl.length (getB S.bl)=true→Does P o a w (HLed w0 as (aft S o (.at (.ptr l 0 (.lit 0))) (some (l,.fix ps)))):=by
  intro inf z ps i1 i2 i3 hf
  refine newB_does R hf (T:=T) i3 ?_ hp
  simp only [execOp,ho,Instr.alloc,Sem.run_bind,run_zero i1 i2,Result.andThen_ok,newVar,newRow,run_newObj,Sem.run_pure,World.alloc]
 unfold hAlloc at h
 split at h
 ·rename_i hf
  split at h
  ·rename_i ps hz
   cases h
   obtain ⟨inf,z,i1,i2,i3,i4⟩:=hH.zm T ps hz
   exact go inf z ps i1 i2 (i4 w0 m) hf
  ·split at h
   ·rename_i x hz
    cases h
    obtain ⟨inf,i1,i2,i3,i4,i5⟩:=zero_ok hH.ok hz
    exact go inf (pv x) [.pl x] i1 i2 (CL_one ⟨by rw [i5],i3,i4⟩) hf
   ·cases h
 ·cases h
theorem box_h (R:HRel w0 m as S a w) {o:Oper} {T:TypeId} {x:Operand} (ho:o.op=.box T x) {X:HV} (hx:VRH w0 m X (a.eval x)) {l:Nat} {cs:List Prop} {v:HV} {b:Option (Nat × HB)}
  (h:hBox H T X l S.bl.length (getB S.bl)=some (cs,v,b)):Does P o a w (HLed w0 as (aft S o v b)):=by
 have hp:∀ m':LM,m' l 0=.pointer (some ⟨w.heap.size,0,none⟩)→VRH w0 m' (.at (.ptr l 0 (.lit 0))) (.pointer (some ⟨w.heap.size,0,none⟩)):=fun m' hm=>⟨w.heap.size,by rw [hm];rfl,rfl⟩
 have go:∀ (ps:List HA),CL w0 m ps (a.eval x).cells.toList→fresh l S.bl.length (getB S.bl)=true→Does P o a w (HLed w0 as (aft S o (.at (.ptr l 0 (.lit 0))) (some (l,.fix ps)))):=by
  intro ps i3 hf
  refine newB_does R hf (T:=T) i3 ?_ hp
  simp only [execOp,ho,Instr.box,Sem.run_bind,Result.andThen_ok,newVar,newRow,run_newObj,Sem.run_pure,World.alloc]
 unfold hBox at h
 split at h
 ·rename_i hf
  split at h
  ·rename_i y
   split at h
   ·rename_i hb
    cases h
    obtain ⟨h1,h2,h3⟩:=hx
    refine go _ (CL_one ?_) hf
    rw [h1]
    revert hb
    unfold boxable
    cases y <;> cases (H.E.ty T).d <;> simp [plain] at h2 <;> intro hb <;> first | (cases hb;done) | exact ⟨rfl,rfl,h3⟩
   ·cases h
  ·rename_i ps
   cases h
   obtain ⟨cs',h1,h2⟩:=hx
   refine go _ ?_ hf
   rw [h1]
   exact h2
  ·cases h
 ·cases h
theorem layH_ok (hH:HEOK P H) (place:Nat→Option (Nat × TypeId)) (size:Nat→Option (Nat × Nat)) (hsize:∀ i off T inf,place i=some (off,T)→P.info? T=some inf→size i=some (off,inf.size)) :
  ∀ (r:List (Nat × Operand)) (ps qs:List HA) (c:Array Value),(∀ p ∈ r,VRH w0 m (opH S.sl p.2) (a.eval p.2))→CL w0 m ps c.toList→layH H place ps (r.map fun p=>(p.1,opH S.sl p.2))=some qs →
   ∃ c',Instr.fill size c (r.map fun p=>(p.1,a.eval p.2))=some c'∧CL w0 m qs c'.toList
 | [],ps,qs,c,_,hcl,h=>by
  simp only [layH,List.map_nil] at h
  cases h
  exact ⟨c,rfl,hcl⟩
 | (i,o) :: r,ps,qs,c,hv,hcl,h=>by
  simp only [List.map_cons,layH] at h
  split at h
  ·rename_i off T hpl
   split at h
   ·rename_i q2 hst
    obtain ⟨⟨inf,i1,i2⟩,s2,s3,s4⟩:=storeP_ok hH hst (fun p hp=>by simp at hp) (hv (i,o) (by simp)) hcl
    obtain ⟨c',r1,r2⟩:=layH_ok hH place size hsize r q2 qs (writeAt c off (a.eval o).cells.toList) (fun p hp=>hv p (by simp [hp])) (by simpa [SO.val] using s4) h
    refine ⟨c',?_,r2⟩
    simp only [List.map_cons,Instr.fill,hsize i off T inf hpl i1]
    simp only [SO.val,Array.length_toList] at s2
    rw [if_neg (by simp [i2];exact s2),fill_writeAt]
    exact r1
   ·cases h
  ·cases h
theorem zip_map {α β γ:Type} (f:α→β) (g:α→γ):∀ l:List α,(l.map f).zip (l.map g)=l.map fun x=>(f x,g x)
 | []=>rfl
 | x :: l=>by simp [zip_map f g l]
theorem mapM_szs (fields:Array Field) (w:World) (z:TypeId→Nat) (h:∀ f ∈ fields.toList,∃ inf,P.info? f.type=some inf∧inf.size=z f.type) :
  (fields.mapM (m:=Sem) fun f=>do pure (f.offset,← Go.sizeOf f.type)).run P w=.ok (fields.map fun f=>(f.offset,z f.type)) w:=by
 rw [Array.mapM_eq_mapM_toList]
 have key:∀ l:List Field,(∀ f ∈ l,∃ inf,P.info? f.type=some inf∧inf.size=z f.type)→(l.mapM (m:=Sem) fun f=>do pure (f.offset,← Go.sizeOf f.type)).run P w=.ok (l.map fun f=>(f.offset,z f.type)) w:=by
  intro l
  induction l with
  | nil=>intro _;rfl
  | cons f l ih =>
   intro hl
   obtain ⟨inf,hi,hs⟩:=hl f (by simp)
   simp only [List.mapM_cons,Sem.run_bind,run_size hi,Result.andThen_ok,Sem.run_pure,ih (fun g hg=>hl g (by simp [hg])),hs,List.map_cons]
 rw [Sem.run_map,key _ h]
 simp only [Result.andThen_ok]
 congr 1
 apply Array.ext'
 simp
theorem build_h (hH:HEOK P H) (R:HRel w0 m as S a w) {o:Oper} {T:TypeId} {ps:Array (Nat × Operand)} (ho:o.op=.build T ps) (hk:∀ p ∈ ps.toList,constOk p.2=true) {cs:List Prop} {v:HV} {b:Option (Nat × HB)}
  (h:hBuild H T (ps.toList.map Prod.fst) (ps.toList.map fun p=>opH S.sl p.2)=some (cs,v,b)):Does P o a w (HLed w0 as (aft S o v b)):=by
 have hmap:(ps.map fun (x:Nat × Operand)=>match x with | (i,x)=>(i,a.eval x)).toList=ps.toList.map fun p=>(p.1,a.eval p.2):=by simp
 have hvs:∀ p ∈ ps.toList,VRH w0 m (opH S.sl p.2) (a.eval p.2):=fun p hp=>opH_ok R p.2 (hk p hp)
 have ht:=hH.ok.ty T
 unfold hBuild at h
 rw [zip_map] at h
 split at h
 ·rename_i fs hd
  unfold TyOK at ht
  rw [hd] at ht
  obtain ⟨fields,t1,t2,⟨inf0,t3,t4⟩,t5⟩:=ht
  split at h
  ·rename_i zs hz
   split at h
   ·rename_i qs hl
    cases h
    obtain ⟨inf,z,i1,i2,i3,i4⟩:=hH.zm T zs hz
    let szT:TypeId→Nat:=fun t=>match P.info? t with | some i=>i.size | none=>0
    have hszT:∀ t inf,P.info? t=some inf→szT t=inf.size:=fun t inf h=>by simp [szT,h]
    obtain ⟨c',l1,l2⟩:=layH_ok hH (a:=a) (S:=S) (fun i=>fs[i]?) (fun i=>(fields.map fun f=>(f.offset,szT f.type))[i]?) (by
     intro i off T' inf' hpl hi
     obtain ⟨f,g1,g2,g3⟩:=fields_get t2 hpl
     simp only [Array.getElem?_map,g1,Option.map_some,g2,g3,hszT _ _ hi]) ps.toList zs qs z.cells hvs (i4 w0 m) hl
    refine hval R (u:=.agg c') ?_ ⟨c',rfl,l2⟩
    have hmm:=mapM_szs (P:=P) fields w szT (fun f hf=>by
     have:(f.offset,f.type) ∈ fs:=by rw [← t2];exact List.mem_map.2 ⟨f,hf,rfl⟩
     obtain ⟨inf',h1,_⟩:=t5 _ this
     exact ⟨inf',h1,(hszT _ _ h1).symm⟩)
    simp only [execOp,ho,Instr.build,Sem.run_bind,run_zero i1 i2,Result.andThen_ok,run_underlying t1,hmm,hmap]
    rw [l1]
    rfl
   ·cases h
  ·cases h
 ·rename_i n e hd
  have hT:P.underlying T=some (.array n e):=by unfold TyOK at ht;rw [hd] at ht;exact ht.1
  split at h
  ·rename_i z n' hz hsz
   split at h
   ·rename_i kx mx fx hl
    cases h
    obtain ⟨inf,i1,i2,i3,i4,i5⟩:=zero_ok hH.ok hz
    obtain ⟨inf2,j1,j2⟩:=hH.sz e n' hsz
    obtain ⟨c',l1,l2⟩:=layH_ok hH (a:=a) (S:=S) (w0:=w0) (m:=m) (fun i=>some (i*n',e)) (fun i=>some (i*n',n')) (by
     intro i off T' inf' hpl hi
     cases hpl
     rw [j1] at hi
     cases hi
     rw [j2]) ps.toList [.pl z] [.pl (.arr kx mx fx)] (pv z).cells hvs (CL_one ⟨by rw [i5],i3,i4⟩) hl
    obtain ⟨y1,z1,e1,⟨e2,e3,e4⟩,e5⟩:=l2
    simp only [CL] at e5
    subst e5
    rw [List.append_nil,e2] at e1
    have e1:c'=cellsA kx mx fx:=Array.toList_inj.1 e1
    subst e1
    refine hval R (u:=.agg (cellsA kx mx fx)) ?_ ⟨rfl,rfl,e4⟩
    simp only [execOp,ho,Instr.build,Sem.run_bind,run_zero i1 i2,Result.andThen_ok,run_underlying hT,run_size j1,j2,hmap]
    rw [l1]
    rfl
   ·cases h
  ·cases h
 ·cases h
end
end Sy

namespace Sy
open Go Go.RowKit Sx
section
variable {P:Program} {H:HE} {w0:World} {m:LM} {as:List (Array Value)} {S:HS} {a:Act} {w:World}
theorem buildSlice_h (hH:HEOK P H) (R:HRel w0 m as S a w) {o:Oper} {T:TypeId} {c:Nat} {ps:Array (Nat × Operand)} (ho:o.op=.buildSlice T c ps) (hk:∀ p ∈ ps.toList,constOk p.2=true) {l:Nat} {cs:List Prop} {v:HV} {b:Option (Nat × HB)}
  (h:hBuildSlice H T c (ps.toList.map Prod.fst) (ps.toList.map fun p=>opH S.sl p.2) l S.bl.length (getB S.bl)=some (cs,v,b)):Does P o a w (HLed w0 as (aft S o v b)):=by
 have hmap:(ps.map fun (x:Nat × Operand)=>match x with | (i,x)=>(i,a.eval x)).toList=ps.toList.map fun p=>(p.1,a.eval p.2):=by simp
 have hvs:∀ p ∈ ps.toList,VRH w0 m (opH S.sl p.2) (a.eval p.2):=fun p hp=>opH_ok R p.2 (hk p hp)
 unfold hBuildSlice at h
 rw [zip_map] at h
 have go:∀ (e:TypeId) (inf:TypeInfo) (z:Value) (qs qs2:List HA) (cells:Array Value),P.underlying T=some (.slice e)→P.info? e=some inf→inf.zero=some z→0<c→0<inf.size→c*inf.size≤16777216 →
   madeCells z.cells (c*inf.size)=cells→CL w0 m qs cells.toList→layH H (fun i=>if i<c then some (i*inf.size,e) else none) qs (ps.toList.map fun p=>(p.1,opH S.sl p.2))=some qs2→fresh l S.bl.length (getB S.bl)=true →
   Does P o a w (HLed w0 as (aft S o (.at (.sl l 0 inf.size (.lit 0) (.lit c))) (some (l,.fix qs2)))):=by
  intro e inf z qs qs2 cells hT i1 i2 hc hz hle hm hcl hl hf
  obtain ⟨c',l1,l2⟩:=layH_ok hH (a:=a) (S:=S) (w0:=w0) (m:=m) (fun i=>if i<c then some (i*inf.size,e) else none) (fun i=>some (i*inf.size,inf.size)) (by
   intro i off T' inf' hpl hi
   try simp only at hpl
   split at hpl
   ·cases hpl
    rw [i1] at hi
    cases hi
    rfl
   ·cases hpl) ps.toList qs qs2 cells hvs hcl hl
  refine newB_does R hf (T:=e) l2 (u:=.slice (some ⟨w.heap.size,0,none⟩) c c) ?_ ?_
  ·unfold madeCells at hm
   have hn0:¬ c*inf.size=0:=Nat.ne_of_gt (Nat.mul_pos hc hz)
   have hsize:¬ (2 ^ 24<c*inf.size):=by omega
   simp only [execOp,ho,Instr.buildSlice,Sem.run_bind,run_underlying hT,Result.andThen_ok,run_size i1,Sem.run_pure]
   simp [hm,l1,newRow,hn0,hsize,run_zero i1 i2]
  ·intro m' hm'
   have hcc:c≤c*inf.size:=Nat.le_mul_of_pos_right _ hz
   exact ⟨_,c,rfl,fun _=>⟨w.heap.size,by rw [hm'];rfl,rfl⟩,Nat.le_refl _,by simp only [capMax];omega⟩
 split at h
 ·rename_i hf
  split at h
  ·rename_i e hd
   have hT:=slice_ty hH.ok hd
   split at h
   ·rename_i k z hke hz
    split at h
    ·rename_i hcond
     obtain ⟨c1,c2,c3,c4,c5⟩:=hcond
     split at h
     ·rename_i qs hl
      cases h
      obtain ⟨inf,zv,i1,i2,i3,i4,i5⟩:=elem_zero hH.ok hke
      have hsz:inf.size=z:=by rw [i2,c4]
      subst hsz
      refine go e inf zv _ qs (cellsA k (c*inf.size) fun _=>0) hT i1 i3 c3 c2 c1 ?_ (CL_one (p:=.pl (.arr k (c*inf.size) fun _=>0)) ⟨rfl,rfl,fun _ _=>⟨min_nonpos k,max_nonneg k⟩⟩) hl hf
      rw [i4,i2]
      exact made_zero (by rw [← i2];exact c2)
     ·cases h
    ·cases h
   ·rename_i z hke hz
    split at h
    ·rename_i hcond
     obtain ⟨c1,c2,c3,c4,c5⟩:=hcond
     subst c1
     split at h
     ·rename_i qs hl
      cases h
      have hzz:H.zm e=some [.nil]:=by
       unfold isNilZ at c5
       split at c5
       ·rename_i hh;exact hh
       ·cases c5
      obtain ⟨inf,zv,i1,i2,i3,i4⟩:=hH.zm e _ hzz
      obtain ⟨inf',j1,j2⟩:=hH.sz e 1 hz
      rw [i1] at j1
      cases j1
      have hcl0:=i4 w0 m
      obtain ⟨x,y,e1,⟨u,e2,e3,e4⟩,e5⟩:=hcl0
      simp only [CL] at e5
      have e3:u=.slice none 0 0:=e3
      subst e5 e2 e3
      have hzc:zv.cells=#[.slice none 0 0]:=Array.toList_inj.1 (by simpa using e1)
      have:=go e inf zv (List.replicate c .nil) qs (Array.replicate c (.slice none 0 0)) hT i1 i2 c3 (by omega) (by rw [j2];omega) (by
       rw [hzc,j2,Nat.mul_one]
       apply Array.ext
       ·simp [madeCells]
       ·intro i h1 h2
        simp [madeCells,Nat.mod_one]) (by
       have key:∀ n:Nat,CL w0 m (List.replicate n .nil) (List.replicate n (.slice none 0 0)):=by
        intro n
        induction n with
        | zero=>rfl
        | succ n ih =>
         rw [List.replicate_succ,List.replicate_succ]
         exact ⟨[.slice none 0 0],_,rfl,⟨_,rfl,rfl,rfl⟩,ih⟩
       simpa using key c) (by rw [j2];exact hl) hf
      rw [j2] at this
      exact this
     ·cases h
    ·cases h
   ·cases h
  ·cases h
 ·cases h
theorem newR_does (R:HRel w0 m as S a w) {o:Oper} {l ver:Nat} {w':World} {v:Value} {row:Option Nat} {e:TypeId} {k:IntKind} {es:Nat} {len:SO} {f:Nat→Int} (hl:l<S.bl.length) (hov:∀ j,ver≤j→over (getB S.bl l) j)
  (hg:w.grownBy w' row) (hrow:∀ b,row=some b→curb m l (getB S.bl l)=some b) (hown:w'.ownsRow w0.heap.size e es v len.val (lcells k (len.val*es) f)) (hin:∀ j,j<len.val*es→inR k (f j))
  (hn:∀ b,v.ownBlock=some b→curb m l (getB S.bl l)=some b∨w.heap.size≤b) (he:(execOp a.eval o).run P w=.ok (.value v) w'):Does P o a w (HLed w0 as (aft S o (.at (.ls l ver es len)) (some (l,.row ver k es len f)))):=by
 obtain ⟨m',e1,e2,R'⟩:=R.newR hl hov hg hrow hown hin hn
 refine does_value he ⟨m',R'.put o.dst ?_⟩
 obtain ⟨aa,c,h1,h2⟩:=owns_SL hown
 exact ⟨aa,len.val,c,by rw [e2,h1],h1,Nat.le_refl _,h2.2.2.1,h2.2.2.2,fun q hq=>by rw [(h2.1 q hq).1],h2.2.1⟩
theorem make_h (hH:HEOK P H) (R:HRel w0 m as S a w) {o:Oper} {T:TypeId} {x y:Operand} (ho:o.op=.makeSlice T x y) {X Y:HV} (hx:VRH w0 m X (a.eval x)) (hy:VRH w0 m Y (a.eval y)) {l:Nat} {cs:List Prop} {v:HV} {b:Option (Nat × HB)}
  (h:hMake H T X Y l S.bl.length (getB S.bl)=some (cs,v,b)) (hc:∀ p ∈ cs,p):Does P o a w (HLed w0 as (aft S o v b)):=by
 have hP:=hH.ok
 unfold hMake at h
 split at h
 ·rename_i hf
  split at h
  ·rename_i e ka la kc lb hd
   split at h
   ·rename_i k hse hke
    split at h
    ·cases h
    ·rename_i hsz0
     split at h
     ·rename_i c1 c2 hw1 hu1
      cases h
      have hx1:a.eval x=.int ka la.val:=hx.1
      have hy1:a.eval y=.int kc lb.val:=hy.1
      have h1:=within_ok hw1 (fun p hp=>hc p (by simp [hp]))
      have h2:=upto_ok hu1 (fun p hp=>hc p (by simp [hp]))
      have h3:0≤lb.val:=(hc (NonNeg lb.val) (by simp)).h
      have h4:=(hc (RoomFor (lb.off H.E.A).val (H.E.ty e).by_) (by simp)).h
      have h5:=(hc (LeqN (lb.off H.E.A).val capMax) (by simp)).h
      rw [off_val hP] at h2 h4 h5
      obtain ⟨inf,z,i1,i2,i3,i4,i5⟩:=elem_zero hP hke
      have hT:=slice_ty hP hd
      have hrun:=run_make (P:=P) w T e inf z hT i1 i3 ka kc la.val lb.val h1.1 (by omega) (by
       rw [i5]
       have:(((H.E.ty e).by_*lb.val.toNat:Nat):Int)=((H.E.ty e).by_:Int)*lb.val:=by
        rw [Int.natCast_mul,Int.toNat_of_nonneg h3]
       rw [← this,Nat.mul_comm]
       omega) (by unfold capMax at h5;omega)
      have he:(execOp a.eval o).run P w=.ok (.value (.slice (some ⟨w.heap.size,0,none⟩) la.val.toNat lb.val.toNat)) (w.alloc (.cells (cellsA k (lb.val.toNat * (H.E.ty e).sz) fun _=>0) e)):=by
       simp only [execOp,ho,hx1,hy1,Sem.run_bind,hrun,Result.andThen_ok,Sem.run_pure,i4,i2,made_zero (Nat.pos_of_ne_zero hsz0)]
      have how:(w.alloc (.cells (cellsA k (lb.val.toNat * (H.E.ty e).sz) fun _=>0) e)).ownsRow w0.heap.size e (H.E.ty e).sz (.slice (some ⟨w.heap.size,0,none⟩) (la.off H.E.A).val lb.val.toNat) (la.off H.E.A).val (lcells k ((la.off H.E.A).val*(H.E.ty e).sz) fun _=>0):=by
       rw [off_val hP]
       exact owns_new R.below.size (by omega) (by simp only [maxLen];unfold capMax at h5;omega)
      have hvx:(Value.slice (some ⟨w.heap.size,0,none⟩) la.val.toNat lb.val.toNat)=.slice (some ⟨w.heap.size,0,none⟩) (la.off H.E.A).val lb.val.toNat:=by rw [off_val hP]
      rw [hvx] at he
      obtain ⟨f1,f2⟩:=fresh_ok hf
      exact newR_does R f2 (fun j _=>by rw [f1];trivial) (World.grownBy_alloc w _ none) (by intro b e;cases e) how (fun _ _=>⟨min_nonpos k,max_nonneg k⟩) (by intro b hb;cases hb;exact .inr (Nat.le_refl _)) he
     ·cases h
   ·cases h
  ·cases h
 ·cases h
theorem own_trunc {B:Nat} {e:TypeId} {es:Nat} {aa:Option Addr} {n c len:Nat} {xs:List Value} (h:w.ownsRow B e es (.slice aa n c) n xs) (hle:len≤n):w.ownsRow B e es (.slice aa len c) len (xs.take (len*es)):=by
 have hl:=h.1
 refine ⟨by rw [List.length_take,hl,Nat.min_eq_left (Nat.mul_le_mul_right _ hle)],?_⟩
 rcases h.2 with ⟨h1,h2⟩ | ⟨g,cap,cur,h1,h2,h3,h4,h5,h6,h7⟩
 ·cases h1
  have:len=0:=by omega
  subst this
  exact .inl ⟨rfl,rfl⟩
 ·cases h1
  refine .inr ⟨g,c,cur,rfl,h2,h3,by omega,h5,h6,?_⟩
  rw [← h7,List.take_take,Nat.min_eq_left (Nat.mul_le_mul_right _ hle)]
theorem srcH_ok (R:HRel w0 m as S a w) {k:IntKind} {z:Nat} {y:HV} {u:Value} (hy:VRH w0 m y u) {cs:List Prop} {len:SO} {g:Nat→Int} (h:srcH k z y (getB S.bl)=some (cs,len,g)) (hc:∀ p ∈ cs,p) :
  ArgR w (.xsl k z len len g) u∧∀ j,j<len.val*z→inR k (g j):=by
 have row:∀ (l ver es n:Nat) (k':IntKind) (len':SO) (f:Nat→Int),getB S.bl l=.row ver k' es len' f→∀ b,bn (m l ver)=some b→∀ j,j<len'.val*es→w.cell? ⟨b,j,none⟩=some (.int k' (f j))∧inR k' (f j):=by
  intro l ver es n k' len' f hB b hb j hj
  obtain ⟨e,cap,cur,r1,r2,r3,r4,r5,r6⟩:=row_block R hB hb
  have hin:=R.blks l
  rw [hB] at hin
  exact ⟨by rw [cell_of_row w _ _ _ e (0,0) r3];exact row_cell r6 hj,hin.2 j hj⟩
 have rowIn:∀ (l ver es:Nat) (k':IntKind) (len':SO) (f:Nat→Int),getB S.bl l=.row ver k' es len' f→∀ j,j<len'.val*es→inR k' (f j):=by
  intro l ver es k' len' f hB j hj
  have hin:=R.blks l
  rw [hB] at hin
  exact hin.2 j hj
 unfold srcH at h
 split at h
 ·cases h
  have hy:u=.slice none 0 0:=hy
  subst hy
  exact ⟨⟨none,0,rfl,fun hp=>absurd hp (Nat.lt_irrefl 0),Nat.le_refl _,Nat.zero_le _⟩,fun j hj=>by simp [SO.val] at hj⟩
 ·rename_i k' es len' f
  split at h
  ·rename_i hh
   obtain ⟨rfl,rfl⟩:=hh
   cases h
   obtain ⟨aa,c,h1,h2,h3,h4,h5⟩:=hy
   refine ⟨⟨aa,c,h1,fun hp=>?_,h3,h4⟩,h5⟩
   obtain ⟨b,o,h6,h7⟩:=h2 hp
   refine ⟨b,o,h6,fun j hj=>?_⟩
   have:=h7 j hj
   rw [R.below.cell (World.block_lt_of_cell? w0 _ this)]
   exact this
  ·cases h
 ·rename_i l ver es off len'
  split at h
  ·rename_i hes
   subst hes
   obtain ⟨aa,c,h1,h2,h3,h4⟩:=hy
   split at h
   ·rename_i k' n f hB
    split at h
    ·rename_i hh
     obtain ⟨rfl,rfl⟩:=hh
     split at h
     ·rename_i cs' hle
      cases h
      have hle:=leq_ok hle hc
      rw [add_val,mul_val,lit_val] at hle
      have hblk:=R.blks l
      rw [hB] at hblk
      obtain ⟨b1,cc,T0,g1,g2,g3,g4⟩:=hblk
      obtain ⟨y1,z1,e1,⟨e2,e3,e4⟩,e5⟩:=g4
      simp only [CL] at e5
      subst e5
      rw [List.append_nil,e2] at e1
      have e1:cc=cellsA k' n f:=Array.toList_inj.1 e1
      subst e1
      refine ⟨⟨aa,c,h1,fun hp=>?_,h3,h4⟩,fun j hj=>e4 _ (by omega)⟩
      obtain ⟨b,h5,h6⟩:=h2 hp
      rw [g1] at h5
      cases h5
      refine ⟨b1,off.val,h6,fun j hj=>?_⟩
      rw [cell_of_row w _ _ _ T0 (0,0) g3]
      exact cellsA_get _ _ _ _ (by omega)
     ·cases h
    ·cases h
   ·rename_i v' k' es' len2 f hB
    split at h
    ·rename_i hh
     obtain ⟨rfl,rfl,rfl⟩:=hh
     split at h
     ·rename_i cs' hle
      cases h
      have hle:=leq_ok hle hc
      rw [add_val,mul_val,mul_val] at hle
      refine ⟨⟨aa,c,h1,fun hp=>?_,h3,h4⟩,fun j hj=>rowIn l _ _ _ _ _ hB _ (by omega)⟩
      obtain ⟨b,h5,h6⟩:=h2 hp
      exact ⟨b,off.val,h6,fun j hj=>(row l _ _ 0 _ _ _ hB b h5 _ (by omega)).1⟩
     ·cases h
    ·cases h
   ·rename_i k' n f hB
    split at h
    ·rename_i hh
     obtain ⟨rfl,rfl⟩:=hh
     split at h
     ·rename_i cs' hle
      cases h
      have hle:=leq_ok hle hc
      rw [add_val,mul_val,lit_val] at hle
      have hblk:=R.blks l
      rw [hB] at hblk
      obtain ⟨b1,T0,fz,g1,g2,g3,g4⟩:=hblk
      refine ⟨⟨aa,c,h1,fun hp=>?_,h3,h4⟩,fun j hj=>g4 _ (by omega)⟩
      obtain ⟨b,h5,h6⟩:=h2 hp
      rw [g1] at h5
      cases h5
      refine ⟨b1,off.val,h6,fun j hj=>?_⟩
      rw [cell_of_row w _ _ _ T0 fz g3]
      exact cellsA_get _ _ _ _ (by omega)
     ·cases h
    ·cases h
   ·cases h
  ·cases h
 ·rename_i l ver es len'
  split at h
  ·rename_i hes
   subst hes
   obtain ⟨aa,n,c,h1,h2,h3,h4,h5,_⟩:=hy
   split at h
   ·rename_i v' k' es' len2 f hB
    split at h
    ·rename_i hh
     obtain ⟨rfl,rfl,rfl⟩:=hh
     cases h
     have hblk:=R.blks l
     rw [hB] at hblk
     obtain ⟨⟨e,hown⟩,hin⟩:=hblk
     have hn:n=len2.val:=by
      rw [h1] at hown
      rcases hown.2 with ⟨q1,q2⟩ | ⟨g,cap,cur,q1,_⟩
      ·cases q1;omega
      ·cases q1;rfl
     have hle:len.val*es'≤len2.val*es':=Nat.mul_le_mul_right _ (by omega)
     refine ⟨⟨aa,c,h2,fun hp=>?_,by omega,h5⟩,fun j hj=>hin j (by omega)⟩
     rw [h1] at hown
     rcases hown.2 with ⟨q1,q2⟩ | ⟨g',cap,cur,q1,q2,q3,q4,q5,q6,q7⟩
     ·omega
     ·cases q1
      refine ⟨g',0,rfl,fun j hj=>?_⟩
      rw [Nat.zero_add,cell_of_row w _ _ _ e (0,0) q3]
      exact row_cell q7 (by omega)
    ·cases h
   ·cases h
  ·cases h
 ·cases h
theorem append_h (hH:HEOK P H) (R:HRel w0 m as S a w) {o:Oper} {c:Go.Call} (ho:o.op=.call c) (hcal:c.callee=.builtin .append) {x y:Operand} {t e:TypeId} (hargs:c.args.toList=[x,y]) (htys:c.argTypes.toList=[t,t]) (hT:P.underlying t=some (.slice e))
  {X Y:HV} (hx:VRH w0 m X (a.eval x)) (hy:VRH w0 m Y (a.eval y)) {l:Nat} {cs:List Prop} {v:HV} {b:Option (Nat × HB)} (h:hAppend H e X Y l S.bl.length (getB S.bl)=some (cs,v,b)) (hc:∀ p ∈ cs,p):Does P o a w (HLed w0 as (aft S o v b)):=by
 have h1a:c.args=#[x,y]:=Array.toList_inj.1 (by simp [hargs])
 have h2a:c.argTypes=#[t,t]:=Array.toList_inj.1 (by simp [htys])
 have hex:∀ v' w',(Builtin.append_ #[t,t] o.type #[a.eval x,a.eval y]).run P w=.ok v' w'→(execOp a.eval o).run P w=.ok (.value v') w':=by
  intro v' w' hrun
  simp only [execOp,ho,Sem.run_bind,resolve,hcal,h1a,h2a,Sem.run_pure,Result.andThen_ok,invoke,builtin,List.map_toArray,List.map_cons,List.map_nil,hrun]
 unfold hAppend at h
 split at h
 ·rename_i k hke
  obtain ⟨inf,z,i1,i2,i3,i4,i5⟩:=elem_zero hH.ok hke
  split at h
  ·rename_i hcond
   obtain ⟨hsz,hbyp⟩:=hcond
   split at h
   ·rename_i cs1 len' g hsrc
    have key:∀ (hcs1:∀ p ∈ cs1,p) {vx:Value} {n:Nat} {xs:List Value} {e0:TypeId},a.eval x=vx→w.ownsRow w0.heap.size e0 (H.E.ty e).sz vx n xs→(n+len'.val)*(H.E.ty e).by_≤140737488355328 →
      ∃ v' w' e',(execOp a.eval o).run P w=.ok (.value v') w'∧w'.ownsRow w0.heap.size e' (H.E.ty e).sz v' (n+len'.val) (xs ++ lcells k (len'.val*(H.E.ty e).sz) g)∧w.grownBy w' vx.ownBlock∧(v'.ownBlock=vx.ownBlock∨∀ b,v'.ownBlock=some b→w.heap.size≤b)∧∀ j,j<len'.val*(H.E.ty e).sz→inR k (g j):=by
     intro hcs1 vx n xs e0 hv ho' hb
     obtain ⟨harg1,harg2⟩:=srcH_ok R hy hsrc hcs1
     obtain ⟨hlen,hfc⟩:=src_ok (P:=P) harg1
     rw [← i2] at ho' ⊢
     obtain ⟨v',w',e',r1,r2,r3,r4⟩:=app_run (P:=P) (w:=w) (ty:=o.type) hT i1 i3 (by rw [i4,i2];simp) (by rw [i5];exact hbyp) ho' R.below.size hlen (by rw [i2];exact hfc len'.val (Nat.le_refl _)) (by rw [length_lcells,i2]) (lcells_one _ _ _) (by rw [i5];exact hb)
     exact ⟨v',w',e',hex v' w' (by rw [hv];exact r1),by rw [← i2] at r2;exact r2,r3,r4,by rw [i2];exact harg2⟩
    split at h
    ·split at h
     ·rename_i hf
      cases h
      have hev:a.eval x=.slice none 0 0:=hx
      have hroom:=(hc (RoomFor len'.val (H.E.ty e).by_) (by simp)).h
      obtain ⟨v',w',e',r1,r2,r3,r4,r5⟩:=key (fun p hp=>hc p (by simp [hp])) (n:=0) (xs:=[]) (e0:=e) hev (World.ownsRow_nil w _ _ _) (by rw [Nat.zero_add];exact hroom)
      rw [Nat.zero_add,List.nil_append] at r2
      obtain ⟨f1,f2⟩:=fresh_ok hf
      refine newR_does R f2 (fun j _=>by rw [f1];trivial) (row:=none) r3 (by intro b e;cases e) r2 r5 ?_ r1
      intro b hb
      rcases r4 with h6 | h6
      ·rw [h6] at hb;cases hb
      ·exact .inr (h6 b hb)
     ·cases h
    ·rename_i bl ver es len
     obtain ⟨aa,n,cc,h1,h2,h3,h4,h5,_⟩:=hx
     split at h
     ·rename_i v' k' es' len2 f hB
      split at h
      ·rename_i hh
       obtain ⟨rfl,rfl,rfl,rfl⟩:=hh
       cases h
       have hblk:=R.blks bl
       rw [hB] at hblk
       obtain ⟨⟨e0,hown⟩,hin⟩:=hblk
       rw [h1] at hown
       have hn:len2.val=n:=by
        rcases hown.2 with ⟨q1,q2⟩ | ⟨g,cap,cur,q1,_⟩
        ·cases q1;omega
        ·cases q1;rfl
       rw [hn] at hown hin
       have ht:=own_trunc hown h3
       rw [take_lcells _ _ (Nat.mul_le_mul_right _ h3)] at ht
       have hroom:=(hc (RoomFor (len.add len').val (H.E.ty e).by_) (by simp)).h
       rw [add_val] at hroom
       obtain ⟨v2,w',e',r1,r2,r3,r4,r5⟩:=key (fun p hp=>hc p (by simp [hp])) h2 ht hroom
       rw [lcells_join,← Nat.add_mul,← add_val,← mul_val len] at r2
       have hcur:∀ b,aa.map (·.block)=some b→curb m bl (getB S.bl bl)=some b:=by
        intro b hb
        rw [hB]
        simp only [curb,h1]
        cases aa with
        | none=>cases hb
        | some q=>simpa [bn] using hb
       refine newR_does R (getB_lt (by rw [hB];simp)) (fun j hj=>by rw [hB];exact hj) r3 ?_ r2 ?_ ?_ r1
       ·intro b hb
        refine hcur b ?_
        cases aa with
        | none=>cases hb
        | some q=>simpa [Value.ownBlock] using hb
       ·intro j hj
        rw [add_val,Nat.add_mul] at hj
        simp only [joinF,mul_val]
        split
        ·rename_i hlt
         exact hin j (Nat.lt_of_lt_of_le hlt (Nat.mul_le_mul_right _ h3))
        ·exact r5 _ (by omega)
       ·intro b hb
        rcases r4 with h6 | h6
        ·rw [h6] at hb
         refine .inl (hcur b ?_)
         cases aa with
         | none=>cases hb
         | some q=>simpa [Value.ownBlock] using hb
        ·exact .inr (h6 b hb)
      ·cases h
     ·cases h
    ·cases h
   ·cases h
  ·cases h
 ·cases h
end
end Sy

namespace Sy
open Go Go.RowKit Sx
section
variable {P:Program} {H:HE} {w0:World} {m:LM} {as:List (Array Value)} {S:HS} {a:Act} {w:World}
theorem fieldAddr_h (hH:HEOK P H) (R:HRel w0 m as S a w) {o:Oper} {T:TypeId} {x:Operand} {fi:Nat} (ho:o.op=.fieldAddr T x fi) {X:HV} (hx:VRH w0 m X (a.eval x)) {cs:List Prop} {v:HV} {b:Option (Nat × HB)}
  (h:hFieldAddr H T X fi=some (cs,v,b)):Does P o a w (HLed w0 as (aft S o v b)):=by
 have hP:=hH.ok
 have fin:∀ (fields:Array Field) (f:Field) (inf:TypeInfo) (bk off oo:Nat),P.underlying T=some (.struct fields)→fields[fi]?=some f→f.offset=oo→P.info? f.type=some inf→inf.size≠0→a.eval x=.pointer (some ⟨bk,off,none⟩)→VRH w0 m v (.pointer (some ⟨bk,off+oo,none⟩))→b=none →
   Does P o a w (HLed w0 as (aft S o v b)):=by
  intro fields f inf bk off oo hT hf1 hf2 hinf hz he hv hb
  subst hb
  refine hval R ?_ hv
  simp only [execOp,ho,he,Instr.fieldAt,Sem.run_bind,run_underlying hT,Result.andThen_ok,hf1,sure,fieldPlace,run_size hinf,Sem.run_ite,if_neg hz,Sem.run_pure,addr_add,hf2]
 unfold hFieldAddr at h
 split at h
 ·rename_i fs hd
  obtain ⟨fields,hT,hfs⟩:=struct_ty hP hd
  split at h
  ·rename_i oo ft hf
   obtain ⟨f,hf1,hf2,hf3⟩:=fields_get hfs hf
   split at h
   ·cases h
   ·rename_i hz
    have hz1:(H.E.ty ft).sz≠0:=fun e=>hz (.inl e)
    have hz2:sized H.E ft=true:=by
     cases hh:sized H.E ft
     ·exact absurd (.inr (by simp [hh])) hz
     ·rfl
    obtain ⟨inf,hinf,hsz⟩:=sized_info hP hz2
    split at h
    ·cases h
     obtain ⟨b0,h1,h2⟩:=hx
     exact fin _ f inf _ _ oo hT hf1 hf2 (by rw [hf3];exact hinf) (by rw [hsz];exact hz1) h2 ⟨b0,h1,by simp only [add_val,lit_val]⟩ rfl
    ·cases h
     exact fin _ f inf _ _ oo hT hf1 hf2 (by rw [hf3];exact hinf) (by rw [hsz];exact hz1) hx (by simp only [VRH,AR,add_val,lit_val]) rfl
    ·cases h
  ·cases h
 ·rename_i fs hd
  have ht:=hP.ty T
  unfold TyOK at ht
  rw [hd] at ht
  obtain ⟨fields,t1,t2,t3,t5⟩:=ht
  split at h
  ·rename_i oo ft hf
   obtain ⟨f,hf1,hf2,hf3⟩:=fields_get t2 hf
   obtain ⟨inf,i1,i2⟩:=t5 _ (List.mem_of_getElem? hf)
   split at h
   ·cases h
    obtain ⟨b0,h1,h2⟩:=hx
    exact fin _ f inf _ _ oo t1 hf1 hf2 (by rw [hf3];exact i1) i2 h2 ⟨b0,h1,by simp only [add_val,lit_val]⟩ rfl
   ·cases h
  ·cases h
 ·cases h
theorem ls_addr {l ver es:Nat} {len:SO} {u:Value} (hx:VRH w0 m (.at (.ls l ver es len)) u) (hp:0<len.val):∃ b c,bn (m l ver)=some b∧u=.slice (some ⟨b,0,none⟩) len.val c∧len.val≤c∧c≤capMax:=by
 obtain ⟨aa,n,c,h1,h2,h3,h4,h5,h6,h7⟩:=hx
 cases aa with
 | none=>have:=h7 rfl;omega
 | some q =>
  have hq:=h6 q rfl
  refine ⟨q.block,c,by rw [h1];rfl,?_,by omega,h5⟩
  rw [h2,← hq]
theorem within_nat {iv:SI} {n:SO} {cs:List Prop} (hP:EnvOK P H.E) (h:within iv n=some cs) (hc:∀ p ∈ cs,p):0≤iv.val∧iv.val<(n.val:Int)∧(iv.off H.E.A).val=iv.val.toNat∧(iv.off H.E.A).val<n.val:=by
 obtain ⟨h0,h1⟩:=within_ok h hc
 have:=off_val hP iv
 exact ⟨h0,h1,this,by omega⟩
theorem indexAddr_h (hH:HEOK P H) (R:HRel w0 m as S a w) {o:Oper} {T:TypeId} {x i:Operand} (ho:o.op=.indexAddr T x i) {X I:HV} (hx:VRH w0 m X (a.eval x)) (hi:VRH w0 m I (a.eval i)) {cs:List Prop} {v:HV} {b:Option (Nat × HB)}
  (h:hIndexAddr H T X I=some (cs,v,b)) (hc:∀ p ∈ cs,p):Does P o a w (HLed w0 as (aft S o v b)):=by
 have hP:=hH.ok
 unfold hIndexAddr at h
 split at h
 ·rename_i ki iv
  have hvi:a.eval i=.int ki iv.val:=hi.1
  split at h
  ·rename_i n e hd
   have hT:P.underlying T=some (.array n e):=by have:=hP.ty T;unfold TyOK at this;rw [hd] at this;exact this.1
   split at h
   ·rename_i z hz
    obtain ⟨inf,hinf,hsz⟩:=hH.sz e z hz
    split at h
    ·rename_i cs1 hw1
     split at h
     ·rename_i l ver off
      cases h
      obtain ⟨h0,h1,h2,_⟩:=within_nat hP hw1 hc
      obtain ⟨b0,g1,g2⟩:=hx
      refine hval R (u:=.pointer (some ⟨b0,off.val+iv.val.toNat * z,none⟩)) ?_ ⟨b0,g1,by simp only [add_val,mul_val,h2]⟩
      simp only [execOp,ho,g2,hvi,Sem.run_bind,indexAt_arr hT hinf h0 h1,Result.andThen_ok,Sem.run_pure,hsz]
     ·rename_i g off
      cases h
      obtain ⟨h0,h1,h2,_⟩:=within_nat hP hw1 hc
      have hx:a.eval x=.pointer (some ⟨g,off.val,none⟩):=hx
      refine hval R (u:=.pointer (some ⟨g,off.val+iv.val.toNat * z,none⟩)) ?_ (by simp only [VRH,AR,add_val,mul_val,h2])
      simp only [execOp,ho,hx,hvi,Sem.run_bind,indexAt_arr hT hinf h0 h1,Result.andThen_ok,Sem.run_pure,hsz]
     ·cases h
    ·cases h
   ·cases h
  ·rename_i e hd
   have hT:=slice_ty hP hd
   split at h
   ·rename_i z hz
    obtain ⟨inf,hinf,hsz⟩:=hH.sz e z hz
    have fin:∀ (bk off len cap:Nat),a.eval x=.slice (some ⟨bk,off,none⟩) len cap→0≤iv.val→iv.val<(len:Int)→VRH w0 m v (.pointer (some ⟨bk,off+iv.val.toNat * z,none⟩))→b=none→Does P o a w (HLed w0 as (aft S o v b)):=by
     intro bk off len cap he h0 h1 hV hb
     subst hb
     refine hval R ?_ hV
     simp only [execOp,ho,he,hvi,Sem.run_bind,indexAt_slice hT hinf h0 h1,Result.andThen_ok,Sem.run_pure,hsz]
    split at h
    ·rename_i l ver es off len
     split at h
     ·rename_i hes
      split at h
      ·rename_i cs1 hw1
       cases h
       obtain ⟨h0,h1,h2,h3⟩:=within_nat hP hw1 hc
       obtain ⟨aa,c,g1,g2,_⟩:=hx
       obtain ⟨b0,g3,g4⟩:=g2 (by omega)
       subst g4
       exact fin _ _ _ _ g1 h0 h1 ⟨b0,g3,by simp only [add_val,mul_val,h2]⟩ rfl
      ·cases h
     ·cases h
    ·rename_i l ver es len
     split at h
     ·rename_i hes
      split at h
      ·rename_i cs1 hw1
       cases h
       obtain ⟨h0,h1,h2,h3⟩:=within_nat hP hw1 hc
       obtain ⟨b0,c,g1,g2,_⟩:=ls_addr hx (by omega)
       exact fin _ _ _ _ g2 h0 h1 ⟨b0,g1,by simp only [mul_val,h2,Nat.zero_add]⟩ rfl
      ·cases h
     ·cases h
    ·rename_i g es off len
     split at h
     ·rename_i hes
      split at h
      ·rename_i cs1 hw1
       cases h
       obtain ⟨h0,h1,h2,h3⟩:=within_nat hP hw1 hc
       obtain ⟨aa,c,g1,g2,_⟩:=hx
       have g4:=g2 (by omega)
       subst g4
       exact fin _ _ _ _ g1 h0 h1 (by simp only [VRH,AR,add_val,mul_val,h2]) rfl
      ·cases h
     ·cases h
    ·rename_i k es len f
     split at h
     ·rename_i hes
      subst hes
      split at h
      ·rename_i cs1 hw1
       cases h
       obtain ⟨h0,h1,h2,h3⟩:=within_nat hP hw1 hc
       obtain ⟨aa,c,g1,g2,g3,g4,g5⟩:=hx
       obtain ⟨b0,o0,g6,g7⟩:=g2 (by omega)
       subst g6
       refine fin _ _ _ _ g1 h0 h1 ⟨b0,_,rfl,fun j hj=>?_⟩ rfl
       have hj:j<es:=hj
       simp only [mul_val,h2]
       have hlt:iv.val.toNat * es+j<len.val*es:=by
        have:(iv.val.toNat+1)*es≤len.val*es:=Nat.mul_le_mul_right _ (by omega)
        rw [Nat.succ_mul] at this
        omega
       refine ⟨?_,g5 _ hlt⟩
       rw [Nat.add_assoc]
       exact g7 _ hlt
      ·cases h
     ·cases h
    ·cases h
   ·cases h
  ·cases h
 ·cases h
theorem index_h (hH:HEOK P H) (R:HRel w0 m as S a w) {o:Oper} {T:TypeId} {x i:Operand} (ho:o.op=.index T x i) {X I:HV} (hx:VRH w0 m X (a.eval x)) (hi:VRH w0 m I (a.eval i)) {cs:List Prop} {v:HV} {b:Option (Nat × HB)}
  (h:hIndex H T X I=some (cs,v,b)) (hc:∀ p ∈ cs,p):Does P o a w (HLed w0 as (aft S o v b)):=by
 have hP:=hH.ok
 unfold hIndex at h
 split at h
 ·rename_i n e k mm f ki iv hd
  have hT:P.underlying T=some (.array n e):=by have:=hP.ty T;unfold TyOK at this;rw [hd] at this;exact this.1
  obtain ⟨hv1,_,hwf⟩:=hx
  obtain ⟨hv2,_⟩:=hi
  split at h
  ·rename_i hse
   obtain ⟨inf,hinf,hsz⟩:=sized_info hP hse
   split at h
   ·rename_i cs1 cs2 r hw1 hsub
    cases h
    obtain ⟨h0,h1⟩:=within_ok hw1 (fun p hp=>hc p (List.mem_append_left _ hp))
    obtain ⟨p1,p2,p3⟩:=part_ok hP hsub (fun p hp=>hc p (List.mem_append_right _ hp)) rfl hwf w
    refine hval R (u:=pv r) ?_ ⟨rfl,p2,p3⟩
    have hv':a.eval x=.agg (cellsA k mm f):=hv1
    have hvi':a.eval i=.int ki iv.val:=hv2
    simp only [mul_val,off_val hP] at p1
    simp only [SO.val] at h1
    simp only [execOp,ho,hv',hvi',Sem.run_bind,Instr.index,asInt_run,run_underlying hT,Result.andThen_ok,Sem.run_ite,run_size hinf,hsz,p1,Sem.run_pure]
    rw [if_pos ⟨h0,h1⟩]
    rfl
   ·cases h
  ·cases h
 ·cases h
theorem arr_h (hH:HEOK P H) (R:HRel w0 m as S a w) {o:Oper} {T:TypeId} {x:Operand} (ho:o.op=.sliceToArrayPointer T x) {X:HV} (hx:VRH w0 m X (a.eval x)) {cs:List Prop} {v:HV} {b:Option (Nat × HB)}
  (h:hArr H T X=some (cs,v,b)) (hc:∀ p ∈ cs,p):Does P o a w (HLed w0 as (aft S o v b)):=by
 have hP:=hH.ok
 unfold hArr at h
 split at h
 ·rename_i n e hd
  have hT:P.underlying T=some (.array n e):=by have:=hP.ty T;unfold TyOK at this;rw [hd] at this;exact this.1
  have fin:∀ (ad:Addr) (len cap:Nat),a.eval x=.slice (some ad) len cap→n≤len→VRH w0 m v (.pointer (some ad))→b=none→Does P o a w (HLed w0 as (aft S o v b)):=by
   intro ad len cap he hle hV hb
   subst hb
   refine hval R ?_ hV
   simp only [execOp,ho,he,Instr.arrayAt,Sem.run_bind,run_underlying hT,Result.andThen_ok]
   simp [Nat.not_lt.2 hle]
  split at h
  ·rename_i l ver es off len
   split at h
   ·rename_i hn0
    split at h
    ·rename_i cs1 hw
     cases h
     have hle:n≤len.val:=leq_ok hw hc
     obtain ⟨aa,c,g1,g2,_⟩:=hx
     obtain ⟨b0,g3,g4⟩:=g2 (by omega)
     subst g4
     exact fin _ _ _ g1 hle ⟨b0,g3,rfl⟩ rfl
    ·cases h
   ·cases h
  ·rename_i l ver es len
   split at h
   ·rename_i hn0
    split at h
    ·rename_i cs1 hw
     cases h
     have hle:n≤len.val:=leq_ok hw hc
     obtain ⟨b0,c,g1,g2,_⟩:=ls_addr hx (by omega)
     exact fin _ _ _ g2 hle ⟨b0,g1,rfl⟩ rfl
    ·cases h
   ·cases h
  ·cases h
 ·cases h
theorem bin_h (hH:HEOK P H) (R:HRel w0 m as S a w) {o:Oper} {op:BinOp} {T t2:TypeId} {x y:Operand} (ho:o.op=.binOp op T x y t2) {X Y:HV} (hx:VRH w0 m X (a.eval x)) (hy:VRH w0 m Y (a.eval y)) {cs:List Prop} {v:HV} {b:Option (Nat × HB)}
  (h:hBin H op T X Y=some (cs,v,b)) (hc:∀ p ∈ cs,p):Does P o a w (HLed w0 as (aft S o v b)):=by
 have hP:=hH.ok
 unfold hBin at h
 split at h
 ·rename_i x' y'
  split at h
  ·rename_i cs' r hb
   cases h
   obtain ⟨x1,x2,x3⟩:=hx
   obtain ⟨y1,y2,y3⟩:=hy
   obtain ⟨e1,e2,e3,e4⟩:=binEff_ok hP hb hc (m:=fun _=>(0,0)) (i:=0) (j:=0) (x1 ▸ VR_pv x2) (y1 ▸ VR_pv y2) (wfP_wfV x2 x3) w x y
   refine hval R (u:=pv r) ?_ ⟨rfl,e3,e4⟩
   simp only [execOp,ho,Sem.run_bind,e1,e2,Result.andThen_ok,Sem.run_pure]
  ·cases h
 ·rename_i l ver off
  obtain ⟨b0,h1,h2⟩:=hx
  have hy1:a.eval y=.pointer none:=hy.1
  split at h
  ·split at h
   ·rename_i hpt
    cases h
    obtain ⟨e,hT⟩:=hH.pt T hpt
    refine hval R (u:=.bool false) ?_ ⟨rfl,rfl,trivial⟩
    have he:(Op.equal T (.pointer (some ⟨b0,off.val,none⟩)) (.pointer none)).run P w=.ok false w:=by
     have key:∀ d:Nat,(Op.equalIn (d+1) T (.pointer (some ⟨b0,off.val,none⟩)) (.pointer none)).run P w=.ok false w:=by
      intro d
      unfold Op.equalIn
      rw [Sem.run_bind,run_underlying hT]
      rfl
     exact key 9999
    simp only [execOp,ho,h2,hy1,Sem.run_bind,eqGuard,binOp]
    simp [he]
   ·cases h
  ·cases h
 ·cases h
theorem un_h (hH:HEOK P H) (R:HRel w0 m as S a w) {o:Oper} {op:UnOp} {t:TypeId} {x:Operand} (ho:o.op=.unOp op t x) {X:HV} (hx:VRH w0 m X (a.eval x)) {cs:List Prop} {v:HV} {b:Option (Nat × HB)}
  (h:hUn H op X=some (cs,v,b)):Does P o a w (HLed w0 as (aft S o v b)):=by
 have hP:=hH.ok
 unfold hUn at h
 split at h
 ·rename_i k n
  cases h
  have hv':a.eval x=.int k n.val:=hx.1
  refine hval R (u:=.int k (realUn .neg k n.val)) ?_ ⟨?_,rfl,?_⟩
  ·simp only [execOp,ho,hv',Op.unary,Op.intArith,Sem.run_bind,Result.andThen_ok,Sem.run_pure,realUn]
  ·cases n <;> simp [pv,SI.un,SI.val,hP.A,realOps]
  ·show inR _ _
   cases n <;> simp only [SI.un,SI.val,hP.A,realOps,realUn] <;> exact wrap_in _ _
 ·rename_i k n
  cases h
  have hv':a.eval x=.int k n.val:=hx.1
  refine hval R (u:=.int k (realUn .xor k n.val)) ?_ ⟨?_,rfl,?_⟩
  ·simp only [execOp,ho,hv',Op.unary,Op.intBits,Sem.run_bind,Result.andThen_ok,Sem.run_pure,realUn]
  ·cases n <;> simp [pv,SI.un,SI.val,hP.A,realOps]
  ·show inR _ _
   cases n <;> simp only [SI.un,SI.val,hP.A,realOps,realUn] <;> exact wrap_in _ _
 ·rename_i c
  cases h
  have hv':a.eval x=.bool c.val:=hx.1
  refine hval R (u:=.bool (!c.val)) ?_ ⟨?_,rfl,trivial⟩
  ·simp only [execOp,ho,hv',Op.unary,Sem.run_bind,Result.andThen_ok,Sem.run_pure]
  ·cases c <;> rfl
 ·cases h
theorem convert_h (hH:HEOK P H) (R:HRel w0 m as S a w) {o:Oper} {s d:TypeId} {x:Operand} (ho:o.op=.convert s d x) {X:HV} (hx:VRH w0 m X (a.eval x)) {cs:List Prop} {v:HV} {b:Option (Nat × HB)}
  (h:hConvert H s d X (getB S.bl)=some (cs,v,b)):Does P o a w (HLed w0 as (aft S o v b)):=by
 have hP:=hH.ok
 unfold hConvert at h
 split at h
 ·rename_i ks kd kx n hs hd
  cases h
  have hv':a.eval x=.int kx n.val:=hx.1
  refine hval R (u:=.int kd (kd.wrap n.val)) ?_ ⟨?_,rfl,?_⟩
  ·simp only [execOp,ho,hv',convert,Sem.run_bind,run_underlying (int_ty hP hs),run_underlying (int_ty hP hd),Result.andThen_ok,Conv.intToInt,Sem.run_pure]
  ·cases n <;> simp [pv,SI.cnv,SI.val,hP.A,realOps]
  ·show inR _ _
   cases n <;> simp only [SI.cnv,SI.val,hP.A,realOps] <;> exact wrap_in _ _
 ·rename_i e0 e l ver es off n hs hd
  split at h
  ·rename_i k N f hB
   split at h
   ·rename_i hh
    obtain ⟨rfl,rfl,hu⟩:=hh
    cases h
    have hee:=hs.symm.trans hd
    cases hee
    obtain ⟨aa,cc,h1,h2,h3,h4⟩:=hx
    obtain ⟨b1,g1,g2⟩:=h2 (Nat.succ_pos n)
    subst g2
    have hblk:=R.blks l
    rw [hB] at hblk
    obtain ⟨b2,c0,T0,q1,q2,q3,q4⟩:=hblk
    have hbb:b2=b1:=by rw [q1] at g1;cases g1;rfl
    subst hbb
    have hu8:P.underlying e0=some (.int .u8):=by
     unfold isU8 at hu
     split at hu
     ·rename_i he;exact int_ty hP he
     ·cases hu
    have hsh:∃ q,w.shape? b2=some q:=by
     unfold World.shape?
     simp [q3]
    obtain ⟨q,hq⟩:=hsh
    have hrun:(execOp a.eval o).run P w=.ok (.value (a.eval x)) (w.freeze ⟨b2,q.2,none⟩ 1):=by
     simp only [execOp,ho,h1,convert,Sem.run_bind,run_underlying (slice_ty hP hs),Result.andThen_ok]
     simp [run_underlying hu8,markStringish,hq]
    refine does_value hrun ⟨m,(R.setF hB q1).put o.dst ?_⟩
    exact ⟨some ⟨b2,off.val,none⟩,cc,h1,fun _=>⟨b2,g1,rfl⟩,h3,h4⟩
   ·cases h
  ·cases h
 ·cases h
theorem All2_at {α β:Type} {r:α→β→Prop}:∀ {xs:List α} {ys:List β},All2 r xs ys→∀ (i:Nat) (x:α),xs[i]?=some x→∃ y,ys[i]?=some y∧r x y
 | [],[],_,i,x,h=>by simp at h
 | x :: xs,y :: ys,⟨h1,h2⟩,0,x',h=>by simp at h;subst h;exact ⟨y,rfl,h1⟩
 | x :: xs,y :: ys,⟨h1,h2⟩,i+1,x',h=>All2_at h2 i x' h
 | [],_ :: _,h,_,_,_=>h.elim
 | _ :: _,[],h,_,_,_=>h.elim
theorem extract_h (R:HRel w0 m as S a w) {o:Oper} {x:Operand} {i:Nat} (ho:o.op=.extract x i) {ps:List HA} (hx:VRH w0 m (.tup ps) (a.eval x)) {p:HA} (hp:ps[i]?=some p):Does P o a w (HLed w0 as (aft S o (.at p) none)):=by
 obtain ⟨vs,h1,h2⟩:=hx
 obtain ⟨u,h3,h4⟩:=All2_at h2 i p hp
 refine hval R (u:=u) ?_ h4
 simp only [execOp,ho,h1,Instr.extract,Sem.run_bind]
 have:vs[i]?=some u:=by rw [← h3,Array.getElem?_toList]
 rw [this]
 rfl
theorem hBound_ok {lo:Option Operand} {vs vs':List HV} {l:Option SI} {us:List Value} (h:hBound lo vs=some (l,vs')) (hv:All2 (VRH w0 m) vs (lo.toList.map a.eval ++ us)):BR l (lo.map a.eval)∧All2 (VRH w0 m) vs' us:=by
 cases lo with
 | none=>simp only [hBound] at h;cases h;exact ⟨rfl,hv⟩
 | some y =>
  cases vs with
  | nil=>simp [hBound] at h
  | cons v vs =>
   simp only [Option.toList_some,List.map_cons,List.map_nil,List.singleton_append] at hv
   obtain ⟨h1,h2⟩:=hv
   unfold hBound at h
   split at h
   ·rename_i heq;cases heq
   ·rename_i k n vs2 _ h0
    cases h0
    cases h
    exact ⟨⟨k,by simp only [Option.map_some];rw [h1.1];rfl⟩,h2⟩
   ·cases h
theorem bounds_le (hP:EnvOK P H.E) {l hh:Option SI} {n:SO} {N:Nat} (hn:n.val=N) (ch:∀ i,hh=some i→0≤i.val∧i.val≤(n.val:Int)) (cl:∀ i,l=some i→0≤i.val∧i.val≤((orElse H.E hh n).val:Int)) :
  (orElse H.E hh n).val≤N∧(orElse H.E l (.lit 0)).val≤(orElse H.E hh n).val:=by
 constructor
 ·cases hh with
  | none=>simp only [orElse];omega
  | some j=>have:=ch j rfl;simp only [orElse,off_val hP];omega
 ·cases l with
  | none=>simp [orElse,SO.val]
  | some j=>have:=cl j rfl;simp only [orElse,off_val hP];simp only [orElse] at this;omega
theorem orElse_some {E:Env} (i:SI) (n:SO):orElse E (some i) n=i.off E.A:=rfl
theorem orElse_none {E:Env} (n:SO):orElse E none n=n:=rfl
theorem sl_eq {A:Option Addr} {n C L:Nat} (h:L=n):Value.slice A n C=Value.slice A L C:=by rw [h]
theorem slice_h (hH:HEOK P H) (R:HRel w0 m as S a w) {o:Oper} {T:TypeId} {x:Operand} {lo hi mx:Option Operand} (ho:o.op=.slice T x lo hi mx) {vs:List HV} (hvs:All2 (VRH w0 m) vs (a.eval x :: (lo.toList.map a.eval ++ (hi.toList.map a.eval ++ mx.toList.map a.eval)))) {cs:List Prop} {v:HV} {b:Option (Nat × HB)}
  (h:hSlice H T lo hi mx vs=some (cs,v,b)) (hc:∀ p ∈ cs,p):Does P o a w (HLed w0 as (aft S o v b)):=by
 have hP:=hH.ok
 unfold hSlice at h
 split at h
 ·rename_i X vs1
  obtain ⟨hx,hvs⟩:=hvs
  split at h
  ·rename_i l vs2 hl
   obtain ⟨el,hvs⟩:=hBound_ok hl hvs
   split at h
   ·rename_i hh hhh
    obtain ⟨eh,_⟩:=hBound_ok hhh hvs
    split at h
    ·rename_i n e hd
     have hT:P.underlying T=some (.array n e):=by have:=hP.ty T;unfold TyOK at this;rw [hd] at this;exact this.1
     split at h
     ·rename_i z hz
      obtain ⟨inf,hinf,hsz⟩:=hH.sz e z hz
      split at h
      ·rename_i hcap
       split at h
       ·rename_i c1 c2 hu1 hu2
        have fin:∀ (bk off:Nat) ,a.eval x=.pointer (some ⟨bk,off,none⟩)→(∀ p ∈ c1 ++ c2,p)→b=none→(∀ c,((orElse H.E hh (.lit n)).val - (orElse H.E l (.lit 0)).val≤c)→c≤capMax→∀ aa,(0<(orElse H.E hh (.lit n)).val - (orElse H.E l (.lit 0)).val→aa=some ⟨bk,off+(orElse H.E l (.lit 0)).val*z,none⟩) →
          VRH w0 m v (.slice aa ((orElse H.E hh (.lit n)).val - (orElse H.E l (.lit 0)).val) c))→Does P o a w (HLed w0 as (aft S o v b)):=by
         intro bk off he hcc hb hV
         subst hb
         have ch:=upto?_ok hu1 (fun p hp=>hcc p (List.mem_append_left _ hp))
         have cl:=upto?_ok hu2 (fun p hp=>hcc p (List.mem_append_right _ hp))
         have hb:=bounds_run (P:=P) hP false n n l hh (lo.map a.eval) (hi.map a.eval) el eh (.lit n) rfl ch cl w
         obtain ⟨hle2,hle1⟩:=bounds_le hP (N:=n) rfl ch cl
         refine hval R (u:=.slice (some (if n=(orElse H.E l (.lit 0)).val then ⟨bk,off,none⟩ else ⟨bk,off+(orElse H.E l (.lit 0)).val*z,none⟩)) ((orElse H.E hh (.lit n)).val - (orElse H.E l (.lit 0)).val) (n - (orElse H.E l (.lit 0)).val)) ?_ (hV _ (by omega) (by omega) _ (fun hp=>by rw [if_neg (by omega)]))
         simp only [execOp,ho,he,Instr.sliceAt,Sem.run_bind,run_underlying hT,Result.andThen_ok,sure,Option.map_none,hb,run_size hinf,hsz,Sem.run_pure,addr_add]
        split at h
        ·rename_i bl ver off
         cases h
         obtain ⟨b0,g1,g2⟩:=hx
         exact fin _ _ g2 hc rfl (fun c q1 q2 aa q3=>⟨aa,c,by simp only [sub_val],fun hp=>⟨b0,g1,by simp only [sub_val] at hp;rw [q3 hp];simp only [add_val,mul_val]⟩,by simp only [sub_val];exact q1,q2⟩)
        ·rename_i g off
         cases h
         exact fin _ _ hx hc rfl (fun c q1 q2 aa q3=>⟨aa,c,by simp only [sub_val],fun hp=>by simp only [sub_val] at hp;rw [q3 hp];simp only [add_val,mul_val],by simp only [sub_val];exact q1,q2⟩)
        ·cases h
       ·cases h
      ·cases h
     ·cases h
    ·rename_i e hd
     have hT:=slice_ty hP hd
     split at h
     ·rename_i z hz
      obtain ⟨inf,hinf,hsz⟩:=hH.sz e z hz
      have fin:∀ (len:SO) (aa:Option Addr) (cc:Nat) (c1 c2:List Prop),upto? hh len=some c1→upto? l (orElse H.E hh len)=some c2→(∀ p ∈ c1 ++ c2,p)→a.eval x=.slice aa len.val cc→len.val≤cc→b=none →
        ((orElse H.E hh len).val≤len.val→(orElse H.E l (.lit 0)).val≤(orElse H.E hh len).val→VRH w0 m v (.slice (if cc=(orElse H.E l (.lit 0)).val then aa else aa.map (·.add ((orElse H.E l (.lit 0)).val*z))) ((orElse H.E hh len).val - (orElse H.E l (.lit 0)).val) (cc - (orElse H.E l (.lit 0)).val)))→Does P o a w (HLed w0 as (aft S o v b)):=by
       intro len aa cc c1 c2 hu1 hu2 hcc he hle hb hV
       subst hb
       have ch:=upto?_ok hu1 (fun p hp=>hcc p (List.mem_append_left _ hp))
       have cl:=upto?_ok hu2 (fun p hp=>hcc p (List.mem_append_right _ hp))
       have hb:=bounds_run (P:=P) hP true len.val cc l hh (lo.map a.eval) (hi.map a.eval) el eh len rfl (fun i hi=>by have:=ch i hi;omega) cl w
       obtain ⟨hle2,hle1⟩:=bounds_le hP (N:=len.val) rfl ch cl
       refine hval R ?_ (hV hle2 hle1)
       simp only [execOp,ho,he,Instr.sliceAt,Instr.slice,Sem.run_bind,run_underlying hT,Result.andThen_ok,Option.map_none,hb,run_size hinf,hsz,Sem.run_pure]
      split at h
      ·rename_i bl ver es off len
       split at h
       ·rename_i hes
        subst hes
        split at h
        ·rename_i c1 c2 hu1 hu2
         cases h
         obtain ⟨aa,cc,g1,g2,g3,g4⟩:=hx
         refine fin len aa cc c1 c2 hu1 hu2 hc g1 g3 rfl (fun q1 q2=>⟨_,_,sl_eq (by simp only [sub_val]),fun hp=>?_,by simp only [sub_val];omega,by omega⟩)
         simp only [sub_val] at hp
         obtain ⟨b0,g5,g6⟩:=g2 (by omega)
         refine ⟨b0,g5,?_⟩
         rw [if_neg (by omega),g6]
         simp only [Option.map_some,addr_add,add_val,mul_val]
        ·cases h
       ·cases h
      ·rename_i bl ver es len
       split at h
       ·rename_i hes
        subst hes
        split at h
        ·rename_i c1 c2 hu1 hu2
         obtain ⟨aa,nn,cc,g0,g1,g2,g3,g4,g5,g6⟩:=id hx
         split at h
         ·cases h
          refine fin len aa cc c1 c2 hu1 hu2 hc g1 (by omega) rfl (fun q1 q2=>⟨aa,nn,cc,g0,?_,by omega,g3,g4,g5,g6⟩)
          simp only [orElse_none,lit_val,Nat.sub_zero,Nat.zero_mul]
          congr 1
          split
          ·rfl
          ·cases aa with
           | none=>rfl
           | some q=>rw [g5 q rfl,Option.map_some,addr_add]
         ·rename_i l'
          cases h
          refine fin len aa cc c1 c2 hu1 hu2 hc g1 (by omega) rfl (fun q1 q2=>⟨_,_,sl_eq (by simp only [sub_val];rfl),fun hp=>?_,by simp only [sub_val];simp only [orElse_some] at q2 ⊢;omega,by simp only [orElse_some];omega⟩)
          simp only [sub_val] at hp
          have e0:(orElse H.E (some l') (.lit 0)).val=(l'.off H.E.A).val:=rfl
          obtain ⟨b0,c0,g7,g8,_⟩:=ls_addr hx (by omega)
          rw [g1] at g8
          cases g8
          refine ⟨b0,g7,?_⟩
          rw [if_neg (by omega)]
          simp only [e0,Option.map_some,addr_add,mul_val,Nat.zero_add]
        ·cases h
       ·cases h
      ·rename_i k es len f
       split at h
       ·rename_i hes
        subst hes
        split at h
        ·rename_i c1 c2 hu1 hu2
         obtain ⟨aa,cc,g1,g2,g3,g4,g5⟩:=hx
         split at h
         ·cases h
          refine fin len aa cc c1 c2 hu1 hu2 hc g1 (by omega) rfl (fun q1 q2=>⟨_,_,sl_eq (by simp only [orElse_none,lit_val,Nat.sub_zero]),fun hp=>?_,by simp only [orElse_none,lit_val];omega,by omega,fun j hj=>g5 j (Nat.lt_of_lt_of_le hj (Nat.mul_le_mul_right _ q1))⟩)
          obtain ⟨b0,o0,g6,g7⟩:=g2 (by omega)
          subst g6
          refine ⟨b0,o0,?_,fun j hj=>g7 j (Nat.lt_of_lt_of_le hj (Nat.mul_le_mul_right _ q1))⟩
          split
          ·rfl
          ·simp only [orElse_none,lit_val,Nat.zero_mul,Option.map_some,addr_add,Nat.add_zero]
         ·rename_i l'
          cases h
          have hin:∀ (q1:(orElse H.E hh len).val≤len.val) (q2:(l'.off H.E.A).val≤(orElse H.E hh len).val) (j:Nat),j<((orElse H.E hh len).sub (l'.off H.E.A)).val*es→((l'.off H.E.A).mul es).val+j<len.val*es:=by
           intro q1 q2 j hj
           simp only [sub_val,mul_val] at hj ⊢
           have:((orElse H.E hh len).val - (l'.off H.E.A).val+(l'.off H.E.A).val)*es≤len.val*es:=Nat.mul_le_mul_right _ (by omega)
           rw [Nat.add_mul] at this
           omega
          refine fin len aa cc c1 c2 hu1 hu2 hc g1 (by omega) rfl (fun q1 q2=>⟨_,_,sl_eq (by simp only [sub_val];rfl),fun hp=>?_,by simp only [sub_val];simp only [orElse_some] at q2 ⊢;omega,by simp only [orElse_some];omega,fun j hj=>g5 _ (hin q1 q2 j hj)⟩)
          have hp2:=hp
          simp only [sub_val] at hp2
          have e0:(orElse H.E (some l') (.lit 0)).val=(l'.off H.E.A).val:=rfl
          obtain ⟨b0,o0,g6,g7⟩:=g2 (by omega)
          subst g6
          refine ⟨b0,o0+(l'.off H.E.A).val*es,?_,fun j hj=>?_⟩
          ·rw [if_neg (by omega)]
           simp only [e0,Option.map_some,addr_add]
          ·have:=g7 _ (hin q1 q2 j hj)
           simp only [mul_val] at this ⊢
           rw [Nat.add_assoc]
           exact this
        ·cases h
       ·cases h
      ·cases h
     ·cases h
    ·cases h
   ·cases h
  ·cases h
 ·cases h
end
end Sy

namespace Sy
open Go Go.RowKit Sx
section
variable {P:Program} {H:HE} {w0:World} {m:LM} {as:List (Array Value)} {S:HS} {a:Act} {w:World}
theorem len_h (R:HRel w0 m as S a w) {o:Oper} {c:Go.Call} (ho:o.op=.call c) (hcal:c.callee=.builtin .len) {x:Operand} {t e:TypeId} (hargs:c.args.toList=[x]) (htys:c.argTypes.toList=[t]) (hT:P.underlying t=some (.slice e))
  {X:HV} (hx:VRH w0 m X (a.eval x)) {n:SI} (h:hLen X=some n):Does P o a w (HLed w0 as (aft S o (.at (.pl (.int .i64 n))) none)):=by
 have fin:∀ (aa:Option Addr) (l cp:Nat),a.eval x=.slice aa l cp→l≤9223372036854775807→n.val=(l:Int)→Does P o a w (HLed w0 as (aft S o (.at (.pl (.int .i64 n))) none)):=by
  intro aa l cp hev hle hn
  refine hval R (u:=.int .i64 l) ?_ ⟨by simp [pv,hn],rfl,?_⟩
  ·have h1:c.args=#[x]:=Array.toList_inj.1 (by simp [hargs])
   have h2:c.argTypes=#[t]:=Array.toList_inj.1 (by simp [htys])
   simp only [execOp,ho,Sem.run_bind,resolve,hcal,h1,h2,Sem.run_pure,Result.andThen_ok,invoke,builtin,Builtin.len_,List.map_toArray,List.map_cons,List.map_nil,hev]
   simp only [List.getElem?_toArray,List.getElem?_cons_zero,Sem.run_bind,run_underlying hT,Result.andThen_ok,Sem.run_pure,goInt]
  ·show inR _ _
   rw [hn]
   simp only [inR,IntKind.min,IntKind.max,IntKind.signed,IntKind.bits]
   simp
   omega
 have lv:∀ l:SO,(lenSI l).val=(l.val:Int):=by intro l;cases l <;> rfl
 unfold hLen at h
 split at h
 ·cases h
  have hx:a.eval x=.slice none 0 0:=hx
  exact fin _ _ _ hx (by omega) rfl
 ·cases h
  obtain ⟨aa,cc,h1,h2,h3,h4⟩:=hx
  unfold capMax at h4
  exact fin _ _ _ h1 (by omega) (lv _)
 ·cases h
  obtain ⟨aa,nn,cc,h0,h1,h2,h3,h4,_⟩:=hx
  unfold capMax at h4
  exact fin _ _ _ h1 (by omega) (lv _)
 ·cases h
  obtain ⟨aa,cc,h1,h2,h3,h4⟩:=hx
  unfold capMax at h4
  exact fin _ _ _ h1 (by omega) (lv _)
 ·cases h
  obtain ⟨aa,cc,h1,h2,h3,h4,h5⟩:=hx
  unfold capMax at h4
  exact fin _ _ _ h1 (by omega) (lv _)
 ·cases h
theorem min_val (a b:SI):(minI a b).val=if b.val<a.val then b.val else a.val:=by
 cases a <;> cases b <;> simp [minI,SI.val,imin_eq] <;> rfl
theorem min_h (R:HRel w0 m as S a w) {o:Oper} {c:Go.Call} (ho:o.op=.call c) (hcal:c.callee=.builtin .min) {x y:Operand} (hargs:c.args.toList=[x,y]) {k:IntKind} {p q:SI} (hx:VRH w0 m (.at (.pl (.int k p))) (a.eval x)) (hy:VRH w0 m (.at (.pl (.int k q))) (a.eval y)) :
  Does P o a w (HLed w0 as (aft S o (.at (.pl (.int k (minI p q)))) none)):=by
 have h1:c.args=#[x,y]:=Array.toList_inj.1 (by simp [hargs])
 have hx1:a.eval x=.int k p.val:=hx.1
 have hy1:a.eval y=.int k q.val:=hy.1
 have hxi:inR k p.val:=hx.2.2
 have hyi:inR k q.val:=hy.2.2
 refine hval R (u:=.int k (minI p q).val) ?_ ⟨rfl,rfl,?_⟩
 ·simp only [execOp,ho,Sem.run_bind,resolve,hcal,h1,Sem.run_pure,Result.andThen_ok,invoke,builtin,Builtin.min_,List.map_toArray,List.map_cons,List.map_nil,hx1,hy1,List.foldlM_cons,List.foldlM_nil,Builtin.min2,min_val]
 ·show inR _ _
  rw [min_val]
  split
  ·exact hyi
  ·exact hxi
theorem argA_ok (R:HRel w0 m as S a w) {v:HV} {u:Value} {cs:List Prop} {x:AV} (h:argA (getB S.bl) v=some (cs,x)) (hc:∀ p ∈ cs,p) (hv:VRH w0 m v u):ArgR w x u∧wfV x:=by
 unfold argA at h
 split at h
 ·rename_i x
  split at h
  ·rename_i hp
   cases h
   obtain ⟨g1,g2,g3⟩:=hv
   refine ⟨?_,wfP_wfV g2 g3⟩
   subst g1
   cases x <;> simp [pure?] at hp <;> rfl
  ·cases h
 ·rename_i k es len f
  cases h
  obtain ⟨aa,c,g1,g2,g3,g4,g5⟩:=hv
  refine ⟨⟨aa,c,g1,fun hp=>?_,g3,g4⟩,g5⟩
  obtain ⟨b,o,q1,q2⟩:=g2 hp
  refine ⟨b,o,q1,fun j hj=>?_⟩
  have:=q2 j hj
  rw [R.below.cell (World.block_lt_of_cell? w0 _ this)]
  exact this
 ·rename_i l ver es off len
  have key:∀ k,(match srcH k es (.at (.sl l ver es off len)) (getB S.bl) with
   | some (cs,len',g)=>some (cs,AV.xsl k es len' (.lit 0) g)
   | none=>none)=some (cs,x)→ArgR w x u∧wfV x:=by
   intro k h
   split at h
   ·rename_i cs1 len' g hs
    cases h
    exact srcH_ok R hv hs hc
   ·cases h
  split at h
  ·exact key _ h
  ·exact key _ h
  ·exact key _ h
  ·cases h
 ·cases h
theorem plains_ok (R:HRel w0 m as S a w):∀ {vs:List HV} {cs:List Prop} {l:List AV} {us:List Value},plains (getB S.bl) vs=some (cs,l)→(∀ p ∈ cs,p)→All2 (VRH w0 m) vs us→All2 (ArgR w) l us∧∀ x ∈ l,wfV x
 | [],cs,l,[],h,_,_=>by simp only [plains] at h;cases h;exact ⟨trivial,fun x hx=>by simp at hx⟩
 | v :: vs,cs,l,u :: us,h,hc,⟨h1,h2⟩=>by
  unfold plains at h
  split at h
  ·rename_i cs1 x cs2 l' hx hl
   cases h
   obtain ⟨k1,k2⟩:=plains_ok R hl (fun p hp=>hc p (List.mem_append_right _ hp)) h2
   obtain ⟨g1,g2⟩:=argA_ok R hx (fun p hp=>hc p (List.mem_append_left _ hp)) h1
   refine ⟨⟨g1,k1⟩,fun y hy=>?_⟩
   rcases List.mem_cons.1 hy with rfl | hy
   ·exact g2
   ·exact k2 y hy
  ·cases h
 | [],_,_,_ :: _,_,_,h=>h.elim
 | _ :: _,_,_,[],_,_,h=>h.elim
theorem tup_all:∀ (ps:List AV),ps.all plain=true→(∀ x ∈ ps,wfP x)→All2 (AR w0 m) (ps.map HA.pl) (ps.map pv)
 | [],_,_=>trivial
 | x :: ps,h1,h2=>by
  simp only [List.all_cons,Bool.and_eq_true] at h1
  exact ⟨⟨rfl,h1.1,h2 x (by simp)⟩,tup_all ps h1.2 fun y hy=>h2 y (by simp [hy])⟩
theorem copy_h (hH:HEOK P H) (R:HRel w0 m as S a w) {o:Oper} {c:Go.Call} (ho:o.op=.call c) (hcal:c.callee=.builtin .copy) {x y:Operand} {t e:TypeId} (hargs:c.args.toList=[x,y]) (htys:c.argTypes.toList=[t,t]) (hT:P.underlying t=some (.slice e)) (hse:sized H.E e=true)
  {X Y:HV} (hx:VRH w0 m X (a.eval x)) (hy:VRH w0 m Y (a.eval y)) {cs:List Prop} {v:HV} {b:Option (Nat × HB)} (h:hCopy H e X Y (getB S.bl)=some (cs,v,b)) (hc:∀ p ∈ cs,p):Does P o a w (HLed w0 as (aft S o v b)):=by
 have h1a:c.args=#[x,y]:=Array.toList_inj.1 (by simp [hargs])
 have h2a:c.argTypes=#[t,t]:=Array.toList_inj.1 (by simp [htys])
 have hex:∀ v' w',(Builtin.copy_ #[t,t] o.type #[a.eval x,a.eval y]).run P w=.ok v' w'→(execOp a.eval o).run P w=.ok (.value v') w':=by
  intro v' w' hrun
  simp only [execOp,ho,Sem.run_bind,resolve,hcal,h1a,h2a,Sem.run_pure,Result.andThen_ok,invoke,builtin,List.map_toArray,List.map_cons,List.map_nil,hrun]
 unfold hCopy at h
 split at h
 ·rename_i bl ver es off n
  split at h
  ·rename_i k N f hB
   split at h
   ·rename_i hcond
    obtain ⟨rfl,rfl,hfit⟩:=hcond
    split at h
    ·rename_i cs1 n' g hsrc
     cases h
     obtain ⟨harg1,harg2⟩:=srcH_ok R hy hsrc hc
     obtain ⟨hlen,hfc⟩:=src_ok (P:=P) harg1
     obtain ⟨aa,cc,h1,h2,h3,h4⟩:=hx
     have hblk:=R.blks bl
     rw [hB] at hblk
     obtain ⟨b1,c0,T0,g1,g2,g3,g4⟩:=hblk
     obtain ⟨y1,z1,e1,⟨e2,e3,e4⟩,e5⟩:=g4
     simp only [CL] at e5
     subst e5
     rw [List.append_nil,e2] at e1
     have e1:c0=cellsA k N f:=Array.toList_inj.1 e1
     subst e1
     obtain ⟨inf,hinf,hsz⟩:=sized_info hH.ok hse
     have hmin:min n n'≤n':=Nat.min_le_right _ _
     have hcells:=hfc (min n n') (by simpa [SO.val] using hmin) w.drawn
     have hle:off+min n n'*(H.E.ty e).sz≤N:=by
      have:min n n'*(H.E.ty e).sz≤n*(H.E.ty e).sz:=Nat.mul_le_mul_right _ (Nat.min_le_left _ _)
      omega
     have hlen':(Builtin.lenOf (a.eval y)).run P w=.ok n' w:=hlen
     have hmc:n'.min n=min n n':=Nat.min_comm _ _
     have hrun:(Builtin.copy_ #[t,t] o.type #[a.eval x,a.eval y]).run P w=.ok (goInt ((min n n':Nat):Int)) (w.setRow b1 (cellsA k N (splice f off (min n n'*(H.E.ty e).sz) g))):=by
      have h1':a.eval x=.slice aa n cc:=h1
      rw [h1']
      rcases Nat.eq_zero_or_pos (min n n'*(H.E.ty e).sz) with hz | hz
      ·have hf0:splice f off (min n n'*(H.E.ty e).sz) g=f:=by
        funext j
        simp only [splice,hz]
        split
        ·rfl
        ·rw [if_neg (by omega)]
       have hl0:lcells k (min n n'*(H.E.ty e).sz) g=[]:=by rw [hz];rfl
       rw [hl0] at hcells
       have hcells':(Builtin.firstCells (H.E.ty e).sz (min n n') (a.eval y)).run P w=.ok #[] w:=hcells
       have hsr:w.setRow b1 (cellsA k N f)=w:=setRow_self w _ _ _ _ g3
       rw [hf0,hsr]
       cases aa with
       | none=>simp [Builtin.copy_,run_underlying hT,Go.sizeOf,typeInfo,hinf,hsz,hlen',hmc,hcells']
       | some q=>simp [Builtin.copy_,run_underlying hT,Go.sizeOf,typeInfo,hinf,hsz,hlen',hmc,hcells',storeCells]
      ·have hn0:0<n:=by
        rcases Nat.eq_zero_or_pos n with h0 | h0
        ·subst h0;simp at hz
        ·exact h0
       obtain ⟨b2,q1,q2⟩:=h2 hn0
       rw [g1] at q1
       cases q1
       subst q2
       have hst:=run_storeCells_at P b1 off T0 (lcells k (min n n'*(H.E.ty e).sz) g) 0 (cellsA k N f) w g3 (by simp [length_lcells] <;> omega) (lcells_one _ _ _)
       simp only [Nat.add_zero,length_lcells] at hst
       rw [splice_take hle] at hst
       have hcells':(Builtin.firstCells (H.E.ty e).sz (min n n') (a.eval y)).run P w=.ok (lcells k (min n n'*(H.E.ty e).sz) g).toArray w:=hcells
       simp [Builtin.copy_,run_underlying hT,Go.sizeOf,typeInfo,hinf,hsz,hlen',hmc,hcells',SO.val,hst]
     have hwf':wfP (.arr k N (splice f off (min n n'*(H.E.ty e).sz) g)):=by
      intro i hi
      simp only [splice]
      split
      ·exact e4 i hi
      ·split
       ·refine harg2 _ ?_
        have:min n n'*(H.E.ty e).sz≤n'*(H.E.ty e).sz:=Nat.mul_le_mul_right _ (Nat.min_le_right _ _)
        show _<n'*_
        omega
       ·exact e4 i hi
     have R1:=R.setB hB g1 g3 (qs:=[.pl (.arr k N (splice f off (min n n'*(H.E.ty e).sz) g))]) (cs':=cellsA k N (splice f off (min n n'*(H.E.ty e).sz) g)) ⟨_,[],(List.append_nil _).symm,⟨rfl,rfl,hwf'⟩,rfl⟩
     refine does_value (hex _ _ hrun) ⟨m,R1.put o.dst ⟨rfl,rfl,?_⟩⟩
     have hle63:(min n n':Nat)≤capMax:=by
      have:n≤capMax:=Nat.le_trans h3 h4
      exact Nat.le_trans (Nat.min_le_left _ _) this
     show inR _ _
     unfold capMax at hle63
     simp [SI.val,inR,IntKind.min,IntKind.max,IntKind.signed,IntKind.bits]
     omega
    ·cases h
   ·cases h
  ·cases h
 ·cases h
theorem call_h (hH:HEOK P H) (G:WOK H.E w0) (R:HRel w0 m as S a w) {o:Oper} {c:Go.Call} {f:FuncId} (ho:o.op=.call c) (hcal:c.callee=.value (.func f)) {l:List AV} (hvs:All2 (ArgR w) l (c.args.toList.map a.eval)) (hwf:∀ x ∈ l,wfV x) {cs:List Prop} {r:AV} (hcon:H.E.call f l=some (cs,r)) (hc:∀ p ∈ cs,p)
  {v:HV} (hr:resV r=some v):Does P o a w (HLed w0 as (aft S o v none)):=by
 have hs:=hH.ok.call f l cs r hcon hc hwf w (G.later R.below).mem (G.later R.below).glob _ hvs
 have hex:execOp a.eval o=(do let d ← resolve a.eval c o.type;invoke d.target d.args):=by simp only [execOp,ho]
 have hres:(resolve a.eval c o.type).run P w=.ok { target:=.fn (.func f) #[],args:=c.args.map a.eval } w:=by
  simp only [resolve,hcal,Act.eval,Deferred.ofValue]
  simp
 have hrun:(execOp a.eval o).run P w=(callFunc f (c.args.map a.eval)).run P w:=by
  rw [hex,Sem.run_bind,hres]
  simp [invoke]
 have hto:(c.args.toList.map a.eval).toArray=c.args.map a.eval:=by
  apply Array.ext'
  simp
 have hres2:∀ (B:Nat) (w':World) (u:Value),ResR B w' r u→VRH w0 m v u:=by
  intro B w' u h
  unfold resV at hr
  split at hr
  ·cases hr;exact ⟨h.2.2,rfl,h.2.1⟩
  ·cases hr;exact ⟨h.2.2,rfl,h.2.1⟩
  ·cases hr;exact ⟨h.2.2,rfl,h.2.1⟩
  ·rename_i ps
   cases hr
   exact ⟨_,h.1,tup_all ps h.2.1 h.2.2⟩
  ·cases hr
 rw [hto] at hs
 rcases hs with ⟨fn,hf,hbody,hname,hcalls⟩ | ⟨u,hnl,hr0,hdir⟩
 ·refine does_call (f:=f) (args:=c.args.map a.eval) (w':=w) ?_ hcalls ?_
  ·rw [hrun]
   simp only [callFunc,Sem.run_bind,run_program,Result.andThen_ok,hf,hname,hbody,Bool.false_eq_true,if_false,Sem.run_pure]
  ·intro e w'' ⟨u,he,hr1,hb⟩
   exact ⟨u,he,m,(R.grow hb).put o.dst (hres2 _ _ u hr1)⟩
 ·exact hval R (by rw [hrun];exact hdir) (hres2 _ _ u hr0)
theorem all_ops (R:HRel w0 m as S a w):∀ xs:List Operand,(∀ x ∈ xs,constOk x=true)→All2 (VRH w0 m) (xs.map (opH S.sl)) (xs.map a.eval)
 | [],_=>trivial
 | x :: xs,h=>⟨opH_ok R x (h x (by simp)),all_ops R xs fun y hy=>h y (by simp [hy])⟩
theorem step_ok (hH:HEOK P H) (G:WOK H.E w0) (R:HRel w0 m as S a w) {o:Oper} (hk:∀ x ∈ o.op.operands.toList,constOk x=true) {l:Nat} {cs:List Prop} {v:HV} {b:Option (Nat × HB)}
  (h:step H o.op (o.op.operands.toList.map (opH S.sl)) l S.bl.length (getB S.bl)=some (cs,v,b)) (hc:∀ p ∈ cs,p):Does P o a w (HLed w0 as (aft S o v b)):=by
 have A:=all_ops R o.op.operands.toList hk
 generalize hop:o.op=op at h hk A
 generalize hvs:op.operands.toList.map (opH S.sl)=vs at h A
 unfold step at h
 split at h
 ·rename_i x v1
  simp only [Op.operands,List.map_cons,List.map_nil] at A
  cases h
  exact hval R (by simp only [execOp,hop];rfl) A.1
 ·rename_i x v1
  simp only [Op.operands,List.map_cons,List.map_nil] at A
  cases h
  exact hval R (by simp only [execOp,hop];rfl) A.1
 ·rename_i c x y bb X Y
  simp only [Op.operands,List.map_cons,List.map_nil] at A
  cases h
  obtain ⟨A1,A2,A3,_⟩:=A
  have hcv:a.eval c=.bool bb:=A1.1
  refine hval R (u:=if bb then a.eval x else a.eval y) ?_ ?_
  ·simp only [execOp,hop,hcv,asBool,Sem.run_bind,Sem.run_pure,Result.andThen_ok]
  ·cases bb
   ·exact A3
   ·exact A2
 ·exact alloc_h hH R hop h
 ·rename_i T x v1
  simp only [Op.operands,List.map_cons,List.map_nil] at A
  exact box_h R hop A.1 h
 ·rename_i T ps
  have hvs':vs=ps.toList.map fun p=>opH S.sl p.2:=by rw [← hvs];simp [Op.operands]
  rw [hvs'] at h
  refine build_h hH R hop (fun p hp=>hk p.2 ?_) h
  simp only [Op.operands]
  exact List.mem_map.2 ⟨p,hp,rfl⟩
 ·rename_i T c ps
  have hvs':vs=ps.toList.map fun p=>opH S.sl p.2:=by rw [← hvs];simp [Op.operands]
  rw [hvs'] at h
  refine buildSlice_h hH R hop (fun p hp=>hk p.2 ?_) h
  simp only [Op.operands]
  exact List.mem_map.2 ⟨p,hp,rfl⟩
 ·rename_i T x y X Y
  simp only [Op.operands,List.map_cons,List.map_nil] at A
  exact make_h hH R hop A.1 A.2.1 h hc
 ·rename_i T x X
  simp only [Op.operands,List.map_cons,List.map_nil] at A
  exact load_h hH G R hop A.1 h hc
 ·rename_i T x y X Y
  simp only [Op.operands,List.map_cons,List.map_nil] at A
  exact store_h hH R hop A.1 A.2.1 h hc
 ·rename_i x bl ver off
  simp only [Op.operands,List.map_cons,List.map_nil] at A
  cases h
  obtain ⟨b0,h1,h2⟩:=A.1
  refine hval R (u:=.pointer (some ⟨b0,off.val,none⟩)) ?_ ⟨b0,h1,rfl⟩
  simp only [execOp,hop,h2]
  rfl
 ·rename_i T x i X I
  simp only [Op.operands,List.map_cons,List.map_nil] at A
  exact indexAddr_h hH R hop A.1 A.2.1 h hc
 ·rename_i T x i X I
  simp only [Op.operands,List.map_cons,List.map_nil] at A
  exact index_h hH R hop A.1 A.2.1 h hc
 ·rename_i T x fi X
  simp only [Op.operands,List.map_cons,List.map_nil] at A
  exact fieldAddr_h hH R hop A.1 h
 ·rename_i T x lo hi mx
  refine slice_h hH R hop ?_ h hc
  simpa [Op.operands] using A
 ·rename_i T x X
  simp only [Op.operands,List.map_cons,List.map_nil] at A
  exact arr_h hH R hop A.1 h hc
 ·rename_i op T x y t2 X Y
  simp only [Op.operands,List.map_cons,List.map_nil] at A
  exact bin_h hH R hop A.1 A.2.1 h hc
 ·rename_i op t x X
  simp only [Op.operands,List.map_cons,List.map_nil] at A
  exact un_h hH R hop A.1 h
 ·rename_i s d x X
  simp only [Op.operands,List.map_cons,List.map_nil] at A
  exact convert_h hH R hop A.1 h
 ·rename_i x i ps
  simp only [Op.operands,List.map_cons,List.map_nil] at A
  split at h
  ·rename_i p hp
   cases h
   exact extract_h R hop A.1 hp
  ·cases h
 ·rename_i c
  unfold hCall at h
  split at h
  ·rename_i hcal
   split at h
   ·rename_i x y t t' htys
    simp only [Op.operands,Call.operands,hcal,Array.empty_append] at A hvs
    split at h
    ·rename_i e hd
     split at h
     ·rename_i htt
      obtain ⟨rfl,hse⟩:=htt
      have hl:∃ p q,c.args.toList=[p,q]:=by
       generalize c.args.toList=L at hvs
       match L,hvs with
       | [p,q],_=>exact ⟨p,q,rfl⟩
       | [],hvs=>simp at hvs
       | [_],hvs=>simp at hvs
       | _ :: _ :: _ :: _,hvs=>simp at hvs
      obtain ⟨p,q,hargs⟩:=hl
      rw [hargs] at A
      exact append_h hH R hop hcal hargs htys (slice_ty hH.ok hd) A.1 A.2.1 h hc
     ·cases h
    ·cases h
   ·cases h
  ·rename_i hcal
   split at h
   ·rename_i x t htys
    simp only [Op.operands,Call.operands,hcal,Array.empty_append] at A hvs
    split at h
    ·rename_i e n hd hn
     cases h
     have hl:∃ p,c.args.toList=[p]:=by
      generalize c.args.toList=L at hvs
      match L,hvs with
      | [p],_=>exact ⟨p,rfl⟩
      | [],hvs=>simp at hvs
      | _ :: _ :: _,hvs=>simp at hvs
     obtain ⟨p,hargs⟩:=hl
     rw [hargs] at A
     exact len_h R hop hcal hargs htys (slice_ty hH.ok hd) A.1 hn
    ·cases h
   ·cases h
  ·rename_i hcal
   split at h
   ·rename_i k p q k' r
    simp only [Op.operands,Call.operands,hcal,Array.empty_append] at A hvs
    split at h
    ·rename_i hkk
     subst hkk
     cases h
     have hl:∃ p q,c.args.toList=[p,q]:=by
      generalize c.args.toList=L at hvs
      match L,hvs with
      | [p,q],_=>exact ⟨p,q,rfl⟩
      | [],hvs=>simp at hvs
      | [_],hvs=>simp at hvs
      | _ :: _ :: _ :: _,hvs=>simp at hvs
     obtain ⟨p,q,hargs⟩:=hl
     rw [hargs] at A
     exact min_h R hop hcal hargs A.1 A.2.1
    ·cases h
   ·cases h
  ·rename_i hcal
   split at h
   ·rename_i x y t t' htys
    simp only [Op.operands,Call.operands,hcal,Array.empty_append] at A hvs
    split at h
    ·rename_i e hd
     split at h
     ·rename_i htt
      obtain ⟨rfl,hse⟩:=htt
      have hl:∃ p q,c.args.toList=[p,q]:=by
       generalize c.args.toList=L at hvs
       match L,hvs with
       | [p,q],_=>exact ⟨p,q,rfl⟩
       | [],hvs=>simp at hvs
       | [_],hvs=>simp at hvs
       | _ :: _ :: _ :: _,hvs=>simp at hvs
      obtain ⟨p,q,hargs⟩:=hl
      rw [hargs] at A
      exact copy_h hH R hop hcal hargs htys (slice_ty hH.ok hd) hse A.1 A.2.1 h hc
     ·cases h
    ·cases h
   ·cases h
  ·rename_i f hcal
   simp only [Op.operands,Call.operands,hcal] at A hvs
   split at h
   ·rename_i cs0 l' hl
    split at h
    ·rename_i cs' r hcon
     split at h
     ·rename_i v' hr
      cases h
      have A2:All2 (VRH w0 m) (vs.drop 1) (c.args.toList.map a.eval):=by
       cases vs with
       | nil=>simp at hvs
       | cons v0 vs=>simp at A;exact A.2
      obtain ⟨k1,k2⟩:=plains_ok R hl (fun p hp=>hc p (List.mem_append_left _ hp)) A2
      exact call_h hH G R hop hcal k1 k2 hcon (fun p hp=>hc p (List.mem_append_right _ hp)) hr
     ·cases h
    ·cases h
   ·cases h
  ·cases h
 ·cases h
end
end Sy

namespace Sy
open Go Go.RowKit Sx
section
variable {P:Program} {H:HE} {w0:World} {m:LM} {as:List (Array Value)} {S:HS} {a:Act} {w:World}
structure Same (ops:Array Oper) (o:Oper) (so:HOp):Prop where
 op:so.op=o.op
 dst:so.dst=o.dst
 gd:gslot ops.toList o=some so.gd
 ck:∀ x ∈ o.op.operands.toList,constOk x=true
theorem exH_ok (hH:HEOK P H) (G:WOK H.E w0) (R:HRel w0 m as S a w) {ops:Array Oper} {i base:Nat} {o:Oper} {so:HOp} (ho:ops[i]?=some o) (hs:Same ops o so) {cs:List Prop} {v:HV} {b:Option (Nat × HB)} (h:exH H base so S=some (cs,v,b)) (hc:∀ p ∈ cs,p)
  (Q:Exit→Act→World→Prop) (K:Act→World→Prop) (hK:∀ a' w',HLed w0 as (appH so v b S) a' w'→K a' w'):wpOp P ops Q i K a w:=by
 have run:∀ {cs:List Prop} {v:HV} {b:Option (Nat × HB)},goH H base so S=some (cs,v,b)→(∀ p ∈ cs,p)→(∀ a' w',HLed w0 as (appH so v b S) a' w'→K a' w')→o.wp P a w K Q:=by
  intro cs v b h hc hK
  unfold goH valsH at h
  rw [hs.op] at h
  refine step_ok hH G R hs.ck h hc K Q ?_
  intro a' w' hl
  refine hK a' w' ?_
  unfold appH
  rw [hs.dst]
  exact hl
 have skip:∀ a' w',HLed w0 as (appH so undefV none S) a' w'→a'=a.put o.dst undef→w'=w→True:=fun _ _ _ _ _=>trivial
 have pass:(∀ a' w',HLed w0 as (appH so undefV none S) a' w'→K a' w')→K (a.put o.dst undef) w:=by
  intro hK
  refine hK _ _ ⟨m,?_⟩
  unfold appH
  rw [hs.dst]
  exact R.put o.dst (v:=undefV) ⟨rfl,rfl,trivial⟩
 unfold wpOp
 rw [ho]
 simp only
 have hgs:=hs.gd
 unfold gslot at hgs
 unfold exH at h
 split at hgs
 ·rename_i hng
  simp only [Option.some.injEq] at hgs
  rw [← hgs] at h
  simp only at h
  have hw:Region.wanted o (yielded ops a.tmps)=true:=by unfold Region.wanted;rw [hng]
  rw [if_pos hw]
  exact .inl (run h hc hK)
 ·rename_i j want hng
  split at hgs
  ·rename_i g hslot
   simp only [Option.some.injEq] at hgs
   rw [← hgs] at h
   simp only at h
   have hslot':(ops[j]?).bind (·.dst)=some g:=by simpa using hslot
   have hv:=R.vals g
   have hlt:∀ u,a.tmps.getD g undef=u→getV S.sl g≠jV→a.tmps[g]?=some u:=by
    intro u hu hj
    refine tmps_of_getD hu ?_
    rw [R.size]
    rcases Nat.lt_or_ge g S.sl.length with hh | hh
    ·exact hh
    ·exact absurd (by simp [getV_D,List.getElem?_eq_none hh]) hj
   split at h
   ·rename_i b' hb
    rw [hb] at hv
    have h2:=hlt _ hv.1 (by rw [hb];simp [jV])
    have hw:Region.wanted o (yielded ops a.tmps)=(b' == want):=by
     unfold Region.wanted
     rw [hng]
     simp only [yielded,hslot',Option.bind_some,h2,pv,SB.val]
     cases b' <;> cases want <;> rfl
    split at h
    ·rename_i hbw
     subst hbw
     rw [hw,if_pos (by simp)]
     exact .inl (run h hc hK)
    ·rename_i hbw
     have hne:(b' == want)=false:=by simpa using hbw
     rw [hw,hne,if_neg (by simp)]
     cases h
     exact pass hK
   ·rename_i l hb
    rw [hb] at hv
    have h2:=hlt _ hv.1 (by rw [hb];simp [jV])
    have hw:Region.wanted o (yielded ops a.tmps)=false:=by
     unfold Region.wanted
     rw [hng]
     simp only [yielded,hslot',Option.bind_some,h2]
     rfl
    rw [hw,if_neg (by simp)]
    cases h
    exact pass hK
   ·cases h
  ·cases hgs
theorem runH_ok (hH:HEOK P H) (G:WOK H.E w0) {ops:Array Oper} {base:Nat} {Q:Exit→Act→World→Prop} {Sf:HS} {rest:List Nat} (hQ:∀ m a w,HRel w0 m as Sf a w→wpOps P ops Q rest a w) :
  ∀ (l:List HOp) (k:Nat) (S:HS) (m:LM) (a:Act) (w:World) (cs:List Prop),(∀ j so,l[j]?=some so→∃ o,ops[k+j]?=some o∧Same ops o so)→HRel w0 m as S a w→runH H base l S=some (cs,Sf)→(∀ p ∈ cs,p)→wpOps P ops Q (List.range' k l.length ++ rest) a w
 | [],k,S,m,a,w,cs,hl,R,h,hc=>by
  simp only [runH] at h
  cases h
  exact hQ m a w R
 | so :: l,k,S,m,a,w,cs,hl,R,h,hc=>by
  simp only [runH] at h
  split at h
  ·rename_i c1 v b he
   split at h
   ·rename_i c2 S' hr
    cases h
    obtain ⟨o,ho,hs⟩:=hl 0 so rfl
    rw [Nat.add_zero] at ho
    rw [List.length_cons,List.range'_succ,List.cons_append,wpOps_cons]
    refine exH_ok hH G R ho hs he (fun p hp=>hc p (List.mem_append_left _ hp)) Q _ ?_
    rintro a' w' ⟨m',R'⟩
    refine runH_ok hH G hQ l (k+1) _ m' a' w' c2 (fun j so' hj=>?_) R' hr (fun p hp=>hc p (List.mem_append_right _ hp))
    have:=hl (j+1) so' (by simpa using hj)
    rw [show k+1+j=k+(j+1) by omega]
    exact this
   ·cases h
  ·cases h
theorem step_local {op:Go.Op} {vs:List HV} {l n:Nat} {bk bk':Nat→HB} (h:∀ x ∈ looks op vs l,bk x=bk' x):step H op vs l n bk=step H op vs l n bk':=by
 have hlab:∀ {v:HV},v ∈ vs→(∀ y ∈ vs.flatMap labV,bk y=bk' y)→∀ y ∈ labV v,bk y=bk' y:=fun hv hh y hy=>hh y (List.mem_flatMap.2 ⟨_,hv,hy⟩)
 have fr:(bk l=bk' l)→fresh l n bk=fresh l n bk':=by intro e;unfold fresh;rw [e]
 unfold step
 split
 all_goals try rfl
 ·simp only [looks,List.mem_singleton,forall_eq] at h
  simp only [hAlloc,fr h]
 ·simp only [looks,List.mem_singleton,forall_eq] at h
  simp only [hBox,fr h]
 ·simp only [looks,List.mem_singleton,forall_eq] at h
  simp only [hBuildSlice,fr h]
 ·simp only [looks,List.mem_singleton,forall_eq] at h
  simp only [hMake,fr h]
 ·rename_i T x X
  simp only [looks] at h
  unfold hLoad
  split
  ·rename_i b ver off
   rw [h b (by simp [labV,labA])]
  all_goals rfl
 ·rename_i T x y X Y
  simp only [looks] at h
  unfold hStore
  split
  ·rename_i b ver off
   rw [h b (by simp [labV,labA])]
  ·rfl
 ·rename_i s d x X
  simp only [looks] at h
  unfold hConvert
  split
  ·rfl
  ·rename_i l0 ver es off n _ _
   rw [h l0 (by simp [labV,labA])]
  ·rfl
 ·rename_i c
  simp only [looks] at h
  have hlb:(∀ f,c.callee≠.value f)→bk l=bk' l:=fun hne=>h l (by
   split
   ·rename_i f hf;exact absurd hf (hne f)
   ·simp)
  have hv:∀ y ∈ vs.flatMap labV,bk y=bk' y:=fun y hy=>h y (by
   split
   ·exact hy
   ·exact List.mem_cons_of_mem _ hy)
  have hsrcA:∀ {y:HV},y ∈ vs→∀ k z,srcH k z y bk=srcH k z y bk':=by
   intro y hy k z
   unfold srcH
   split
   all_goals try rfl
   ·rename_i b ver es off len
    rw [hlab (v:=.at (.sl b ver es off len)) hy hv b (by simp [labV,labA])]
   ·rename_i b ver es len
    rw [hlab (v:=.at (.ls b ver es len)) hy hv b (by simp [labV,labA])]
  have harg:∀ {v:HV},v ∈ vs→argA bk v=argA bk' v:=by
   intro v hv1
   unfold argA
   split
   ·rfl
   ·rfl
   ·rename_i l0 ver es off len
    rw [hlab hv1 hv l0 (by simp [labV,labA])]
    simp only [hsrcA hv1]
   ·rfl
  have hpl:∀ us:List HV,(∀ u ∈ us,u ∈ vs)→plains bk us=plains bk' us:=by
   intro us
   induction us with
   | nil=>intro _;rfl
   | cons u us ih =>
    intro hu
    unfold plains
    rw [harg (hu u (by simp)),ih fun x hx=>hu x (by simp [hx])]
  have hcpy:∀ {x y:HV} (e:TypeId),x ∈ vs→y ∈ vs→hCopy H e x y bk=hCopy H e x y bk':=by
   intro x y e hx hy
   unfold hCopy
   split
   ·rename_i b ver es off n
    rw [hlab (v:=.at (.sl b ver es (.lit off) (.lit n))) hx hv b (by simp [labV,labA])]
    simp only [hsrcA hy]
   ·rfl
  unfold hCall
  split
  ·rename_i hcal
   have hl:=hlb (by rw [hcal];intro f e;cases e)
   split
   ·rename_i x y t t' _
    split
    ·split
     ·unfold hAppend
      have hsrc:=hsrcA (y:=y) (by simp)
      split
      ·simp only [hsrc,fr hl]
       split
       ·split
        ·split
         ·rfl
         ·rename_i b ver es len
          rw [hlab (v:=.at (.ls b ver es len)) (by simp) hv b (by simp [labV,labA])]
         ·rfl
        ·rfl
       ·rfl
      ·rfl
     ·rfl
    ·rfl
   ·rfl
  all_goals try rfl
  ·split
   ·rename_i x y t t' _
    split
    ·split
     ·exact hcpy _ (by simp) (by simp)
     ·rfl
    ·rfl
   ·rfl
  ·rw [hpl _ fun u hu=>List.mem_of_mem_drop hu]
theorem valsH_local {o:HOp} {sl sl':List HV} (h:∀ t ∈ slotsOf o,getV sl t=getV sl' t):valsH sl o=valsH sl' o:=by
 unfold valsH
 refine List.map_congr_left fun x hx=>?_
 cases x with
 | tmp t =>
  simp only [opH]
  refine h t ?_
  unfold slotsOf
  exact List.mem_append_left _ (List.mem_filterMap.2 ⟨.tmp t,hx,rfl⟩)
 | const v=>unfold opH;split <;> simp_all
 | _=>rfl
theorem exH_local {base:Nat} {o:HOp} {S S':HS} (h1:∀ t ∈ slotsOf o,getV S.sl t=getV S'.sl t) (h2:∀ x ∈ looks o.op (valsH S.sl o) (base+o.ord),getB S.bl x=getB S'.bl x) (h3:S.bl.length=S'.bl.length):exH H base o S=exH H base o S':=by
 have hv:=valsH_local h1
 have hg:goH H base o S=goH H base o S':=by
  unfold goH
  rw [← hv,← h3]
  exact step_local h2
 unfold exH
 split
 ·exact hg
 ·rename_i g want hgd
  have:getV S.sl g=getV S'.sl g:=h1 g (by unfold slotsOf;rw [hgd];exact List.mem_append_right _ (by simp [gslots]))
  rw [this,hg]
end
end Sy

namespace Sy
open Go Go.RowKit Sx
section
variable {P:Program} {H:HE} {w0:World} {m:LM} {as:List (Array Value)} {S:HS} {a:Act} {w:World} {base:Nat} {l:List HOp}
noncomputable def runI (H:HE) (base:Nat) (l:List HOp):List Nat→HS→Option (List Prop × List FP × HS)
 | [],S=>some ([],[],S)
 | i :: L,S =>
  match l[i]? with
  | some o =>
   (match exH H base o S with
   | some (cs,v,b) =>
    (match runI H base l L (appH o v b S) with
    | some (cs',fs,S')=>some (cs ++ cs',fpOf base o i S b :: fs,S')
    | none=>none)
   | none=>none)
  | none=>none
theorem runI_cons {i:Nat} {L:List Nat} {cs:List Prop} {fs:List FP} {Sf:HS} (h:runI H base l (i :: L) S=some (cs,fs,Sf)) :
  ∃ o c v b c' fs',l[i]?=some o∧exH H base o S=some (c,v,b)∧runI H base l L (appH o v b S)=some (c',fs',Sf)∧cs=c ++ c'∧fs=fpOf base o i S b :: fs':=by
 simp only [runI] at h
 split at h
 ·rename_i o ho
  split at h
  ·rename_i c v b he
   split at h
   ·rename_i c' fs' S' hr
    cases h
    exact ⟨o,c,v,b,c',fs',ho,he,hr,rfl,rfl⟩
   ·cases h
  ·cases h
 ·cases h
theorem setD_comm {d d':Option Nat} {v v':HV} {sl:List HV} (h:∀ x,d=some x→d'≠some x):setD d v (setD d' v' sl)=setD d' v' (setD d v sl):=by
 cases d with
 | none=>rfl
 | some x =>
  cases d' with
  | none=>rfl
  | some y =>
   simp only [setD,setV_1]
   exact List.set_comm _ _ (fun e=>h x rfl (by rw [e]))
theorem setL_comm {b b':Option (Nat × HB)} {bl:List HB} (h:∀ x ∈ (b.map Prod.fst).toList,x ∉ (b'.map Prod.fst).toList):setL b (setL b' bl)=setL b' (setL b bl):=by
 cases b with
 | none=>rfl
 | some x =>
  cases b' with
  | none=>rfl
  | some y=>exact List.set_comm _ _ (fun e=>h x.1 (by simp) (by simp [e]))
theorem setL_length {b:Option (Nat × HB)} {bl:List HB}:(setL b bl).length=bl.length:=by
 cases b with
 | none=>rfl
 | some x=>simp [setL]
theorem getV_setD {d:Option Nat} {v:HV} {sl:List HV} {t:Nat} (h:d≠some t):getV (setD d v sl) t=getV sl t:=by
 cases d with
 | none=>rfl
 | some x =>
  simp only [setD,setV_1]
  rw [getV_set,if_neg (fun e=>h (by rw [e.1]))]
theorem getB_setL {b:Option (Nat × HB)} {bl:List HB} {x:Nat} (h:x ∉ (b.map Prod.fst).toList):getB (setL b bl) x=getB bl x:=by
 cases b with
 | none=>rfl
 | some y =>
  simp only [setL]
  rw [getB_set,if_neg (fun e=>h (by simp [e.1]))]
theorem disjD {a b:List Nat} (h:disj a b=true):∀ x ∈ a,x ∉ b:=disj_iff.1 h
theorem swapD {i j:Nat} {oi oj:HOp} (hi:l[i]?=some oi) (hj:l[j]?=some oj) (hs:slApart oj oi=true) {L:List Nat} {cs:List Prop} {fj fi:FP} {fs:List FP} {Sf:HS} (h:runI H base l (j :: i :: L) S=some (cs,fj :: fi :: fs,Sf)) (hf:fpApart fj fi=true) :
  ∃ cs',runI H base l (i :: j :: L) S=some (cs',fi :: fj :: fs,Sf)∧∀ p,p ∈ cs'↔p ∈ cs:=by
 obtain ⟨o1,c1,v1,b1,c1',fs1,q1,q2,q3,rfl,q5⟩:=runI_cons h
 rw [hj] at q1
 cases q1
 obtain ⟨o2,c2,v2,b2,c2',fs2,r1,r2,r3,rfl,r5⟩:=runI_cons q3
 rw [hi] at r1
 cases r1
 cases q5
 cases r5
 unfold fpApart at hf
 unfold slApart at hs
 simp only [Bool.and_eq_true] at hf hs
 have f1:=disjD hf.1
 have f2:=disjD hf.2
 have s1:=disjD hs.1
 have s2:=disjD hs.2
 have dj:∀ t ∈ slotsOf oi ++ oi.dst.toList,oj.dst≠some t:=fun t ht e=>s1 t (by rw [e];simp) ht
 have di:∀ t ∈ slotsOf oj,oi.dst≠some t:=fun t ht e=>s2 t (by rw [e];simp) ht
 have hv1:∀ t ∈ slotsOf oi,getV (appH oj v1 b1 S).sl t=getV S.sl t:=fun t ht=>getV_setD (dj t (List.mem_append_left _ ht))
 have hvi:valsH (appH oj v1 b1 S).sl oi=valsH S.sl oi:=valsH_local hv1
 have hb1:∀ x ∈ looks oi.op (valsH (appH oj v1 b1 S).sl oi) (base+oi.ord),getB (appH oj v1 b1 S).bl x=getB S.bl x:=fun x hx=>getB_setL (fun hm=>f1 x hm (List.mem_append_left _ hx))
 have e1:exH H base oi S=some (c2,v2,b2):=by rw [← r2];exact (exH_local hv1 hb1 setL_length).symm
 have hv2:∀ t ∈ slotsOf oj,getV (appH oi v2 b2 S).sl t=getV S.sl t:=fun t ht=>getV_setD (di t ht)
 have hvj:valsH (appH oi v2 b2 S).sl oj=valsH S.sl oj:=valsH_local hv2
 have hb2:∀ x ∈ looks oj.op (valsH (appH oi v2 b2 S).sl oj) (base+oj.ord),getB (appH oi v2 b2 S).bl x=getB S.bl x:=fun x hx=>getB_setL (fun hm=>f2 x hm (by rw [hvj] at hx;exact hx))
 have e2:exH H base oj (appH oi v2 b2 S)=some (c1,v1,b1):=by rw [← q2];exact exH_local hv2 hb2 setL_length
 have e3:appH oj v1 b1 (appH oi v2 b2 S)=appH oi v2 b2 (appH oj v1 b1 S):=by
  unfold appH
  simp only
  rw [setD_comm (d:=oj.dst) (d':=oi.dst) (fun x hx hy=>dj x (List.mem_append_right _ (by rw [hy];simp)) hx),setL_comm (b:=b1) (b':=b2) (fun x hx hm=>f1 x hx (List.mem_append_right _ hm))]
 refine ⟨c2 ++ (c1 ++ c2'),?_,fun p=>by simp only [List.mem_append];constructor <;> rintro (h | h | h) <;> simp [h]⟩
 have e4:fpOf base oi i (appH oj v1 b1 S) b2=fpOf base oi i S b2:=by unfold fpOf;rw [hvi]
 have e5:fpOf base oj j (appH oi v2 b2 S) b1=fpOf base oj j S b1:=by unfold fpOf;rw [hvj]
 simp only [runI,hi,hj,e1,e2,e3,r3,e4,e5]
theorem pullD {i:Nat} {oi:HOp} (hi:l[i]?=some oi) {L2:List Nat}:∀ (L1:List Nat) (S:HS) (cs:List Prop) (fs1 fs2:List FP) (fi:FP) (Sf:HS),runI H base l (L1 ++ i :: L2) S=some (cs,fs1 ++ fi :: fs2,Sf)→fs1.length=L1.length →
  (∀ j ∈ L1,∀ oj,l[j]?=some oj→slApart oj oi=true)→(∀ f ∈ fs1,fpApart f fi=true)→∃ cs',runI H base l (i :: (L1 ++ L2)) S=some (cs',fi :: (fs1 ++ fs2),Sf)∧∀ p,p ∈ cs'↔p ∈ cs
 | [],S,cs,fs1,fs2,fi,Sf,h,hl,_,_=>by
  have:fs1=[]:=List.eq_nil_of_length_eq_zero (by simpa using hl)
  subst this
  exact ⟨cs,h,fun p=>Iff.rfl⟩
 | j :: L1,S,cs,fs1,fs2,fi,Sf,h,hl,hs,hf=>by
  cases fs1 with
  | nil=>simp at hl
  | cons fj fs1 =>
   obtain ⟨oj,c,v,b,c',fs',hj,he,hr,rfl,hfs⟩:=runI_cons h
   simp only [List.cons_append,List.cons.injEq] at hfs
   obtain ⟨hfj,hfs⟩:=hfs
   subst hfs
   obtain ⟨c2,hr2,hc2⟩:=pullD hi L1 _ c' fs1 fs2 fi Sf hr (by simpa using hl) (fun j' hj'=>hs j' (by simp [hj'])) (fun f hf'=>hf f (by simp [hf']))
   have h2:runI H base l (j :: i :: (L1 ++ L2)) S=some (c ++ c2,fj :: fi :: (fs1 ++ fs2),Sf):=by
    simp only [runI,hj,he] at hr2 ⊢
    rw [hr2]
    simp only [hfj]
   obtain ⟨c3,hr3,hc3⟩:=swapD hi hj (hs j (by simp) oj hj) h2 (hf fj (by simp))
   refine ⟨c3,hr3,fun p=>?_⟩
   rw [hc3,List.mem_append,List.mem_append,hc2]
def Ord (l:List HOp) (p q:FP):Prop:=∃ o,l[q.i]?=some o∧(o.m.testBit p.i=true∨fpApart p q=true)
theorem fpAll_ok {m:Nat} {q:FP}:∀ {ps:List FP},fpAll m q ps=true→∀ p ∈ ps,m.testBit p.i=true∨fpApart p q=true
 | [],_,p,hp=>by simp at hp
 | r :: ps,h,p,hp=>by
  unfold fpAll at h
  split at h
  ·rename_i h1
   rcases List.mem_cons.1 hp with rfl | hp
   ·exact .inl h1
   ·exact fpAll_ok h p hp
  ·split at h
   ·rename_i h1
    rcases List.mem_cons.1 hp with rfl | hp
    ·exact .inr h1
    ·exact fpAll_ok h p hp
   ·cases h
theorem runD_runI:∀ (l2:List HOp) (k:Nat) (ps:List FP) (S:HS) (cs:List Prop) (Sf:HS),(∀ j so,l2[j]?=some so→l[k+j]?=some so)→runD H base ps k l2 S=some (cs,Sf) →
  ∃ fs,runI H base l (List.range' k l2.length) S=some (cs,fs,Sf)∧fs.map (·.i)=List.range' k l2.length∧fs.Pairwise (Ord l)∧(∀ p ∈ ps,∀ q ∈ fs,Ord l p q)∧∀ q ∈ fs,∃ o,l[q.i]?=some o
 | [],k,ps,S,cs,Sf,hl,h=>by
  simp only [runD] at h
  cases h
  exact ⟨[],rfl,rfl,.nil,fun p _ q hq=>by simp at hq,fun q hq=>by simp at hq⟩
 | o :: l2,k,ps,S,cs,Sf,hl,h=>by
  simp only [runD] at h
  have ho:l[k]?=some o:=by simpa using hl 0 o rfl
  split at h
  ·rename_i c v b he
   split at h
   ·rename_i i0 hq0
    split at h
    ·rename_i c' S' hr
     cases h
     obtain ⟨fs,r1,r2,r3,r4,r5⟩:=runD_runI l2 (k+1) ps _ c' Sf (fun j so hj=>by
      have:=hl (j+1) so (by simpa using hj)
      rw [show k+1+j=k+(j+1) by omega]
      exact this) hr
     refine ⟨fpOf base o k S b :: fs,?_,?_,.cons (fun q hq=>?_) r3,?_,?_⟩
     ·rw [List.length_cons,List.range'_succ]
      simp only [runI,ho,he,r1]
     ·rw [List.map_cons,r2,List.length_cons,List.range'_succ]
      rfl
     ·obtain ⟨o2,ho2⟩:=r5 q hq
      refine ⟨o2,ho2,.inr ?_⟩
      rw [hq0]
      simp only [fpApart,Bool.and_eq_true]
      exact ⟨disj_iff.2 (by simp),disj_iff.2 (by simp)⟩
     ·intro p hp q hq
      rcases List.mem_cons.1 hq with rfl | hq
      ·refine ⟨o,ho,.inr ?_⟩
       rw [hq0]
       simp only [fpApart,Bool.and_eq_true]
       exact ⟨disj_iff.2 (by simp),disj_iff.2 (by simp)⟩
      ·exact r4 p hp q hq
     ·intro q hq
      rcases List.mem_cons.1 hq with rfl | hq
      ·exact ⟨o,ho⟩
      ·exact r5 q hq
    ·cases h
   ·split at h
    ·rename_i hall
     split at h
     ·rename_i c' S' hr
      cases h
      obtain ⟨fs,r1,r2,r3,r4,r5⟩:=runD_runI l2 (k+1) (ps ++ [fpOf base o k S b]) _ c' Sf (fun j so hj=>by
       have:=hl (j+1) so (by simpa using hj)
       rw [show k+1+j=k+(j+1) by omega]
       exact this) hr
      refine ⟨fpOf base o k S b :: fs,?_,?_,.cons (fun q hq=>r4 _ (by simp) q hq) r3,?_,?_⟩
      ·rw [List.length_cons,List.range'_succ]
       simp only [runI,ho,he,r1]
      ·rw [List.map_cons,r2,List.length_cons,List.range'_succ]
       rfl
      ·intro p hp q hq
       rcases List.mem_cons.1 hq with rfl | hq
       ·exact ⟨o,ho,fpAll_ok hall p hp⟩
       ·exact r4 p (by simp [hp]) q hq
      ·intro q hq
       rcases List.mem_cons.1 hq with rfl | hq
       ·exact ⟨o,ho⟩
       ·exact r5 q hq
     ·cases h
    ·cases h
  ·cases h
theorem pairsH_get (i:Nat) (r:HOp):∀ (l:List HOp) (j0:Nat),pairsH i r j0 l=true→∀ (k:Nat) (o:HOp),l[k]?=some o→j0+k<i→r.m.testBit (j0+k)=true∨slApart o r=true
 | [],j0,_,k,o,ho,_=>by simp at ho
 | r' :: l,j0,h,k,o,ho,hlt=>by
  simp only [pairsH,Bool.and_eq_true] at h
  cases k with
  | zero =>
   simp only [List.getElem?_cons_zero,Option.some.injEq] at ho
   subst ho
   rw [Nat.add_zero] at hlt ⊢
   have h1:=h.1
   rw [if_pos hlt,Bool.or_eq_true] at h1
   exact h1
  | succ k =>
   have:=pairsH_get i r l (j0+1) h.2 k o (by simpa using ho) (by omega)
   rw [show j0+1+k=j0+(k+1) by omega] at this
   exact this
theorem drawH_get (ops:List Oper) (all:List HOp):∀ (l:List HOp) (i0:Nat),drawH ops all i0 l=true→∀ (k:Nat) (o:HOp),l[k]?=some o→(∀ (j:Nat) (oj:HOp),all[j]?=some oj→j<i0+k→o.m.testBit j=true∨slApart oj o=true)∧∀ j ∈ preds (ops.getD (i0+k) default),j<i0+k
 | [],i0,_,k,o,ho=>by simp at ho
 | r :: l,i0,h,k,o,ho=>by
  simp only [drawH,Bool.and_eq_true] at h
  cases k with
  | zero =>
   simp only [List.getElem?_cons_zero,Option.some.injEq] at ho
   subst ho
   rw [Nat.add_zero]
   refine ⟨fun j oj hj hlt=>?_,fun j hj=>?_⟩
   ·have:=pairsH_get i0 r all 0 h.1.1 j oj hj (by omega)
    rw [Nat.zero_add] at this
    exact this
   ·have:=List.all_eq_true.1 h.1.2 j hj
    simpa using this
  | succ k =>
   have:=drawH_get ops all l (i0+1) h.2 k o (by simpa using ho)
   rw [show i0+1+k=i0+(k+1) by omega] at this
   exact this
structure ReadyH (ops:Array Oper) (l:List HOp):Prop where
 len:l.length=ops.size
 get:∀ i o so,ops[i]?=some o→l[i]?=some so→Same ops o so∧so.m=(closure [] ops.toList).getD i 0
 draw:drawH ops.toList l 0 l=true
theorem any_okH (hH:HEOK P H) (G:WOK H.E w0) {ops:Array Oper} (hr:ReadyH ops l) {Q:Exit→Act→World→Prop} {Sf:HS} (Rst:List Nat) (fuel':Nat)
  (hRst:∀ r ∈ Rst,r<ops.size∧∀ i,i<ops.size→i ∉ Rst→∀ so,l[r]?=some so→so.m.testBit i=true)
  (hK:∀ (listed:Array Bool),listed.size=ops.size→(∀ i,i<ops.size→(listed.getD i true=false↔i ∈ Rst))→∀ m a w,HRel w0 m as Sf a w→wpAny P .any ops Q fuel' listed a w) :
  ∀ (fuel:Nat) (L:List Nat) (listed:Array Bool) (S:HS) (m:LM) (a:Act) (w:World) (cs:List Prop) (fs:List FP),L.length=fuel→HRel w0 m as S a w→runI H base l L S=some (cs,fs,Sf)→(∀ p ∈ cs,p)→fs.map (·.i)=L→fs.Pairwise (Ord l) →
   (∀ i ∈ L,i<ops.size)→L.Pairwise (· < ·)→(∀ i ∈ L,∀ r ∈ Rst,i<r)→(∀ i,i<ops.size→(listed.getD i true=false↔i ∈ L∨i ∈ Rst))→listed.size=ops.size→(∀ i,i ∉ L→i ∉ Rst→i<ops.size→∀ k,((closure [] ops.toList).getD i 0).testBit k=true→k ∉ L∧k ∉ Rst) →
   wpAny P .any ops Q (fuel+fuel') listed a w:=by
 have ready_iff:∀ (listed:Array Bool) (L:List Nat),listed.size=ops.size→(∀ i,i<ops.size→(listed.getD i true=false↔i ∈ L∨i ∈ Rst))→∀ i,i ∈ Region.ready .any ops listed↔i<ops.size∧(i ∈ L∨i ∈ Rst)∧∀ o,ops[i]?=some o→∀ e ∈ o.after,Region.binds .any e=true→listed.getD e.on false=true:=by
  intro listed L hsz hL i
  simp only [Region.ready,List.mem_filter,List.mem_range,Bool.and_eq_true,Bool.not_eq_true']
  constructor
  ·rintro ⟨h1,h2,h3⟩
   refine ⟨h1,(hL i h1).1 h2,fun o ho e he hb=>?_⟩
   rw [ho] at h3
   simp only [Option.map_some,Option.getD_some,Array.all_eq_true',Bool.or_eq_true,Bool.not_eq_true'] at h3
   rcases h3 e he with h | h
   ·rw [hb] at h;cases h
   ·exact h
  ·rintro ⟨h1,h2,h3⟩
   refine ⟨h1,(hL i h1).2 h2,?_⟩
   obtain ⟨o,ho⟩:∃ o,ops[i]?=some o:=⟨_,Array.getElem?_eq_getElem h1⟩
   rw [ho]
   simp only [Option.map_some,Option.getD_some,Array.all_eq_true',Bool.or_eq_true,Bool.not_eq_true']
   intro e he
   cases hb:Region.binds .any e
   ·exact .inl rfl
   ·exact .inr (h3 o ho e he hb)
 have preds_iff:∀ (o:Oper) (j:Nat),j ∈ preds o↔∃ e ∈ o.after,Region.binds .any e=true∧e.on=j:=by
  intro o j
  unfold preds
  rw [List.mem_filterMap]
  constructor
  ·rintro ⟨e,he,h⟩
   split at h
   ·rename_i hb;cases h;exact ⟨e,by simpa using he,hb,rfl⟩
   ·cases h
  ·rintro ⟨e,he,hb,rfl⟩
   exact ⟨e,by simpa using he,by rw [if_pos hb]⟩
 intro fuel
 induction fuel with
 | zero =>
  intro L listed S m a w cs fs hlen R hrun hc hfs hpw hlt hs hLR hL hsz hdc
  have:L=[]:=List.eq_nil_of_length_eq_zero hlen
  subst this
  simp only [runI] at hrun
  cases hrun
  rw [Nat.zero_add]
  exact hK listed hsz (fun i hi=>by rw [hL i hi];simp) m a w R
 | succ fuel ih =>
  intro L listed S m a w cs fs hlen R hrun hc hfs hpw hlt hs hLR hL hsz hdc
  rw [Nat.add_right_comm]
  have hLs:∃ e L',L=e :: L':=by
   cases L with
   | nil=>simp at hlen
   | cons e L'=>exact ⟨e,L',rfl⟩
  obtain ⟨e0,L',hLe⟩:=hLs
  have he0:e0 ∈ L:=by rw [hLe];simp
  refine ⟨fun hnil=>?_,fun i hi=>?_⟩
  ·exfalso
   have hi:=hlt e0 he0
   have:e0 ∈ Region.ready .any ops listed:=by
    rw [ready_iff listed _ hsz hL]
    refine ⟨hi,.inl he0,fun o ho e he hb=>?_⟩
    have hlen2:e0<l.length:=by rw [hr.len];exact hi
    have hp:=(drawH_get ops.toList l l 0 hr.draw e0 l[e0] (by simp)).2
    have hgo:ops.toList.getD e0 default=o:=by simp [List.getD_eq_getElem?_getD,ho]
    rw [Nat.zero_add,hgo] at hp
    have hlt2:=hp e.on ((preds_iff o e.on).2 ⟨e,he,hb,rfl⟩)
    have hns:e.on<ops.size:=by omega
    cases hh:listed.getD e.on true
    ·have:=(hL e.on hns).1 hh
     rcases this with h | h
     ·rw [hLe] at h hs
      rcases List.mem_cons.1 h with h | h
      ·omega
      ·have:=List.rel_of_pairwise_cons hs h;omega
     ·have:=hLR e0 he0 e.on h;omega
    ·have hl2:e.on<listed.size:=by rw [hsz];exact hns
     simp only [Array.getD_eq_getD_getElem?,Array.getElem?_eq_getElem hl2,Option.getD_some] at hh ⊢
     exact hh
   rw [hnil] at this
   cases this
  ·obtain ⟨hi1,hi2,hi3⟩:=(ready_iff listed L hsz hL i).1 hi
   obtain ⟨o,ho⟩:∃ o,ops[i]?=some o:=⟨_,Array.getElem?_eq_getElem hi1⟩
   obtain ⟨so,hso⟩:∃ so,l[i]?=some so:=⟨_,List.getElem?_eq_getElem (by rw [hr.len];exact hi1)⟩
   obtain ⟨hsame,hm⟩:=hr.get i o so ho hso
   -- what comes ahead of i has come
   have hahead:∀ k,((closure [] ops.toList).getD i 0).testBit k=true→k ∉ L∧k ∉ Rst:=by
    intro k hk
    obtain ⟨j,hj,hor⟩:=closure_get ops.toList [] i (by simp) (by simpa using hi1) k hk
    have hgo:ops.toList.getD (i - ([]:List Nat).length) default=o:=by simp [List.getD_eq_getElem?_getD,ho]
    rw [hgo] at hj
    obtain ⟨e,he,hb,rfl⟩:=(preds_iff o j).1 hj
    have hl:=hi3 o ho e he hb
    have hns:e.on<ops.size:=by
     rcases Nat.lt_or_ge e.on ops.size with h | h
     ·exact h
     ·simp [Array.getD_eq_getD_getElem?,Array.getElem?_eq_none (by rw [hsz];exact h)] at hl
    have hnL:¬ (e.on ∈ L∨e.on ∈ Rst):=by
     intro hmem
     have:=(hL e.on hns).2 hmem
     have hl2:e.on<listed.size:=by rw [hsz];exact hns
     simp only [Array.getD_eq_getD_getElem?,Array.getElem?_eq_getElem hl2,Option.getD_some] at this hl
     rw [this] at hl
     cases hl
    rcases hor with rfl | ⟨hb2,_⟩
    ·exact ⟨fun h=>hnL (.inl h),fun h=>hnL (.inr h)⟩
    ·exact hdc e.on (fun h=>hnL (.inl h)) (fun h=>hnL (.inr h)) hns k hb2
   have hiL:i ∈ L:=by
    rcases hi2 with h | h
    ·exact h
    ·exfalso
     have:=(hRst i h).2 e0 (hlt e0 he0) (fun hm=>absurd (hLR e0 he0 e0 hm) (Nat.lt_irrefl _)) so hso
     rw [hm] at this
     exact (hahead e0 this).1 he0
   have hslots:∀ j ∈ L,j<i→∀ (oj:HOp),l[j]?=some oj→slApart oj so=true:=by
    intro j hj hji oj hoj
    have:=(drawH_get ops.toList l l 0 hr.draw i so hso).1 j oj hoj (by omega)
    rcases this with h | h
    ·rw [hm] at h
     exact absurd hj (hahead j h).1
    ·exact h
   obtain ⟨L1,L2,hsplit⟩:=List.append_of_mem hiL
   have hL1:∀ j ∈ L1,j<i:=by
    intro j hj
    rw [hsplit] at hs
    exact (List.pairwise_append.1 hs).2.2 j hj i (by simp)
   have hL2:∀ j ∈ L2,i<j:=by
    intro j hj
    rw [hsplit] at hs
    exact List.rel_of_pairwise_cons (List.pairwise_append.1 hs).2.1 hj
   obtain ⟨fs1,fr,hfs1,hm1,hm2⟩:=List.map_eq_append_iff.1 (hfs.trans hsplit)
   obtain ⟨fi,fs2,hfr,hfi,hm3⟩:=List.map_eq_cons_iff.1 hm2
   subst hfr hfs1
   have hfp:∀ f ∈ fs1,fpApart f fi=true:=by
    intro f hf
    have hpw2:=(List.pairwise_append.1 hpw).2.2 f hf fi (by simp)
    obtain ⟨o2,q1,q2⟩:=hpw2
    rw [hfi,hso] at q1
    cases q1
    rcases q2 with h | h
    ·rw [hm] at h
     have:f.i ∈ L:=by rw [hsplit,← hm1];exact List.mem_append_left _ (List.mem_map.2 ⟨f,hf,rfl⟩)
     exact absurd this (hahead _ h).1
    ·exact h
   rw [hsplit] at hrun
   obtain ⟨cs',hrun',hcs'⟩:=pullD hso L1 S cs fs1 fs2 fi Sf hrun (by rw [← hm1,List.length_map]) (fun j hj oj hoj=>hslots j (by rw [hsplit];simp [hj]) (hL1 j hj) oj hoj) hfp
   obtain ⟨so',c,v,b,c',fs',hi',he,hrest,hcc,hff⟩:=runI_cons hrun'
   rw [hso] at hi'
   cases hi'
   subst hcc
   simp only [List.cons.injEq] at hff
   obtain ⟨_,hff⟩:=hff
   subst hff
   have hc':∀ p ∈ c ++ c',p:=fun p hp=>hc p ((hcs' p).1 hp)
   refine exH_ok hH G R ho hsame he (fun p hp=>hc' p (List.mem_append_left _ hp)) Q _ ?_
   rintro a' w' ⟨m',R'⟩
   have hmem:∀ j,j ∈ L1 ++ L2↔j ∈ L∧j≠i:=by
    intro j
    rw [hsplit]
    simp only [List.mem_append,List.mem_cons]
    constructor
    ·rintro (h | h)
     ·exact ⟨.inl h,Nat.ne_of_lt (hL1 j h)⟩
     ·exact ⟨.inr (.inr h),Nat.ne_of_gt (hL2 j h)⟩
    ·rintro ⟨h | h | h,hne⟩
     ·exact .inl h
     ·exact absurd h hne
     ·exact .inr h
   refine ih (L1 ++ L2) (listed.setIfInBounds i true) _ m' a' w' c' (fs1 ++ fs2) ?_ R' hrest (fun p hp=>hc' p (List.mem_append_right _ hp)) ?_ ?_ ?_ ?_ ?_ ?_ (by simpa using hsz) ?_
   ·rw [hsplit] at hlen
    simp at hlen ⊢
    omega
   ·rw [List.map_append,hm1,hm3]
   ·refine hpw.sublist ?_
    exact List.Sublist.append (List.Sublist.refl _) (List.sublist_cons_self _ _)
   ·exact fun j hj=>hlt j ((hmem j).1 hj).1
   ·rw [hsplit] at hs
    obtain ⟨p1,p2,p3⟩:=List.pairwise_append.1 hs
    exact List.pairwise_append.2 ⟨p1,p2.of_cons,fun x hx y hy=>p3 x hx y (by simp [hy])⟩
   ·exact fun j hj=>hLR j ((hmem j).1 hj).1
   ·intro j hj
    rw [hmem]
    have hsl:i<listed.size:=by rw [hsz];exact hi1
    by_cases hji:j=i
    ·subst hji
     have hnr:j ∉ Rst:=fun h=>absurd (hLR j hiL j h) (Nat.lt_irrefl _)
     simp [Array.getD_eq_getD_getElem?,hsl,hnr]
    ·have:(listed.setIfInBounds i true).getD j true=listed.getD j true:=by
      simp [Array.getD_eq_getD_getElem?,Array.getElem?_setIfInBounds_ne (fun e=>hji e.symm)]
     rw [this,hL j hj]
     simp [hji]
   ·intro j hj hjr hjs k hk
    refine ⟨fun hkm=>?_,?_⟩
    ·obtain ⟨hk1,hk2⟩:=(hmem k).1 hkm
     by_cases hji:j=i
     ·subst hji
      exact (hahead k hk).1 hk1
     ·have:j ∉ L:=fun h=>hj ((hmem j).2 ⟨h,hji⟩)
      exact (hdc j this hjr hjs k hk).1 hk1
    ·by_cases hji:j=i
     ·subst hji
      exact (hahead k hk).2
     ·have:j ∉ L:=fun h=>hj ((hmem j).2 ⟨h,hji⟩)
      exact (hdc j this hjr hjs k hk).2
end
end Sy

namespace Sy
open Go Go.RowKit Sx
section
variable {w0:World} {m:LM} {as:List (Array Value)} {S T:HS} {a:Act} {w:World}
def mle (m:LM) (S T:HS):LM:=fun l ver =>
 match curV (getB T.bl l) with
 | some v=>if v=ver then (match curV (getB S.bl l) with | some vs=>m l vs | none=>undef) else if ver<v then m l ver else undef
 | none=>undef
theorem mle_eq {l ver ver':Nat} (h1:curV (getB S.bl l)=some ver) (h2:curV (getB T.bl l)=some ver'):mle m S T l ver'=m l ver:=by simp [mle,h1,h2]
theorem mle_ok {l ver ver':Nat} (h:okN S.bl T.bl l ver ver'=true):mle m S T l ver'=m l ver:=by
 unfold okN at h
 unfold mle
 split at h
 ·rename_i v hv
  try rw [hv]
  try simp only
  split at h
  ·rename_i e
   try rw [if_pos e]
   split at h
   ·rename_i u hu
    try rw [hu]
    try simp only
    rw [show u=ver by simpa using h]
   ·cases h
  ·rename_i e
   try rw [if_neg e]
   simp only [Bool.and_eq_true,beq_iff_eq,Nat.ble_eq] at h
   obtain ⟨rfl,h2⟩:=h
   rw [if_pos (by omega)]
 ·cases h
theorem leP_ok {x y:AV} (h:leP x y):pv x=pv y∧plain y=true∧(wfP x→wfP y)∧(shapeA x=true→cellsOf x=cellsOf y∧shapeA y=true):=by
 unfold leP at h
 split at h
 ·obtain ⟨rfl,hn⟩:=h
  exact ⟨by simp [pv,hn],rfl,fun h=>by simpa [wfP,hn] using h,fun _=>⟨by simp [cellsOf,hn],rfl⟩⟩
 ·exact ⟨by simp [pv,h],rfl,fun _=>trivial,fun _=>⟨by simp [cellsOf,h],rfl⟩⟩
 ·obtain ⟨rfl,rfl,hfg⟩:=h
  exact ⟨by simp only [pv];rw [cellsA_congr hfg],rfl,fun h i hi=>by rw [← hfg i hi];exact h i hi,fun _=>⟨cellsA_congr hfg,rfl⟩⟩
 ·subst h
  exact ⟨rfl,rfl,id,fun h=>by simp [shapeA] at h⟩
 ·exact h.elim
theorem leA_ok {x y:HA} {v:Value} (h:leA S.bl T.bl x y) (hx:AR w0 m x v):AR w0 (mle m S T) y v:=by
 unfold leA at h
 split at h
 ·trivial
 ·exact hx
 ·obtain ⟨h1,h2,h3,_⟩:=leP_ok h
  obtain ⟨g1,g2,g3⟩:=hx
  exact ⟨by rw [g1,h1],h2,h3 g3⟩
 ·obtain ⟨rfl,h1,h3⟩:=h
  obtain ⟨b,g1,g2⟩:=hx
  exact ⟨b,by rw [mle_ok h1];exact g1,by rw [g2,h3]⟩
 ·obtain ⟨rfl,h1⟩:=h
  simp only [AR] at hx ⊢
  rw [hx,h1]
 ·obtain ⟨rfl,rfl,h1,h3,h4⟩:=h
  obtain ⟨aa,c,g1,g2,g3⟩:=hx
  refine ⟨aa,c,by rw [g1,h4],fun hp=>?_,by rw [← h4];exact g3⟩
  obtain ⟨b,g4,g5⟩:=g2 (by rw [h4];exact hp)
  exact ⟨b,by rw [mle_ok h1];exact g4,by rw [g5,h3]⟩
 ·obtain ⟨rfl,rfl,h1,h3⟩:=h
  obtain ⟨aa,n,c,g1,g2,g3,g4⟩:=hx
  exact ⟨aa,n,c,by rw [mle_ok h1];exact g1,by rw [g2,h3],by rw [← h3];exact g3,g4⟩
 ·obtain ⟨rfl,rfl,h1,h3,h4⟩:=h
  obtain ⟨aa,n,c,g1,g2,g3,g4,g5,g6,g7⟩:=hx
  refine ⟨aa,c,by rw [g2,h4],fun hp=>?_,by omega,g5⟩
  rw [← h4] at hp
  cases aa with
  | none=>have:=g7 rfl;omega
  | some q =>
   refine ⟨q.block,by rw [mle_ok h1,g1];rfl,?_⟩
   rw [h3,← g6 q rfl]
 ·obtain ⟨rfl,rfl,h1,h2⟩:=h
  obtain ⟨aa,c,g1,g2,g3⟩:=hx
  exact ⟨aa,c,by rw [g1,h2],fun hp=>by rw [g2 (by rw [h2];exact hp),h1],by rw [← h2];exact g3⟩
 ·obtain ⟨rfl,rfl,h1,h2⟩:=h
  obtain ⟨aa,c,g1,g2,g3,g4,g5⟩:=hx
  refine ⟨aa,c,by rw [g1,h1],fun hp=>?_,by rw [← h1];exact g3,g4,fun j hj=>?_⟩
  ·obtain ⟨b,o,g6,g7⟩:=g2 (by rw [h1];exact hp)
   refine ⟨b,o,g6,fun j hj=>?_⟩
   rw [← h1] at hj
   rw [← h2 j hj]
   exact g7 j hj
  ·rw [← h1] at hj
   rw [← h2 j hj]
   exact g5 j hj
 ·exact h.elim
theorem PR_one {p:HA} {l:List Value} (h:PR w0 m p l):∀ z ∈ l,z.oneCell'=true:=by
 intro z hz
 cases p with
 | pl x0 =>
  obtain ⟨rfl,k1,k2⟩:=h
  cases x0 <;> simp [shapeA] at k1 <;> simp [cellsOf] at hz
  ·subst hz;rfl
  ·subst hz;rfl
  ·exact cells_one _ _ _ z (by simpa using hz)
 | _=>obtain ⟨v,rfl,_,hv1⟩:=h;simp at hz;subst hz;exact hv1
theorem lePR {p q:HA} {l:List Value} (h:leA S.bl T.bl p q) (hs:szA p=szA q) (hp:PR w0 m p l):PR w0 (mle m S T) q l:=by
 have hl:=PR_len hp
 have h1:=PR_one hp
 cases q with
 | junk =>
  have:szA .junk=1:=rfl
  rw [hs,this] at hl
  obtain ⟨v,rfl⟩:=List.length_eq_one_iff.1 hl
  exact ⟨v,rfl,trivial,h1 v (by simp)⟩
 | pl y =>
  cases p with
  | pl x =>
   obtain ⟨g1,g2,g3⟩:=hp
   obtain ⟨k1,k2,k3,k4⟩:=leP_ok (x:=x) (y:=y) h
   obtain ⟨k5,k6⟩:=k4 g2
   exact ⟨by rw [g1,k5],k6,k3 g3⟩
  | _=>simp [leA] at h
 | _ =>
  cases p with
  | pl x=>simp [leA] at h
  | _ =>
   obtain ⟨v,g1,g2,g3⟩:=hp
   exact ⟨v,g1,leA_ok h g2,g3⟩
theorem leCL:∀ {ps qs:List HA} {l:List Value},leAs S.bl T.bl ps qs→szEq ps qs→CL w0 m ps l→CL w0 (mle m S T) qs l
 | [],[],_,_,_,h=>h
 | _ :: _,_ :: _,_,⟨h1,h2⟩,⟨s1,s2⟩,⟨x,y,e1,e2,e3⟩=>⟨x,y,e1,lePR h1 s1 e2,leCL h2 s2 e3⟩
 | [],_ :: _,_,h,_,_=>h.elim
 | _ :: _,[],_,h,_,_=>h.elim
theorem leAs_all:∀ {ps qs:List HA} {l:List Value},leAs S.bl T.bl ps qs→All2 (AR w0 m) ps l→All2 (AR w0 (mle m S T)) qs l
 | [],[],[],_,_=>trivial
 | _ :: _,_ :: _,_ :: _,⟨h1,h2⟩,⟨g1,g2⟩=>⟨leA_ok h1 g1,leAs_all h2 g2⟩
 | [],_ :: _,_,h,_=>h.elim
 | _ :: _,[],_,h,_=>h.elim
 | [],[],_ :: _,_,h=>h.elim
 | _ :: _,_ :: _,[],_,h=>h.elim
theorem leV_ok {x y:HV} {v:Value} (h:leV S.bl T.bl x y) (hx:VRH w0 m x v):VRH w0 (mle m S T) y v:=by
 unfold leV at h
 split at h
 ·trivial
 ·exact leA_ok h hx
 ·obtain ⟨cs,h1,h2⟩:=hx
  exact ⟨cs,h1,leCL h.1 h.2 h2⟩
 ·obtain ⟨vs,h1,h2⟩:=hx
  exact ⟨vs,h1,leAs_all h h2⟩
 ·exact h.elim
theorem leVs_get:∀ {xs ys:List HV},leVs S.bl T.bl xs ys→xs.length=ys.length∧∀ i,leV S.bl T.bl (getV xs i) (getV ys i)
 | [],[],_=>⟨rfl,fun i=>by simp [getV_D,leV,jV]⟩
 | x :: xs,y :: ys,⟨h1,h2⟩=>by
  obtain ⟨g1,g2⟩:=leVs_get h2
  refine ⟨by simp [g1],fun i=>?_⟩
  cases i with
  | zero=>rw [getV_1,getV_1];exact h1
  | succ i =>
   have:=g2 i
   rw [getV_1,getV_1] at this ⊢
   exact this
 | [],_ :: _,h=>h.elim
 | _ :: _,[],h=>h.elim
theorem leFs_ok:∀ {xs ys:List (List HV)} {as:List (Array Value)},leFs S.bl T.bl xs ys→All2 (fun s t=>Array.size t=s.length∧∀ i,VRH w0 m (getV s i) (Array.getD t i undef)) xs as →
  All2 (fun s t=>Array.size t=s.length∧∀ i,VRH w0 (mle m S T) (getV s i) (Array.getD t i undef)) ys as
 | [],[],[],_,_=>trivial
 | _ :: _,_ :: _,_ :: _,⟨h1,h2⟩,⟨g1,g2⟩=>by
  obtain ⟨k1,k2⟩:=leVs_get h1
  exact ⟨⟨by rw [g1.1,k1],fun i=>leV_ok (k2 i) (g1.2 i)⟩,leFs_ok h2 g2⟩
 | [],_ :: _,_,h,_=>h.elim
 | _ :: _,[],_,h,_=>h.elim
 | [],[],_ :: _,_,h=>h.elim
 | _ :: _,_ :: _,[],_,h=>h.elim
theorem leBs_get:∀ {xs ys:List HB},leBs S.bl T.bl xs ys→∀ i,leB S.bl T.bl (getB xs i) (getB ys i)
 | xs,[],_,i=>by simp [getB_D,leB]
 | x :: xs,y :: ys,⟨h1,h2⟩,i=>by
  cases i with
  | zero=>exact h1
  | succ i=>exact leBs_get h2 i
 | [],_ :: _,h,_=>h.elim
theorem HRel.le (R:HRel w0 m as S a w) (h:leHS S T):HRel w0 (mle m S T) as T a w:=by
 obtain ⟨h2,⟨h1⟩,⟨h3⟩⟩:=h
 obtain ⟨k1,k2⟩:=leVs_get h2
 have hb:=leBs_get h3
 have cur:∀ l,curb (mle m S T) l (getB T.bl l)=none∨curb (mle m S T) l (getB T.bl l)=curb m l (getB S.bl l):=by
  intro l
  have:=hb l
  have e:∀ ver ver',curV (getB S.bl l)=some ver→curV (getB T.bl l)=some ver'→mle m S T l ver'=m l ver:=fun _ _=>mle_eq
  revert this e
  cases getB T.bl l with
  | none=>intro _ _;exact .inl rfl
  | fix qs =>
   cases getB S.bl l with
   | fix ps=>intro _ e;right;simp only [curb];rw [e 0 0 rfl rfl]
   | _=>intro h;exact h.elim
  | row v k es len f =>
   cases getB S.bl l with
   | row v' k' es' len' f'=>intro _ e;right;simp only [curb];rw [e v' v rfl rfl]
   | _=>intro h;exact h.elim
  | frz k n f=>cases getB S.bl l <;> (intro h;exact h.elim)
 refine ⟨R.defers,by rw [R.size,k1],R.below,fun i=>leV_ok (k2 i) (R.vals i),leFs_ok h1 R.outs,fun l=>?_,fun l l' b hll g1 g2=>?_,fun l ver hv=>?_⟩
 ·have:=hb l
  have e:∀ ver ver',curV (getB S.bl l)=some ver→curV (getB T.bl l)=some ver'→mle m S T l ver'=m l ver:=fun _ _=>mle_eq
  have hR:=R.blks l
  revert this e hR
  cases getB T.bl l with
  | none=>intro _ _ _;trivial
  | fix qs =>
   cases getB S.bl l with
   | fix ps =>
    intro ⟨hq1,hq2⟩ e hR
    obtain ⟨b,cs,T0,g1,g2,g3,g4⟩:=hR
    exact ⟨b,cs,T0,by rw [e 0 0 rfl rfl];exact g1,g2,g3,leCL hq1 hq2 g4⟩
   | _=>intro h;exact h.elim
  | row v k es len f =>
   cases getB S.bl l with
   | row v' k' es' len' f' =>
    intro ⟨q1,q2,q3,q4⟩ e hR
    subst q1 q2
    obtain ⟨⟨e0,g1⟩,g2⟩:=hR
    refine ⟨⟨e0,?_⟩,fun j hj=>?_⟩
    ·rw [e v' v rfl rfl,← q3]
     rw [lcells_congr q4] at g1
     exact g1
    ·rw [← q3] at hj
     rw [← q4 j hj]
     exact g2 j hj
   | _=>intro h;exact h.elim
  | frz k n f=>cases getB S.bl l <;> (intro h;exact h.elim)
 ·rcases cur l with h | h
  ·rw [h] at g1;cases g1
  ·rcases cur l' with h' | h'
   ·rw [h'] at g2;cases g2
   ·rw [h] at g1
    rw [h'] at g2
    exact R.inj l l' b hll g1 g2
 ·revert hv
  unfold mle
  cases getB T.bl l with
  | none=>intro _;rfl
  | fix qs =>
   intro hv
   simp only [over] at hv
   simp only [curV]
   rw [if_neg (by omega),if_neg (by omega)]
  | row v k es len f =>
   intro hv
   simp only [over] at hv
   simp only [curV]
   rw [if_neg (by omega),if_neg (by omega)]
  | frz k n f =>
   intro hv
   simp only [over] at hv
   simp only [curV]
   rw [if_neg (by omega),if_neg (by omega)]
def SameCur (bl bl':List HB):Prop:=∀ l v,curV (getB bl l)=some v→curV (getB bl' l)=some v
theorem okN_mono {bl bs bt:List HB} (h1:SameCur bl bs) (h2:SameCur bl bt) {l v v':Nat} (h:okN bl bl l v v'=true):okN bs bt l v v'=true:=by
 unfold okN at h ⊢
 split at h
 ·rename_i u hu
  rw [h2 l u hu,h1 l u hu]
  exact h
 ·cases h
theorem leA_mono {bl bs bt:List HB} (h1:SameCur bl bs) (h2:SameCur bl bt) {x y:HA} (h:leA bl bl x y):leA bs bt x y:=by
 cases x <;> cases y <;> first | exact h | exact ⟨h.1,okN_mono h1 h2 h.2.1,h.2.2⟩ | exact ⟨h.1,h.2.1,okN_mono h1 h2 h.2.2.1,h.2.2.2⟩
theorem leAs_mono {bl bs bt:List HB} (h1:SameCur bl bs) (h2:SameCur bl bt):∀ {x y:List HA},leAs bl bl x y→leAs bs bt x y
 | [],[],_=>trivial
 | _ :: _,_ :: _,⟨a,b⟩=>⟨leA_mono h1 h2 a,leAs_mono h1 h2 b⟩
 | [],_ :: _,h=>h.elim
 | _ :: _,[],h=>h.elim
theorem leV_mono {bl bs bt:List HB} (h1:SameCur bl bs) (h2:SameCur bl bt) {x y:HV} (h:leV bl bl x y):leV bs bt x y:=by
 unfold leV at h
 split at h
 ·unfold leV;trivial
 ·have:=leA_mono h1 h2 h
  unfold leV
  split
  ·trivial
  ·rename_i e1 e2;cases e1;cases e2;exact this
  ·rename_i e1 e2;cases e1
  ·rename_i e1 e2;cases e1
  ·rename_i e1 e2 e3 e4;exact absurd rfl (e2 _ _ rfl)
 ·exact ⟨leAs_mono h1 h2 h.1,h.2⟩
 ·exact leAs_mono h1 h2 h
 ·exact h.elim
theorem leVs_mono {bl bs bt:List HB} (h1:SameCur bl bs) (h2:SameCur bl bt):∀ {x y:List HV},leVs bl bl x y→leVs bs bt x y
 | [],[],_=>trivial
 | _ :: _,_ :: _,⟨a,b⟩=>⟨leV_mono h1 h2 a,leVs_mono h1 h2 b⟩
 | [],_ :: _,h=>h.elim
 | _ :: _,[],h=>h.elim
theorem leFs_mono {bl bs bt:List HB} (h1:SameCur bl bs) (h2:SameCur bl bt):∀ {x y:List (List HV)},leFs bl bl x y→leFs bs bt x y
 | [],[],_=>trivial
 | _ :: _,_ :: _,⟨a,b⟩=>⟨leVs_mono h1 h2 a,leFs_mono h1 h2 b⟩
 | [],_ :: _,h=>h.elim
 | _ :: _,[],h=>h.elim
end
end Sy

namespace Sy
open Go Go.RowKit Sx
section
variable {P:Program} {H:HE} {w0:World} {m:LM} {as:List (Array Value)} {S:HS} {a:Act} {w:World}
def rvSem (a:Act):ResultVar→Sem Value
 | .tmp t=>pure (a.tmps.getD t undef)
 | .cell b t=>do loadVar t (← asAddr (a.tmps.getD b undef))
theorem resH1_ok (hH:HEOK P H) (R:HRel w0 m as S a w) {rv:ResultVar} {v:HV} (h:resH1 H S rv=some v):∃ u,(rvSem a rv).run P w=.ok u w∧VRH w0 m v u:=by
 cases rv with
 | tmp t =>
  simp only [resH1] at h
  cases h
  exact ⟨a.tmps.getD t undef,rfl,R.vals t⟩
 | cell t T =>
  simp only [resH1] at h
  split at h
  ·rename_i l ver off hs
   have hv:=R.vals t
   rw [hs] at hv
   obtain ⟨b0,h1,h2⟩:=hv
   split at h
   ·rename_i ps hB
    split at h
    ·rename_i hver
     subst hver
     split at h
     ·rename_i v' hl
      cases h
      have hblk:=R.blks l
      rw [hB] at hblk
      obtain ⟨b1,c,T0,g1,g2,g3,g4⟩:=hblk
      rw [g1] at h1
      cases h1
      obtain ⟨u,u1,u2⟩:=loadP_ok hH hl (fun p hp=>by simp at hp) g3 g4
      refine ⟨u,?_,u2⟩
      simp only [rvSem,h2,asAddr,Sem.run_bind,Sem.run_pure,Result.andThen_ok]
      exact u1
     ·cases h
    ·cases h
   ·cases h
  ·cases h
theorem resHs_ok (hH:HEOK P H) (R:HRel w0 m as S a w):∀ (rs:List ResultVar) (l:List HA),resHs H S rs=some l→∃ us,(rs.mapM (rvSem a)).run P w=.ok us w∧All2 (AR w0 m) l us∧us.length=rs.length
 | [],l,h=>by simp only [resHs] at h;cases h;exact ⟨[],rfl,trivial,rfl⟩
 | r :: rs,l,h=>by
  simp only [resHs] at h
  split at h
  ·rename_i x l' h1 h2
   cases h
   obtain ⟨u,u1,u2⟩:=resH1_ok hH R h1
   obtain ⟨us,v1,v2,v3⟩:=resHs_ok hH R rs l' h2
   refine ⟨u :: us,?_,⟨u2,v2⟩,by simp [v3]⟩
   rw [List.mapM_cons,Sem.run_bind,u1]
   simp only [Result.andThen_ok,Sem.run_bind,v1,Sem.run_pure]
  ·cases h
theorem resH_ok (hH:HEOK P H) (R:HRel w0 m as S a w) {fn:Func} {v:HV} (h:resH H S fn.results.toList=some v):∃ u,(results fn a.tmps).run P w=.ok u w∧VRH w0 m v u:=by
 have many:∀ rs l,fn.results.toList=rs→rs.length≠1→resHs H S rs=some l→∃ u,(results fn a.tmps).run P w=.ok u w∧VRH w0 m (.tup l) u:=by
  intro rs l hrs hne hl
  obtain ⟨us,v1,v2,v3⟩:=resHs_ok hH R rs l hl
  refine ⟨_,results_run (l:=us) (by rw [hrs];exact v1),?_⟩
  rw [dif_neg (by simp;omega)]
  exact ⟨us.toArray,rfl,by simpa using v2⟩
 unfold resH at h
 split at h
 ·rename_i r hrs
  obtain ⟨u,u1,u2⟩:=resH1_ok hH R h
  refine ⟨u,?_,u2⟩
  have:=results_run (P:=P) (w:=w) (a:=a) (fn:=fn) (l:=[u]) (by
   rw [hrs,List.mapM_cons,Sem.run_bind]
   cases r <;> simp only [rvSem] at u1 <;> simp only [u1,Result.andThen_ok,Sem.run_bind,List.mapM_nil,Sem.run_pure])
  exact this
 ·rename_i hne
  split at h
  ·rename_i l hl
   cases h
   refine many _ l rfl ?_ hl
   intro h1
   obtain ⟨r,hr⟩:=List.length_eq_one_iff.1 h1
   exact hne r hr
  ·cases h
def LiftH (w0:World) (as:List (Array Value)) (Q:Ex→HS→Prop):Exit→Act→World→Prop
 | .normal,a,w=>∃ S m,Q .normal S∧HRel w0 m as S a w
 | .exit id,a,w=>∃ S m,Q (.exit id) S∧HRel w0 m as S a w
 | .ret,a,w=>∃ S m,Q .ret S∧HRel w0 m as S a w
 | _,_,_=>False
structure HSnd (P:Program) (H:HE) (f:FuncId) (h:HF):Prop where
 ok : ∃ fn c, P.funcs[f]? = some fn ∧ fn.body = some c ∧ (fn.name == "runtime.NumGoroutine") = false ∧ fn.ntmps = h.nt ∧ fn.results.toList = h.rs ∧
  ∀ (w0:World) (_:WOK H.E w0) (m:LM) (as:List (Array Value)) (S:HS) (a:Act) (w:World) (Q:Ex→HS→Prop),wpH H h.c S Q→HRel w0 m as S a w→c.wp P (LiftH w0 as Q) a w
theorem enter_rel (R:HRel w0 m as S a w) {xs:List Operand} (hk:∀ x ∈ xs,constOk x=true) {nt:Nat} :
  HRel w0 m (a.tmps :: as) { fr:=S.sl :: S.fr,sl:=xs.map (opH S.sl) ++ List.replicate (nt - xs.length) jV,bl:=S.bl } { tmps:=(xs.map a.eval).toArray ++ Array.replicate (nt - (xs.map a.eval).toArray.size) undef,defers:=[] } w:=by
 refine ⟨rfl,by simp,R.below,fun i=>?_,⟨⟨R.size,R.vals⟩,R.outs⟩,R.blks,R.inj,R.top⟩
 have e1:∀ i,getV (xs.map (opH S.sl) ++ List.replicate (nt - xs.length) jV) i=if h:i<xs.length then opH S.sl xs[i] else jV:=by
  intro i
  simp only [getV_D,List.getD_eq_getElem?_getD]
  by_cases h:i<xs.length
  ·rw [List.getElem?_append_left (by simpa using h)]
   simp [h]
  ·rw [List.getElem?_append_right (by simpa using Nat.le_of_not_lt h)]
   rw [dif_neg h]
   simp only [List.getElem?_replicate]
   split <;> rfl
 simp only
 rw [e1]
 split
 ·rename_i h
  have:((xs.map a.eval).toArray ++ Array.replicate (nt - (xs.map a.eval).toArray.size) undef).getD i undef=a.eval xs[i]:=by
   simp only [Array.getD_eq_getD_getElem?]
   rw [Array.getElem?_append_left (by simpa using h)]
   simp [h]
  rw [this]
  exact opH_ok R _ (hk _ (List.getElem_mem h))
 ·trivial
theorem inl_ok (hH:HEOK P H) (G:WOK H.E w0) (R:HRel w0 m as S a w) {o:Oper} {c:Go.Call} {f:FuncId} {h:HF} (ho:o.op=.call c) (hcal:c.callee=.value (.func f)) (hs:HSnd P H f h) (hk:∀ x ∈ c.args.toList,constOk x=true)
  {Q2:Ex→HS→Prop} (hw:wpH H h.c { fr:=S.sl :: S.fr,sl:=c.args.toList.map (opH S.sl) ++ List.replicate (h.nt - c.args.toList.length) jV,bl:=S.bl } Q2)
  {Q:Exit→Act→World→Prop} {K:Act→World→Prop} (hx:∀ id S2,¬ Q2 (.exit id) S2)
  (hr:∀ e S2,(e=Ex.normal∨e=Ex.ret)→Q2 e S2→∃ s fr v,S2.fr=s :: fr∧resH H S2 h.rs=some v∧∀ m' a' w',HRel w0 m' as { fr:=fr,sl:=setD o.dst v s,bl:=S2.bl } a' w'→K a' w'):o.wp P a w K Q:=by
 obtain ⟨fn,cc,h1,h2,h3,h4,h5,h6⟩:=hs.ok
 have hto:(c.args.toList.map a.eval).toArray=c.args.map a.eval:=by
  apply Array.ext'
  simp
 have hbody:fn.body.isNone=false:=by rw [h2];rfl
 have hex:execOp a.eval o=(do let d ← resolve a.eval c o.type;invoke d.target d.args):=by simp only [execOp,ho]
 have hres:(resolve a.eval c o.type).run P w=.ok { target:=.fn (.func f) #[],args:=c.args.map a.eval } w:=by
  simp only [resolve,hcal,Act.eval,Deferred.ofValue]
  simp
 have hrun:(execOp a.eval o).run P w=.ok (.enter f (c.args.map a.eval)) w:=by
  rw [hex,Sem.run_bind,hres]
  simp [invoke]
  simp only [callFunc,Sem.run_bind,run_program,Result.andThen_ok,h1,h3,hbody,Bool.false_eq_true,if_false,Sem.run_pure]
 have hwp:=h6 w0 G m (a.tmps :: as) _ _ w Q2 hw (enter_rel R hk)
 rw [hto] at hwp
 have fin:∀ e S2 m2 a2 w2,(e=Ex.normal∨e=Ex.ret)→Q2 e S2→HRel w0 m2 (a.tmps :: as) S2 a2 w2→a2.defers=[]∧∃ u,(results fn a2.tmps).run P w2=.ok u w2∧∃ u',Ending.returned u=.returned u'∧K (a.put o.dst u') w2:=by
  intro e S2 m2 a2 w2 he hq R2
  obtain ⟨s,fr,v,e1,e2,e3⟩:=hr e S2 he hq
  rw [← h5] at e2
  obtain ⟨u,u1,u2⟩:=resH_ok hH R2 e2
  refine ⟨R2.defers,u,u1,u,rfl,e3 m2 _ w2 ?_⟩
  have ho:=R2.outs
  rw [e1] at ho
  obtain ⟨⟨o1,o2⟩,o3⟩:=ho
  have R3:HRel w0 m2 as { fr:=fr,sl:=s,bl:=S2.bl } a w2:=⟨R.defers,o1,R2.below,o2,o3,R2.blks,R2.inj,R2.top⟩
  exact R3.put o.dst u2
 have hcalls:Calls P f (c.args.map a.eval) w fun e w'=>∃ u',e=.returned u'∧K (a.put o.dst u') w':=by
  refine calls_of_wp h1 h2 ?_
  rw [h4]
  refine wp_mono hwp ?_
  intro e a2 w2 hl
  cases e with
  | normal=>obtain ⟨S2,m2,q,R2⟩:=hl;exact fin _ S2 m2 a2 w2 (.inl rfl) q R2
  | ret=>obtain ⟨S2,m2,q,R2⟩:=hl;exact fin _ S2 m2 a2 w2 (.inr rfl) q R2
  | exit id=>obtain ⟨S2,m2,q,R2⟩:=hl;exact (hx id S2 q).elim
  | goto l=>exact hl.elim
  | panic ch=>exact hl.elim
  | outgrown=>exact hl.elim
 exact does_call (T:=K) hrun hcalls (fun e w'' ⟨u,he,hk⟩=>⟨u,he,hk⟩) K Q fun _ _ h=>h
theorem reserve_rel (R:HRel w0 m as S a w) (n:Nat):HRel w0 m as (reserve n S) a w:=by
 have hb:∀ l,getB (reserve n S).bl l=getB S.bl l:=by
  intro l
  simp only [reserve,getB_D,List.getD_eq_getElem?_getD]
  rcases Nat.lt_or_ge l S.bl.length with h | h
  ·rw [List.getElem?_append_left h]
  ·rw [List.getElem?_append_right h,List.getElem?_eq_none h]
   simp only [List.getElem?_replicate]
   split <;> rfl
 exact ⟨R.defers,R.size,R.below,R.vals,R.outs,fun l=>by rw [hb];exact R.blks l,fun l l' b h h1 h2=>by rw [hb] at h1 h2;exact R.inj l l' b h h1 h2,fun l ver h=>by rw [hb] at h;exact R.top l ver h⟩
theorem drew_rel (R:HRel w0 m as S a w):HRel w0 m as S a { w with drawn:=w.drawn+1 }:=by
 have h:Below w.heap.size w { w with drawn:=w.drawn+1 }:=⟨rfl,rfl,rfl,Nat.le_refl _,fun _ _=>rfl⟩
 exact R.grow h
end
end Sy

