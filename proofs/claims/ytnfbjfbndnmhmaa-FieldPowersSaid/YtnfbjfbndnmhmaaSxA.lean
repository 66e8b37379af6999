/-
  An abstract interpreter for the straight code of the model: definitions alone. A slot holds a number, a truth value, an array of numbers, or the address of a block of the call's own with what it holds.
-/
import Derived.Calls
import Derived.Below
namespace Sx
open Go

/-- The reckoning of numbers, held behind a name so that it is never opened while a text is walked. -/
structure Ops where
  bin : BinOp → IntKind → Int → Int → Int
  cmp : BinOp → Int → Int → Bool
  un : UnOp → IntKind → Int → Int
  cnv : IntKind → Int → Int
  nat : Int → Nat
  eqA : Nat → (Nat → Int) → (Nat → Int) → Bool

def realBin (o : BinOp) (k : IntKind) (a b : Int) : Int :=
  match o with
  | .add => k.wrap (a + b)
  | .sub => k.wrap (a - b)
  | .mul => k.wrap (a * b)
  | .quo => k.wrap (a.tdiv b)
  | .rem => a.tmod b
  | .and => k.wrap (BitVec.ofInt k.bits a &&& BitVec.ofInt k.bits b).toNat
  | .or => k.wrap (BitVec.ofInt k.bits a ||| BitVec.ofInt k.bits b).toNat
  | .xor => k.wrap (BitVec.ofInt k.bits a ^^^ BitVec.ofInt k.bits b).toNat
  | .andNot => k.wrap (BitVec.ofInt k.bits a &&& ~~~BitVec.ofInt k.bits b).toNat
  | .shl => k.wrap (a * 2 ^ (min b.toNat k.bits))
  | .shr => a.fdiv (2 ^ (min b.toNat k.bits))
  | _ => 0

def realCmp (o : BinOp) (a b : Int) : Bool :=
  match o with
  | .eql => a == b
  | .neq => a != b
  | .lss => decide (a < b)
  | .leq => decide (a ≤ b)
  | .gtr => decide (b < a)
  | .geq => decide (b ≤ a)
  | _ => false

def realUn (o : UnOp) (k : IntKind) (a : Int) : Int :=
  match o with
  | .neg => k.wrap (0 - a)
  | .xor => k.wrap (BitVec.ofInt k.bits (if k.signed then -1 else k.max) ^^^ BitVec.ofInt k.bits a).toNat
  | _ => 0

def realEqA (n : Nat) (f g : Nat → Int) : Bool := (List.range n).all fun i => f i == g i

def realOps : Ops := { bin := realBin, cmp := realCmp, un := realUn, cnv := fun k n => k.wrap n, nat := Int.toNat, eqA := realEqA }

/-- A number: known ('lit': the walk may reckon with it) or not. -/
inductive SI where
  | lit (n : Int)
  | sym (n : Int)
inductive SB where
  | lit (b : Bool)
  | sym (b : Bool)

def SI.val : SI → Int
  | .lit n => n
  | .sym n => n
def SB.val : SB → Bool
  | .lit b => b
  | .sym b => b

def SI.bin (A : Ops) (o : BinOp) (k : IntKind) : SI → SI → SI
  | .lit a, .lit b => .lit (realBin o k a b)
  | .lit a, .sym b => .sym (A.bin o k a b)
  | .sym a, .lit b => .sym (A.bin o k a b)
  | .sym a, .sym b => .sym (A.bin o k a b)
def SI.cmp (A : Ops) (o : BinOp) : SI → SI → SB
  | .lit a, .lit b => .lit (realCmp o a b)
  | .lit a, .sym b => .sym (A.cmp o a b)
  | .sym a, .lit b => .sym (A.cmp o a b)
  | .sym a, .sym b => .sym (A.cmp o a b)
def SI.un (A : Ops) (o : UnOp) (k : IntKind) : SI → SI
  | .lit a => .lit (realUn o k a)
  | .sym a => .sym (A.un o k a)
def SI.cnv (A : Ops) (k : IntKind) : SI → SI
  | .lit a => .lit (k.wrap a)
  | .sym a => .sym (A.cnv k a)
def SI.nat (A : Ops) : SI → Nat
  | .lit n => n.toNat
  | .sym n => A.nat n

def SB.not : SB → SB
  | .lit b => .lit (!b)
  | .sym b => .sym (!b)
def SB.eqb : SB → SB → SB
  | .lit a, .lit b => .lit (a == b)
  | a, b => .sym (a.val == b.val)

/-- An offset: a number of cells. -/
/- What a walk asks of numbers, and sums of unknown numbers: each behind a name that no reckoning opens. -/
structure Within (i : Int) (n : Nat) : Prop where
  h : 0 ≤ i ∧ i < (n : Int)
structure Upto (i : Int) (n : Nat) : Prop where
  h : 0 ≤ i ∧ i ≤ (n : Int)
structure LeqN (a b : Nat) : Prop where
  h : a ≤ b
structure FitsIn (a n len : Nat) : Prop where
  h : a + n ≤ len
structure FitsMul (a n len es : Nat) : Prop where
  h : a + n ≤ len * es
structure NonNeg (n : Int) : Prop where
  h : 0 ≤ n
structure NonZero (n : Int) : Prop where
  h : n ≠ 0
theorem seal_add : Nonempty { f : Nat → Nat → Nat // f = fun a b => a + b } := ⟨⟨_, rfl⟩⟩
theorem seal_sub : Nonempty { f : Nat → Nat → Nat // f = fun a b => a - b } := ⟨⟨_, rfl⟩⟩
theorem seal_mul : Nonempty { f : Nat → Nat → Nat // f = fun a b => a * b } := ⟨⟨_, rfl⟩⟩
noncomputable def nadd (a b : Nat) : Nat := (Classical.choice seal_add).1 a b
noncomputable def nsub (a b : Nat) : Nat := (Classical.choice seal_sub).1 a b
noncomputable def nmul (a b : Nat) : Nat := (Classical.choice seal_mul).1 a b
theorem choice_add (a b : Nat) : (Classical.choice seal_add).1 a b = a + b := congrFun (congrFun (Classical.choice seal_add).2 a) b
theorem choice_sub (a b : Nat) : (Classical.choice seal_sub).1 a b = a - b := congrFun (congrFun (Classical.choice seal_sub).2 a) b
theorem choice_mul (a b : Nat) : (Classical.choice seal_mul).1 a b = a * b := congrFun (congrFun (Classical.choice seal_mul).2 a) b

inductive SO where
  | lit (n : Nat)
  | sym (n : Nat)
def SO.val : SO → Nat
  | .lit n => n
  | .sym n => n
noncomputable def SO.add : SO → SO → SO
  | .lit a, .lit b => .lit (a + b)
  | .lit 0, .sym b => .sym b
  | .lit a, .sym b => .sym (nadd a b)
  | .sym a, .lit 0 => .sym a
  | .sym a, .lit b => .sym (nadd a b)
  | .sym a, .sym b => .sym (nadd a b)
noncomputable def SO.mul : SO → Nat → SO
  | .lit a, m => .lit (a * m)
  | .sym a, 1 => .sym a
  | .sym a, m => .sym (nmul a m)
def SI.off (A : Ops) : SI → SO
  | .lit n => .lit n.toNat
  | .sym n => .sym (A.nat n)

/-- What is known of a slot. -/
inductive AV where
  | junk
  | int (k : IntKind) (n : SI)
  | bool (b : SB)
  | arr (k : IntKind) (len : Nat) (f : Nat → Int)
  | tup (ps : List AV)
  | val (v : Value)
  | own (x : AV)
  | ref (s : Nat) (off : SO)
  | gref (g : Nat) (off : SO)
  | sref (s : Nat) (es : Nat) (off len cap : SO)
  | xsl (k : IntKind) (es : Nat) (len cap : SO) (f : Nat → Int)
  | xref (s : Nat) (off : SO)
  | when (g : Nat) (b : Bool) (v : AV)

abbrev St := List AV

/-- A plain value: numbers and truth values, alone or side by side. -/
def plain : AV → Bool
  | .int .. | .bool _ | .arr .. | .val _ => true
  | _ => false
def answer : AV → Bool
  | .int .. | .bool _ | .arr .. | .val _ | .tup _ => true
  | _ => false

def get (S : St) (i : Nat) : AV := S.getD i .junk

inductive Ty where
  | int (k : IntKind)
  | bool
  | arr (n : Nat) (e : TypeId)
  | struct (fs : List (Nat × TypeId))
  | slice (e : TypeId)
  | other

structure TI where
  d : Ty
  sz : Nat
  k : IntKind
  eq : Bool

inductive Ann : Type 1 where
  | unroll (n : Nat)
  | cut (n : Nat)
  | inv (α : Type) (st : α → St) (μ : α → Nat)

/-- What a call of a function answers: what must hold, and the answer. -/
abbrev Contract := List AV → Option (List Prop × AV)

structure Env : Type 1 where
  A : Ops
  ty : TypeId → TI
  glob : Nat → AV
  call : FuncId → Contract
  loops : Nat → Ann

/-- A type whose size is known here. -/
def sized (E : Env) (t : TypeId) : Bool :=
  match (E.ty t).d with
  | .slice _ | .other => false
  | _ => true

def opv (S : St) : Operand → AV
  | .tmp t => get S t
  | .const (.int k n) => .int k (.lit n)
  | .const (.bool b) => .bool (.lit b)
  | .const v => .val v
  | .global g => .gref g (.lit 0)
  | .func f => .val (.func (.func f) #[] #[])

abbrev R := Option (List Prop × List (Nat × AV))

def ret1 (dst : Option Tmp) (cs : List Prop) (v : AV) : R :=
  match dst with
  | some d => some (cs, [(d, v)])
  | none => some (cs, [])

/-- 'off + n ≤ len', decided where it can be. -/
def fits (off : SO) (n len : Nat) : Option (List Prop) :=
  match off with
  | .lit a => if a + n ≤ len then some [] else none
  | .sym a => some [FitsIn a n len]

/-- The part of type T at an offset. -/
def sub (E : Env) (T : TypeId) (x : AV) (off : SO) : Option (List Prop × AV) :=
  match (E.ty T).d with
  | .int k =>
    match x, off with
    | .int k' n, .lit 0 => if k = k' then some ([], .int k n) else none
    | .arr k' n f, off => if k = k' then (match fits off 1 n with
      | some cs => some (cs, .int k (.sym (f off.val)))
      | none => none) else none
    | _, _ => none
  | .bool =>
    match x, off with
    | .bool b, .lit 0 => some ([], .bool b)
    | _, _ => none
  | .arr .. | .struct .. =>
    match x, off with
    | .arr k n f, .lit 0 =>
      if k = (E.ty T).k then
        if (E.ty T).sz = n then some ([], .arr k n f)
        else if (E.ty T).sz ≤ n then some ([], .arr k (E.ty T).sz f) else none
      else none
    | .arr k n f, off =>
      if k = (E.ty T).k then (match fits off (E.ty T).sz n with
      | some cs => some (cs, .arr k (E.ty T).sz (fun j => f (off.val + j)))
      | none => none) else none
    | _, _ => none
  | _ => none

def upd (f : Nat → Int) (i : Nat) (v : Int) : Nat → Int := fun j => if j = i then v else f j
def splice (f : Nat → Int) (off n : Nat) (g : Nat → Int) : Nat → Int := fun j => if j < off then f j else if j < off + n then g (j - off) else f j

/-- A value of type T laid at an offset. -/
def put (E : Env) (T : TypeId) (x : AV) (off : SO) (v : AV) : Option (List Prop × AV) :=
  match v with
  | .int k a =>
    match (E.ty T).d with
    | .int kt => if k = kt then
      (match x, off with
      | .int k' _, .lit 0 => if k = k' then some ([], .int k a) else none
      | .arr k' n f, off => if k = k' then (match fits off 1 n with
        | some cs => some (cs, .arr k n (upd f off.val a.val))
        | none => none) else none
      | _, _ => none) else none
    | _ => none
  | .bool b =>
    match (E.ty T).d with
    | .bool =>
      (match x, off with
      | .bool _, .lit 0 => some ([], .bool b)
      | _, _ => none)
    | _ => none
  | .arr k m g =>
    match (E.ty T).d with
    | .arr .. | .struct .. =>
      if (E.ty T).sz = m then
      (match x, off with
      | .arr k' n f, .lit 0 => if k = k' then
          if m = n then some ([], .arr k n g) else if m ≤ n then some ([], .arr k n (splice f 0 m g)) else none
        else none
      | .arr k' n f, off => if k = k' then (match fits off m n with
        | some cs => some (cs, .arr k n (splice f off.val m g))
        | none => none) else none
      | _, _ => none) else none
    | _ => none
  | _ => none

def zero (E : Env) (T : TypeId) : Option AV :=
  match (E.ty T).d with
  | .int k => some (.int k (.lit 0))
  | .bool => some (.bool (.lit false))
  | .arr .. | .struct .. => some (.arr (E.ty T).k (E.ty T).sz (fun _ => 0))
  | _ => none

/-- A value that may lie in a block of its own. -/
def boxable (E : Env) (T : TypeId) (v : AV) : Bool :=
  match (E.ty T).d, v with
  | .int k, .int k' _ => decide (k = k')
  | .bool, .bool _ => true
  | .arr .., .arr k n _ => decide (k = (E.ty T).k) && (n == (E.ty T).sz)
  | .struct .., .arr k n _ => decide (k = (E.ty T).k) && (n == (E.ty T).sz)
  | _, _ => false

/-- A number that lies in a slot: an index's bounds. -/
def within (i : SI) (n : SO) : Option (List Prop) :=
  match i, n with
  | .lit a, .lit b => if 0 ≤ a ∧ a < (b : Int) then some [] else none
  | .lit a, .sym b => some [Within a b]
  | .sym a, .lit b => some [Within a b]
  | .sym a, .sym b => some [Within a b]

def arith (o : BinOp) : Bool :=
  match o with
  | .add | .sub | .mul | .and | .or | .xor | .andNot => true
  | _ => false
def compares (o : BinOp) : Bool :=
  match o with
  | .eql | .neq | .lss | .leq | .gtr | .geq => true
  | _ => false

def binEff (E : Env) (o : BinOp) (T : TypeId) (x y : AV) : Option (List Prop × AV) :=
  match x, y with
  | .int k a, .int k' b =>
    match o with
    | .shl | .shr =>
      match b with
      | .lit n => if 0 ≤ n then some ([], .int k (SI.bin E.A o k a b)) else none
      | .sym n => some ([NonNeg n], .int k (SI.bin E.A o k a b))
    | _ =>
      if k = k' then
        if arith o then some ([], .int k (SI.bin E.A o k a b))
        else if compares o then some ([], .bool (SI.cmp E.A o a b))
        else match b with
          | .lit n => if n = 0 then none else some ([], .int k (SI.bin E.A o k a b))
          | .sym n => some ([NonZero n], .int k (SI.bin E.A o k a b))
      else none
  | .bool a, .bool b =>
    match (E.ty T).d, o with
    | .bool, .eql => some ([], .bool (a.eqb b))
    | .bool, .neq => some ([], .bool (a.eqb b).not)
    | _, _ => none
  | .arr k n f, .arr k' n' g =>
    if (E.ty T).eq = true ∧ k = (E.ty T).k ∧ k' = (E.ty T).k ∧ n = (E.ty T).sz ∧ n' = (E.ty T).sz then
      match o with
      | .eql => some ([], .bool (.sym (E.A.eqA n f g)))
      | .neq => some ([], .bool (.sym (!E.A.eqA n f g)))
      | _ => none
    else none
  | _, _ => none

/-- No slice is longer. -/
def capMax : Nat := 9223372036854775807

abbrev Gd := Option (Nat × Bool)

/-- A slot, read under a guard. -/
def getG (gd : Gd) (S : St) (i : Nat) : AV :=
  match get S i with
  | .when g b v =>
    match gd with
    | some (g', b') => if g = g' ∧ b = b' then v else .junk
    | none => .junk
  | v => v

def opg (gd : Gd) (S : St) : Operand → AV
  | .tmp t => getG gd S t
  | .const (.int k n) => .int k (.lit n)
  | .const (.bool b) => .bool (.lit b)
  | .const v => .val v
  | .global g => .gref g (.lit 0)
  | .func f => .val (.func (.func f) #[] #[])

def tmpOf : Operand → Option Nat
  | .tmp t => some t
  | _ => none

noncomputable def SO.sub : SO → SO → SO
  | .lit a, .lit b => .lit (a - b)
  | .sym a, .lit 0 => .sym a
  | .lit a, .sym b => .sym (nsub a b)
  | .sym a, .lit b => .sym (nsub a b)
  | .sym a, .sym b => .sym (nsub a b)

def SO.leq : SO → SO → Option (List Prop)
  | .lit a, .lit b => if a ≤ b then some [] else none
  | .lit a, .sym b => some [LeqN a b]
  | .sym a, .lit b => some [LeqN a b]
  | .sym a, .sym b => some [LeqN a b]

/-- A bound of a slice expression: a number from 0 to n. -/
def upto (i : SI) (n : SO) : Option (List Prop) :=
  match i, n with
  | .lit a, .lit b => if 0 ≤ a ∧ a ≤ (b : Int) then some [] else none
  | .lit a, .sym b => some [Upto a b]
  | .sym a, .lit b => some [Upto a b]
  | .sym a, .sym b => some [Upto a b]

/-- An argument as the callee sees it. -/
noncomputable def argOf (rd : List Nat) (gd : Gd) (S : St) (x : Operand) : Option (List Prop × AV) :=
  match opg gd S x with
  | .int k n => some ([], .int k n)
  | .bool b => some ([], .bool b)
  | .arr k n f => some ([], .arr k n f)
  | .sref s es off len cap =>
    if rd.contains s then
    match get S s with
    | .own (.arr k n f) =>
      match (off.add (len.mul es)).leq (.lit n) with
      | some cs => some (cs, .xsl k es len cap (fun j => f (off.val + j)))
      | none => none
    | .xsl k es' len' _ f =>
      match (off.add (len.mul es)).leq (len'.mul es') with
      | some cs => some (cs, .xsl k es len cap (fun j => f (off.val + j)))
      | none => none
    | _ => none
    else none
  | _ => none

noncomputable def argsOf (rd : List Nat) (gd : Gd) (S : St) : List Operand → Option (List Prop × List AV)
  | [] => some ([], [])
  | x :: xs =>
    match argOf rd gd S x with
    | some (cs, v) =>
      (match argsOf rd gd S xs with
      | some (cs', vs) => some (cs ++ cs', v :: vs)
      | none => none)
    | none => none

def pure? : AV → Bool
  | .int .. | .bool _ | .arr .. => true
  | _ => false

/-- The parts of a composite laid one by one. -/
def lay (E : Env) (gd : Gd) (S : St) (place : Nat → Option (Nat × TypeId)) : AV → List (Nat × Operand) → Option AV
  | x, [] => some x
  | x, (i, o) :: ps =>
    match place i with
    | some (off, T) =>
      (match put E T x (.lit off) (opg gd S o) with
      | some ([], x') => lay E gd S place x' ps
      | _ => none)
    | none => none

def effMove (gd : Gd) (S : St) (dst : Option Tmp) (x : Operand) : R :=
  match opg gd S x with
  | .int k n => ret1 dst [] (.int k n)
  | .bool b => ret1 dst [] (.bool b)
  | .arr k n f => ret1 dst [] (.arr k n f)
  | .tup ps => ret1 dst [] (.tup ps)
  | .val v => ret1 dst [] (.val v)
  | .ref s off => ret1 dst [] (.ref s off)
  | .gref g off => ret1 dst [] (.gref g off)
  | .xref s off => ret1 dst [] (.xref s off)
  | .sref s es off len cap => ret1 dst [] (.sref s es off len cap)
  | .xsl _ es len cap _ =>
    match x with
    | .tmp t => ret1 dst [] (.sref t es (.lit 0) len cap)
    | _ => none
  | _ => none

def effPick (S : St) (dst : Option Tmp) (c x y : Operand) : R :=
  match c with
  | .tmp t =>
    match get S t with
    | .bool (.lit true) => effMove (some (t, true)) S dst x
    | .bool (.lit false) => effMove (some (t, false)) S dst y
    | .bool (.sym p) =>
      match opg (some (t, true)) S x, opg (some (t, false)) S y with
      | .bool a, .bool b => ret1 dst [] (.bool (.sym (cond p a.val b.val)))
      | .int k a, .int k' b => if k = k' then ret1 dst [] (.int k (.sym (cond p a.val b.val))) else none
      | _, _ => none
    | _ => none
  | _ => none

/-- Where an address leads: a block of the call's own (its slot), or a package-level variable. -/
def effLoad (E : Env) (rd : List Nat) (gd : Gd) (S : St) (dst : Option Tmp) (T : TypeId) (x : Operand) : R :=
  match opg gd S x with
  | .own v =>
    match sub E T v (.lit 0) with
    | some (cs, r) => ret1 dst cs r
    | none => none
  | .ref s off =>
    if rd.contains s then
    match get S s with
    | .own v =>
      match sub E T v off with
      | some (cs, r) => ret1 dst cs r
      | none => none
    | _ => none
    else none
  | .gref g off =>
    match sub E T (E.glob g) off with
    | some (cs, r) => ret1 dst cs r
    | none => none
  | .xref s off =>
    if rd.contains s then
    match get S s with
    | .xsl k es len _ f =>
      match (E.ty T).d with
      | .int k' => if k = k' then ret1 dst [FitsMul off.val 1 len.val es] (.int k (.sym (f off.val))) else none
      | .arr .. | .struct .. => if k = (E.ty T).k then ret1 dst [FitsMul off.val (E.ty T).sz len.val es] (.arr k (E.ty T).sz (fun j => f (off.val + j))) else none
      | _ => none
    | _ => none
    else none
  | _ => none

def effStore (E : Env) (rd ks : List Nat) (gd : Gd) (S : St) (dst : Option Tmp) (T : TypeId) (a x : Operand) : R :=
  match dst with
  | some _ => none
  | none =>
    match opg gd S a with
    | .own v =>
      match tmpOf a with
      | some t =>
        if ks.contains t then
        match put E T v (.lit 0) (opg gd S x) with
        | some (cs, v') => some (cs, [(t, .own v')])
        | none => none
        else none
      | none => none
    | .ref s off =>
      if rd.contains s && ks.contains s then
      match get S s with
      | .own v =>
        match put E T v off (opg gd S x) with
        | some (cs, v') => some (cs, [(s, .own v')])
        | none => none
      | _ => none
      else none
    | _ => none

noncomputable def effIndexAddr (E : Env) (rd : List Nat) (gd : Gd) (S : St) (dst : Option Tmp) (T : TypeId) (x i : Operand) : R :=
  match opg gd S i with
  | .int _ iv =>
    match (E.ty T).d with
    | .arr n e =>
      if sized E e then
      match within iv (.lit n) with
      | some cs =>
        match opg gd S x with
        | .own _ =>
          match tmpOf x with
          | some t => ret1 dst cs (.ref t ((iv.off E.A).mul (E.ty e).sz))
          | none => none
        | .ref s off => ret1 dst cs (.ref s (off.add ((iv.off E.A).mul (E.ty e).sz)))
        | .gref g off => ret1 dst cs (.gref g (off.add ((iv.off E.A).mul (E.ty e).sz)))
        | _ => none
      | none => none
      else none
    | .slice e =>
      match opg gd S x with
      | .sref s es off len _ =>
        if es = (E.ty e).sz ∧ rd.contains s ∧ sized E e then
          match within iv len with
          | some cs =>
            match get S s with
            | .own _ => ret1 dst cs (.ref s (off.add ((iv.off E.A).mul es)))
            | .xsl .. => ret1 dst cs (.xref s (off.add ((iv.off E.A).mul es)))
            | _ => none
          | none => none
        else none
      | .xsl _ es len _ _ =>
        if es = (E.ty e).sz ∧ sized E e then
          match tmpOf x, within iv len with
          | some t, some cs => ret1 dst cs (.xref t ((iv.off E.A).mul es))
          | _, _ => none
        else none
      | _ => none
    | _ => none
  | _ => none

noncomputable def effFieldAddr (E : Env) (gd : Gd) (S : St) (dst : Option Tmp) (T : TypeId) (x : Operand) (fi : Nat) : R :=
  match (E.ty T).d with
  | .struct fs =>
    match fs[fi]? with
    | some (o, ft) =>
      if (E.ty ft).sz = 0 ∨ ¬ sized E ft then none else
      match opg gd S x with
      | .own _ =>
        match tmpOf x with
        | some t => ret1 dst [] (.ref t (.lit o))
        | none => none
      | .ref s off => ret1 dst [] (.ref s (off.add (.lit o)))
      | .gref g off => ret1 dst [] (.gref g (off.add (.lit o)))
      | _ => none
    | none => none
  | _ => none

def effField (E : Env) (gd : Gd) (S : St) (dst : Option Tmp) (T : TypeId) (x : Operand) (fi : Nat) : R :=
  match (E.ty T).d with
  | .struct fs =>
    match fs[fi]? with
    | some (o, ft) =>
      match opg gd S x with
      | .arr k n f =>
        match sub E ft (.arr k n f) (.lit o) with
        | some (cs, r) => ret1 dst cs r
        | none => none
      | _ => none
    | none => none
  | _ => none

noncomputable def effIndex (E : Env) (gd : Gd) (S : St) (dst : Option Tmp) (T : TypeId) (x i : Operand) : R :=
  match (E.ty T).d, opg gd S x, opg gd S i with
  | .arr n e, .arr k m f, .int _ iv =>
    if sized E e then
    match within iv (.lit n), sub E e (.arr k m f) ((iv.off E.A).mul (E.ty e).sz) with
    | some cs, some (cs', r) => ret1 dst (cs ++ cs') r
    | _, _ => none
    else none
  | _, _, _ => none

def bound (gd : Gd) (S : St) : Option Operand → Option (Option SI)
  | none => some none
  | some x =>
    match opg gd S x with
    | .int _ n => some (some n)
    | _ => none

/-- A bound that is left out. -/
def orElse (E : Env) (i : Option SI) (n : SO) : SO :=
  match i with
  | some i => i.off E.A
  | none => n
def upto? (i : Option SI) (n : SO) : Option (List Prop) :=
  match i with
  | some i => upto i n
  | none => some []

/-- x[lo:hi] of an array of the call's own, or of a slice. -/
noncomputable def effSlice (E : Env) (gd : Gd) (S : St) (dst : Option Tmp) (T : TypeId) (x : Operand) (lo hi mx : Option Operand) : R :=
  match mx with
  | some _ => none
  | none =>
    match bound gd S lo, bound gd S hi with
    | some l, some h =>
      match (E.ty T).d with
      | .arr n e =>
        if sized E e = true ∧ n ≤ capMax then
        match opg gd S x, tmpOf x, upto? h (.lit n), upto? l (orElse E h (.lit n)) with
        | .own _, some t, some c1, some c2 => ret1 dst (c1 ++ c2) (.sref t (E.ty e).sz ((orElse E l (.lit 0)).mul (E.ty e).sz) ((orElse E h (.lit n)).sub (orElse E l (.lit 0))) ((SO.lit n).sub (orElse E l (.lit 0))))
        | _, _, _, _ => none
        else none
      | .slice e =>
        match opg gd S x with
        | .sref s es off len cap =>
          if es = (E.ty e).sz ∧ sized E e then
          match upto? h len, upto? l (orElse E h len) with
          | some c1, some c2 => ret1 dst (c1 ++ c2) (.sref s es (off.add ((orElse E l (.lit 0)).mul es)) ((orElse E h len).sub (orElse E l (.lit 0))) (cap.sub (orElse E l (.lit 0))))
          | _, _ => none
          else none
        | _ => none
      | _ => none
    | _, _ => none

def lenSI : SO → SI
  | .lit n => .lit (n : Int)
  | .sym n => .sym (n : Int)

noncomputable def effCall (E : Env) (rd : List Nat) (gd : Gd) (S : St) (dst : Option Tmp) (c : Go.Call) : R :=
  match c.callee with
  | .value (.func f) =>
    match argsOf rd gd S c.args.toList with
    | some (cs, vs) =>
      match E.call f vs with
      | some (cs', r) => if answer r then ret1 dst (cs ++ cs') r else none
      | none => none
    | none => none
  | .builtin .len =>
    match c.args.toList, c.argTypes.toList with
    | [x], [t] =>
      match (E.ty t).d with
      | .slice _ =>
        match opg gd S x with
        | .sref _ _ _ len _ => ret1 dst [] (.int .i64 (lenSI len))
        | .xsl _ _ len _ _ => ret1 dst [] (.int .i64 (lenSI len))
        | _ => none
      | _ => none
    | _, _ => none
  | _ => none

def effConvert (E : Env) (gd : Gd) (S : St) (dst : Option Tmp) (s d : TypeId) (x : Operand) : R :=
  match (E.ty s).d, (E.ty d).d, opg gd S x with
  | .int _, .int k, .int _ n => ret1 dst [] (.int k (n.cnv E.A k))
  | _, _, _ => none

def effUn (E : Env) (gd : Gd) (S : St) (dst : Option Tmp) (op : UnOp) (x : Operand) : R :=
  match op, opg gd S x with
  | .neg, .int k n => ret1 dst [] (.int k (n.un E.A .neg k))
  | .xor, .int k n => ret1 dst [] (.int k (n.un E.A .xor k))
  | .not, .bool b => ret1 dst [] (.bool b.not)
  | _, _ => none

def effBuild (E : Env) (gd : Gd) (S : St) (dst : Option Tmp) (T : TypeId) (ps : Array (Nat × Operand)) : R :=
  match (E.ty T).d with
  | .arr _ e =>
    if sized E e then
    match zero E T with
    | some z =>
      match lay E gd S (fun i => some (i * (E.ty e).sz, e)) z ps.toList with
      | some v => ret1 dst [] v
      | none => none
    | none => none
    else none
  | .struct fs =>
    if fs.all (fun f => sized E f.2) then
    match zero E T with
    | some z =>
      match lay E gd S (fun i => fs[i]?) z ps.toList with
      | some v => ret1 dst [] v
      | none => none
    | none => none
    else none
  | _ => none

/-- An operation as the walk carries it out: what it writes, what it is, its guard (a slot), the slots that it may look at, those that it may write. -/
structure SOp where
  dst : Option Nat
  op : Go.Op
  gd : Gd
  rd : List Nat
  ks : List Nat

/-- What an operation does to the slots; none: it is none that is told here. -/
noncomputable def eff (E : Env) (gd : Gd) (S : St) (o : SOp) : R :=
  match o.op with
  | .move x => effMove gd S o.dst x
  | .assign x => effMove gd S o.dst x
  | .pick c x y => effPick S o.dst c x y
  | .alloc T => match zero E T with | some v => ret1 o.dst [] (.own v) | none => none
  | .box T x => if boxable E T (opg gd S x) then ret1 o.dst [] (.own (opg gd S x)) else none
  | .build T ps => effBuild E gd S o.dst T ps
  | .load T x => effLoad E o.rd gd S o.dst T x
  | .store T a x => effStore E o.rd o.ks gd S o.dst T a x
  | .indexAddr T x i => effIndexAddr E o.rd gd S o.dst T x i
  | .fieldAddr T x fi => effFieldAddr E gd S o.dst T x fi
  | .field T x fi => effField E gd S o.dst T x fi
  | .index T x i => effIndex E gd S o.dst T x i
  | .slice T x lo hi mx => effSlice E gd S o.dst T x lo hi mx
  | .convert s d x => effConvert E gd S o.dst s d x
  | .unOp op _ x => effUn E gd S o.dst op x
  | .binOp op T x y _ =>
    match binEff E op T (opg gd S x) (opg gd S y) with
    | some (cs, r) => ret1 o.dst cs r
    | none => none
  | .extract x i =>
    match opg gd S x with
    | .tup ps => match ps[i]? with | some v => if plain v then ret1 o.dst [] v else none | none => none
    | _ => none
  | .call c => effCall E o.rd gd S o.dst c
  | _ => none

/-- May a value be laid behind a guard? -/
def light : AV → Bool
  | .int .. | .bool _ | .arr .. | .ref .. | .gref .. | .xref .. | .sref .. | .tup _ | .val _ => true
  | _ => false

noncomputable def exec (E : Env) (S : St) (o : SOp) : R :=
  match o.gd with
  | none => eff E none S o
  | some (g, want) =>
    match get S g with
    | .bool (.lit b) =>
      if b = want then eff E none S o
      else
        match o.dst with
        | some d => some ([], [(d, .val undef)])
        | none => some ([], [])
    | .bool (.sym p) =>
      match o.dst, eff E (some (g, want)) S o with
      | some d, some (cs, [(x, v)]) => if light v && x == d then some (cs.map (fun c => p = want → c), [(d, .when g want v)]) else none
      | _, _ => none
    | _ => none

def app (us : List (Nat × AV)) (S : St) : St :=
  match us with
  | [] => S
  | (i, v) :: us => app us (S.set i v)

noncomputable def run (E : Env) : List SOp → St → Option (List Prop × St)
  | [], S => some ([], S)
  | o :: l, S =>
    match exec E S o with
    | some (cs, us) =>
      (match run E l (app us S) with
      | some (cs', S') => some (cs ++ cs', S')
      | none => none)
    | none => none

def disj (a b : List Nat) : Bool := a.all fun x => !b.contains x

/-- Ahead of a statement: what was laid behind a guard, and the addresses of blocks that are made anew, are forgotten. -/
def kill1 (D : List Nat) (v : AV) : AV :=
  match v with
  | .when .. => .junk
  | .ref s off => if D.contains s then .junk else .ref s off
  | .sref s es off len cap => if D.contains s then .junk else .sref s es off len cap
  | .xref s off => if D.contains s then .junk else .xref s off
  | v => v
def kill (D : List Nat) : St → St
  | [] => []
  | v :: S => kill1 D v :: kill D S

/-! The code, made ready for the walk once for all. -/

inductive SC where
  | skip
  | reg (ds : List Nat) (l : List SOp)
  | seq (a b : SC)
  | cond (c : Operand) (a b : SC)
  | block (id : Nat) (c : SC)
  | loop (id : Nat) (c : SC)
  | exit (id : Nat)
  | ret
  | bad

def tmpsOf (o : Oper) : List Nat := o.op.operands.toList.filterMap fun | .tmp t => some t | _ => none

def makes (o : Go.Op) : Bool :=
  match o with
  | .alloc _ | .box _ _ => true
  | _ => false

abbrev RM := List (Nat × List Nat)
def rmGet (rm : RM) (t : Nat) : List Nat :=
  match rm with
  | [] => []
  | (s, l) :: rm => if s = t then l else rmGet rm t
def rmAll (rm : RM) (ts : List Nat) : List Nat := ts.flatMap fun t => rmGet rm t

/-- Whose value may be an address or a slice made of an operand's. -/
def hands (o : Go.Op) : Bool :=
  match o with
  | .move _ | .assign _ | .pick .. | .indexAddr .. | .fieldAddr .. | .slice .. => true
  | _ => false

def storeTo (o : Go.Op) : List Nat :=
  match o with
  | .store _ (.tmp t) _ => [t]
  | _ => []

def gslot (ops : List Oper) (o : Oper) : Option Gd :=
  match o.guard with
  | none => some none
  | some (j, want) =>
    match (ops[j]?).bind (·.dst) with
    | some g => some (some (g, want))
    | none => none

def gslots (g : Gd) : List Nat :=
  match g with
  | none => []
  | some (t, _) => [t]

def foot (ops : List Oper) : RM → List Oper → Option (List SOp)
  | _, [] => some []
  | rm, o :: l =>
    match gslot ops o with
    | none => none
    | some gd =>
      let ts := tmpsOf o
      let so : SOp := { dst := o.dst, op := o.op, gd := gd, rd := gslots gd ++ (ts ++ rmAll rm ts), ks := o.dst.toList ++ (storeTo o.op ++ rmAll rm (storeTo o.op)) }
      match foot ops (match o.dst with | some d => if hands o.op then (d, ts ++ rmAll rm ts) :: rm else rm | none => rm) l with
      | some r => some (so :: r)
      | none => none

def madeIn (l : List SOp) : List Nat := l.flatMap fun o => if makes o.op then o.ks else []

def apart (r r' : SOp) : Bool := disj r.ks (r'.rd ++ r'.ks) && disj r'.ks r.rd

/-- A block is made in no slot that an earlier operation of the statement looked at or wrote; a guard's slot is not written once the guard was asked. -/
def freshOk : List SOp → Bool
  | [] => true
  | r :: l => (l.all fun p => (!makes p.op || disj p.ks (r.rd ++ r.ks)) && disj (gslots r.gd) p.ks) && disj (gslots r.gd) r.ks && freshOk l

/-- The numbers that stand in an operation are of their kinds. -/
def constOk (x : Operand) : Bool :=
  match x with
  | .const (.int k n) => decide (k.min ≤ n ∧ n ≤ k.max)
  | _ => true

def preds (o : Oper) : List Nat := o.after.toList.filterMap fun e => if Region.binds .any e then some e.on else none

/-- For each operation the ones that come ahead of it, as bits. -/
def closure (acc : List Nat) : List Oper → List Nat
  | [] => acc
  | o :: l => closure (acc ++ [(preds o).foldl (fun s j => s ||| ((1 <<< j) ||| acc.getD j 0)) 0]) l

/-- Operation number i against the earlier ones: ordered, or apart. -/
def pairsOk (i : Nat) (r : SOp) (m : Nat) : Nat → List SOp → Bool
  | _, [] => true
  | j, r' :: l => (if j < i then m.testBit j || apart r' r else true) && pairsOk i r m (j + 1) l

def drawOk (ops : List Oper) (ms : List Nat) (all : List SOp) : Nat → List SOp → Bool
  | _, [] => true
  | i, r :: l => pairsOk i r (ms.getD i 0) 0 all && ((preds (ops.getD i default)).all fun j => decide (j < i)) && drawOk ops ms all (i + 1) l

/-- A statement, made ready; none: it is none that is told here. -/
def regOf (ops : List Oper) (draw : Bool) : Option (List SOp) :=
  match foot ops [] ops with
  | some l => if ops.all (fun o => o.op.operands.all constOk) && freshOk l && (!draw || drawOk ops (closure [] ops) l 0 l) then some l else none
  | none => none

/-- The number of the first statement within a loop: its name. -/
def firstRegion : Code → Nat
  | .region id _ _ => id
  | .seq a _ => firstRegion a
  | .block _ c => firstRegion c
  | .loop c => firstRegion c
  | .scope c => firstRegion c
  | _ => 0

def strip : Code → SC
  | .skip => .skip
  | .label _ => .skip
  | .region _ ops draw =>
    match regOf ops.toList draw with
    | some l => .reg (madeIn l) l
    | none => .bad
  | .seq a b => .seq (strip a) (strip b)
  | .cond c a b => .cond c (strip a) (strip b)
  | .block id c => .block id (strip c)
  | .loop c => .loop (firstRegion c) (strip c)
  | .exit id => .exit id
  | .ret => .ret
  | _ => .bad

def body (f : Func) : Code := match f.body with | some c => c | none => .skip

inductive Ex where
  | normal
  | exit (id : Nat)
  | ret

def andAll : List Prop → Prop → Prop
  | [], p => p
  | c :: cs, p => c ∧ andAll cs p

/-- A weaker description: what is junk there may be anything. -/
def leAV : AV → AV → Prop
  | _, .junk => True
  | .int k n, .int k' n' => k = k' ∧ n.val = n'.val
  | .bool b, .bool b' => b.val = b'.val
  | .arr k n f, .arr k' n' g => k = k' ∧ n = n' ∧ ∀ i, i < n → f i = g i
  | .own (.arr k n f), .own (.arr k' n' g) => k = k' ∧ n = n' ∧ ∀ i, i < n → f i = g i
  | .own (.int k n), .own (.int k' n') => k = k' ∧ n.val = n'.val
  | .own (.bool b), .own (.bool b') => b.val = b'.val
  | .xsl k es len cap f, .xsl k' es' len' cap' g => k = k' ∧ es = es' ∧ len.val = len'.val ∧ cap.val = cap'.val ∧ ∀ i, i < len.val * es → f i = g i
  | .val v, .val v' => v = v'
  | _, _ => False

def leSt : St → St → Prop
  | [], [] => True
  | x :: S, y :: T => leAV x y ∧ leSt S T
  | _, _ => False

def inR (k : IntKind) (n : Int) : Prop := k.min ≤ n ∧ n ≤ k.max

def wfAV : AV → Prop
  | .int k n => inR k n.val
  | .arr k n f => ∀ i, i < n → inR k (f i)
  | .own (.int k n) => inR k n.val
  | .own (.arr k n f) => ∀ i, i < n → inR k (f i)
  | .xsl k es len _ f => ∀ i, i < len.val * es → inR k (f i)
  | _ => True

def wfSt : St → Prop
  | [] => True
  | x :: S => wfAV x ∧ wfSt S

def rounds (body : St → (Ex → St → Prop) → Prop) (Q : Ex → St → Prop) : Nat → St → Prop
  | 0, _ => False
  | n + 1, S => body S (fun e S' => match e with
    | .normal => rounds body Q n S'
    | .exit id => Q (.exit id) S'
    | .ret => Q .ret S')

/-- A place where a walk rests. -/
structure Later (p : Unit → Prop) : Prop where
  run : p ()

def roundsL (body : St → (Ex → St → Prop) → Prop) (Q : Ex → St → Prop) : Nat → St → Prop
  | 0, _ => False
  | n + 1, S => body S (fun e S' => match e with
    | .normal => Later fun _ => roundsL body Q n S'
    | .exit id => Q (.exit id) S'
    | .ret => Q .ret S')

/-- What must hold ahead of a piece of code, so that Q holds behind it. -/
def wpS (E : Env) : SC → St → (Ex → St → Prop) → Prop
  | .skip, S, Q => Q .normal S
  | .reg ds l, S, Q =>
    match run E l (kill ds S) with
    | some (cs, S') => andAll cs (Q .normal S')
    | none => False
  | .seq a b, S, Q => wpS E a S (fun e S' => match e with
    | .normal => wpS E b S' Q
    | .exit id => Q (.exit id) S'
    | .ret => Q .ret S')
  | .cond c a b, S, Q =>
    match opv S c with
    | .bool (.lit true) => wpS E a S Q
    | .bool (.lit false) => wpS E b S Q
    | .bool (.sym p) => (p = true → wpS E a S Q) ∧ (p = false → wpS E b S Q)
    | _ => False
  | .block id c, S, Q => wpS E c S (fun e S' => match e with
    | .normal => Q .normal S'
    | .exit id' => if id' = id then Q .normal S' else Q (.exit id') S'
    | .ret => Q .ret S')
  | .loop id c, S, Q =>
    match E.loops id with
    | .unroll n => rounds (wpS E c) Q n S
    | .cut n => Later fun _ => roundsL (wpS E c) Q n S
    | .inv α st μ => (∃ a : α, leSt S (st a)) ∧ ∀ a : α, wfSt (st a) → wpS E c (st a) (fun e S' => match e with
      | .normal => ∃ a', leSt S' (st a') ∧ μ a' < μ a
      | .exit id => Q (.exit id) S'
      | .ret => Q .ret S')
  | .exit id, S, Q => Q (.exit id) S
  | .ret, S, Q => Q .ret S
  | .bad, _, _ => False

/-- A state given by the slots of which something is known. -/
def slots (n : Nat) (l : List (Nat × AV)) : St := app l (List.replicate n .junk)
end Sx
