/-
  Plain arithmetic that the proofs share: first part. No condition.
-/
import Derived.Test.YtjbimeigkklcmaaDoorZEA
import Derived.Lib.Mul64
import Derived.Test.YtjbimeigkklcmaaDoorZEB
import Derived.Laws.Externs

namespace Sx
open Go
theorem inR_u64 {n:Int}:inR .u64 n↔0≤n∧n<18446744073709551616:=by
 simp [inR,IntKind.min,IntKind.max,IntKind.signed,IntKind.bits];omega
theorem inR_u8 {n:Int}:inR .u8 n↔0≤n∧n<256:=by
 simp [inR,IntKind.min,IntKind.max,IntKind.signed,IntKind.bits];omega
theorem wrap_u64 (n:Int):IntKind.wrap .u64 n=n % 18446744073709551616:=by simp [IntKind.wrap,IntKind.signed,IntKind.bits]
theorem wrap_u8 (n:Int):IntKind.wrap .u8 n=n % 256:=by simp [IntKind.wrap,IntKind.signed,IntKind.bits]
theorem wrap_i64 {n:Int} (h:-9223372036854775808≤n∧n<9223372036854775808):IntKind.wrap .i64 n=n:=by
 simp only [IntKind.wrap,IntKind.signed,IntKind.bits,Bool.true_and,Int.reducePow]
 split <;> simp at * <;> omega
theorem wrap_i8 {n:Int} (h:-128≤n∧n<128):IntKind.wrap .i8 n=n:=by
 simp only [IntKind.wrap,IntKind.signed,IntKind.bits,Bool.true_and,Int.reducePow]
 split <;> simp at * <;> omega
theorem add_u64 (a b:Int):realBin .add .u64 a b=(a+b) % 18446744073709551616:=wrap_u64 _
theorem sub_u64 (a b:Int):realBin .sub .u64 a b=(a - b) % 18446744073709551616:=wrap_u64 _
theorem mul_u64 (a b:Int):realBin .mul .u64 a b=(a*b) % 18446744073709551616:=wrap_u64 _
theorem shl_u64 (a:Int) (s:Nat) (h:s≤64):realBin .shl .u64 a s=(a*2 ^ s) % 18446744073709551616:=by
 have e:min (Int.toNat (s:Int)) (IntKind.bits .u64)=s:=by simp [IntKind.bits];omega
 simp only [realBin,e,wrap_u64]
theorem shr_any (k:IntKind) (a:Int) (s:Nat) (h:s≤k.bits):realBin .shr k a s=a / 2 ^ s:=by
 have e:min (Int.toNat (s:Int)) k.bits=s:=by simp;omega
 have hp:(0:Int)≤2 ^ s:=Int.le_of_lt (Int.pow_pos (by decide))
 simp only [realBin,e,Int.fdiv_eq_ediv_of_nonneg _ hp]
theorem ofInt_nat {w:Nat} {a:Int} (h0:0≤a) (h:a<2 ^ w):(BitVec.ofInt w a).toNat=a.toNat:=by
 rw [BitVec.toNat_ofInt]
 congr 1
 exact Int.emod_eq_of_lt h0 (by simpa using h)
theorem and_nat {k:IntKind} (hk:k.signed=false) {a b:Int} (ha:0≤a∧a<2 ^ k.bits) (hb:0≤b∧b<2 ^ k.bits):realBin .and k a b=((a.toNat &&& b.toNat:Nat):Int):=by
 have h1:a.toNat &&& b.toNat<2 ^ k.bits:=Nat.and_lt_two_pow _ ((Int.toNat_lt hb.1).2 (by simpa using hb.2))
 simp only [realBin,IntKind.wrap,hk,BitVec.toNat_and,ofInt_nat ha.1 ha.2,ofInt_nat hb.1 hb.2,Bool.false_and,Bool.false_eq_true,if_false]
 exact Int.emod_eq_of_lt (Int.natCast_nonneg _) (by exact_mod_cast h1)
theorem or_nat {k:IntKind} (hk:k.signed=false) {a b:Int} (ha:0≤a∧a<2 ^ k.bits) (hb:0≤b∧b<2 ^ k.bits):realBin .or k a b=((a.toNat ||| b.toNat:Nat):Int):=by
 have h1:a.toNat ||| b.toNat<2 ^ k.bits:=Nat.or_lt_two_pow ((Int.toNat_lt ha.1).2 (by simpa using ha.2)) ((Int.toNat_lt hb.1).2 (by simpa using hb.2))
 simp only [realBin,IntKind.wrap,hk,BitVec.toNat_or,ofInt_nat ha.1 ha.2,ofInt_nat hb.1 hb.2,Bool.false_and,Bool.false_eq_true,if_false]
 exact Int.emod_eq_of_lt (Int.natCast_nonneg _) (by exact_mod_cast h1)
theorem and_mask {k:IntKind} (hk:k.signed=false) {a:Int} (ha:0≤a∧a<2 ^ k.bits) (s:Nat) (hs:s≤k.bits):realBin .and k a (2 ^ s - 1)=a % 2 ^ s:=by
 have hp:(0:Int)<2 ^ s:=Int.pow_pos (by decide)
 have hle:(2:Int) ^ s≤2 ^ k.bits:=by exact_mod_cast Nat.pow_le_pow_right (by decide) hs
 rw [and_nat hk ha ⟨by omega,by omega⟩]
 obtain ⟨n,rfl⟩:=Int.eq_ofNat_of_zero_le ha.1
 have e:((2:Int) ^ s - 1).toNat=2 ^ s - 1:=by
  have:((2:Int) ^ s)=((2 ^ s:Nat):Int):=by simp
  rw [this]
  have h1:1≤2 ^ s:=Nat.one_le_two_pow
  omega
 rw [e,Int.toNat_natCast,Nat.and_two_pow_sub_one_eq_mod]
 simp
theorem or_apart {k:IntKind} (hk:k.signed=false) {x y:Int} (s:Nat) (hx:0≤x∧x<2 ^ k.bits) (hd:x % 2 ^ s=0) (hy:0≤y∧y<2 ^ s) (hs:s≤k.bits):realBin .or k x y=x+y:=by
 have hle:(2:Int) ^ s≤2 ^ k.bits:=by exact_mod_cast Nat.pow_le_pow_right (by decide) hs
 rw [or_nat hk hx ⟨hy.1,by omega⟩]
 obtain ⟨n,rfl⟩:=Int.eq_ofNat_of_zero_le hx.1
 obtain ⟨m,rfl⟩:=Int.eq_ofNat_of_zero_le hy.1
 have hm:m<2 ^ s:=by
  have:=hy.2
  exact_mod_cast this
 have hd':n % 2 ^ s=0:=by exact_mod_cast hd
 have e:n=2 ^ s*(n / 2 ^ s):=by
  have:=Nat.div_add_mod n (2 ^ s)
  omega
 simp only [Int.toNat_natCast]
 conv=>lhs;rw [e]
 rw [← Nat.two_pow_add_eq_or_of_lt hm,← e]
 simp
theorem or_comm' {k:IntKind} (x y:Int):realBin .or k x y=realBin .or k y x:=by
 simp only [realBin,BitVec.or_comm]
theorem quo_i64 {a b:Int} (ha:0≤a∧a<9223372036854775808) (hb:0<b):realBin .quo .i64 a b=a / b:=by
 have h1:a.tdiv b=a / b:=Int.tdiv_eq_ediv_of_nonneg ha.1
 have h2:0≤a / b:=Int.ediv_nonneg ha.1 (by omega)
 have h3:a / b≤a:=Int.ediv_le_self b ha.1
 show IntKind.wrap .i64 (a.tdiv b)=_
 rw [h1,wrap_i64 (by omega)]
theorem rem_i64 {k:IntKind} {a b:Int} (ha:0≤a):realBin .rem k a b=a % b:=Int.tmod_eq_emod_of_nonneg ha
theorem add_i64 {a b:Int} (h:-9223372036854775808≤a+b∧a+b<9223372036854775808):realBin .add .i64 a b=a+b:=wrap_i64 h
theorem sub_i64 {a b:Int} (h:-9223372036854775808≤a - b∧a - b<9223372036854775808):realBin .sub .i64 a b=a - b:=wrap_i64 h
theorem mul_i64 {a b:Int} (h:-9223372036854775808≤a*b∧a*b<9223372036854775808):realBin .mul .i64 a b=a*b:=wrap_i64 h
end Sx

namespace Sx
open Go
abbrev uadd (a b:Int):Int:=realBin .add .u64 a b
abbrev usub (a b:Int):Int:=realBin .sub .u64 a b
abbrev umul (a b:Int):Int:=realBin .mul .u64 a b
abbrev ushr (a b:Int):Int:=realBin .shr .u64 a b
abbrev ushl (a b:Int):Int:=realBin .shl .u64 a b
abbrev uand (a b:Int):Int:=realBin .and .u64 a b
abbrev uor (a b:Int):Int:=realBin .or .u64 a b
abbrev u8of (a:Int):Int:=IntKind.wrap .u8 a
abbrev u64of (a:Int):Int:=IntKind.wrap .u64 a
abbrev p25:Int:=57896044618658097711785492504343953926634992332820282019728792003956564819949
def fnOf (l:List Int):Nat→Int:=fun i=>l.getD i 0
def num:Nat→(Nat→Int)→Int
 | 0,_=>0
 | n+1,f=>f 0+256*num n (fun i=>f (i+1))
def byt (n:Int):Nat→Int:=fun i=>n / 256 ^ i % 256
def IsBytes (n:Nat) (f:Nat→Int):Prop:=∀ i,i<n→0≤f i∧f i<256
theorem num_bounds:∀ (n:Nat) (f:Nat→Int),IsBytes n f→0≤num n f∧num n f<256 ^ n
 | 0,f,_=>by simp [num]
 | n+1,f,h=>by
  obtain ⟨h1,h2⟩:=num_bounds n (fun i=>f (i+1)) (fun i hi=>h (i+1) (by omega))
  have h0:=h 0 (by omega)
  simp only [num]
  rw [Int.pow_succ]
  omega
theorem byt_num:∀ (n:Nat) (f:Nat→Int),IsBytes n f→∀ i,i<n→byt (num n f) i=f i
 | 0,_,_,i,hi=>by omega
 | n+1,f,h,i,hi=>by
  have hb:=num_bounds n (fun i=>f (i+1)) (fun i hi=>h (i+1) (by omega))
  have h0:=h 0 (by omega)
  cases i with
  | zero=>simp only [byt,num,Int.pow_zero,Int.ediv_one];omega
  | succ i =>
   have ih:=byt_num n (fun i=>f (i+1)) (fun i hi=>h (i+1) (by omega)) i (by omega)
   simp only [byt,num] at ih ⊢
   rw [Int.pow_succ',← Int.ediv_ediv_of_nonneg (by decide)]
   have e:(f 0+256*num n (fun i=>f (i+1))) / 256=num n (fun i=>f (i+1)):=by omega
   rw [e,ih]
theorem byt_isBytes (m:Int) (n:Nat):IsBytes n (byt m):=fun i _=>by simp only [byt];omega
theorem num_byt:∀ (n:Nat) (m:Int),0≤m→m<256 ^ n→num n (byt m)=m
 | 0,m,h0,h=>by simp only [num];simp at h;omega
 | n+1,m,h0,h=>by
  simp only [num]
  have e:(fun i=>byt m (i+1))=byt (m / 256):=by
   funext i
   simp only [byt]
   rw [Int.pow_succ',← Int.ediv_ediv_of_nonneg (by decide)]
  rw [Int.pow_succ] at h
  rw [e,num_byt n (m / 256) (by omega) (by omega)]
  simp only [byt,Int.pow_zero,Int.ediv_one]
  omega
theorem num_congr:∀ (n:Nat) {f g:Nat→Int},(∀ i,i<n→f i=g i)→num n f=num n g
 | 0,_,_,_=>rfl
 | n+1,f,g,h=>by
  simp only [num]
  rw [h 0 (by omega),num_congr n (fun i hi=>h (i+1) (by omega))]
theorem num_inj {n:Nat} {f g:Nat→Int} (hf:IsBytes n f) (hg:IsBytes n g) (h:num n f=num n g):∀ i,i<n→f i=g i:=fun i hi=>by
 rw [← byt_num n f hf i hi,h,byt_num n g hg i hi]
theorem eqA_num {n:Nat} {f g:Nat→Int} (hf:IsBytes n f) (hg:IsBytes n g):realEqA n f g=(num n f == num n g):=by
 rw [Bool.eq_iff_iff]
 simp only [realEqA,List.all_eq_true,List.mem_range,beq_iff_eq]
 exact ⟨fun h=>num_congr n h,fun h=>num_inj hf hg h⟩
def rnd (l:Nat→Int):Nat→Int :=
 let s1:=uadd (l 1) (ushr (l 0) 51)
 let s2:=uadd (l 2) (ushr s1 51)
 let s3:=uadd (l 3) (ushr s2 51)
 let s4:=uadd (l 4) (ushr s3 51)
 fnOf [uadd (uand (l 0) 2251799813685247) (umul 19 (ushr s4 51)),uand s1 2251799813685247,uand s2 2251799813685247,uand s3 2251799813685247,uand s4 2251799813685247]
def settleF (l:Nat→Int):Nat→Int:=rnd (rnd l)
def lim (l:Nat→Int):Int:=l 0+2251799813685248*(l 1+2251799813685248*(l 2+2251799813685248*(l 3+2251799813685248*l 4)))
def LFit (l:Nat→Int):Prop:=∀ i,i<5→0≤l i∧l i≤9223372036854775808
def Tidy (l:Nat→Int):Prop:=(0≤l 0∧l 0<2251799813685267)∧∀ i,0<i→i<5→0≤l i∧l i<2251799813685248
theorem Tidy.fit {l:Nat→Int} (h:Tidy l):LFit l:=fun i hi=>by
 obtain ⟨h0,h1⟩:=h
 rcases Nat.eq_zero_or_pos i with rfl | hp
 ·omega
 ·have:=h1 i hp hi;omega
theorem ushr51 (a:Int):ushr a 51=a / 2251799813685248:=shr_any .u64 a 51 (by decide)
theorem uand51 {a:Int} (h:0≤a∧a<18446744073709551616):uand a 2251799813685247=a % 2251799813685248:=and_mask (k:=.u64) rfl h 51 (by decide)
theorem rnd_eq {l:Nat→Int} (h:LFit l):∃ s1 s2 s3 s4,s1=l 1+l 0 / 2251799813685248∧s2=l 2+s1 / 2251799813685248∧s3=l 3+s2 / 2251799813685248∧s4=l 4+s3 / 2251799813685248 ∧
  rnd l=fnOf [l 0 % 2251799813685248+19*(s4 / 2251799813685248),s1 % 2251799813685248,s2 % 2251799813685248,s3 % 2251799813685248,s4 % 2251799813685248]:=by
 have h0:=h 0 (by omega)
 have h1:=h 1 (by omega)
 have h2:=h 2 (by omega)
 have h3:=h 3 (by omega)
 have h4:=h 4 (by omega)
 refine ⟨_,_,_,_,rfl,rfl,rfl,rfl,?_⟩
 have e1:uadd (l 1) (ushr (l 0) 51)=l 1+l 0 / 2251799813685248:=by rw [ushr51,uadd,add_u64];omega
 have e2:uadd (l 2) (ushr (l 1+l 0 / 2251799813685248) 51)=l 2+(l 1+l 0 / 2251799813685248) / 2251799813685248:=by rw [ushr51,uadd,add_u64];omega
 generalize hs1:l 1+l 0 / 2251799813685248=s1 at *
 have e3:uadd (l 3) (ushr (l 2+s1 / 2251799813685248) 51)=l 3+(l 2+s1 / 2251799813685248) / 2251799813685248:=by rw [ushr51,uadd,add_u64];omega
 generalize hs2:l 2+s1 / 2251799813685248=s2 at *
 have e4:uadd (l 4) (ushr (l 3+s2 / 2251799813685248) 51)=l 4+(l 3+s2 / 2251799813685248) / 2251799813685248:=by rw [ushr51,uadd,add_u64];omega
 generalize hs3:l 3+s2 / 2251799813685248=s3 at *
 generalize hs4:l 4+s3 / 2251799813685248=s4 at *
 have e0:uadd (uand (l 0) 2251799813685247) (umul 19 (ushr s4 51))=l 0 % 2251799813685248+19*(s4 / 2251799813685248):=by
  rw [uand51 (by omega),ushr51,umul,mul_u64,uadd,add_u64];omega
 simp only [rnd]
 rw [e1,e2,e3,e4,e0,uand51 (by omega),uand51 (by omega),uand51 (by omega),uand51 (by omega)]
theorem fnOf_0 (a b c d e:Int):fnOf [a,b,c,d,e] 0=a:=rfl
theorem fnOf_1 (a b c d e:Int):fnOf [a,b,c,d,e] 1=b:=rfl
theorem fnOf_2 (a b c d e:Int):fnOf [a,b,c,d,e] 2=c:=rfl
theorem fnOf_3 (a b c d e:Int):fnOf [a,b,c,d,e] 3=d:=rfl
theorem fnOf_4 (a b c d e:Int):fnOf [a,b,c,d,e] 4=e:=rfl
theorem each5 {q:Nat→Prop} (h0:q 0) (h1:q 1) (h2:q 2) (h3:q 3) (h4:q 4):∀ i,i<5→q i:=fun i hi =>
 match i,hi with
 | 0,_=>h0
 | 1,_=>h1
 | 2,_=>h2
 | 3,_=>h3
 | 4,_=>h4
theorem rnd_lim {l:Nat→Int} (h:LFit l):lim (rnd l) % p25=lim l % p25:=by
 obtain ⟨s1,s2,s3,s4,r1,r2,r3,r4,hr⟩:=rnd_eq h
 rw [hr]
 have e:lim (fnOf [l 0 % 2251799813685248+19*(s4 / 2251799813685248),s1 % 2251799813685248,s2 % 2251799813685248,s3 % 2251799813685248,s4 % 2251799813685248])=lim l - p25*(s4 / 2251799813685248):=by
  simp only [lim,fnOf_0,fnOf_1,fnOf_2,fnOf_3,fnOf_4,p25]
  omega
 rw [e]
 simp [Int.sub_emod]
theorem rnd_tame {l:Nat→Int} (h:LFit l):(0≤rnd l 0∧rnd l 0<2251799813763091)∧∀ i,0<i→i<5→0≤rnd l i∧rnd l i<2251799813685248:=by
 obtain ⟨s1,s2,s3,s4,r1,r2,r3,r4,hr⟩:=rnd_eq h
 have h0:=h 0 (by omega)
 have h1:=h 1 (by omega)
 have h2:=h 2 (by omega)
 have h3:=h 3 (by omega)
 have h4:=h 4 (by omega)
 rw [hr]
 refine ⟨by rw [fnOf_0];omega,fun i hp hi=>?_⟩
 match i,hp,hi with
 | 1,_,_=>rw [fnOf_1];omega
 | 2,_,_=>rw [fnOf_2];omega
 | 3,_,_=>rw [fnOf_3];omega
 | 4,_,_=>rw [fnOf_4];omega
theorem settle_spec {l:Nat→Int} (h:LFit l):lim (settleF l) % p25=lim l % p25∧Tidy (settleF l):=by
 obtain ⟨t0,t1⟩:=rnd_tame h
 have hf:LFit (rnd l):=each5 (by omega) (by have:=t1 1;omega) (by have:=t1 2;omega) (by have:=t1 3;omega) (by have:=t1 4;omega)
 refine ⟨(rnd_lim hf).trans (rnd_lim h),?_⟩
 obtain ⟨s1,s2,s3,s4,r1,r2,r3,r4,hr⟩:=rnd_eq hf
 have h1:=t1 1 (by omega) (by omega)
 have h2:=t1 2 (by omega) (by omega)
 have h3:=t1 3 (by omega) (by omega)
 have h4:=t1 4 (by omega) (by omega)
 show Tidy (rnd (rnd l))
 rw [hr]
 refine ⟨by rw [fnOf_0];omega,fun i hp hi=>?_⟩
 match i,hp,hi with
 | 1,_,_=>rw [fnOf_1];omega
 | 2,_,_=>rw [fnOf_2];omega
 | 3,_,_=>rw [fnOf_3];omega
 | 4,_,_=>rw [fnOf_4];omega
end Sx

namespace Sx
open Go
def wordF (f:Nat→Int):Int:=f 0+256*(f 1+256*(f 2+256*(f 3+256*(f 4+256*(f 5+256*(f 6+256*f 7))))))
theorem wordF_bounds {f:Nat→Int} (h:IsBytes 8 f):0≤wordF f∧wordF f<18446744073709551616:=by
 have h0:=h 0 (by omega)
 have h1:=h 1 (by omega)
 have h2:=h 2 (by omega)
 have h3:=h 3 (by omega)
 have h4:=h 4 (by omega)
 have h5:=h 5 (by omega)
 have h6:=h 6 (by omega)
 have h7:=h 7 (by omega)
 unfold wordF
 omega
theorem word_step {x y:Int} (hx:0≤x∧x<72057594037927936) (hy:0≤y∧y<256):uor (ushl x 8) (u64of y)=256*x+y:=by
 show realBin .or .u64 (realBin .shl .u64 x (8:Nat)) (IntKind.wrap .u64 y)=_
 rw [shl_u64 _ 8 (by decide),wrap_u64,Int.emod_eq_of_lt (a:=y) (by omega) (by omega),Int.emod_eq_of_lt (by omega) (by omega),or_apart rfl 8 (by simp [IntKind.bits];omega) (by simp) (by simp;omega) (by decide)]
 omega
theorem word_first {y:Int} (hy:0≤y∧y<256):uor 0 (u64of y)=y:=by
 show realBin .or .u64 0 (IntKind.wrap .u64 y)=_
 rw [wrap_u64,Int.emod_eq_of_lt (by omega) (by omega),or_apart rfl 8 (by decide) (by decide) (by omega) (by decide),Int.zero_add]
def wordR (f:Nat→Int):Int:=uor (ushl (uor (ushl (uor (ushl (uor (ushl (uor (ushl (uor (ushl (uor (ushl (uor 0 (u64of (f 7))) 8) (u64of (f 6))) 8) (u64of (f 5))) 8) (u64of (f 4))) 8) (u64of (f 3))) 8) (u64of (f 2))) 8) (u64of (f 1))) 8) (u64of (f 0))
theorem wordR_eq {f:Nat→Int} (h:IsBytes 8 f):wordR f=wordF f:=by
 have h0:=h 0 (by omega)
 have h1:=h 1 (by omega)
 have h2:=h 2 (by omega)
 have h3:=h 3 (by omega)
 have h4:=h 4 (by omega)
 have h5:=h 5 (by omega)
 have h6:=h 6 (by omega)
 have h7:=h 7 (by omega)
 unfold wordR
 rw [word_first h7,word_step (by omega) h6,word_step (by omega) h5,word_step (by omega) h4,word_step (by omega) h3,word_step (by omega) h2,word_step (by omega) h1,word_step (by omega) h0]
 unfold wordF
 omega
def loadP (w0 w1 w2 w3:Int):Nat→Int:=fnOf [uand w0 2251799813685247,uand (uor (ushr w0 51) (ushl w1 13)) 2251799813685247,uand (uor (ushr w1 38) (ushl w2 26)) 2251799813685247,uand (uor (ushr w2 25) (ushl w3 39)) 2251799813685247,ushr w3 12]
theorem or_shift {x y:Int} (s t:Nat) (hs:s+t=64) (hx:0≤x∧x<18446744073709551616) (_hy:0≤y∧y<18446744073709551616) (ht:0<t) :
  uor (ushr x s) (ushl y t)=x / 2 ^ s+(y*2 ^ t) % 18446744073709551616:=by
 show realBin .or .u64 (realBin .shr .u64 x s) (realBin .shl .u64 y t)=_
 rw [shr_any _ _ s (by simp [IntKind.bits];omega),shl_u64 _ t (by omega),or_comm']
 have hp:(0:Int)<2 ^ s:=Int.pow_pos (by decide)
 have e:(18446744073709551616:Int)=2 ^ t*2 ^ s:=by
  rw [← Int.pow_add,Nat.add_comm t s,hs];rfl
 rw [or_apart rfl t]
 ·omega
 ·exact ⟨Int.emod_nonneg _ (by decide),by simpa [IntKind.bits] using Int.emod_lt_of_pos _ (by decide)⟩
 ·rw [e,Int.emod_emod_of_dvd _ (Int.dvd_mul_right _ _)]
  simp
 ·refine ⟨Int.ediv_nonneg hx.1 (Int.le_of_lt hp),?_⟩
  apply Int.ediv_lt_of_lt_mul hp
  rw [← e];exact hx.2
 ·simp [IntKind.bits];omega
def loadF (f:Nat→Int):Nat→Int:=settleF (loadP (wordF f) (wordF fun i=>f (8+i)) (wordF fun i=>f (16+i)) (wordF fun i=>f (24+i)))
theorem loadP_eq {w0 w1 w2 w3:Int} (h0:0≤w0∧w0<18446744073709551616) (h1:0≤w1∧w1<18446744073709551616) (h2:0≤w2∧w2<18446744073709551616) (h3:0≤w3∧w3<18446744073709551616) :
  loadP w0 w1 w2 w3=fnOf [w0 % 2251799813685248,(w0 / 2251799813685248+(w1*8192) % 18446744073709551616) % 2251799813685248,(w1 / 274877906944+(w2*67108864) % 18446744073709551616) % 2251799813685248,
   (w2 / 33554432+(w3*549755813888) % 18446744073709551616) % 2251799813685248,w3 / 4096]:=by
 have a1:uor (ushr w0 51) (ushl w1 13)=w0 / 2251799813685248+(w1*8192) % 18446744073709551616:=or_shift 51 13 rfl h0 h1 (by decide)
 have a2:uor (ushr w1 38) (ushl w2 26)=w1 / 274877906944+(w2*67108864) % 18446744073709551616:=or_shift 38 26 rfl h1 h2 (by decide)
 have a3:uor (ushr w2 25) (ushl w3 39)=w2 / 33554432+(w3*549755813888) % 18446744073709551616:=or_shift 25 39 rfl h2 h3 (by decide)
 have a4:ushr w3 12=w3 / 4096:=shr_any .u64 w3 12 (by decide)
 unfold loadP
 rw [a1,a2,a3,a4,uand51 h0,uand51 (by omega),uand51 (by omega),uand51 (by omega)]
theorem num32 (f:Nat→Int):num 32 f=wordF f+18446744073709551616*(wordF (fun i=>f (8+i))+18446744073709551616*(wordF (fun i=>f (16+i))+18446744073709551616*wordF fun i=>f (24+i))):=by
 simp only [num,wordF,Nat.reduceAdd,Nat.add_zero]
 omega
theorem loadP_lim {w0 w1 w2 w3:Int} (h0:0≤w0∧w0<18446744073709551616) (h1:0≤w1∧w1<18446744073709551616) (h2:0≤w2∧w2<18446744073709551616) (h3:0≤w3∧w3<18446744073709551616) :
  lim (loadP w0 w1 w2 w3)=w0+18446744073709551616*(w1+18446744073709551616*(w2+18446744073709551616*w3))∧LFit (loadP w0 w1 w2 w3):=by
 rw [loadP_eq h0 h1 h2 h3]
 constructor
 ·simp only [lim,fnOf_0,fnOf_1,fnOf_2,fnOf_3,fnOf_4]
  omega
 ·exact each5 (by rw [fnOf_0];omega) (by rw [fnOf_1];omega) (by rw [fnOf_2];omega) (by rw [fnOf_3];omega) (by rw [fnOf_4];omega)
theorem IsBytes.part {f:Nat→Int} (h:IsBytes 32 f) (o:Nat) (ho:o+8≤32):IsBytes 8 fun i=>f (o+i):=fun i hi=>h (o+i) (by omega)
theorem load_spec {f:Nat→Int} (h:IsBytes 32 f):lim (loadF f) % p25=num 32 f % p25∧Tidy (loadF f):=by
 obtain ⟨a,b⟩:=loadP_lim (wordF_bounds fun i hi=>h i (by omega)) (wordF_bounds (h.part 8 (by omega))) (wordF_bounds (h.part 16 (by omega))) (wordF_bounds (h.part 24 (by omega)))
 obtain ⟨c,d⟩:=settle_spec b
 refine ⟨?_,d⟩
 rw [num32,← a]
 exact c
def addP (l m:Nat→Int):Nat→Int:=fnOf [uadd (l 0) (m 0),uadd (l 1) (m 1),uadd (l 2) (m 2),uadd (l 3) (m 3),uadd (l 4) (m 4)]
def subP (l m:Nat→Int):Nat→Int:=fnOf [uadd (l 0) (usub 4503599627370458 (m 0)),uadd (l 1) (usub 4503599627370494 (m 1)),uadd (l 2) (usub 4503599627370494 (m 2)),uadd (l 3) (usub 4503599627370494 (m 3)),uadd (l 4) (usub 4503599627370494 (m 4))]
theorem uadd_eq {a b:Int} (h:0≤a+b∧a+b<18446744073709551616):uadd a b=a+b:=by rw [uadd,add_u64];omega
theorem usub_eq {a b:Int} (h:0≤a - b∧a - b<18446744073709551616):usub a b=a - b:=by rw [usub,sub_u64];omega
theorem Tidy.all {l:Nat→Int} (h:Tidy l):(0≤l 0∧l 0<2251799813685267)∧(0≤l 1∧l 1<2251799813685248)∧(0≤l 2∧l 2<2251799813685248)∧(0≤l 3∧l 3<2251799813685248)∧(0≤l 4∧l 4<2251799813685248) :=
 ⟨h.1,h.2 1 (by omega) (by omega),h.2 2 (by omega) (by omega),h.2 3 (by omega) (by omega),h.2 4 (by omega) (by omega)⟩
theorem addP_spec {l m:Nat→Int} (hl:Tidy l) (hm:Tidy m):LFit (addP l m)∧lim (addP l m)=lim l+lim m:=by
 obtain ⟨a0,a1,a2,a3,a4⟩:=hl.all
 obtain ⟨b0,b1,b2,b3,b4⟩:=hm.all
 unfold addP
 rw [uadd_eq (by omega),uadd_eq (by omega),uadd_eq (by omega),uadd_eq (by omega),uadd_eq (by omega)]
 refine ⟨each5 (by rw [fnOf_0];omega) (by rw [fnOf_1];omega) (by rw [fnOf_2];omega) (by rw [fnOf_3];omega) (by rw [fnOf_4];omega),?_⟩
 simp only [lim,fnOf_0,fnOf_1,fnOf_2,fnOf_3,fnOf_4]
 omega
theorem subP_spec {l m:Nat→Int} (hl:Tidy l) (hm:Tidy m):LFit (subP l m)∧lim (subP l m)=lim l - lim m+2*p25:=by
 obtain ⟨a0,a1,a2,a3,a4⟩:=hl.all
 obtain ⟨b0,b1,b2,b3,b4⟩:=hm.all
 unfold subP
 rw [usub_eq (by omega),usub_eq (by omega),usub_eq (by omega),usub_eq (by omega),usub_eq (by omega),uadd_eq (by omega),uadd_eq (by omega),uadd_eq (by omega),uadd_eq (by omega),uadd_eq (by omega)]
 refine ⟨each5 (by rw [fnOf_0];omega) (by rw [fnOf_1];omega) (by rw [fnOf_2];omega) (by rw [fnOf_3];omega) (by rw [fnOf_4];omega),?_⟩
 simp only [lim,fnOf_0,fnOf_1,fnOf_2,fnOf_3,fnOf_4,p25]
 omega
end Sx

namespace Sx
open Go
def adcS (x y c:Int):Int:=(x+y+c) % 18446744073709551616
def adcC (x y c:Int):Int:=if 18446744073709551616≤x+y+c then 1 else 0
def sbbS (x y c:Int):Int:=(x - y - c) % 18446744073709551616
def sbbC (x y c:Int):Int:=if x<y+c then 1 else 0
def Bit01 (c:Int):Prop:=c=0∨c=1
theorem bit01_0:Bit01 0:=.inl rfl
theorem bit01_adc (x y c:Int):Bit01 (adcC x y c):=by unfold Bit01 adcC;split <;> omega
theorem bit01_sbb (x y c:Int):Bit01 (sbbC x y c):=by unfold Bit01 sbbC;split <;> omega
theorem two64:(2:Int) ^ IntKind.bits .u64=18446744073709551616:=rfl
def mulH (x y:Int):Int :=
 let x0:=uand x 4294967295
 let x1:=ushr x 32
 let y0:=uand y 4294967295
 let y1:=ushr y 32
 let w0:=umul x0 y0
 let t:=uadd (umul x1 y0) (ushr w0 32)
 let w1:=uand t 4294967295
 let w2:=ushr t 32
 let w3:=uadd w1 (umul x0 y1)
 uadd (uadd (umul x1 y1) w2) (ushr w3 32)
theorem mulH_eq {x y:Int} (hx:0≤x∧x<18446744073709551616) (hy:0≤y∧y<18446744073709551616):mulH x y=x*y / 18446744073709551616:=by
 obtain ⟨X,rfl⟩:=Int.eq_ofNat_of_zero_le hx.1
 obtain ⟨Y,rfl⟩:=Int.eq_ofNat_of_zero_le hy.1
 have hX:X<18446744073709551616:=by omega
 have hY:Y<18446744073709551616:=by omega
 obtain ⟨h1,h2,h3,h4⟩:=Go.Lib.mul64_hi X Y hX hY
 have m:∀ n:Nat,n<18446744073709551616→uand (n:Int) 4294967295=((n % 4294967296:Nat):Int):=fun n hn=>by
  have:=and_mask (k:=.u64) rfl (a:=(n:Int)) ⟨by omega,by rw [two64];omega⟩ 32 (by decide)
  simpa using this
 have s:∀ n:Nat,ushr (n:Int) 32=((n / 4294967296:Nat):Int):=fun n=>by
  have:=shr_any .u64 (n:Int) 32 (by decide)
  simpa using this
 have mu:∀ a b:Nat,a*b<18446744073709551616→umul (a:Int) (b:Int)=((a*b:Nat):Int):=fun a b h=>by
  rw [umul,mul_u64,Int.emod_eq_of_lt (Int.mul_nonneg (Int.natCast_nonneg _) (Int.natCast_nonneg _)) (by rw [← Int.natCast_mul];omega)]
  simp
 have ad:∀ a b:Nat,a+b<18446744073709551616→uadd (a:Int) (b:Int)=((a+b:Nat):Int):=fun a b h=>by
  rw [uadd_eq (by omega)];simp
 have hX0:=Nat.mod_lt X (show 0<4294967296 by decide)
 have hY0:=Nat.mod_lt Y (show 0<4294967296 by decide)
 have hX1:X / 4294967296≤4294967295:=by omega
 have hY1:Y / 4294967296≤4294967295:=by omega
 have b1:=Go.Lib.half_mul_le hX1 hY1
 have b2:=Go.Lib.half_mul_le hX1 (show Y % 4294967296≤4294967295 by omega)
 have b3:=Go.Lib.half_mul_le (show X % 4294967296≤4294967295 by omega) hY1
 have b4:=Go.Lib.half_mul_le (show X % 4294967296≤4294967295 by omega) (show Y % 4294967296≤4294967295 by omega)
 have hlast:X / 4294967296*(Y / 4294967296)+(X / 4294967296*(Y % 4294967296)+X % 4294967296*(Y % 4294967296) / 4294967296) / 4294967296<18446744073709551616:=by omega
 have hfin:X*Y / 18446744073709551616<18446744073709551616:=by
  apply Nat.div_lt_of_lt_mul
  exact Nat.mul_lt_mul'' hX hY
 simp only [mulH]
 rw [m X hX,m Y hY,s X,s Y,mu _ _ (by omega),mu _ _ (by omega),mu _ _ (by omega),mu _ _ (by omega),s,ad _ _ h2,m _ h2,s,ad _ _ h3,s,ad _ _ hlast,ad _ _ (by rw [h4];exact hfin),h4]
 simp
end Sx

namespace Sx
open Go
def wideR (h l a b:Int):Nat→Int:=fnOf [adcS h (mulH a b) (adcC l (umul a b) 0),adcS l (umul a b) 0]
theorem wideR_eq {h l a b:Int} (hh:0≤h∧h<18446744073709551616) (hl:0≤l∧l<18446744073709551616) (ha:0≤a∧a<18446744073709551616) (hb:0≤b∧b<18446744073709551616)
  (hs:h*18446744073709551616+l+a*b<340282366920938463463374607431768211456) :
  ∃ h' l',wideR h l a b=fnOf [h',l']∧h'*18446744073709551616+l'=h*18446744073709551616+l+a*b∧(0≤h'∧h'<18446744073709551616)∧(0≤l'∧l'<18446744073709551616):=by
 refine ⟨_,_,rfl,?_⟩
 have hp:0≤a*b:=Int.mul_nonneg ha.1 hb.1
 rw [mulH_eq ha hb,umul,mul_u64]
 generalize a*b=p at *
 unfold adcS adcC
 split <;> omega
def tstep (w:Nat→Int) (a b:Int):Nat→Int:=wideR (w 0) (w 1) a b
def tzero:Nat→Int:=fun _=>0
def tsum (a0 b0 a1 b1 a2 b2 a3 b3 a4 b4:Int):Nat→Int:=tstep (tstep (tstep (tstep (tstep tzero a0 b0) a1 b1) a2 b2) a3 b3) a4 b4
theorem tsum_eq {a0 b0 a1 b1 a2 b2 a3 b3 a4 b4:Int} (hR:∀ x ∈ [a0,b0,a1,b1,a2,b2,a3,b3,a4,b4],0≤x∧x<18446744073709551616)
  (hs:a0*b0+a1*b1+a2*b2+a3*b3+a4*b4<340282366920938463463374607431768211456) :
  ∃ h l,tsum a0 b0 a1 b1 a2 b2 a3 b3 a4 b4=fnOf [h,l]∧h*18446744073709551616+l=a0*b0+a1*b1+a2*b2+a3*b3+a4*b4∧(0≤h∧h<18446744073709551616)∧(0≤l∧l<18446744073709551616):=by
 have A0:=hR a0 (by simp)
 have B0:=hR b0 (by simp)
 have A1:=hR a1 (by simp)
 have B1:=hR b1 (by simp)
 have A2:=hR a2 (by simp)
 have B2:=hR b2 (by simp)
 have A3:=hR a3 (by simp)
 have B3:=hR b3 (by simp)
 have A4:=hR a4 (by simp)
 have B4:=hR b4 (by simp)
 have p0:0≤a0*b0:=Int.mul_nonneg A0.1 B0.1
 have p1:0≤a1*b1:=Int.mul_nonneg A1.1 B1.1
 have p2:0≤a2*b2:=Int.mul_nonneg A2.1 B2.1
 have p3:0≤a3*b3:=Int.mul_nonneg A3.1 B3.1
 have p4:0≤a4*b4:=Int.mul_nonneg A4.1 B4.1
 have s:∀ (w:Nat→Int) (h l a b:Int),w=fnOf [h,l]→tstep w a b=wideR h l a b:=fun w h l a b e=>by rw [e];rfl
 obtain ⟨h0,l0,e0,v0,r0,q0⟩:=wideR_eq (h:=0) (l:=0) (by omega) (by omega) A0 B0 (by omega)
 have f0:tstep tzero a0 b0=fnOf [h0,l0]:=e0
 obtain ⟨h1,l1,e1,v1,r1,q1⟩:=wideR_eq r0 q0 A1 B1 (by omega)
 have f1:=(s _ h0 l0 a1 b1 f0).trans e1
 obtain ⟨h2,l2,e2,v2,r2,q2⟩:=wideR_eq r1 q1 A2 B2 (by omega)
 have f2:=(s _ h1 l1 a2 b2 f1).trans e2
 obtain ⟨h3,l3,e3,v3,r3,q3⟩:=wideR_eq r2 q2 A3 B3 (by omega)
 have f3:=(s _ h2 l2 a3 b3 f2).trans e3
 obtain ⟨h4,l4,e4,v4,r4,q4⟩:=wideR_eq r3 q3 A4 B4 (by omega)
 have f4:=(s _ h3 l3 a4 b4 f3).trans e4
 exact ⟨h4,l4,f4,by omega,r4,q4⟩
def cLow (w:Nat→Int) (c:Int):Int:=adcS (w 1) c 0
def cHigh (w:Nat→Int) (c:Int):Int:=uadd (w 0) (adcC (w 1) c 0)
def cOut (w:Nat→Int) (c:Int):Int:=uand (cLow w c) 2251799813685247
def cNext (w:Nat→Int) (c:Int):Int:=uor (ushl (cHigh w c) 13) (ushr (cLow w c) 51)
theorem carry_eq {w:Nat→Int} {h l c:Int} (e:w=fnOf [h,l]) (hh:0≤h∧h<1125899906842624) (hl:0≤l∧l<18446744073709551616) (hc:0≤c∧c<9223372036854775808) :
  cOut w c=(h*18446744073709551616+l+c) % 2251799813685248∧cNext w c=(h*18446744073709551616+l+c) / 2251799813685248:=by
 subst e
 have e0:fnOf [h,l] 0=h:=rfl
 have e1:fnOf [h,l] 1=l:=rfl
 have hlow:0≤adcS l c 0∧adcS l c 0<18446744073709551616:=by unfold adcS;omega
 have hcar:(adcC l c 0=0∨adcC l c 0=1)∧l+c=adcC l c 0*18446744073709551616+adcS l c 0:=by
  unfold adcC adcS
  split <;> omega
 have hhi:uadd h (adcC l c 0)=h+adcC l c 0:=uadd_eq (by omega)
 have hshl:ushl (h+adcC l c 0) 13=(h+adcC l c 0)*8192:=by
  show realBin .shl .u64 _ ((13:Nat):Int)=_
  rw [shl_u64 _ 13 (by decide)]
  omega
 constructor
 ·simp only [cOut,cLow,e1]
  rw [uand51 hlow]
  omega
 ·simp only [cNext,cHigh,cLow,e0,e1]
  rw [hhi,hshl,ushr51]
  have:=or_apart (k:=.u64) rfl (x:=(h+adcC l c 0)*8192) (y:=adcS l c 0 / 2251799813685248) 13 ⟨by omega,by rw [two64];omega⟩ (by omega) ⟨by omega,by omega⟩ (by decide)
  show realBin .or .u64 _ _=_
  rw [this]
  omega
def timesP (l m:Nat→Int):Nat→Int :=
 let s0:=tsum (l 0) (m 0) (l 1) (umul 19 (m 4)) (l 2) (umul 19 (m 3)) (l 3) (umul 19 (m 2)) (l 4) (umul 19 (m 1))
 let s1:=tsum (l 0) (m 1) (l 1) (m 0) (l 2) (umul 19 (m 4)) (l 3) (umul 19 (m 3)) (l 4) (umul 19 (m 2))
 let s2:=tsum (l 0) (m 2) (l 1) (m 1) (l 2) (m 0) (l 3) (umul 19 (m 4)) (l 4) (umul 19 (m 3))
 let s3:=tsum (l 0) (m 3) (l 1) (m 2) (l 2) (m 1) (l 3) (m 0) (l 4) (umul 19 (m 4))
 let s4:=tsum (l 0) (m 4) (l 1) (m 3) (l 2) (m 2) (l 3) (m 1) (l 4) (m 0)
 let c1:=cNext s0 0
 let c2:=cNext s1 c1
 let c3:=cNext s2 c2
 let c4:=cNext s3 c3
 let c5:=cNext s4 c4
 fnOf [uadd (cOut s0 0) (umul 19 c5),cOut s1 c1,cOut s2 c2,cOut s3 c3,cOut s4 c4]
def timesF (l m:Nat→Int):Nat→Int:=settleF (timesP l m)
theorem prod_bound {a b:Int} (ha:0≤a∧a<2251799813685267) (hb:0≤b∧b<2251799813685267):0≤a*b∧a*b≤5070602400913003174379732861289:=by
 refine ⟨Int.mul_nonneg ha.1 hb.1,?_⟩
 have h1:a*b≤2251799813685267*2251799813685267:=Int.mul_le_mul (by omega) (by omega) hb.1 (by omega)
 omega
theorem mul_id (t x0 x1 x2 x3 x4 y0 y1 y2 y3 y4:Int) :
  x0*y0+19*(x1*y4)+19*(x2*y3)+19*(x3*y2)+19*(x4*y1)+2251799813685248*(x0*y1+x1*y0+19*(x2*y4)+19*(x3*y3)+19*(x4*y2)+2251799813685248*(x0*y2+x1*y1+x2*y0+19*(x3*y4)+19*(x4*y3) +
    2251799813685248*(x0*y3+x1*y2+x2*y1+x3*y0+19*(x4*y4)+2251799813685248*(x0*y4+x1*y3+x2*y2+x3*y1+x4*y0)))) - 57896044618658097711785492504343953926634992332820282019728792003956564819949*t =
   (x0+2251799813685248*(x1+2251799813685248*(x2+2251799813685248*(x3+2251799813685248*x4))))*(y0+2251799813685248*(y1+2251799813685248*(y2+2251799813685248*(y3+2251799813685248*y4)))) -
   57896044618658097711785492504343953926634992332820282019728792003956564819949*(t+((x1*y4+x2*y3+x3*y2+x4*y1)+2251799813685248*((x2*y4+x3*y3+x4*y2)+2251799813685248*((x3*y4+x4*y3)+2251799813685248*(x4*y4))))):=by
 grind
theorem timesP_spec {l m:Nat→Int} (hl:Tidy l) (hm:Tidy m):LFit (timesP l m)∧∃ q,lim (timesP l m)=lim l*lim m - p25*q:=by
 obtain ⟨a0,a1,a2,a3,a4⟩:=hl.all
 obtain ⟨b0,b1,b2,b3,b4⟩:=hm.all
 have u:∀ x:Int,0≤x∧x<2251799813685267→umul 19 x=19*x:=fun x hx=>by rw [umul,mul_u64];omega
 have w:∀ x y:Int,x*(19*y)=19*(x*y):=fun x y=>by rw [Int.mul_left_comm]
 generalize hx0:l 0=x0 at *
 generalize hx1:l 1=x1 at *
 generalize hx2:l 2=x2 at *
 generalize hx3:l 3=x3 at *
 generalize hx4:l 4=x4 at *
 generalize hy0:m 0=y0 at *
 generalize hy1:m 1=y1 at *
 generalize hy2:m 2=y2 at *
 generalize hy3:m 3=y3 at *
 generalize hy4:m 4=y4 at *
 have P00:=prod_bound (a:=x0) (b:=y0) (by omega) (by omega)
 have P01:=prod_bound (a:=x0) (b:=y1) (by omega) (by omega)
 have P02:=prod_bound (a:=x0) (b:=y2) (by omega) (by omega)
 have P03:=prod_bound (a:=x0) (b:=y3) (by omega) (by omega)
 have P04:=prod_bound (a:=x0) (b:=y4) (by omega) (by omega)
 have P10:=prod_bound (a:=x1) (b:=y0) (by omega) (by omega)
 have P11:=prod_bound (a:=x1) (b:=y1) (by omega) (by omega)
 have P12:=prod_bound (a:=x1) (b:=y2) (by omega) (by omega)
 have P13:=prod_bound (a:=x1) (b:=y3) (by omega) (by omega)
 have P14:=prod_bound (a:=x1) (b:=y4) (by omega) (by omega)
 have P20:=prod_bound (a:=x2) (b:=y0) (by omega) (by omega)
 have P21:=prod_bound (a:=x2) (b:=y1) (by omega) (by omega)
 have P22:=prod_bound (a:=x2) (b:=y2) (by omega) (by omega)
 have P23:=prod_bound (a:=x2) (b:=y3) (by omega) (by omega)
 have P24:=prod_bound (a:=x2) (b:=y4) (by omega) (by omega)
 have P30:=prod_bound (a:=x3) (b:=y0) (by omega) (by omega)
 have P31:=prod_bound (a:=x3) (b:=y1) (by omega) (by omega)
 have P32:=prod_bound (a:=x3) (b:=y2) (by omega) (by omega)
 have P33:=prod_bound (a:=x3) (b:=y3) (by omega) (by omega)
 have P34:=prod_bound (a:=x3) (b:=y4) (by omega) (by omega)
 have P40:=prod_bound (a:=x4) (b:=y0) (by omega) (by omega)
 have P41:=prod_bound (a:=x4) (b:=y1) (by omega) (by omega)
 have P42:=prod_bound (a:=x4) (b:=y2) (by omega) (by omega)
 have P43:=prod_bound (a:=x4) (b:=y3) (by omega) (by omega)
 have P44:=prod_bound (a:=x4) (b:=y4) (by omega) (by omega)
 have rng:∀ z:Int,0≤z∧z<2251799813685267→0≤z∧z<18446744073709551616:=fun z hz=>by omega
 have rng':∀ z:Int,0≤z∧z<2251799813685267→0≤19*z∧19*z<18446744073709551616:=fun z hz=>by omega
 obtain ⟨h0,l0,e0,v0,r0,q0⟩:=tsum_eq (a0:=x0) (b0:=y0) (a1:=x1) (b1:=19*y4) (a2:=x2) (b2:=19*y3) (a3:=x3) (b3:=19*y2) (a4:=x4) (b4:=19*y1)
  (by simp only [List.mem_cons,List.not_mem_nil,or_false,forall_eq_or_imp,forall_eq];omega) (by simp only [w];omega)
 obtain ⟨h1,l1,e1,v1,r1,q1⟩:=tsum_eq (a0:=x0) (b0:=y1) (a1:=x1) (b1:=y0) (a2:=x2) (b2:=19*y4) (a3:=x3) (b3:=19*y3) (a4:=x4) (b4:=19*y2)
  (by simp only [List.mem_cons,List.not_mem_nil,or_false,forall_eq_or_imp,forall_eq];omega) (by simp only [w];omega)
 obtain ⟨h2,l2,e2,v2,r2,q2⟩:=tsum_eq (a0:=x0) (b0:=y2) (a1:=x1) (b1:=y1) (a2:=x2) (b2:=y0) (a3:=x3) (b3:=19*y4) (a4:=x4) (b4:=19*y3)
  (by simp only [List.mem_cons,List.not_mem_nil,or_false,forall_eq_or_imp,forall_eq];omega) (by simp only [w];omega)
 obtain ⟨h3,l3,e3,v3,r3,q3⟩:=tsum_eq (a0:=x0) (b0:=y3) (a1:=x1) (b1:=y2) (a2:=x2) (b2:=y1) (a3:=x3) (b3:=y0) (a4:=x4) (b4:=19*y4)
  (by simp only [List.mem_cons,List.not_mem_nil,or_false,forall_eq_or_imp,forall_eq];omega) (by simp only [w];omega)
 obtain ⟨h4,l4,e4,v4,r4,q4⟩:=tsum_eq (a0:=x0) (b0:=y4) (a1:=x1) (b1:=y3) (a2:=x2) (b2:=y2) (a3:=x3) (b3:=y1) (a4:=x4) (b4:=y0)
  (by simp only [List.mem_cons,List.not_mem_nil,or_false,forall_eq_or_imp,forall_eq];omega) (by omega)
 simp only [w] at v0 v1 v2 v3
 obtain ⟨o0,n0⟩:=carry_eq e0 (c:=0) (by omega) q0 (by omega)
 generalize hT0:h0*18446744073709551616+l0+0=T0 at *
 obtain ⟨o1,n1⟩:=carry_eq e1 (c:=T0 / 2251799813685248) (by omega) q1 (by omega)
 generalize hT1:h1*18446744073709551616+l1+T0 / 2251799813685248=T1 at *
 obtain ⟨o2,n2⟩:=carry_eq e2 (c:=T1 / 2251799813685248) (by omega) q2 (by omega)
 generalize hT2:h2*18446744073709551616+l2+T1 / 2251799813685248=T2 at *
 obtain ⟨o3,n3⟩:=carry_eq e3 (c:=T2 / 2251799813685248) (by omega) q3 (by omega)
 generalize hT3:h3*18446744073709551616+l3+T2 / 2251799813685248=T3 at *
 obtain ⟨o4,n4⟩:=carry_eq e4 (c:=T3 / 2251799813685248) (by omega) q4 (by omega)
 generalize hT4:h4*18446744073709551616+l4+T3 / 2251799813685248=T4 at *
 have hP:timesP l m=fnOf [T0 % 2251799813685248+19*(T4 / 2251799813685248),T1 % 2251799813685248,T2 % 2251799813685248,T3 % 2251799813685248,T4 % 2251799813685248]:=by
  simp only [timesP,hx0,hx1,hx2,hx3,hx4,hy0,hy1,hy2,hy3,hy4]
  rw [u y1 (by omega),u y2 (by omega),u y3 (by omega),u y4 (by omega),n0,n1,n2,n3,n4,o0,o1,o2,o3,o4]
  have e19:umul 19 (T4 / 2251799813685248)=19*(T4 / 2251799813685248):=by rw [umul,mul_u64];omega
  rw [e19,uadd_eq (by omega)]
 rw [hP]
 refine ⟨each5 (by rw [fnOf_0];omega) (by rw [fnOf_1];omega) (by rw [fnOf_2];omega) (by rw [fnOf_3];omega) (by rw [fnOf_4];omega),?_⟩
 have hsum:lim (fnOf [T0 % 2251799813685248+19*(T4 / 2251799813685248),T1 % 2251799813685248,T2 % 2251799813685248,T3 % 2251799813685248,T4 % 2251799813685248]) =
   (x0*y0+19*(x1*y4)+19*(x2*y3)+19*(x3*y2)+19*(x4*y1))+2251799813685248*((x0*y1+x1*y0+19*(x2*y4)+19*(x3*y3)+19*(x4*y2))+2251799813685248*((x0*y2+x1*y1+x2*y0+19*(x3*y4)+19*(x4*y3)) +
    2251799813685248*((x0*y3+x1*y2+x2*y1+x3*y0+19*(x4*y4))+2251799813685248*(x0*y4+x1*y3+x2*y2+x3*y1+x4*y0)))) - p25*(T4 / 2251799813685248):=by
  simp only [lim,fnOf_0,fnOf_1,fnOf_2,fnOf_3,fnOf_4,p25]
  omega
 refine ⟨T4 / 2251799813685248+((x1*y4+x2*y3+x3*y2+x4*y1)+2251799813685248*((x2*y4+x3*y3+x4*y2)+2251799813685248*((x3*y4+x4*y3)+2251799813685248*(x4*y4)))),?_⟩
 rw [hsum]
 simp only [lim,hx0,hx1,hx2,hx3,hx4,hy0,hy1,hy2,hy3,hy4,p25]
 exact mul_id _ _ _ _ _ _ _ _ _ _ _
theorem times_spec {l m:Nat→Int} (hl:Tidy l) (hm:Tidy m):lim (timesF l m) % p25=(lim l*lim m) % p25∧Tidy (timesF l m):=by
 obtain ⟨h1,q,h2⟩:=timesP_spec hl hm
 obtain ⟨h3,h4⟩:=settle_spec h1
 refine ⟨?_,h4⟩
 show lim (settleF _) % _=_
 rw [h3,h2]
 simp [Int.sub_emod]
def rowsT (l m:Nat→Int):Nat→Nat→Nat→Int
 | 0,_=>tzero
 | i+1,k=>tstep (rowsT l m i k) (l i) (if i≤k then m (k - i) else umul 19 (m (k+5 - i)))
def sumsT (l m:Nat→Int) (i:Nat):Nat→Int:=fun j=>rowsT l m i (j / 2) (j % 2)
def carT (s:Nat→Int):Nat→Int :=
 let w (k:Nat):Nat→Int:=fnOf [s (2*k),s (2*k+1)]
 let c1:=cNext (w 0) 0
 let c2:=cNext (w 1) c1
 let c3:=cNext (w 2) c2
 let c4:=cNext (w 3) c3
 let c5:=cNext (w 4) c4
 fnOf [uadd (cOut (w 0) 0) (umul 19 c5),cOut (w 1) c1,cOut (w 2) c2,cOut (w 3) c3,cOut (w 4) c4]
theorem timesP_rows (l m:Nat→Int):timesP l m=carT (sumsT l m 5):=by
 have e:∀ h:Nat→Int,∀ c,cNext (fnOf [h 0,h 1]) c=cNext h c:=fun _ _=>rfl
 have e':∀ h:Nat→Int,∀ c,cOut (fnOf [h 0,h 1]) c=cOut h c:=fun _ _=>rfl
 have f0:tsum (l 0) (m 0) (l 1) (umul 19 (m 4)) (l 2) (umul 19 (m 3)) (l 3) (umul 19 (m 2)) (l 4) (umul 19 (m 1))=rowsT l m 5 0:=rfl
 have f1:tsum (l 0) (m 1) (l 1) (m 0) (l 2) (umul 19 (m 4)) (l 3) (umul 19 (m 3)) (l 4) (umul 19 (m 2))=rowsT l m 5 1:=rfl
 have f2:tsum (l 0) (m 2) (l 1) (m 1) (l 2) (m 0) (l 3) (umul 19 (m 4)) (l 4) (umul 19 (m 3))=rowsT l m 5 2:=rfl
 have f3:tsum (l 0) (m 3) (l 1) (m 2) (l 2) (m 1) (l 3) (m 0) (l 4) (umul 19 (m 4))=rowsT l m 5 3:=rfl
 have f4:tsum (l 0) (m 4) (l 1) (m 3) (l 2) (m 2) (l 3) (m 1) (l 4) (m 0)=rowsT l m 5 4:=rfl
 unfold timesP
 rw [f0,f1,f2,f3,f4]
 unfold carT
 have g:∀ k,k<5→(fnOf [sumsT l m 5 (2*k),sumsT l m 5 (2*k+1)])=fnOf [rowsT l m 5 k 0,rowsT l m 5 k 1]:=by
  intro k _
  have a1:(2*k) / 2=k:=by omega
  have a2:(2*k) % 2=0:=by omega
  have a3:(2*k+1) / 2=k:=by omega
  have a4:(2*k+1) % 2=1:=by omega
  unfold sumsT
  rw [a1,a2,a3,a4]
 dsimp only
 rw [g 0 (by decide),g 1 (by decide),g 2 (by decide),g 3 (by decide),g 4 (by decide)]
 simp only [e,e']
end Sx

namespace Sx
open Go
def frzR (l:Nat→Int):Nat→Int :=
 let q0:=ushr (uadd (l 0) 19) 51
 let q1:=ushr (uadd (l 1) q0) 51
 let q2:=ushr (uadd (l 2) q1) 51
 let q3:=ushr (uadd (l 3) q2) 51
 let q4:=ushr (uadd (l 4) q3) 51
 let t0:=uadd (l 0) (umul 19 q4)
 let t1:=uadd (l 1) (ushr t0 51)
 let t2:=uadd (l 2) (ushr t1 51)
 let t3:=uadd (l 3) (ushr t2 51)
 let t4:=uadd (l 4) (ushr t3 51)
 fnOf [uand t0 2251799813685247,uand t1 2251799813685247,uand t2 2251799813685247,uand t3 2251799813685247,uand t4 2251799813685247]
def wrdR (m:Nat→Int):Nat→Int :=
 fnOf [uor (m 0) (ushl (m 1) 51),uor (ushr (m 1) 13) (ushl (m 2) 38),uor (ushr (m 2) 26) (ushl (m 3) 25),uor (ushr (m 3) 39) (ushl (m 4) 12)]
def outR (w:Nat→Int):Nat→Int:=fun i=>u8of (ushr (w (i / 8)) ((8*(i % 8):Nat):Int))
def bytesF (l:Nat→Int):Nat→Int:=outR (wrdR (frzR (settleF l)))
theorem frz_eq {l:Nat→Int} (h:Tidy l):∃ m0 m1 m2 m3 m4,frzR l=fnOf [m0,m1,m2,m3,m4]∧(0≤m0∧m0<2251799813685248)∧(0≤m1∧m1<2251799813685248)∧(0≤m2∧m2<2251799813685248)∧(0≤m3∧m3<2251799813685248)∧(0≤m4∧m4<2251799813685248) ∧
  m0+2251799813685248*(m1+2251799813685248*(m2+2251799813685248*(m3+2251799813685248*m4)))=lim l % p25:=by
 obtain ⟨a0,a1,a2,a3,a4⟩:=h.all
 have g0:uadd (l 0) 19=l 0+19:=uadd_eq (by omega)
 generalize hq0:(l 0+19) / 2251799813685248=q0
 have g1:uadd (l 1) q0=l 1+q0:=uadd_eq (by omega)
 generalize hq1:(l 1+q0) / 2251799813685248=q1
 have g2:uadd (l 2) q1=l 2+q1:=uadd_eq (by omega)
 generalize hq2:(l 2+q1) / 2251799813685248=q2
 have g3:uadd (l 3) q2=l 3+q2:=uadd_eq (by omega)
 generalize hq3:(l 3+q2) / 2251799813685248=q3
 have g4:uadd (l 4) q3=l 4+q3:=uadd_eq (by omega)
 generalize hq4:(l 4+q3) / 2251799813685248=q4
 have m19:umul 19 q4=19*q4:=by rw [umul,mul_u64];omega
 have k0:uadd (l 0) (19*q4)=l 0+19*q4:=uadd_eq (by omega)
 generalize ht0:l 0+19*q4=t0 at *
 have k1:uadd (l 1) (t0 / 2251799813685248)=l 1+t0 / 2251799813685248:=uadd_eq (by omega)
 generalize ht1:l 1+t0 / 2251799813685248=t1 at *
 have k2:uadd (l 2) (t1 / 2251799813685248)=l 2+t1 / 2251799813685248:=uadd_eq (by omega)
 generalize ht2:l 2+t1 / 2251799813685248=t2 at *
 have k3:uadd (l 3) (t2 / 2251799813685248)=l 3+t2 / 2251799813685248:=uadd_eq (by omega)
 generalize ht3:l 3+t2 / 2251799813685248=t3 at *
 have k4:uadd (l 4) (t3 / 2251799813685248)=l 4+t3 / 2251799813685248:=uadd_eq (by omega)
 generalize ht4:l 4+t3 / 2251799813685248=t4 at *
 refine ⟨t0 % 2251799813685248,t1 % 2251799813685248,t2 % 2251799813685248,t3 % 2251799813685248,t4 % 2251799813685248,?_,by omega,by omega,by omega,by omega,by omega,?_⟩
 ·simp only [frzR,ushr51,g0,hq0,g1,hq1,g2,hq2,g3,hq3,g4,hq4,m19,k0,k1,k2,k3,k4]
  rw [uand51 (by omega),uand51 (by omega),uand51 (by omega),uand51 (by omega),uand51 (by omega)]
 ·simp only [lim,p25]
  have hL:l 0+2251799813685248*(l 1+2251799813685248*(l 2+2251799813685248*(l 3+2251799813685248*l 4)))+19*q4=t0 % 2251799813685248+2251799813685248*(t1 % 2251799813685248+2251799813685248*(t2 % 2251799813685248+2251799813685248*(t3 % 2251799813685248+2251799813685248*(t4 % 2251799813685248))))+57896044618658097711785492504343953926634992332820282019728792003956564819968*(t4 / 2251799813685248):=by omega
  have hQ:q4=(l 0+2251799813685248*(l 1+2251799813685248*(l 2+2251799813685248*(l 3+2251799813685248*l 4)))+19) / 57896044618658097711785492504343953926634992332820282019728792003956564819968:=by omega
  generalize l 0+2251799813685248*(l 1+2251799813685248*(l 2+2251799813685248*(l 3+2251799813685248*l 4)))=N at *
  have hN:0≤N∧N<57896044618658097711785492504343953926634992332820282019728792003956564819968+19:=by omega
  have hR:0≤t0 % 2251799813685248+2251799813685248*(t1 % 2251799813685248+2251799813685248*(t2 % 2251799813685248+2251799813685248*(t3 % 2251799813685248+2251799813685248*(t4 % 2251799813685248)))) ∧
   t0 % 2251799813685248+2251799813685248*(t1 % 2251799813685248+2251799813685248*(t2 % 2251799813685248+2251799813685248*(t3 % 2251799813685248+2251799813685248*(t4 % 2251799813685248))))<57896044618658097711785492504343953926634992332820282019728792003956564819968:=by omega
  generalize t0 % 2251799813685248+2251799813685248*(t1 % 2251799813685248+2251799813685248*(t2 % 2251799813685248+2251799813685248*(t3 % 2251799813685248+2251799813685248*(t4 % 2251799813685248))))=R at *
  generalize t4 / 2251799813685248=z at *
  clear k0 k1 k2 k3 k4 ht0 ht1 ht2 ht3 ht4 hq4 hq3 hq2 hq1 hq0 a0 a1 a2 a3 a4 g0 g1 g2 g3 g4 m19
  have hq:q4=0∨q4=1:=by omega
  rcases hq with rfl | rfl
  ·have hz:z=0:=by omega
   rw [Int.emod_eq_of_lt hN.1 (by omega)]
   omega
  ·have hz:z=1:=by omega
   have e:N % 57896044618658097711785492504343953926634992332820282019728792003956564819949=N - 57896044618658097711785492504343953926634992332820282019728792003956564819949:=by omega
   omega
theorem wrd_eq {m0 m1 m2 m3 m4:Int} (h0:0≤m0∧m0<2251799813685248) (h1:0≤m1∧m1<2251799813685248) (h2:0≤m2∧m2<2251799813685248) (h3:0≤m3∧m3<2251799813685248) (h4:0≤m4∧m4<2251799813685248) :
  ∃ w0 w1 w2 w3,wrdR (fnOf [m0,m1,m2,m3,m4])=fnOf [w0,w1,w2,w3]∧(0≤w0∧w0<18446744073709551616)∧(0≤w1∧w1<18446744073709551616)∧(0≤w2∧w2<18446744073709551616)∧(0≤w3∧w3<18446744073709551616) ∧
  w0+18446744073709551616*(w1+18446744073709551616*(w2+18446744073709551616*w3))=m0+2251799813685248*(m1+2251799813685248*(m2+2251799813685248*(m3+2251799813685248*m4))):=by
 have sh:∀ (y:Int) (t:Nat),t≤64→ushl y t=(y*2 ^ t) % 18446744073709551616:=fun y t ht=>shl_u64 y t ht
 have c0:uor m0 (ushl m1 51)=m0+(m1*2251799813685248) % 18446744073709551616:=by
  have e:ushl m1 51=(m1*2251799813685248) % 18446744073709551616:=sh m1 51 (by decide)
  rw [e]
  show realBin .or .u64 _ _=_
  rw [or_comm',or_apart (k:=.u64) rfl 51 ⟨by omega,by rw [two64];omega⟩ (by omega) ⟨h0.1,h0.2⟩ (by decide)]
  omega
 have c1:uor (ushr m1 13) (ushl m2 38)=m1 / 8192+(m2*274877906944) % 18446744073709551616:=by
  have e:ushl m2 38=(m2*274877906944) % 18446744073709551616:=sh m2 38 (by decide)
  have e':ushr m1 13=m1 / 8192:=shr_any .u64 m1 13 (by decide)
  rw [e,e']
  show realBin .or .u64 _ _=_
  rw [or_comm',or_apart (k:=.u64) rfl 38 ⟨by omega,by rw [two64];omega⟩ (by omega) ⟨by omega,by omega⟩ (by decide)]
  omega
 have c2:uor (ushr m2 26) (ushl m3 25)=m2 / 67108864+(m3*33554432) % 18446744073709551616:=by
  have e:ushl m3 25=(m3*33554432) % 18446744073709551616:=sh m3 25 (by decide)
  have e':ushr m2 26=m2 / 67108864:=shr_any .u64 m2 26 (by decide)
  rw [e,e']
  show realBin .or .u64 _ _=_
  rw [or_comm',or_apart (k:=.u64) rfl 25 ⟨by omega,by rw [two64];omega⟩ (by omega) ⟨by omega,by omega⟩ (by decide)]
  omega
 have c3:uor (ushr m3 39) (ushl m4 12)=m3 / 549755813888+(m4*4096) % 18446744073709551616:=by
  have e:ushl m4 12=(m4*4096) % 18446744073709551616:=sh m4 12 (by decide)
  have e':ushr m3 39=m3 / 549755813888:=shr_any .u64 m3 39 (by decide)
  rw [e,e']
  show realBin .or .u64 _ _=_
  rw [or_comm',or_apart (k:=.u64) rfl 12 ⟨by omega,by rw [two64];omega⟩ (by omega) ⟨by omega,by omega⟩ (by decide)]
  omega
 refine ⟨m0+(m1*2251799813685248) % 18446744073709551616,m1 / 8192+(m2*274877906944) % 18446744073709551616,m2 / 67108864+(m3*33554432) % 18446744073709551616,m3 / 549755813888+(m4*4096) % 18446744073709551616,?_,by omega,by omega,by omega,by omega,by omega⟩
 simp only [wrdR,fnOf_0,fnOf_1,fnOf_2,fnOf_3,fnOf_4,c0,c1,c2,c3]
theorem fn4_0 (a b c d:Int):fnOf [a,b,c,d] 0=a:=rfl
theorem fn4_1 (a b c d:Int):fnOf [a,b,c,d] 1=b:=rfl
theorem fn4_2 (a b c d:Int):fnOf [a,b,c,d] 2=c:=rfl
theorem fn4_3 (a b c d:Int):fnOf [a,b,c,d] 3=d:=rfl
theorem out_one (w:Int) (k:Nat) (hk:k<8):u8of (ushr w ((8*k:Nat):Int))=w / 256 ^ k % 256:=by
 show IntKind.wrap .u8 (realBin .shr .u64 w ((8*k:Nat):Int))=_
 rw [wrap_u8,shr_any .u64 w (8*k) (by simp [IntKind.bits];omega),Int.pow_mul]
 rfl
theorem out_eq {w0 w1 w2 w3:Int} (h0:0≤w0∧w0<18446744073709551616) (h1:0≤w1∧w1<18446744073709551616) (h2:0≤w2∧w2<18446744073709551616) (h3:0≤w3∧w3<18446744073709551616) :
  ∀ i,i<32→outR (fnOf [w0,w1,w2,w3]) i=byt (w0+18446744073709551616*(w1+18446744073709551616*(w2+18446744073709551616*w3))) i:=by
 intro i hi
 have key:∀ (j k:Nat) (w N r:Int),k<8→0≤w∧w<18446744073709551616→N / 256 ^ (8*j)=w+18446744073709551616*r→w / 256 ^ k % 256=N / 256 ^ (8*j+k) % 256:=by
  intro j k w N r hk hw hN
  rw [Int.pow_add,← Int.ediv_ediv_of_nonneg (Int.le_of_lt (Int.pow_pos (by decide))),hN]
  match k,hk with
  | 0,_=>simp only [Int.pow_zero,Int.ediv_one];omega
  | 1,_=>simp only [Int.reducePow];omega
  | 2,_=>simp only [Int.reducePow];omega
  | 3,_=>simp only [Int.reducePow];omega
  | 4,_=>simp only [Int.reducePow];omega
  | 5,_=>simp only [Int.reducePow];omega
  | 6,_=>simp only [Int.reducePow];omega
  | 7,_=>simp only [Int.reducePow];omega
 have hi8:i=8*(i / 8)+i % 8:=by omega
 have hk:i % 8<8:=Nat.mod_lt _ (by decide)
 simp only [outR,byt]
 rw [out_one _ _ hk]
 generalize hN:w0+18446744073709551616*(w1+18446744073709551616*(w2+18446744073709551616*w3))=N
 have hj:i / 8<4:=by omega
 conv=>rhs;rw [hi8]
 generalize i / 8=j at *
 generalize i % 8=k at *
 match j,hj with
 | 0,_=>rw [fn4_0];exact key 0 k w0 N (w1+18446744073709551616*(w2+18446744073709551616*w3)) hk h0 (by simp only [Nat.mul_zero,Int.pow_zero,Int.ediv_one];omega)
 | 1,_=>rw [fn4_1];exact key 1 k w1 N (w2+18446744073709551616*w3) hk h1 (by simp only [Int.reducePow,Nat.reduceMul];omega)
 | 2,_=>rw [fn4_2];exact key 2 k w2 N w3 hk h2 (by simp only [Int.reducePow,Nat.reduceMul];omega)
 | 3,_=>rw [fn4_3];exact key 3 k w3 N 0 hk h3 (by simp only [Int.reducePow,Nat.reduceMul];omega)
theorem bytes_spec {l:Nat→Int} (h:LFit l):∀ i,i<32→bytesF l i=byt (lim l % p25) i:=by
 obtain ⟨e,t⟩:=settle_spec h
 obtain ⟨m0,m1,m2,m3,m4,f,b0,b1,b2,b3,b4,s⟩:=frz_eq t
 obtain ⟨w0,w1,w2,w3,g,d0,d1,d2,d3,v⟩:=wrd_eq b0 b1 b2 b3 b4
 intro i hi
 show outR (wrdR (frzR (settleF l))) i=_
 rw [f,g,out_eq d0 d1 d2 d3 i hi,v,s,e]
end Sx

namespace Sx
open Go
def wordC (W:(Nat→Int)→Int):Contract:=fun vs=>match vs with
 | [.xsl .u8 1 (.lit 8) _ f]=>some ([],.int .u64 (.sym (W f)))
 | _=>none
def limC (S:(Nat→Int)→Nat→Int):Contract:=fun vs=>match vs with
 | [.arr .u64 5 l]=>some ([],.arr .u64 5 (S l))
 | _=>none
def lim2C (T:(Nat→Int)→(Nat→Int)→Nat→Int):Contract:=fun vs=>match vs with
 | [.arr .u64 5 l,.arr .u64 5 m]=>some ([],.arr .u64 5 (T l m))
 | _=>none
def loadC (L:(Nat→Int)→Nat→Int):Contract:=fun vs=>match vs with
 | [.arr .u8 32 f]=>some ([],.arr .u64 5 (L f))
 | _=>none
def bytesC (B:(Nat→Int)→Nat→Int):Contract:=fun vs=>match vs with
 | [.arr .u64 5 l]=>some ([],.arr .u8 32 (B l))
 | _=>none
def addC (K:Int→Prop) (S C:Int→Int→Int→Int):Contract:=fun vs=>match vs with
 | [.int .u64 x,.int .u64 y,.int .u64 c]=>some ([K c.val],.tup [.int .u64 (.sym (S x.val y.val c.val)),.int .u64 (.sym (C x.val y.val c.val))])
 | _=>none
def mulC (H L:Int→Int→Int):Contract:=fun vs=>match vs with
 | [.int .u64 x,.int .u64 y]=>some ([],.tup [.int .u64 (.sym (H x.val y.val)),.int .u64 (.sym (L x.val y.val))])
 | _=>none
def wideC (V:Int→Int→Int→Int→Nat→Int):Contract:=fun vs=>match vs with
 | [.arr .u64 2 w,.int .u64 a,.int .u64 b]=>some ([],.arr .u64 2 (V (w 0) (w 1) a.val b.val))
 | _=>none
theorem rnd_congr {l m:Nat→Int} (h:∀ i,i<5→l i=m i):rnd l=rnd m:=by
 unfold rnd
 rw [h 0 (by omega),h 1 (by omega),h 2 (by omega),h 3 (by omega),h 4 (by omega)]
theorem settle_congr {l m:Nat→Int} (h:∀ i,i<5→l i=m i):settleF l=settleF m:=by
 unfold settleF
 rw [rnd_congr h]
theorem each4 {q:Nat→Prop} (h0:q 0) (h1:q 1) (h2:q 2) (h3:q 3):∀ i,i<4→q i:=fun i hi =>
 match i,hi with
 | 0,_=>h0
 | 1,_=>h1
 | 2,_=>h2
 | 3,_=>h3
theorem each2 {q:Nat→Prop} (h0:q 0) (h1:q 1):∀ i,i<2→q i:=fun i hi =>
 match i,hi with
 | 0,_=>h0
 | 1,_=>h1
end Sx

namespace Sx
open Go Go.RowKit
def sub64Entry:Array Value→Sem Value:=fun args=>do
 let (x, y, b) ← Extern.MathBitsCarry.three "Sub64" args
 pure (Extern.MathBitsCarry.pair ((x+Extern.MathBitsCarry.m64 - y - b) % Extern.MathBitsCarry.m64) (if x<y+b then 1 else 0))
theorem run_sub64 {P:Program} (x y c:Int) (hx:0≤x∧x<18446744073709551616) (hy:0≤y∧y<18446744073709551616) (hc0:0≤c) (hc:c≤1) (w:World) :
  (sub64Entry #[.int .u64 x,.int .u64 y,.int .u64 c]).run P w=.ok (.tuple #[.int .u64 (sbbS x y c),.int .u64 (sbbC x y c)]) w:=by
 have key:∀ k:Nat,k≤1→(sub64Entry #[.int .u64 x,.int .u64 y,.int .u64 (k:Int)]).run P w =
   .ok (Extern.MathBitsCarry.pair ((x.toNat+Extern.MathBitsCarry.m64 - y.toNat - k) % Extern.MathBitsCarry.m64) (if x.toNat<y.toNat+k then 1 else 0)) w:=by
  intro k hk
  have:k=0∨k=1:=by omega
  rcases this with rfl | rfl <;> rfl
 obtain ⟨k,rfl⟩:=Int.eq_ofNat_of_zero_le hc0
 rw [key k (by omega)]
 obtain ⟨X,rfl⟩:=Int.eq_ofNat_of_zero_le hx.1
 obtain ⟨Y,rfl⟩:=Int.eq_ofNat_of_zero_le hy.1
 have hX:X<18446744073709551616:=by omega
 have hY:Y<18446744073709551616:=by omega
 simp only [Extern.MathBitsCarry.pair,Extern.MathBitsCarry.m64,Int.toNat_natCast,sbbS,sbbC]
 have e1:Int.ofNat ((X+2 ^ 64 - Y - k) % 2 ^ 64)=((X:Int) - Y - k) % 18446744073709551616:=by
  simp only [Nat.reducePow,Int.ofNat_eq_natCast]
  omega
 have e2:Int.ofNat (if X<Y+k then 1 else 0)=if (X:Int)<Y+k then 1 else 0:=by
  split <;> split <;> first | rfl | omega
 rw [e1,e2]
theorem args3 {w:World} {x y c:SI} {args:List Value} (h:All2 (ArgR w) [.int .u64 x,.int .u64 y,.int .u64 c] args):args=[.int .u64 x.val,.int .u64 y.val,.int .u64 c.val]:=by
 match args,h with
 | [a,b,d],⟨h1,h2,h3,_⟩ =>
  simp only [ArgR] at h1 h2 h3
  rw [h1,h2,h3]
theorem ok_add64 {P : Program} {f : FuncId} {fn : Func} (hf : P.funcs[f]? = some fn) (hname : (fn.name == "runtime.NumGoroutine") = false) (hb : fn.body.isNone = true) (hn : Extern.findNext fn = none) (he : Extern.find fn = some add64Entry) (G : Nat → AV) :
  Sound P G f (addC Bit01 adcS adcC):=by
 intro vs cs r h hcs hwf w _ args hargs
 unfold addC at h
 split at h
 ·rename_i x y c
  cases h
  have hx:=inR_u64.1 (hwf (.int .u64 x) (by simp))
  have hy:=inR_u64.1 (hwf (.int .u64 y) (by simp))
  have hc:Bit01 c.val:=hcs _ (by simp)
  have ha:=args3 hargs
  subst ha
  first | refine .inr ⟨.tuple #[.int .u64 (adcS x.val y.val c.val),.int .u64 (adcC x.val y.val c.val)],⟨rfl,rfl,?_⟩,?_⟩ | refine .inr ⟨.tuple #[.int .u64 (adcS x.val y.val c.val),.int .u64 (adcC x.val y.val c.val)],rfl,⟨rfl,rfl,?_⟩,?_⟩
  ·intro z hz
   simp only [List.mem_cons,List.not_mem_nil,or_false] at hz
   rcases hz with rfl | rfl
   ·exact inR_u64.2 (by show 0≤adcS _ _ _∧adcS _ _ _<_;unfold adcS;omega)
   ·refine inR_u64.2 ?_
    rcases bit01_adc x.val y.val c.val with e | e <;> (show 0≤adcC _ _ _∧adcC _ _ _<_;rw [e];decide)
  ·rw [run_callFunc_extern hf hname hb hn he]
   show ((add64Entry #[.int .u64 x.val,.int .u64 y.val,.int .u64 c.val]).run P w).andThen _=_
   rw [run_add64 _ _ _ hx.1 hy.1 (by rcases hc with e | e <;> omega) (by rcases hc with e | e <;> omega)]
   have e1:(x.val+y.val+c.val) / 18446744073709551616=adcC x.val y.val c.val:=by
    unfold adcC
    rcases hc with e | e <;> split <;> omega
   rw [e1]
   rfl
 ·cases h
theorem ok_sub64 {P : Program} {f : FuncId} {fn : Func} (hf : P.funcs[f]? = some fn) (hname : (fn.name == "runtime.NumGoroutine") = false) (hb : fn.body.isNone = true) (hn : Extern.findNext fn = none) (he : Extern.find fn = some sub64Entry) (G : Nat → AV) :
  Sound P G f (addC Bit01 sbbS sbbC):=by
 intro vs cs r h hcs hwf w _ args hargs
 unfold addC at h
 split at h
 ·rename_i x y c
  cases h
  have hx:=inR_u64.1 (hwf (.int .u64 x) (by simp))
  have hy:=inR_u64.1 (hwf (.int .u64 y) (by simp))
  have hc:Bit01 c.val:=hcs _ (by simp)
  have ha:=args3 hargs
  subst ha
  first | refine .inr ⟨.tuple #[.int .u64 (sbbS x.val y.val c.val),.int .u64 (sbbC x.val y.val c.val)],⟨rfl,rfl,?_⟩,?_⟩ | refine .inr ⟨.tuple #[.int .u64 (sbbS x.val y.val c.val),.int .u64 (sbbC x.val y.val c.val)],rfl,⟨rfl,rfl,?_⟩,?_⟩
  ·intro z hz
   simp only [List.mem_cons,List.not_mem_nil,or_false] at hz
   rcases hz with rfl | rfl
   ·exact inR_u64.2 (by show 0≤sbbS _ _ _∧sbbS _ _ _<_;unfold sbbS;omega)
   ·refine inR_u64.2 ?_
    rcases bit01_sbb x.val y.val c.val with e | e <;> (show 0≤sbbC _ _ _∧sbbC _ _ _<_;rw [e];decide)
  ·rw [run_callFunc_extern hf hname hb hn he]
   show ((sub64Entry #[.int .u64 x.val,.int .u64 y.val,.int .u64 c.val]).run P w).andThen _=_
   rw [run_sub64 _ _ _ hx hy (by rcases hc with e | e <;> omega) (by rcases hc with e | e <;> omega)]
   rfl
 ·cases h
end Sx

namespace Sx
open Go
def bin32C (F:(Nat→Int)→(Nat→Int)→Nat→Int):Contract:=fun vs=>match vs with
 | [.arr .u8 32 f,.arr .u8 32 g]=>some ([],.arr .u8 32 (F f g))
 | _=>none
def un32C (F:(Nat→Int)→Nat→Int):Contract:=fun vs=>match vs with
 | [.arr .u8 32 f]=>some ([],.arr .u8 32 (F f))
 | _=>none
def bool32C (F:(Nat→Int)→Bool):Contract:=fun vs=>match vs with
 | [.arr .u8 32 f]=>some ([],.bool (.sym (F f)))
 | _=>none
def redN (f:Nat→Int):Int:=num 32 f % p25
def mulN (f g:Nat→Int):Int:=num 32 f*num 32 g % p25
def addN (f g:Nat→Int):Int:=(num 32 f+num 32 g) % p25
def subN (f g:Nat→Int):Int:=(num 32 f - num 32 g) % p25
theorem lim_add {a b:Int} {x y:Int} (h1:a % p25=x % p25) (h2:b % p25=y % p25):(a+b) % p25=(x+y) % p25:=by
 rw [Int.add_emod,h1,h2,← Int.add_emod]
theorem lim_sub {a b:Int} {x y:Int} (h1:a % p25=x % p25) (h2:b % p25=y % p25):(a - b) % p25=(x - y) % p25:=by
 rw [Int.sub_emod,h1,h2,← Int.sub_emod]
theorem lim_mul {a b:Int} {x y:Int} (h1:a % p25=x % p25) (h2:b % p25=y % p25):(a*b) % p25=(x*y) % p25:=by
 rw [Int.mul_emod,h1,h2,← Int.mul_emod]
theorem red_bytes {f:Nat→Int} (hf:IsBytes 32 f):∀ i,i<32→bytesF (loadF f) i=byt (redN f) i:=by
 obtain ⟨h1,h2⟩:=load_spec hf
 intro i hi
 rw [bytes_spec h2.fit i hi,h1]
 rfl
theorem mul_bytes {f g:Nat→Int} (hf:IsBytes 32 f) (hg:IsBytes 32 g):∀ i,i<32→bytesF (timesF (loadF f) (loadF g)) i=byt (mulN f g) i:=by
 obtain ⟨h1,h2⟩:=load_spec hf
 obtain ⟨h3,h4⟩:=load_spec hg
 obtain ⟨h5,h6⟩:=times_spec h2 h4
 intro i hi
 rw [bytes_spec h6.fit i hi,h5,lim_mul h1 h3]
 rfl
theorem add_bytes {f g:Nat→Int} (hf:IsBytes 32 f) (hg:IsBytes 32 g):∀ i,i<32→bytesF (settleF (addP (loadF f) (loadF g))) i=byt (addN f g) i:=by
 obtain ⟨h1,h2⟩:=load_spec hf
 obtain ⟨h3,h4⟩:=load_spec hg
 obtain ⟨h5,h6⟩:=addP_spec h2 h4
 obtain ⟨h7,h8⟩:=settle_spec h5
 intro i hi
 rw [bytes_spec h8.fit i hi,h7,h6,lim_add h1 h3]
 rfl
theorem sub_bytes {f g:Nat→Int} (hf:IsBytes 32 f) (hg:IsBytes 32 g):∀ i,i<32→bytesF (settleF (subP (loadF f) (loadF g))) i=byt (subN f g) i:=by
 obtain ⟨h1,h2⟩:=load_spec hf
 obtain ⟨h3,h4⟩:=load_spec hg
 obtain ⟨h5,h6⟩:=subP_spec h2 h4
 obtain ⟨h7,h8⟩:=settle_spec h5
 intro i hi
 rw [bytes_spec h8.fit i hi,h7,h6]
 have e:(lim (loadF f) - lim (loadF g)+2*p25) % p25=(lim (loadF f) - lim (loadF g)) % p25:=by
  rw [Int.add_mul_emod_self_right]
 rw [e,lim_sub h1 h3]
 rfl
theorem modp (n:Int):0≤n % p25∧n % p25<p25:=⟨Int.emod_nonneg _ (by decide),Int.emod_lt_of_pos _ (by decide)⟩
theorem modp_big (n:Int):0≤n % p25∧n % p25<256 ^ 32:=by
 have h:=modp n
 have e:(256:Int) ^ 32=115792089237316195423570985008687907853269984665640564039457584007913129639936:=by decide
 rw [e]
 simp only [p25] at h ⊢
 omega
theorem num_mod (n:Int):num 32 (byt (n % p25))=n % p25:=num_byt 32 _ (modp_big n).1 (modp_big n).2
theorem num_red (f:Nat→Int):num 32 (byt (redN f))=num 32 f % p25:=num_mod _
theorem eqA_congr {n:Nat} {f f' g g':Nat→Int} (hf:∀ i,i<n→f i=f' i) (hg:∀ i,i<n→g i=g' i):realEqA n f g=realEqA n f' g':=by
 rw [Bool.eq_iff_iff]
 simp only [realEqA,List.all_eq_true,List.mem_range,beq_iff_eq]
 exact ⟨fun h i hi=>by rw [← hf i hi,← hg i hi];exact h i hi,fun h i hi=>by rw [hf i hi,hg i hi];exact h i hi⟩
def canB (f:Nat→Int):Bool:=decide (num 32 f<p25)
theorem can_eq {f:Nat→Int} (hf:IsBytes 32 f):realEqA 32 (bytesF (loadF f)) f=canB f:=by
 rw [eqA_congr (red_bytes hf) (fun _ _=>rfl),eqA_num (byt_isBytes _ _) hf,num_red]
 have hb:=(num_bounds 32 f hf).1
 unfold canB
 rw [Bool.eq_iff_iff]
 simp only [beq_iff_eq,decide_eq_true_eq]
 constructor
 ·intro h;rw [← h];exact (modp _).2
 ·intro h;exact Int.emod_eq_of_lt hb h
theorem and_one_u8 {x:Int} (h:0≤x∧x<256):realBin .and .u8 x 1=x % 2:=and_mask (k:=.u8) rfl ⟨h.1,by have e:(2:Int) ^ IntKind.bits .u8=256:=rfl;rw [e];exact h.2⟩ 1 (by decide)
theorem isB {f:Nat→Int} (h:wfV (.arr .u8 32 f)):IsBytes 32 f:=fun i hi=>inR_u8.1 (h i hi)
theorem num_zero:∀ n,num n (fun _=>0)=0
 | 0=>rfl
 | n+1=>by simp only [num,num_zero n];rfl
theorem neg_bytes {f:Nat→Int} (hf:IsBytes 32 f):∀ i,i<32→bytesF (settleF (subP (fun _=>0) (loadF f))) i=byt (subN (fun _=>0) f) i:=by
 obtain ⟨h1,h2⟩:=load_spec hf
 have hz:Tidy (fun _=>0):=by
  refine ⟨⟨Int.le_refl _,?_⟩,fun _ _ _=>⟨Int.le_refl _,?_⟩⟩
  ·show (0:Int)<_
   decide
  ·show (0:Int)<_
   decide
 obtain ⟨h5,h6⟩:=subP_spec hz h2
 obtain ⟨h7,h8⟩:=settle_spec h5
 intro i hi
 rw [bytes_spec h8.fit i hi,h7,h6]
 have e:(lim (fun _=>0) - lim (loadF f)+2*p25) % p25=(lim (fun _=>0) - lim (loadF f)) % p25:=by
  rw [Int.add_mul_emod_self_right]
 have h0:lim (fun _=>0) % p25=num 32 (fun _=>0) % p25:=by rw [num_zero];rfl
 rw [e,lim_sub h0 h1]
 rfl
end Sx

namespace Sx
open Go
theorem num_split:∀ (k m:Nat) (f:Nat→Int),num (k+m) f=num k f+256 ^ k*num m (fun i=>f (k+i))
 | 0,m,f=>by simp [num]
 | k+1,m,f=>by
  have e:k+1+m=(k+m)+1:=by omega
  rw [e]
  simp only [num]
  rw [num_split k m,Int.mul_add,Int.pow_succ',← Int.mul_assoc,Int.add_assoc]
  congr 2
  congr 1
  apply num_congr
  intro i _
  congr 1
  omega
theorem num_last (k:Nat) (f:Nat→Int):num (k+1) f=num k f+256 ^ k*f k:=by
 rw [num_split k 1]
 simp [num]
end Sx

namespace Sx
structure Pr (p:Nat):Prop where
 two:2≤p
 only:∀ m,m ∣ p→m=1∨m=p
theorem Pr.cop {p a:Nat} (hp:Pr p) (h:¬ p ∣ a):Nat.gcd p a=1:=by
 rcases hp.only _ (Nat.gcd_dvd_left p a) with e | e
 ·exact e
 ·exact absurd (by have:=Nat.gcd_dvd_right p a;rwa [e] at this) h
theorem Pr.dvd_mul {p a b:Nat} (hp:Pr p) (h:p ∣ a*b):p ∣ a∨p ∣ b:=by
 by_cases ha:p ∣ a
 ·exact .inl ha
 ·exact .inr (Nat.Coprime.dvd_of_dvd_mul_left (hp.cop ha) h)
theorem exists_prime:∀ n,2≤n→∃ q,Pr q∧q ∣ n:=by
 intro n
 induction n using Nat.strongRecOn with
 | ind n ih =>
  intro h2
  by_cases h:∀ m,m ∣ n→m=1∨m=n
  ·exact ⟨n,⟨h2,h⟩,Nat.dvd_refl n⟩
  ·obtain ⟨m,hm⟩:=Classical.not_forall.1 h
   obtain ⟨hd,hne⟩:=Classical.not_imp.1 hm
   have h1:m≠1:=fun e=>hne (.inl e)
   have h3:m≠n:=fun e=>hne (.inr e)
   have hle:=Nat.le_of_dvd (by omega) hd
   have h0:m≠0:=fun e=>by subst e;have:=Nat.eq_zero_of_zero_dvd hd;omega
   obtain ⟨q,hq,hqm⟩:=ih m (by omega) (by omega)
   exact ⟨q,hq,Nat.dvd_trans hqm hd⟩
theorem perm_of_sub {α:Type} [DecidableEq α]:∀ (l l':List α),l.Nodup→l'.Nodup→(∀ x ∈ l,x ∈ l')→l.length=l'.length→l.Perm l'
 | [],l',_,_,_,hl=>by
  have:l'=[]:=List.eq_nil_of_length_eq_zero (by simpa using hl.symm)
  rw [this]
 | a :: l,l',hn,hn',hs,hl=>by
  have ha:a ∈ l':=hs a (by simp)
  have hp:=List.perm_cons_erase ha
  have hn2:=List.nodup_cons.1 hn
  have ih:=perm_of_sub l (l'.erase a) hn2.2 (hn'.erase a) (fun x hx=>by
   have h1:x ∈ l':=hs x (by simp [hx])
   have h2:x≠a:=fun e=>hn2.1 (e ▸ hx)
   exact (List.mem_erase_of_ne h2).2 h1) (by
   rw [List.length_erase_of_mem ha]
   simp only [List.length_cons] at hl
   omega)
  exact (ih.cons a).trans hp.symm
def prodL:List Nat→Nat
 | []=>1
 | a :: l=>a*prodL l
theorem prodL_perm {l l':List Nat} (h:l.Perm l'):prodL l=prodL l':=by
 induction h with
 | nil=>rfl
 | cons a _ ih=>simp [prodL,ih]
 | swap a b l=>simp only [prodL];rw [Nat.mul_left_comm]
 | trans _ _ h1 h2=>exact h1.trans h2
theorem nodup_map_on {α β:Type} {f:α→β}:∀ {l:List α},l.Nodup→(∀ x ∈ l,∀ y ∈ l,f x=f y→x=y)→(l.map f).Nodup
 | [],_,_=>List.nodup_nil
 | a :: l,hn,hf=>by
  have h:=List.nodup_cons.1 hn
  rw [List.map_cons,List.nodup_cons]
  refine ⟨fun hm=>?_,nodup_map_on h.2 fun x hx y hy=>hf x (by simp [hx]) y (by simp [hy])⟩
  obtain ⟨y,hy,e⟩:=List.mem_map.1 hm
  have:=hf y (by simp [hy]) a (by simp) e
  exact h.1 (this ▸ hy)
theorem perm_map {α:Type} [DecidableEq α] {f:α→α} {l:List α} (hn:l.Nodup) (hf:∀ x ∈ l,∀ y ∈ l,f x=f y→x=y) (hm:∀ x ∈ l,f x ∈ l):(l.map f).Perm l :=
 perm_of_sub _ _ (nodup_map_on hn hf) hn (fun x hx=>by obtain ⟨y,hy,rfl⟩:=List.mem_map.1 hx;exact hm y hy) (by simp)
def upTo (n:Nat):List Nat:=List.range' 1 n
theorem mem_upTo {n i:Nat}:i ∈ upTo n↔1≤i∧i≤n:=by
 unfold upTo
 rw [List.mem_range'_1]
 omega
theorem nodup_upTo (n:Nat):(upTo n).Nodup:=List.nodup_range' (s:=1) (n:=n) (step:=1) (by decide)
theorem mod_dvd_sub {p x y:Nat} (h:x % p=y % p) (hle:y≤x):p ∣ x - y:=by
 have h1:=Nat.div_add_mod x p
 have h2:=Nat.div_add_mod y p
 refine ⟨x / p - y / p,?_⟩
 rw [Nat.mul_sub]
 omega
theorem mod_of_dvd_sub {p x y:Nat} (hle:y≤x) (h:p ∣ x - y):x % p=y % p:=by
 obtain ⟨c,hc⟩:=h
 have e:x=y+p*c:=by omega
 rw [e,Nat.add_mul_mod_self_left]
theorem mul_mod_inj {p a:Nat} (hc:Nat.gcd p a=1) {x y:Nat} (hx:x<p) (hy:y<p) (h:a*x % p=a*y % p):x=y:=by
 have key:∀ {x y:Nat},x<p→y<p→y≤x→a*x % p=a*y % p→x=y:=by
  intro x y hx hy hle h
  have h1:=mod_dvd_sub h (Nat.mul_le_mul_left a hle)
  rw [← Nat.mul_sub] at h1
  have h2:=Nat.Coprime.dvd_of_dvd_mul_left hc h1
  rcases Nat.eq_zero_or_pos (x - y) with h3 | h3
  ·omega
  ·have:=Nat.le_of_dvd h3 h2
   omega
 rcases Nat.le_total y x with hle | hle
 ·exact key hx hy hle h
 ·exact (key hy hx hle h.symm).symm
theorem prod_map_mul (p a:Nat):∀ l:List Nat,prodL (l.map fun i=>a*i % p) % p=a ^ l.length*prodL l % p
 | []=>by simp [prodL]
 | i :: l=>by
  simp only [List.map_cons,prodL,List.length_cons]
  rw [Nat.mul_mod,Nat.mod_mod,prod_map_mul p a l,← Nat.mul_mod,Nat.pow_succ]
  congr 1
  grind
theorem prod_cop {p:Nat} (hp:Pr p):∀ l:List Nat,(∀ i ∈ l,¬ p ∣ i)→¬ p ∣ prodL l
 | [],_=>fun h=>by have:=Nat.le_of_dvd (by decide) h;have:=hp.two;simp [prodL] at *;omega
 | a :: l,h=>fun hd=>by
  rcases hp.dvd_mul hd with h1 | h1
  ·exact h a (by simp) h1
  ·exact prod_cop hp l (fun i hi=>h i (by simp [hi])) h1
theorem fermat {p a:Nat} (hp:Pr p) (ha:¬ p ∣ a):a ^ (p - 1) % p=1:=by
 have h2:=hp.two
 have hc:=hp.cop ha
 have hperm:((upTo (p - 1)).map fun i=>a*i % p).Perm (upTo (p - 1)):=by
  refine perm_map (nodup_upTo _) (fun x hx y hy h=>?_) (fun x hx=>?_)
  ·rw [mem_upTo] at hx hy
   exact mul_mod_inj hc (by omega) (by omega) h
  ·rw [mem_upTo] at hx ⊢
   have h3:=Nat.mod_lt (a*x) (show 0<p by omega)
   have h4:a*x % p≠0:=fun h=>by
    have hd:=Nat.dvd_of_mod_eq_zero h
    rcases hp.dvd_mul hd with h5 | h5
    ·exact ha h5
    ·have:=Nat.le_of_dvd (by omega) h5;omega
   omega
 have h5:=prod_map_mul p a (upTo (p - 1))
 rw [prodL_perm hperm] at h5
 have hlen:(upTo (p - 1)).length=p - 1:=by simp [upTo]
 rw [hlen] at h5
 have h6:¬ p ∣ prodL (upTo (p - 1)):=prod_cop hp _ fun i hi h=>by
  rw [mem_upTo] at hi
  have:=Nat.le_of_dvd (by omega) h
  omega
 generalize prodL (upTo (p - 1))=Q at h5 h6
 have hpos:0<a:=by
  rcases Nat.eq_zero_or_pos a with h | h
  ·subst h;exact absurd (Nat.dvd_zero p) ha
  ·exact h
 have h7:=mod_dvd_sub (p:=p) (x:=a ^ (p - 1)*Q) (y:=Q) h5.symm (Nat.le_mul_of_pos_left _ (Nat.pow_pos hpos))
 have h8:a ^ (p - 1)*Q - Q=(a ^ (p - 1) - 1)*Q:=by rw [Nat.sub_mul,Nat.one_mul]
 rw [h8] at h7
 rcases hp.dvd_mul h7 with h9 | h9
 ·have hge:1≤a ^ (p - 1):=Nat.pow_pos hpos
  rw [mod_of_dvd_sub hge h9,Nat.mod_eq_of_lt (by omega)]
 ·exact absurd h9 h6
def pm (m:Nat):Nat→Nat→Nat→Nat
 | 0,_,_=>1 % m
 | f+1,a,e=>if e=0 then 1 % m else if e % 2=1 then a*pm m f (a*a % m) (e / 2) % m else pm m f (a*a % m) (e / 2)
theorem pm_eq (m:Nat):∀ (f a e:Nat),e<2 ^ f→pm m f a e=a ^ e % m
 | 0,a,e,h=>by
  have:e=0:=by simpa using h
  subst this;simp [pm]
 | f+1,a,e,h=>by
  have hh:e / 2<2 ^ f:=by rw [Nat.pow_succ] at h;omega
  have key:∀ k,(a*a % m) ^ k % m=a ^ (2*k) % m:=fun k=>by
   rw [← Nat.pow_mod,Nat.pow_mul,Nat.pow_two]
  simp only [pm]
  split
  ·rename_i h0;subst h0;simp
  ·split
   ·rename_i h1
    rw [pm_eq m f _ _ hh,key,Nat.mul_mod,Nat.mod_mod,← Nat.mul_mod,← Nat.pow_succ']
    congr 2
    omega
   ·rw [pm_eq m f _ _ hh,key]
    congr 2
    omega
theorem pow_gcd {p b:Nat} (hp:Pr p):∀ m n:Nat,b ^ m % p=1→b ^ n % p=1→b ^ (Nat.gcd m n) % p=1:=by
 intro m n
 induction m,n using Nat.gcd.induction with
 | H0 n=>intro _ h;rw [Nat.gcd_zero_left];exact h
 | H1 m n hm ih =>
  intro h1 h2
  rw [Nat.gcd_rec]
  refine ih ?_ h1
  have e:n=m*(n / m)+n % m:=(Nat.div_add_mod n m).symm
  rw [e,Nat.pow_add,Nat.pow_mul,Nat.mul_mod,Nat.pow_mod,h1,Nat.one_pow,Nat.mod_eq_of_lt (a:=1) (by have:=hp.two;omega),Nat.one_mul,Nat.mod_mod] at h2
  exact h2
theorem pock_step {N f r a b:Nat} (hf:Pr f) (hN:N=f*r+1) (h1:a ^ (f*r) % N=1) (hb:a ^ r % N=b) (hg:Nat.gcd (b+(N - 1)) N=1) {q:Nat} (hq:Pr q) (hqN:q ∣ N):f ∣ q - 1:=by
 have q2:=hq.two
 have hpos:0<N:=by omega
 have hN1:1<N:=by
  have:=Nat.le_of_dvd hpos hqN
  omega
 have h2:a ^ (f*r) % q=1:=by
  have:=congrArg (· % q) h1
  simp only [Nat.mod_mod_of_dvd _ hqN] at this
  rw [this,Nat.mod_eq_of_lt (by omega)]
 have hqa:¬ q ∣ a:=fun h=>by
  have h0:f*r≠0:=by omega
  have:q ∣ a ^ (f*r):=Nat.dvd_trans h ⟨a ^ (f*r - 1),by rw [← Nat.pow_succ'];congr 1;omega⟩
  have:=Nat.mod_eq_zero_of_dvd this
  omega
 have h3:(a ^ r) ^ f % q=1:=by rw [← Nat.pow_mul,Nat.mul_comm r f];exact h2
 have h4:(a ^ r) ^ (q - 1) % q=1:=by
  rw [← Nat.pow_mul,Nat.mul_comm r,Nat.pow_mul,Nat.pow_mod,fermat hq hqa,Nat.one_pow,Nat.mod_eq_of_lt (by omega)]
 by_cases hd:f ∣ q - 1
 ·exact hd
 ·exfalso
  have h5:=pow_gcd hq f (q - 1) h3 h4
  rw [hf.cop hd,Nat.pow_one] at h5
  have h6:b % q=1:=by rw [← hb,Nat.mod_mod_of_dvd _ hqN,h5]
  have h7:q ∣ b+(N - 1):=by
   apply Nat.dvd_of_mod_eq_zero
   obtain ⟨k,hk⟩:=hqN
   have h8:=Nat.div_add_mod b q
   rw [h6] at h8
   have hk0:k≠0:=fun e=>by subst e;simp at hk;omega
   have h9:b+(N - 1)=q*(b / q+k):=by rw [Nat.mul_add,← hk];omega
   rw [h9,Nat.mul_mod_right]
  have h8:q ∣ Nat.gcd (b+(N - 1)) N:=Nat.dvd_gcd h7 hqN
  rw [hg] at h8
  have:=Nat.le_of_dvd (by decide) h8
  omega
theorem prime_of_big {N F:Nat} (h2:2≤N) (hF:N<(F+1)*(F+1)) (h:∀ q,Pr q→q ∣ N→F ∣ q - 1):Pr N:=by
 refine ⟨h2,fun m hm=>?_⟩
 by_cases h1:m=1
 ·exact .inl h1
 by_cases h3:m=N
 ·exact .inr h3
 exfalso
 obtain ⟨k,hk⟩:=hm
 have hm0:m≠0:=fun e=>by subst e;simp at hk;omega
 have hk0:k≠0:=fun e=>by subst e;simp at hk;omega
 have hk1:k≠1:=fun e=>by subst e;simp at hk;omega
 have big:∀ x,2≤x→x ∣ N→F+1≤x:=by
  intro x hx hd
  obtain ⟨q,hq,hqx⟩:=exists_prime x hx
  have:=h q hq (Nat.dvd_trans hqx hd)
  have q2:=hq.two
  have h4:=Nat.le_of_dvd (by omega) this
  have h5:=Nat.le_of_dvd (by omega) hqx
  omega
 have a1:=big m (by omega) ⟨k,hk⟩
 have a2:=big k (by omega) ⟨m,by rw [hk,Nat.mul_comm]⟩
 have:=Nat.mul_le_mul a1 a2
 omega
theorem pock1 {N f r b:Nat} (hf:Pr f) (hN:N=f*r+1) (hbig:N<(f+1)*(f+1)) (fu:Nat) (h0:f*r<2 ^ fu) (h1:pm N fu 2 (f*r)=1) (hr:r<2 ^ fu) (hb:pm N fu 2 r=b) (hg:Nat.gcd (b+(N - 1)) N=1):Pr N:=by
 rw [pm_eq _ _ _ _ h0] at h1
 rw [pm_eq _ _ _ _ hr] at hb
 refine prime_of_big ?_ hbig fun q hq hd=>pock_step hf hN h1 hb hg hq hd
 have:f*r≠0:=fun e=>by rw [e] at h1 hN;subst hN;simp at h1
 omega
theorem pock2 {N f f' r r' b b':Nat} (hf:Pr f) (hf':Pr f') (hne:Nat.gcd f f'=1) (hN:N=f*r+1) (hN':N=f'*r'+1) (hbig:N<(f*f'+1)*(f*f'+1)) (fu:Nat) (h0:f*r<2 ^ fu) (h1:pm N fu 2 (f*r)=1)
  (hr:r<2 ^ fu) (hb:pm N fu 2 r=b) (hg:Nat.gcd (b+(N - 1)) N=1) (hr':r'<2 ^ fu) (hb':pm N fu 2 r'=b') (hg':Nat.gcd (b'+(N - 1)) N=1):Pr N:=by
 rw [pm_eq _ _ _ _ h0] at h1
 rw [pm_eq _ _ _ _ hr] at hb
 rw [pm_eq _ _ _ _ hr'] at hb'
 have h1':2 ^ (f'*r') % N=1:=by
  have:f'*r'=f*r:=by omega
  rw [this];exact h1
 refine prime_of_big ?_ hbig fun q hq hd=>Nat.Coprime.mul_dvd_of_dvd_of_dvd hne (pock_step hf hN h1 hb hg hq hd) (pock_step hf' hN' h1' hb' hg' hq hd)
 have:f*r≠0:=fun e=>by rw [e] at h1 hN;subst hN;simp at h1
 omega
theorem small_prime {n:Nat} (k:Nat) (h2:2≤n) (hk:n<(k+2)*(k+2)) (h:(List.range k).all (fun i=>n % (i+2) != 0)=true):Pr n:=by
 rw [List.all_eq_true] at h
 have no:∀ x,2≤x→x<k+2→¬ x ∣ n:=fun x hx hlt hd=>by
  have:=h (x - 2) (List.mem_range.2 (by omega))
  have e:x - 2+2=x:=by omega
  rw [e] at this
  have h0:=Nat.mod_eq_zero_of_dvd hd
  rw [h0] at this
  simp at this
 refine ⟨h2,fun m hm=>?_⟩
 by_cases h1:m=1
 ·exact .inl h1
 by_cases h3:m=n
 ·exact .inr h3
 exfalso
 have hm':=hm
 obtain ⟨c,hc⟩:=hm
 have hm0:m≠0:=fun e=>by subst e;simp at hc;omega
 have hc0:c≠0:=fun e=>by subst e;simp at hc;omega
 have hc1:c≠1:=fun e=>by subst e;simp at hc;omega
 have a1:k+2≤m:=by
  rcases Nat.lt_or_ge m (k+2) with h | h
  ·exact absurd hm' (no m (by omega) h)
  ·exact h
 have a2:k+2≤c:=by
  rcases Nat.lt_or_ge c (k+2) with h | h
  ·exact absurd ⟨m,by rw [hc,Nat.mul_comm]⟩ (no c (by omega) h)
  ·exact h
 have:=Nat.mul_le_mul a1 a2
 omega
end Sx

namespace Sx
set_option maxRecDepth 100000
theorem pr_8574133:Pr 8574133:=small_prime 2928 (by decide +kernel) (by decide +kernel) (by decide +kernel)
theorem pr_127:Pr 127:=small_prime 11 (by decide +kernel) (by decide +kernel) (by decide +kernel)
theorem pr_1919519569386763:Pr 1919519569386763 :=
 pock2 (r:=223873314) (r':=15114327318006) (b:=1059928654987441) (b':=576774792492622) pr_8574133 pr_127 (by decide +kernel) (by decide +kernel) (by decide +kernel) (by decide +kernel) 51 (by decide +kernel) (by decide +kernel) (by decide +kernel) (by decide +kernel) (by decide +kernel) (by decide +kernel) (by decide +kernel) (by decide +kernel)
theorem pr_569003:Pr 569003:=small_prime 754 (by decide +kernel) (by decide +kernel) (by decide +kernel)
theorem pr_2773320623:Pr 2773320623 :=
 pock1 (r:=4874) (b:=2039232613) pr_569003 (by decide +kernel) (by decide +kernel) 32 (by decide +kernel) (by decide +kernel) (by decide +kernel) (by decide +kernel) (by decide +kernel)
theorem pr_72106336199:Pr 72106336199 :=
 pock1 (r:=26) (b:=67108864) pr_2773320623 (by decide +kernel) (by decide +kernel) 37 (by decide +kernel) (by decide +kernel) (by decide +kernel) (by decide +kernel) (by decide +kernel)
theorem pr_75445702479781427272750846543864801:Pr 75445702479781427272750846543864801 :=
 pock2 (r:=39304471641247389600) (r':=1046311689884858398375200) (b:=56747016255153332959347766392083459) (b':=71619851993489548214160924360205394) pr_1919519569386763 pr_72106336199 (by decide +kernel) (by decide +kernel) (by decide +kernel) (by decide +kernel) 116 (by decide +kernel) (by decide +kernel) (by decide +kernel) (by decide +kernel) (by decide +kernel) (by decide +kernel) (by decide +kernel) (by decide +kernel)
theorem pr_353:Pr 353:=small_prime 18 (by decide +kernel) (by decide +kernel) (by decide +kernel)
theorem pr_74058212732561358302231226437062788676166966415465897661863160754340907:Pr 74058212732561358302231226437062788676166966415465897661863160754340907 :=
 pock2 (r:=981609426360740691344999861639072106) (r':=209796636636151156663544550813209033076960244803019540118592523383402) (b:=69490809710348678725736597923071784769591275419387514694139338586948360) (b':=8562916886866218785688304546164188478888058893729309188831496247839076) pr_75445702479781427272750846543864801 pr_353 (by decide +kernel) (by decide +kernel) (by decide +kernel) (by decide +kernel) 236 (by decide +kernel) (by decide +kernel) (by decide +kernel) (by decide +kernel) (by decide +kernel) (by decide +kernel) (by decide +kernel) (by decide +kernel)
theorem pr_57896044618658097711785492504343953926634992332820282019728792003956564819949:Pr 57896044618658097711785492504343953926634992332820282019728792003956564819949 :=
 pock1 (r:=781764) (b:=427094198651976259540344842774561673889945192655078505504941250475370961481) pr_74058212732561358302231226437062788676166966415465897661863160754340907 (by decide +kernel) (by decide +kernel) 255 (by decide +kernel) (by decide +kernel) (by decide +kernel) (by decide +kernel) (by decide +kernel)
theorem pr_1224481:Pr 1224481:=small_prime 1106 (by decide +kernel) (by decide +kernel) (by decide +kernel)
theorem pr_531581:Pr 531581:=small_prime 729 (by decide +kernel) (by decide +kernel) (by decide +kernel)
theorem pr_1257559732178653:Pr 1257559732178653 :=
 pock2 (r:=1027014492) (r':=2365697292) (b:=1252739704402215) (b':=1139842034583224) pr_1224481 pr_531581 (by decide +kernel) (by decide +kernel) (by decide +kernel) (by decide +kernel) 51 (by decide +kernel) (by decide +kernel) (by decide +kernel) (by decide +kernel) (by decide +kernel) (by decide +kernel) (by decide +kernel) (by decide +kernel)
theorem pr_4434155615661930479:Pr 4434155615661930479 :=
 pock1 (r:=3526) (b:=415787812636281767) pr_1257559732178653 (by decide +kernel) (by decide +kernel) 62 (by decide +kernel) (by decide +kernel) (by decide +kernel) (by decide +kernel) (by decide +kernel)
theorem pr_172054593956031949258510691:Pr 172054593956031949258510691 :=
 pock1 (r:=38802110) (b:=81982237619807054769897707) pr_4434155615661930479 (by decide +kernel) (by decide +kernel) 88 (by decide +kernel) (by decide +kernel) (by decide +kernel) (by decide +kernel) (by decide +kernel)
theorem pr_19757330305831588566944191468367130476339:Pr 19757330305831588566944191468367130476339 :=
 pock1 (r:=114831751082918) (b:=9148758478138211201771971577098600188172) pr_172054593956031949258510691 (by decide +kernel) (by decide +kernel) 134 (by decide +kernel) (by decide +kernel) (by decide +kernel) (by decide +kernel) (by decide +kernel)
theorem pr_276602624281642239937218680557139826668747:Pr 276602624281642239937218680557139826668747 :=
 pock1 (r:=14) (b:=16384) pr_19757330305831588566944191468367130476339 (by decide +kernel) (by decide +kernel) 138 (by decide +kernel) (by decide +kernel) (by decide +kernel) (by decide +kernel) (by decide +kernel)
theorem pr_7237005577332262213973186563042994240857116359379907606001950938285454250989:Pr 7237005577332262213973186563042994240857116359379907606001950938285454250989 :=
 pock1 (r:=26163907866482859529727157400808004) (b:=2975531125133123119648879457563281269120703404158613135195788908093573672641) pr_276602624281642239937218680557139826668747 (by decide +kernel) (by decide +kernel) 253 (by decide +kernel) (by decide +kernel) (by decide +kernel) (by decide +kernel) (by decide +kernel)
end Sx

namespace Sx
section
variable {n:Nat} [NeZero n]
theorem npos:0<n:=Nat.pos_of_ne_zero (NeZero.ne n)
def zi (n:Nat) [NeZero n] (x:Int):Fin n:=⟨(x % n).toNat,by
 have h:=npos (n:=n)
 have h1:=Int.emod_lt_of_pos x (show (0:Int)<n by omega)
 have h2:=Int.emod_nonneg x (show (n:Int)≠0 by omega)
 omega⟩
theorem zi_val (x:Int):((zi n x).val:Int)=x % n:=by
 have h:=npos (n:=n)
 have h2:=Int.emod_nonneg x (show (n:Int)≠0 by omega)
 simp only [zi]
 omega
omit [NeZero n] in
theorem fin_ext_int {a b:Fin n} (h:(a.val:Int)=b.val):a=b:=Fin.ext (by omega)
theorem zi_eq {x y:Int}:zi n x=zi n y↔x % n=y % n :=
 ⟨fun h=>by rw [← zi_val,← zi_val,h],fun h=>fin_ext_int (by rw [zi_val,zi_val,h])⟩
theorem zi_of_val (a:Fin n):zi n (a.val:Int)=a:=fin_ext_int (by rw [zi_val];exact Int.emod_eq_of_lt (by omega) (by have:=a.isLt;omega))
theorem zi_add (x y:Int):zi n (x+y)=zi n x+zi n y:=by
 apply fin_ext_int
 rw [zi_val,Fin.val_add,Int.natCast_emod,Int.natCast_add,zi_val,zi_val,← Int.add_emod]
theorem zi_mul (x y:Int):zi n (x*y)=zi n x*zi n y:=by
 apply fin_ext_int
 rw [zi_val,Fin.val_mul,Int.natCast_emod,Int.natCast_mul,zi_val,zi_val,← Int.mul_emod]
theorem zi_sub (x y:Int):zi n (x - y)=zi n x - zi n y:=by
 have h:=zi_add (n:=n) (x - y) y
 have e:x - y+y=x:=by omega
 rw [e] at h
 rw [h]
 grind
theorem zi_zero:zi n 0=0:=by
 apply fin_ext_int
 rw [zi_val]
 simp
theorem zi_nat (k:Nat):zi n (k:Int)=Fin.ofNat n k:=by
 apply fin_ext_int
 rw [zi_val]
 rfl
theorem zi_one:zi n 1=1:=zi_nat 1
theorem zi_neg (x:Int):zi n (-x)=- zi n x:=by
 have h:=zi_sub (n:=n) 0 x
 rw [zi_zero,Int.zero_sub] at h
 rw [h]
 grind
theorem zi_self:zi n (n:Int)=0:=by
 rw [← zi_zero,zi_eq]
 simp
def zp (x:Fin n):Nat→Fin n
 | 0=>1
 | k+1=>zp x k*x
theorem zp_zero (x:Fin n):zp x 0=1:=rfl
theorem zp_succ (x:Fin n) (k:Nat):zp x (k+1)=zp x k*x:=rfl
theorem zp_add (x:Fin n) (j:Nat):∀ k,zp x (j+k)=zp x j*zp x k
 | 0=>by rw [Nat.add_zero,zp_zero];grind
 | k+1=>by rw [← Nat.add_assoc,zp_succ,zp_succ,zp_add x j k];grind
theorem mul_zp (x y:Fin n):∀ k,zp (x*y) k=zp x k*zp y k
 | 0=>by rw [zp_zero,zp_zero,zp_zero];grind
 | k+1=>by rw [zp_succ,zp_succ,zp_succ,mul_zp x y k];grind
theorem zero_zp:∀ k,0<k→zp (0:Fin n) k=0
 | k+1,_=>by rw [zp_succ];grind
theorem zp_sq (x:Fin n) (k:Nat):zp x (2*k)=zp x k*zp x k:=by rw [Nat.two_mul,zp_add]
theorem zi_zp (x:Int):∀ k:Nat,zi n (x ^ k)=zp (zi n x) k
 | 0=>by rw [Int.pow_zero,zi_one];rfl
 | k+1=>by rw [Int.pow_succ,zi_mul,zi_zp x k];rfl
theorem zp_val (x:Fin n) (k:Nat):(zp x k).val=x.val ^ k % n:=by
 have h:=congrArg (fun a:Fin n=>(a.val:Int)) (zi_zp (n:=n) (x.val:Int) k)
 simp only [zi_val,zi_of_val] at h
 have:((x.val ^ k % n:Nat):Int)=((zp x k).val:Int):=by
  rw [← h]
  simp
 omega
variable (hp:Pr n)
include hp
theorem z_one_ne:(1:Fin n)≠0:=by
 intro h
 have h1:(1:Fin n).val=1 % n:=rfl
 have h2:(0:Fin n).val=0:=by simp
 rw [h,h2,Nat.mod_eq_of_lt (by have:=hp.two;omega)] at h1
 omega
theorem zdom {x y:Fin n} (h:x*y=0):x=0∨y=0:=by
 have h1:(x*y).val=x.val*y.val % n:=Fin.val_mul x y
 have h0:(0:Fin n).val=0:=by simp
 rw [h,h0] at h1
 rcases hp.dvd_mul (Nat.dvd_of_mod_eq_zero h1.symm) with h2 | h2
 ·left
  apply Fin.ext
  rw [h0]
  rcases Nat.eq_zero_or_pos x.val with h3 | h3
  ·exact h3
  ·have:=Nat.le_of_dvd h3 h2
   have:=x.isLt
   omega
 ·right
  apply Fin.ext
  rw [h0]
  rcases Nat.eq_zero_or_pos y.val with h3 | h3
  ·exact h3
  ·have:=Nat.le_of_dvd h3 h2
   have:=y.isLt
   omega
theorem zcancel {x y z:Fin n} (hx:x≠0) (h:x*y=x*z):y=z:=by
 have h1:x*(y - z)=0:=by grind
 rcases zdom hp h1 with h2 | h2
 ·exact absurd h2 hx
 ·grind
theorem zfermat {x:Fin n} (hx:x≠0):zp x (n - 1)=1:=by
 have h:¬ n ∣ x.val:=fun hd=>by
  apply hx
  apply Fin.ext
  have h0:(0:Fin n).val=0:=by simp
  rw [h0]
  rcases Nat.eq_zero_or_pos x.val with h3 | h3
  ·exact h3
  ·have:=Nat.le_of_dvd h3 hd
   have:=x.isLt
   omega
 apply Fin.ext
 rw [zp_val,fermat hp h]
 show 1=1 % n
 rw [Nat.mod_eq_of_lt (by have:=hp.two;omega)]
omit hp in
def zinv (x:Fin n):Fin n:=zp x (n - 2)
theorem mul_zinv {x:Fin n} (hx:x≠0):x*zinv x=1:=by
 have h:=zfermat hp hx
 have h2:=hp.two
 have e:n - 1=(n - 2)+1:=by omega
 rw [e,zp_succ] at h
 unfold zinv
 grind
theorem zsq_one {x:Fin n} (h:x*x=1):x=1∨x=-1:=by
 have h1:(x - 1)*(x+1)=0:=by grind
 rcases zdom hp h1 with h2 | h2
 ·left;grind
 ·right;grind
end
attribute [irreducible] zp
abbrev pN:Nat:=57896044618658097711785492504343953926634992332820282019728792003956564819949
abbrev lN:Nat:=7237005577332262213973186563042994240857116359379907606001950938285454250989
abbrev Zp:=Fin pN
abbrev Zl:=Fin lN
theorem prP:Pr pN:=pr_57896044618658097711785492504343953926634992332820282019728792003956564819949
theorem prL:Pr lN:=pr_7237005577332262213973186563042994240857116359379907606001950938285454250989
end Sx

namespace Sx
open Go
theorem p25_cast:((pN:Nat):Int)=p25:=rfl
def fe (f:Nat→Int):Zp:=zi pN (num 32 f)
def fb (x:Zp):Nat→Int:=byt (x.val:Int)
def lz (l:Nat→Int):Zp:=zi pN (lim l)
theorem zval_bounds (x:Zp):0≤(x.val:Int)∧(x.val:Int)<p25:=⟨Int.natCast_nonneg _,by have:=x.isLt;rw [← p25_cast];omega⟩
theorem num_fb (x:Zp):num 32 (fb x)=(x.val:Int):=by
 have h:=zval_bounds x
 refine num_byt 32 _ h.1 (Int.lt_trans h.2 (by decide))
theorem fe_fb (x:Zp):fe (fb x)=x:=by unfold fe;rw [num_fb,zi_of_val]
theorem fb_isBytes (x:Zp):IsBytes 32 (fb x):=byt_isBytes _ _
theorem fb_zi (n:Int):fb (zi pN n)=byt (n % p25):=by unfold fb;rw [zi_val,p25_cast]
theorem fb_inj {x y:Zp}:realEqA 32 (fb x) (fb y)=decide (x=y):=by
 rw [eqA_num (fb_isBytes x) (fb_isBytes y),num_fb,num_fb,Bool.eq_iff_iff]
 simp only [beq_iff_eq,decide_eq_true_eq]
 exact ⟨fun h=>fin_ext_int h,fun h=>by rw [h]⟩
theorem fe_byt {n:Int} (h0:0≤n) (h:n<115792089237316195423570985008687907853269984665640564039457584007913129639936):fe (byt n)=zi pN n:=by
 unfold fe
 rw [num_byt 32 n h0 (by
  have e:(256:Int) ^ 32=115792089237316195423570985008687907853269984665640564039457584007913129639936:=by decide
  rw [e];exact h)]
theorem add_z (f g:Nat→Int):byt (addN f g)=fb (fe f+fe g):=by unfold fe;rw [← zi_add,fb_zi];rfl
theorem sub_z (f g:Nat→Int):byt (subN f g)=fb (fe f - fe g):=by unfold fe;rw [← zi_sub,fb_zi];rfl
theorem mul_z (f g:Nat→Int):byt (mulN f g)=fb (fe f*fe g):=by unfold fe;rw [← zi_mul,fb_zi];rfl
theorem neg_z (f:Nat→Int):byt (subN (fun _=>0) f)=fb (- fe f):=by
 unfold fe subN
 rw [num_zero,← zi_neg,fb_zi,Int.zero_sub]
theorem add_fz:(fun f g=>byt (addN f g))=fun f g=>fb (fe f+fe g):=funext fun f=>funext fun g=>add_z f g
theorem sub_fz:(fun f g=>byt (subN f g))=fun f g=>fb (fe f - fe g):=funext fun f=>funext fun g=>sub_z f g
theorem mul_fz:(fun f g=>byt (mulN f g))=fun f g=>fb (fe f*fe g):=funext fun f=>funext fun g=>mul_z f g
theorem neg_fz:(fun f=>byt (subN (fun _=>0) f))=fun f=>fb (- fe f):=funext neg_z
theorem sq_fz:(fun f=>byt (mulN f f))=fun f=>fb (fe f*fe f):=funext fun f=>mul_z f f
theorem lz_load {f:Nat→Int} (hf:IsBytes 32 f):lz (loadF f)=fe f∧Tidy (loadF f):=by
 obtain ⟨h1,h2⟩:=load_spec hf
 exact ⟨zi_eq.2 (by rw [p25_cast];exact h1),h2⟩
theorem lz_times {l m:Nat→Int} (hl:Tidy l) (hm:Tidy m):lz (timesF l m)=lz l*lz m∧Tidy (timesF l m):=by
 obtain ⟨h1,h2⟩:=times_spec hl hm
 exact ⟨by unfold lz;rw [← zi_mul];exact zi_eq.2 (by rw [p25_cast];exact h1),h2⟩
theorem lz_sub {l m:Nat→Int} (hl:Tidy l) (hm:Tidy m):lz (settleF (subP l m))=lz l - lz m∧Tidy (settleF (subP l m)):=by
 obtain ⟨h1,h2⟩:=subP_spec hl hm
 obtain ⟨h3,h4⟩:=settle_spec h1
 refine ⟨?_,h4⟩
 unfold lz
 rw [← zi_sub]
 refine zi_eq.2 ?_
 rw [p25_cast,h3,h2,Int.add_mul_emod_self_right]
theorem bytes_lz {l:Nat→Int} (h:LFit l):∀ i,i<32→bytesF l i=fb (lz l) i:=fun i hi=>by
 rw [bytes_spec h i hi,lz,fb_zi]
def oneL:Nat→Int:=upd (fun _=>0) 0 1
theorem tidy_const {c:Int} (h:0≤c∧c<2251799813685248):Tidy (upd (fun _=>0) 0 c):=by
 refine ⟨⟨h.1,?_⟩,fun i hi _=>?_⟩
 ·show c<_
  omega
 ·have e:upd (fun _=>(0:Int)) 0 c i=0:=if_neg (by omega)
  rw [e]
  omega
theorem lz_one:lz oneL=1∧Tidy oneL:=by
 refine ⟨?_,tidy_const (by decide)⟩
 unfold lz
 have:lim oneL=1:=by decide
 rw [this,zi_one]
theorem lz_zero:lz (fun _=>0)=0∧Tidy (fun _=>0):=by
 refine ⟨?_,⟨⟨Int.le_refl _,by show (0:Int)<_;decide⟩,fun _ _ _=>⟨Int.le_refl _,by show (0:Int)<_;decide⟩⟩⟩
 unfold lz
 have:lim (fun _=>0)=0:=by decide
 rw [this,zi_zero]
def bitB (e:Nat→Int) (i:Nat):Bool:=decide (e (i / 8) / 2 ^ (i % 8) % 2=1)
theorem num_div:∀ (k n:Nat) (f:Nat→Int),k≤n→IsBytes n f→num n f / 256 ^ k=num (n - k) (fun i=>f (k+i)):=by
 intro k n f hk hf
 have e:n=k+(n - k):=by omega
 have hb:=num_bounds k f (fun i hi=>hf i (by omega))
 conv=>lhs;rw [e,num_split k (n - k)]
 rw [Int.add_mul_ediv_left _ _ (Int.ne_of_gt (Int.pow_pos (by decide))),Int.ediv_eq_zero_of_lt hb.1 hb.2,Int.zero_add]
theorem bitB_num {e:Nat→Int} (he:IsBytes 32 e) {i:Nat} (hi:i<256):bitB e i=decide (num 32 e / 2 ^ i % 2=1):=by
 have h1:(2:Int) ^ i=256 ^ (i / 8)*2 ^ (i % 8):=by
  have e1:(256:Int)=2 ^ 8:=by decide
  rw [e1,← Int.pow_mul,← Int.pow_add]
  congr 1
  omega
 have hp:(0:Int)<256 ^ (i / 8):=Int.pow_pos (by decide)
 unfold bitB
 rw [Bool.eq_iff_iff]
 simp only [decide_eq_true_eq]
 rw [h1,← Int.ediv_ediv_of_nonneg (by omega),num_div (i / 8) 32 e (by omega) he]
 have e2:32 - i / 8=(31 - i / 8)+1:=by omega
 rw [e2]
 simp only [num,Nat.add_zero]
 have hk:i % 8<8:=Nat.mod_lt _ (by decide)
 generalize i % 8=k at hk
 generalize num (31 - i / 8) (fun j=>e (i / 8+(j+1)))=T
 generalize e (i / 8)=b
 match k,hk with
 | 0,_=>simp only [Int.pow_zero,Int.ediv_one];omega
 | 1,_=>simp only [Int.reducePow];omega
 | 2,_=>simp only [Int.reducePow];omega
 | 3,_=>simp only [Int.reducePow];omega
 | 4,_=>simp only [Int.reducePow];omega
 | 5,_=>simp only [Int.reducePow];omega
 | 6,_=>simp only [Int.reducePow];omega
 | 7,_=>simp only [Int.reducePow];omega
theorem num_bit {e:Nat→Int} (he:IsBytes 32 e) {i:Nat} (hi:i<256):(num 32 e / 2 ^ i).toNat=2*(num 32 e / 2 ^ (i+1)).toNat+(if bitB e i=true then 1 else 0):=by
 have hb:=num_bounds 32 e he
 have hp:(0:Int)<2 ^ i:=Int.pow_pos (by decide)
 have h0:0≤num 32 e / 2 ^ i:=Int.ediv_nonneg hb.1 (by omega)
 rw [bitB_num he hi,Int.pow_succ,← Int.ediv_ediv_of_nonneg (by omega)]
 generalize num 32 e / 2 ^ i=x at h0
 by_cases h:x % 2=1
 ·rw [if_pos (decide_eq_true h)];omega
 ·rw [if_neg (by simp [h])];omega
theorem num_top {e:Nat→Int} (he:IsBytes 32 e):num 32 e / 2 ^ 256=0:=by
 have hb:=num_bounds 32 e he
 exact Int.ediv_eq_zero_of_lt hb.1 (Int.lt_of_lt_of_le hb.2 (by decide))
def pwL (l e:Nat→Int):Nat→Nat→Int
 | 0=>oneL
 | k+1=>if bitB e (255 - k)=true then timesF (timesF (pwL l e k) (pwL l e k)) l else timesF (pwL l e k) (pwL l e k)
theorem pwL_spec {l e:Nat→Int} (hl:Tidy l) (he:IsBytes 32 e):∀ k,k≤256→lz (pwL l e k)=zp (lz l) (num 32 e / 2 ^ (256 - k)).toNat∧Tidy (pwL l e k)
 | 0,_=>by
  refine ⟨?_,lz_one.2⟩
  show lz oneL=_
  rw [lz_one.1,num_top he,Int.toNat_zero,zp_zero]
 | k+1,hk=>by
  obtain ⟨h1,h2⟩:=pwL_spec hl he k (by omega)
  obtain ⟨h3,h4⟩:=lz_times h2 h2
  obtain ⟨h5,h6⟩:=lz_times h4 hl
  have e1:256 - (k+1)=255 - k:=by omega
  have e2:256 - k=255 - k+1:=by omega
  have hb:=num_bit he (i:=255 - k) (by omega)
  rw [e2] at h1
  rw [e1,hb]
  simp only [pwL]
  split
  ·rename_i hbit
   refine ⟨?_,h6⟩
   rw [h5,h3,h1,← zp_sq,← zp_succ]
  ·refine ⟨?_,h4⟩
   rw [h3,h1,← zp_sq]
   rfl
def powL (l e:Nat→Int):Nat→Int:=pwL l e 256
theorem lz_pow {l e:Nat→Int} (hl:Tidy l) (he:IsBytes 32 e):lz (powL l e)=zp (lz l) (num 32 e).toNat∧Tidy (powL l e):=by
 have h:=pwL_spec hl he 256 (by decide)
 rw [Nat.sub_self,Int.pow_zero,Int.ediv_one] at h
 exact h
end Sx

namespace Sx
open Go
def powC (P:(Nat→Int)→(Nat→Int)→Nat→Int):Contract:=fun vs=>match vs with
 | [.arr .u64 5 l,.arr .u8 32 e]=>some ([],.arr .u64 5 (P l e))
 | _=>none
def sqrtC (R:(Nat→Int)→(Nat→Int)→Nat→Int) (S:(Nat→Int)→(Nat→Int)→Bool):Contract:=fun vs=>match vs with
 | [.arr .u8 32 f,.arr .u8 32 g]=>some ([],.tup [.arr .u8 32 (R f g),.bool (.sym (S f g))])
 | _=>none
theorem bitB_congr {e e':Nat→Int} (h:∀ i,i<32→e i=e' i) {i:Nat} (hi:i<256):bitB e i=bitB e' i:=by
 unfold bitB
 rw [h (i / 8) (by omega)]
theorem pwL_congr {l e e':Nat→Int} (h:∀ i,i<32→e i=e' i):∀ k,k≤256→pwL l e k=pwL l e' k
 | 0,_=>rfl
 | k+1,hk=>by simp only [pwL];rw [pwL_congr h k (by omega),bitB_congr h (i:=255 - k) (by omega)]
theorem powL_congr {l e e':Nat→Int} (h:∀ i,i<32→e i=e' i):powL l e=powL l e':=pwL_congr h 256 (Nat.le_refl _)
theorem bit_asked {e:Nat→Int} (he:IsBytes 32 e) {i:Nat} (hi:i<256):realCmp .eql (realBin .and .u8 (realBin .shr .u8 (e (i / 8)) ((i % 8:Nat):Int)) 1) 1=bitB e i:=by
 have hb:=he (i / 8) (by omega)
 have h1:realBin .shr .u8 (e (i / 8)) ((i % 8:Nat):Int)=e (i / 8) / 2 ^ (i % 8):=shr_any .u8 _ _ (by simp [IntKind.bits];omega)
 have hp:(0:Int)<2 ^ (i % 8):=Int.pow_pos (by decide)
 have h2:0≤e (i / 8) / 2 ^ (i % 8):=Int.ediv_nonneg hb.1 (by omega)
 have h3:e (i / 8) / 2 ^ (i % 8)≤e (i / 8):=Int.ediv_le_self _ hb.1
 rw [h1,and_one_u8 ⟨h2,by omega⟩]
 unfold bitB
 rw [Bool.eq_iff_iff]
 simp [realCmp]
def eighthN:Nat:=(pN - 5) / 8
def halfN:Nat:=(pN - 1) / 2
theorem eighthN_eq:eighthN=7237005577332262213973186563042994240829374041602535252466099000494570602493:=rfl
theorem halfN_eq:halfN=28948022309329048855892746252171976963317496166410141009864396001978282409974:=rfl
def iZ:Zp:=zi pN 19681161376707505956807079304988542015446066515923890162744021073123829784752
theorem iZ_sq:iZ*iZ=-1:=by
 unfold iZ
 rw [← zi_mul,← zi_one,← zi_neg,zi_eq]
 decide +kernel
theorem zhalf_sq (x:Zp):x=0∨zp x halfN*zp x halfN=1:=by
 by_cases h:x=0
 ·exact .inl h
 ·right
  rw [← zp_sq]
  exact zfermat prP h
def legZ (x:Zp):Int:=if zp x halfN=0 then 0 else if zp x halfN=1 then 1 else -1
theorem zhalf_cases (x:Zp):(x=0∧zp x halfN=0)∨(x≠0∧zp x halfN=1)∨(x≠0∧zp x halfN=-1):=by
 by_cases h:x=0
 ·subst h
  exact .inl ⟨rfl,zero_zp _ (by decide)⟩
 ·right
  rcases zhalf_sq x with h1 | h1
  ·exact absurd h1 h
  ·rcases zsq_one prP h1 with h2 | h2
   ·exact .inl ⟨h,h2⟩
   ·exact .inr ⟨h,h2⟩
theorem z_neg_one_ne:(-1:Zp)≠0∧(-1:Zp)≠1:=by
 constructor
 ·decide +kernel
 ·decide +kernel
theorem legZ_zero {x:Zp}:legZ x=0↔x=0:=by
 unfold legZ
 rcases zhalf_cases x with ⟨h1,h2⟩ | ⟨h1,h2⟩ | ⟨h1,h2⟩
 ·rw [if_pos h2];simp [h1]
 ·rw [if_neg (by rw [h2];exact z_one_ne prP),if_pos h2];simp [h1]
 ·rw [if_neg (by rw [h2];exact z_neg_one_ne.1),if_neg (by rw [h2];exact z_neg_one_ne.2)];simp [h1]
theorem legZ_one {x:Zp}:legZ x=1↔zp x halfN=1:=by
 unfold legZ
 rcases zhalf_cases x with ⟨h1,h2⟩ | ⟨h1,h2⟩ | ⟨h1,h2⟩
 ·rw [if_pos h2,h2];simp [Ne.symm (z_one_ne prP)]
 ·rw [if_neg (by rw [h2];exact z_one_ne prP),if_pos h2];simp [h2]
 ·rw [if_neg (by rw [h2];exact z_neg_one_ne.1),if_neg (by rw [h2];exact z_neg_one_ne.2),h2];simp [z_neg_one_ne.2]
theorem legZ_neg {x:Zp}:legZ x=-1↔zp x halfN=-1:=by
 unfold legZ
 rcases zhalf_cases x with ⟨h1,h2⟩ | ⟨h1,h2⟩ | ⟨h1,h2⟩
 ·rw [if_pos h2,h2];simp [Ne.symm z_neg_one_ne.1]
 ·rw [if_neg (by rw [h2];exact z_one_ne prP),if_pos h2,h2];simp [Ne.symm z_neg_one_ne.2]
 ·rw [if_neg (by rw [h2];exact z_neg_one_ne.1),if_neg (by rw [h2];exact z_neg_one_ne.2),h2];simp
theorem legZ_cases (x:Zp):(x=0∧legZ x=0)∨(x≠0∧zp x halfN=1∧legZ x=1)∨(x≠0∧zp x halfN=-1∧legZ x=-1):=by
 rcases zhalf_cases x with ⟨h1,h2⟩ | ⟨h1,h2⟩ | ⟨h1,h2⟩
 ·exact .inl ⟨h1,legZ_zero.2 h1⟩
 ·exact .inr (.inl ⟨h1,h2,legZ_one.2 h2⟩)
 ·exact .inr (.inr ⟨h1,h2,legZ_neg.2 h2⟩)
def evZ (x:Zp):Zp:=if x.val % 2=1 then -x else x
def sqrtZ (u v:Zp):Zp × Bool :=
 if u=0 then (0,true) else
  let r:=u*(v*v*v)*zp (u*(v*v*v*(v*v*v)*v)) eighthN
  if v*r*r=u then (evZ r,true) else
   let s:=r*iZ
   if v*s*s=u then (evZ s,true) else (0,false)
end Sx

namespace Sx
open Go Go.RowKit
def sumB (B:Int):Nat→(Nat→Int)→Int
 | 0,_=>0
 | n+1,f=>sumB B n f+B ^ n*f n
def dgt (B:Int) (N:Int):Nat→Int:=fun i=>N / B ^ i % B
def carB (B:Int) (x:Nat→Int) (c:Int) (i:Nat):Int:=(sumB B i x+c) / B ^ i
def IsDig (B:Int) (n:Nat) (f:Nat→Int):Prop:=∀ i,i<n→0≤f i∧f i<B
theorem sumB_add {B:Int} (f g:Nat→Int):∀ n,sumB B n (fun i=>f i+g i)=sumB B n f+sumB B n g
 | 0=>rfl
 | n+1=>by
  simp only [sumB]
  rw [sumB_add f g n,Int.mul_add];omega
theorem sumB_sub {B:Int} (f g:Nat→Int):∀ n,sumB B n (fun i=>f i - g i)=sumB B n f - sumB B n g
 | 0=>rfl
 | n+1=>by
  simp only [sumB]
  rw [sumB_sub f g n,Int.mul_sub];omega
theorem sumB_mul {B:Int} (k:Int) (f:Nat→Int):∀ n,sumB B n (fun i=>k*f i)=k*sumB B n f
 | 0=>by simp [sumB]
 | n+1=>by
  simp only [sumB]
  rw [sumB_mul k f n,Int.mul_add,Int.mul_left_comm]
theorem sumB_split {B:Int} (f:Nat→Int) (k:Nat):∀ m,sumB B (k+m) f=sumB B k f+B ^ k*sumB B m fun j=>f (k+j)
 | 0=>by simp [sumB]
 | m+1=>by
  rw [← Nat.add_assoc]
  simp only [sumB]
  rw [sumB_split f k m,Int.mul_add,Int.pow_add,Int.mul_assoc];omega
theorem num_sumB (f:Nat→Int):∀ n,num n f=sumB 256 n f
 | 0=>rfl
 | n+1=>by rw [num_last,num_sumB f n];rfl
theorem powB_pos {B:Int} (hB:0<B) (n:Nat):0<B ^ n:=Int.pow_pos hB
theorem carB_zero (B:Int) (x:Nat→Int) (c:Int):carB B x c 0=c:=by simp [carB,sumB]
theorem carB_succ {B:Int} (hB:0<B) (x:Nat→Int) (c:Int) (i:Nat):carB B x c (i+1)=(x i+carB B x c i) / B:=by
 have h:=powB_pos hB i
 unfold carB
 simp only [sumB]
 have e:sumB B i x+B ^ i*x i+c=sumB B i x+c+B ^ i*x i:=by omega
 rw [Int.pow_succ,← Int.ediv_ediv_of_nonneg (Int.le_of_lt h),e,Int.add_mul_ediv_left _ _ (by omega),Int.add_comm]
theorem dgt_low {B:Int} (hB:0<B) (N k:Int) {i n:Nat} (h:i<n):dgt B (N+B ^ n*k) i=dgt B N i:=by
 have hp:=powB_pos hB i
 obtain ⟨m,rfl⟩:∃ m,n=i+1+m:=⟨n - (i+1),by omega⟩
 unfold dgt
 have e:B ^ (i+1+m)*k=B ^ i*(B*(B ^ m*k)):=by
  rw [Int.pow_add,Int.pow_succ,Int.mul_assoc,Int.mul_assoc]
 rw [e,Int.add_mul_ediv_left _ _ (by omega),Int.add_mul_emod_self_left]
theorem dgt_car {B:Int} (hB:0<B) (x:Nat→Int) (c:Int) {i n:Nat} (h:i<n):dgt B (sumB B n x+c) i=(x i+carB B x c i) % B:=by
 obtain ⟨m,rfl⟩:∃ m,n=(i+1)+m:=⟨n - (i+1),by omega⟩
 rw [sumB_split]
 have e:sumB B (i+1) x+B ^ (i+1)*sumB B m (fun j=>x (i+1+j))+c=sumB B i x+c+B ^ i*x i+B ^ (i+1)*sumB B m (fun j=>x (i+1+j)):=by
  simp only [sumB];omega
 have hp:=powB_pos hB i
 rw [e,dgt_low hB _ _ (by omega)]
 unfold dgt carB
 rw [Int.add_mul_ediv_left _ _ (by omega),Int.add_comm]
theorem sumB_range {B:Int} (hB:0<B) {f:Nat→Int}:∀ {n:Nat},IsDig B n f→0≤sumB B n f∧sumB B n f<B ^ n
 | 0,_=>by simp [sumB]
 | n+1,h=>by
  obtain ⟨h1,h2⟩:=sumB_range hB (n:=n) fun i hi=>h i (by omega)
  obtain ⟨h3,h4⟩:=h n (by omega)
  have hp:=powB_pos hB n
  have h5:0≤B ^ n*f n:=Int.mul_nonneg (Int.le_of_lt hp) h3
  have h6:B ^ n*f n≤B ^ n*(B - 1):=Int.mul_le_mul_of_nonneg_left (by omega) (Int.le_of_lt hp)
  simp only [sumB]
  rw [Int.pow_succ]
  rw [Int.mul_sub,Int.mul_one] at h6
  exact ⟨by omega,by omega⟩
theorem dgt_isDig {B:Int} (hB:0<B) (N:Int) (n:Nat):IsDig B n (dgt B N):=fun _ _=>⟨Int.emod_nonneg _ (by omega),Int.emod_lt_of_pos _ hB⟩
theorem carB_dig {B:Int} (hB:0<B) {f:Nat→Int} {n:Nat} (h:IsDig B n f):carB B f 0 n=0:=by
 obtain ⟨h1,h2⟩:=sumB_range hB h
 unfold carB
 rw [Int.add_zero]
 exact Int.ediv_eq_zero_of_lt h1 h2
theorem dgt_sumB {B:Int} (hB:0<B) {f:Nat→Int} {n:Nat} (h:IsDig B n f) {i:Nat} (hi:i<n):dgt B (sumB B n f) i=f i:=by
 have:=dgt_car hB f 0 hi
 rw [Int.add_zero,carB_dig hB (fun j hj=>h j (by omega)),Int.add_zero] at this
 rw [this]
 exact Int.emod_eq_of_lt (h i hi).1 (h i hi).2
theorem sumB_dgt {B:Int} (hB:0<B) (N:Int):∀ n,sumB B n (dgt B N)=N % B ^ n
 | 0=>by simp [sumB,Int.emod_one]
 | n+1=>by
  simp only [sumB]
  rw [sumB_dgt hB N n]
  unfold dgt
  have hp:=powB_pos hB n
  rw [Int.pow_succ]
  have h1:=Int.emod_add_mul_ediv N (B ^ n)
  have h2:=Int.emod_add_mul_ediv (N / B ^ n) B
  have h3:=Int.emod_add_mul_ediv N (B ^ n*B)
  have h4:N / (B ^ n*B)=N / B ^ n / B:=(Int.ediv_ediv_of_nonneg (Int.le_of_lt hp)).symm
  rw [h4,Int.mul_assoc] at h3
  have h5:B ^ n*(N / B ^ n % B)+B ^ n*(B*(N / B ^ n / B))=B ^ n*(N / B ^ n):=by rw [← Int.mul_add,h2]
  omega
theorem sumB_dgt_lt {B:Int} (hB:0<B) {N:Int} {n:Nat} (h0:0≤N) (h1:N<B ^ n):sumB B n (dgt B N)=N:=by
 rw [sumB_dgt hB,Int.emod_eq_of_lt h0 h1]
end Sx

namespace Sx
open Go Go.RowKit
abbrev q64:Int:=18446744073709551616
abbrev lI:Int:=7237005577332262213973186563042994240857116359379907606001950938285454250989
def W5 (a:Nat→Int):Int:=sumB q64 5 a
def plusW (a b:Nat→Int):Nat→Int:=dgt q64 (W5 a+W5 b)
def minusW (a b:Nat→Int):Nat→Int:=dgt q64 (W5 a - W5 b)
def ltW (a b:Nat→Int):Bool:=decide (W5 a<W5 b)
def shiftW (a:Nat→Int) (n:Int):Nat→Int:=dgt q64 (16*W5 a+n)
def foldW (a:Nat→Int):Nat→Int:=dgt q64 (W5 a % lI)
def Is5 (a:Nat→Int):Prop:=IsDig q64 5 a
theorem q64_pos:0<q64:=by decide
theorem is5_dgt (N:Int):Is5 (dgt q64 N):=dgt_isDig q64_pos N 5
theorem W5_range {a:Nat→Int} (h:Is5 a):0≤W5 a∧W5 a<2135987035920910082395021706169552114602704522356652769947041607822219725780640550022962086936576:=sumB_range q64_pos h
theorem W5_dgt {N:Int} (h0:0≤N) (h1:N<2135987035920910082395021706169552114602704522356652769947041607822219725780640550022962086936576):W5 (dgt q64 N)=N:=sumB_dgt_lt q64_pos h0 h1
section
variable {a b:Nat→Int} (ha:Is5 a) (hb:Is5 b)
theorem adc_step {x y c:Int} (hx:0≤x∧x<q64) (hy:0≤y∧y<q64) (hc:0≤c∧c≤1):adcC x y c=(x+y+c) / q64∧(0≤adcC x y c∧adcC x y c≤1):=by
 simp only [q64] at *
 unfold adcC
 split <;> omega
theorem sbb_step {x y c:Int} (hx:0≤x∧x<q64) (hy:0≤y∧y<q64) (hc:0≤c∧c≤1):sbbC x y c=- ((x - y - c) / q64)∧(0≤sbbC x y c∧sbbC x y c≤1):=by
 simp only [q64] at *
 unfold sbbC
 split <;> omega
include ha hb in
theorem plus_cars:∀ i,i≤5→0≤carB q64 (fun i=>a i+b i) 0 i∧carB q64 (fun i=>a i+b i) 0 i≤1∧(i<5→adcC (a i) (b i) (carB q64 (fun i=>a i+b i) 0 i)=carB q64 (fun i=>a i+b i) 0 (i+1)):=by
 have step:∀ i,i<5→0≤carB q64 (fun i=>a i+b i) 0 i∧carB q64 (fun i=>a i+b i) 0 i≤1→adcC (a i) (b i) (carB q64 (fun i=>a i+b i) 0 i)=carB q64 (fun i=>a i+b i) 0 (i+1)∧(0≤carB q64 (fun i=>a i+b i) 0 (i+1)∧carB q64 (fun i=>a i+b i) 0 (i+1)≤1):=by
  intro i hi hc
  obtain ⟨h1,h2⟩:=adc_step (ha i hi) (hb i hi) hc
  rw [carB_succ q64_pos,← h1]
  exact ⟨rfl,h2⟩
 intro i
 induction i with
 | zero =>
  intro _
  have h0:0≤carB q64 (fun i=>a i+b i) 0 0∧carB q64 (fun i=>a i+b i) 0 0≤1:=by rw [carB_zero];decide
  exact ⟨h0.1,h0.2,fun hi=>(step 0 hi h0).1⟩
 | succ i ih =>
  intro hi
  obtain ⟨h1,h2,_⟩:=ih (by omega)
  have h3:=(step i (by omega) ⟨h1,h2⟩).2
  exact ⟨h3.1,h3.2,fun hj=>(step (i+1) hj h3).1⟩
theorem plus_eqs:∀ i,i<5→plusW a b i=adcS (a i) (b i) (carB q64 (fun i=>a i+b i) 0 i):=by
 intro i hi
 have h:=dgt_car q64_pos (fun i=>a i+b i) 0 hi
 rw [Int.add_zero,sumB_add] at h
 exact h
include ha hb in
theorem plus_each:(adcS (a 0) (b 0) 0=plusW a b 0∧adcS (a 1) (b 1) (adcC (a 0) (b 0) 0)=plusW a b 1∧adcS (a 2) (b 2) (adcC (a 1) (b 1) (adcC (a 0) (b 0) 0))=plusW a b 2∧adcS (a 3) (b 3) (adcC (a 2) (b 2) (adcC (a 1) (b 1) (adcC (a 0) (b 0) 0)))=plusW a b 3∧adcS (a 4) (b 4) (adcC (a 3) (b 3) (adcC (a 2) (b 2) (adcC (a 1) (b 1) (adcC (a 0) (b 0) 0))))=plusW a b 4):=by
 have hc:=plus_cars ha hb
 have c0:carB q64 (fun i=>a i+b i) 0 0=0:=carB_zero ..
 have c1:=(hc 0 (by decide)).2.2 (by decide)
 rw [c0] at c1
 have c2:=(hc 1 (by decide)).2.2 (by decide)
 have c3:=(hc 2 (by decide)).2.2 (by decide)
 have c4:=(hc 3 (by decide)).2.2 (by decide)
 have e:=plus_eqs (a:=a) (b:=b)
 refine ⟨?_,?_,?_,?_,?_⟩
 ·rw [e 0 (by decide),c0]
 ·rw [e 1 (by decide),c1]
 ·rw [e 2 (by decide),c1,c2]
 ·rw [e 3 (by decide),c1,c2,c3]
 ·rw [e 4 (by decide),c1,c2,c3,c4]
include ha hb in
theorem minus_cars:∀ i,i≤5→0≤- carB q64 (fun i=>a i - b i) 0 i∧- carB q64 (fun i=>a i - b i) 0 i≤1∧(i<5→sbbC (a i) (b i) (- carB q64 (fun i=>a i - b i) 0 i)=- carB q64 (fun i=>a i - b i) 0 (i+1)):=by
 have step:∀ i,i<5→0≤- carB q64 (fun i=>a i - b i) 0 i∧- carB q64 (fun i=>a i - b i) 0 i≤1→sbbC (a i) (b i) (- carB q64 (fun i=>a i - b i) 0 i)=- carB q64 (fun i=>a i - b i) 0 (i+1)∧(0≤- carB q64 (fun i=>a i - b i) 0 (i+1)∧- carB q64 (fun i=>a i - b i) 0 (i+1)≤1):=by
  intro i hi hc
  obtain ⟨h1,h2⟩:=sbb_step (ha i hi) (hb i hi) hc
  have e:a i - b i - - carB q64 (fun i=>a i - b i) 0 i=a i - b i+carB q64 (fun i=>a i - b i) 0 i:=by omega
  rw [carB_succ q64_pos]
  rw [e] at h1
  rw [← h1]
  exact ⟨rfl,h2⟩
 intro i
 induction i with
 | zero =>
  intro _
  have h0:0≤- carB q64 (fun i=>a i - b i) 0 0∧- carB q64 (fun i=>a i - b i) 0 0≤1:=by rw [carB_zero];decide
  exact ⟨h0.1,h0.2,fun hi=>(step 0 hi h0).1⟩
 | succ i ih =>
  intro hi
  obtain ⟨h1,h2,_⟩:=ih (by omega)
  have h3:=(step i (by omega) ⟨h1,h2⟩).2
  exact ⟨h3.1,h3.2,fun hj=>(step (i+1) hj h3).1⟩
theorem minus_eqs:∀ i,i<5→minusW a b i=sbbS (a i) (b i) (- carB q64 (fun i=>a i - b i) 0 i):=by
 intro i hi
 have h:=dgt_car q64_pos (fun i=>a i - b i) 0 hi
 rw [Int.add_zero,sumB_sub] at h
 have e:a i - b i - - carB q64 (fun i=>a i - b i) 0 i=a i - b i+carB q64 (fun i=>a i - b i) 0 i:=by omega
 unfold sbbS
 rw [e]
 exact h
include ha hb in
theorem minus_each:(sbbS (a 0) (b 0) 0=minusW a b 0∧sbbS (a 1) (b 1) (sbbC (a 0) (b 0) 0)=minusW a b 1∧sbbS (a 2) (b 2) (sbbC (a 1) (b 1) (sbbC (a 0) (b 0) 0))=minusW a b 2∧sbbS (a 3) (b 3) (sbbC (a 2) (b 2) (sbbC (a 1) (b 1) (sbbC (a 0) (b 0) 0)))=minusW a b 3∧sbbS (a 4) (b 4) (sbbC (a 3) (b 3) (sbbC (a 2) (b 2) (sbbC (a 1) (b 1) (sbbC (a 0) (b 0) 0))))=minusW a b 4) ∧
  realCmp .neq (sbbC (a 4) (b 4) (sbbC (a 3) (b 3) (sbbC (a 2) (b 2) (sbbC (a 1) (b 1) (sbbC (a 0) (b 0) 0))))) 0=ltW a b:=by
 have hc:=minus_cars ha hb
 have c0:- carB q64 (fun i=>a i - b i) 0 0=0:=by rw [carB_zero];rfl
 have c1:=(hc 0 (by decide)).2.2 (by decide)
 rw [c0] at c1
 have c2:=(hc 1 (by decide)).2.2 (by decide)
 have c3:=(hc 2 (by decide)).2.2 (by decide)
 have c4:=(hc 3 (by decide)).2.2 (by decide)
 have c5:=(hc 4 (by decide)).2.2 (by decide)
 have e:=minus_eqs (a:=a) (b:=b)
 refine ⟨⟨?_,?_,?_,?_,?_⟩,?_⟩
 ·rw [e 0 (by decide),c0]
 ·rw [e 1 (by decide),c1]
 ·rw [e 2 (by decide),c1,c2]
 ·rw [e 3 (by decide),c1,c2,c3]
 ·rw [e 4 (by decide),c1,c2,c3,c4]
 ·rw [c1,c2,c3,c4,c5]
  have ra:=W5_range ha
  have rb:=W5_range hb
  have e5:carB q64 (fun i=>a i - b i) 0 5=(W5 a - W5 b) / 2135987035920910082395021706169552114602704522356652769947041607822219725780640550022962086936576:=by
   unfold carB
   rw [sumB_sub,Int.add_zero]
   rfl
  show (- carB q64 (fun i=>a i - b i) 0 (4+1) != 0)=decide (W5 a<W5 b)
  rw [show (4+1)=5 from rfl,e5,Bool.eq_iff_iff,bne_iff_ne,decide_eq_true_iff]
  omega
theorem shift_or {x c:Int} (_hx:0≤x∧x<q64) (hc:0≤c∧c<16):realBin .or .u64 (realBin .shl .u64 x 4) c=(16*x+c) % q64:=by
 have e:realBin .shl .u64 x 4=(x*16) % q64:=shl_u64 x 4 (by decide)
 simp only [q64] at *
 rw [e,or_apart (k:=.u64) rfl (x:=x*16 % 18446744073709551616) (y:=c) 4 ⟨by omega,by show _<(18446744073709551616:Int);omega⟩ (by show x*16 % 18446744073709551616 % 16=0;omega) ⟨hc.1,by show c<16;omega⟩ (by decide)]
 omega
theorem shift_high {x c:Int} (hx:0≤x∧x<q64) (hc:0≤c∧c<16):realBin .shr .u64 x 60=(16*x+c) / q64∧(0≤realBin .shr .u64 x 60∧realBin .shr .u64 x 60<16):=by
 have e:realBin .shr .u64 x 60=x / 1152921504606846976:=shr_any .u64 x 60 (by decide)
 simp only [q64] at *
 rw [e]
 omega
include ha in
theorem shift_each {n:Int} (hn:0≤n∧n<16):(realBin .or .u64 (realBin .shl .u64 (a 0) 4) n=shiftW a n 0∧realBin .or .u64 (realBin .shl .u64 (a 1) 4) (realBin .shr .u64 (a 0) 60)=shiftW a n 1∧realBin .or .u64 (realBin .shl .u64 (a 2) 4) (realBin .shr .u64 (a 1) 60)=shiftW a n 2∧realBin .or .u64 (realBin .shl .u64 (a 3) 4) (realBin .shr .u64 (a 2) 60)=shiftW a n 3∧realBin .or .u64 (realBin .shl .u64 (a 4) 4) (realBin .shr .u64 (a 3) 60)=shiftW a n 4):=by
 have e:∀ i,i<5→shiftW a n i=(16*a i+carB q64 (fun i=>16*a i) n i) % q64:=by
  intro i hi
  have h:=dgt_car q64_pos (fun i=>16*a i) n hi
  rw [sumB_mul] at h
  exact h
 have c0:carB q64 (fun i=>16*a i) n 0=n:=carB_zero ..
 have s0:=shift_high (ha 0 (by decide)) hn
 have c1:carB q64 (fun i=>16*a i) n 1=realBin .shr .u64 (a 0) 60:=by rw [carB_succ q64_pos,c0,s0.1]
 have s1:=shift_high (ha 1 (by decide)) s0.2
 have c2:carB q64 (fun i=>16*a i) n 2=realBin .shr .u64 (a 1) 60:=by rw [carB_succ q64_pos,c1,s1.1]
 have s2:=shift_high (ha 2 (by decide)) s1.2
 have c3:carB q64 (fun i=>16*a i) n 3=realBin .shr .u64 (a 2) 60:=by rw [carB_succ q64_pos,c2,s2.1]
 have s3:=shift_high (ha 3 (by decide)) s2.2
 have c4:carB q64 (fun i=>16*a i) n 4=realBin .shr .u64 (a 3) 60:=by rw [carB_succ q64_pos,c3,s3.1]
 refine ⟨?_,?_,?_,?_,?_⟩
 ·rw [e 0 (by decide),c0];exact shift_or (ha 0 (by decide)) hn
 ·rw [e 1 (by decide),c1];exact shift_or (ha 1 (by decide)) s0.2
 ·rw [e 2 (by decide),c2];exact shift_or (ha 2 (by decide)) s1.2
 ·rw [e 3 (by decide),c3];exact shift_or (ha 3 (by decide)) s2.2
 ·rw [e 4 (by decide),c4];exact shift_or (ha 4 (by decide)) s3.2
def topW (a:Nat→Int):Int:=W5 a / 7237005577332262213973186563042994240829374041602535252466099000494570602496
include ha in
theorem fold_index (h:W5 a<16*lI):realBin .or .u64 (realBin .shr .u64 (a 3) 60) (realBin .shl .u64 (a 4) 4)=topW a∧0≤topW a∧topW a<17:=by
 have h0:=ha 0 (by decide)
 have h1:=ha 1 (by decide)
 have h2:=ha 2 (by decide)
 have h3:=ha 3 (by decide)
 have h4:=ha 4 (by decide)
 have ew:W5 a=a 0+18446744073709551616*a 1+340282366920938463463374607431768211456*a 2+6277101735386680763835789423207666416102355444464034512896*a 3+115792089237316195423570985008687907853269984665640564039457584007913129639936*a 4:=by
  show 0+1*a 0+18446744073709551616*a 1+340282366920938463463374607431768211456*a 2+6277101735386680763835789423207666416102355444464034512896*a 3+115792089237316195423570985008687907853269984665640564039457584007913129639936*a 4=_
  omega
 have e1:realBin .shr .u64 (a 3) 60=a 3 / 1152921504606846976:=shr_any .u64 (a 3) 60 (by decide)
 have e2:realBin .shl .u64 (a 4) 4=(a 4*16) % q64:=shl_u64 (a 4) 4 (by decide)
 simp only [q64,lI] at *
 have h4':a 4≤1:=by omega
 have h5:topW a=a 3 / 1152921504606846976+16*a 4:=by
  unfold topW
  rw [ew]
  omega
 have hx:a 4*16 % 18446744073709551616=16*a 4:=by omega
 rw [e1,e2,hx,or_comm',or_apart (k:=.u64) rfl (x:=16*a 4) (y:=a 3 / 1152921504606846976) 4 ⟨by omega,by show _<(18446744073709551616:Int);omega⟩ (by show 16*a 4 % 16=0;omega) ⟨by omega,by show _<(16:Int);omega⟩ (by decide),h5]
 refine ⟨by omega,by omega,?_⟩
 rw [← h5]
 unfold topW
 omega
theorem fold_parts (h0:0≤W5 a) (h:W5 a<16*lI):(topW a*lI≤W5 a→W5 a - topW a*lI=W5 a % lI)∧(W5 a<topW a*lI→W5 a - topW a*lI+lI=W5 a % lI):=by
 have h1:topW a=W5 a / 7237005577332262213973186563042994240829374041602535252466099000494570602496:=rfl
 generalize W5 a=w at *
 generalize topW a=t at *
 simp only [lI] at *
 have key:∀ k:Int,0≤w - k*7237005577332262213973186563042994240857116359379907606001950938285454250989→w - k*7237005577332262213973186563042994240857116359379907606001950938285454250989<7237005577332262213973186563042994240857116359379907606001950938285454250989→w - k*7237005577332262213973186563042994240857116359379907606001950938285454250989=w % 7237005577332262213973186563042994240857116359379907606001950938285454250989:=by
  intro k h2 h3
  omega
 refine ⟨fun h2=>key t (by omega) (by omega),fun h2=>?_⟩
 have:=key (t - 1) (by omega) (by omega)
 omega
end
end Sx

namespace Sx
open Go Go.RowKit
structure Top16 (a:Nat→Int):Prop where
 lt:W5 a<16*lI
structure Nib (n:Int):Prop where
 ok:0≤n∧n<16
def lMinusC (M:(Nat→Int)→(Nat→Int)→Nat→Int) (B:(Nat→Int)→(Nat→Int)→Bool):Contract:=fun vs=>match vs with
 | [.arr .u64 5 a,.arr .u64 5 b]=>some ([],.tup [.arr .u64 5 (M a b),.bool (.sym (B a b))])
 | _=>none
def shiftC (S:(Nat→Int)→Int→Nat→Int):Contract:=fun vs=>match vs with
 | [.arr .u64 5 a,.int .u64 n]=>some ([Nib n.val],.arr .u64 5 (S a n.val))
 | _=>none
def foldC (F:(Nat→Int)→Nat→Int):Contract:=fun vs=>match vs with
 | [.arr .u64 5 a]=>some ([Top16 a],.arr .u64 5 (F a))
 | _=>none
def redC (R:Nat→(Nat→Int)→Nat→Int):Contract:=fun vs=>match vs with
 | [.xsl .u8 1 len _ b]=>some ([],.arr .u64 5 (R len.val b))
 | _=>none
def tri32C (F:(Nat→Int)→(Nat→Int)→(Nat→Int)→Nat→Int):Contract:=fun vs=>match vs with
 | [.arr .u8 32 a,.arr .u8 32 b,.arr .u8 32 c]=>some ([],.arr .u8 32 (F a b c))
 | _=>none
def un64C (F:(Nat→Int)→Nat→Int):Contract:=fun vs=>match vs with
 | [.arr .u8 64 a]=>some ([],.arr .u8 32 (F a))
 | _=>none
theorem isX {cap:SO} {len:SO} {b:Nat→Int} (h:wfV (.xsl .u8 1 len cap b)):IsBytes len.val b:=fun i hi=>inR_u8.1 (h i (by omega))
theorem wfSt_get:∀ {S:St},wfSt S→∀ i,wfAV (get S i)
 | [],_,i=>by simp [get,wfAV]
 | x :: S,h,0=>by simpa [get] using h.1
 | x :: S,h,i+1=>by simpa [get] using wfSt_get (S:=S) h.2 i
theorem n_lt {n:Nat} (h:inR .i64 (n:Int)):n<9223372036854775808:=by
 have h1:=h.2
 have e:IntKind.max .i64=9223372036854775807:=rfl
 omega
def redW (n:Nat) (b:Nat→Int):Nat→Int:=dgt q64 (num n b % lI)
def topN (n:Nat) (b:Nat→Int) (i:Nat):Int:=num i fun j=>b (n - i+j)
theorem is5 {a:Nat→Int} (h:wfV (.arr .u64 5 a)):Is5 a:=fun i hi=>inR_u64.1 (h i hi)
theorem lI_pos:(0:Int)<lI:=by decide
theorem modl (n:Int):0≤n % lI∧n % lI<lI:=⟨Int.emod_nonneg _ (by decide),Int.emod_lt_of_pos _ lI_pos⟩
theorem W5_mod (n:Int):W5 (dgt q64 (n % lI))=n % lI:=W5_dgt (modl n).1 (Int.lt_trans (modl n).2 (by decide))
theorem W5_fold (a:Nat→Int):W5 (foldW a)=W5 a % lI:=W5_mod _
theorem W5_shift {a:Nat→Int} (h:0≤W5 a∧W5 a<lI) {n:Int} (hn:0≤n∧n<16):W5 (shiftW a n)=16*W5 a+n∧W5 (shiftW a n)<16*lI:=by
 have e:W5 (shiftW a n)=16*W5 a+n:=W5_dgt (by omega) (by simp only [lI] at *;omega)
 rw [e]
 exact ⟨rfl,by omega⟩
theorem topN_succ {n i:Nat} (b:Nat→Int) (h:i<n):topN n b (i+1)=b (n - 1 - i)+256*topN n b i:=by
 have e:n - (i+1)=n - 1 - i:=by omega
 unfold topN
 rw [e]
 show b (n - 1 - i+0)+256*num i (fun j=>b (n - 1 - i+(j+1)))=_
 congr 3
 funext j
 congr 1
 omega
theorem topN_all (n:Nat) (b:Nat→Int):topN n b n=num n b:=by
 unfold topN
 congr 1
 funext j
 congr 1
 omega
theorem red_step {n i:Nat} {b:Nat→Int} (h:i<n) {x:Int} (hx:x=b (n - 1 - i)) (hb:0≤x∧x<256) :
  foldW (shiftW (foldW (shiftW (dgt q64 (topN n b i % lI)) (x / 16))) (x % 16))=dgt q64 (topN n b (i+1) % lI):=by
 have h0:=modl (topN n b i)
 have e0:=W5_mod (topN n b i)
 have s1:=W5_shift (a:=dgt q64 (topN n b i % lI)) (by rw [e0];exact h0) (n:=x / 16) (by omega)
 have f1:=W5_fold (shiftW (dgt q64 (topN n b i % lI)) (x / 16))
 rw [s1.1,e0] at f1
 have h1:=modl (16*(topN n b i % lI)+x / 16)
 have s2:=W5_shift (a:=foldW (shiftW (dgt q64 (topN n b i % lI)) (x / 16))) (by rw [f1];exact h1) (n:=x % 16) (by omega)
 rw [f1] at s2
 unfold foldW at s2 ⊢
 rw [s2.1,topN_succ b h,← hx]
 congr 1
 simp only [lI] at *
 omega
theorem red_tops {n i:Nat} {b:Nat→Int} {x:Int} (hb:0≤x∧x<256) :
  Top16 (shiftW (dgt q64 (topN n b i % lI)) (x / 16))∧Top16 (shiftW (foldW (shiftW (dgt q64 (topN n b i % lI)) (x / 16))) (x % 16)):=by
 have h0:=modl (topN n b i)
 have e0:=W5_mod (topN n b i)
 have s1:=W5_shift (a:=dgt q64 (topN n b i % lI)) (by rw [e0];exact h0) (n:=x / 16) (by omega)
 have f1:=W5_fold (shiftW (dgt q64 (topN n b i % lI)) (x / 16))
 have s2:=W5_shift (a:=foldW (shiftW (dgt q64 (topN n b i % lI)) (x / 16))) (by rw [f1];exact modl _) (n:=x % 16) (by omega)
 exact ⟨⟨s1.2⟩,⟨s2.2⟩⟩
theorem nibs {x:Int} (h:0≤x∧x<256):realBin .shr .u8 x 4=x / 16∧realBin .and .u8 x 15=x % 16∧Nib (x / 16)∧Nib (x % 16) :=
 ⟨shr_any .u8 x 4 (by decide),and_mask (k:=.u8) rfl ⟨h.1,by show x<256;omega⟩ 4 (by decide),⟨by omega⟩,⟨by omega⟩⟩
theorem fold_take {a m:Nat→Int} (ha:Is5 a) (ht:Top16 a) (hm:W5 m=topW a*lI) (h:ltW a m=false):∀ i,i<5→minusW a m i=foldW a i:=by
 have h0:=(W5_range ha).1
 have h1:=(fold_parts h0 ht.lt).1
 intro i _
 unfold minusW foldW
 unfold ltW at h
 rw [hm] at h ⊢
 have h2:¬ (W5 a<topW a*lI):=of_decide_eq_false h
 rw [h1 (by omega)]
theorem fold_back {a m m1:Nat→Int} (ha:Is5 a) (ht:Top16 a) (hm:W5 m=topW a*lI) (hm1:W5 m1=lI) (h:ltW a m=true):∀ i,i<5→plusW (minusW a m) m1 i=foldW a i:=by
 have h0:=(W5_range ha).1
 have h1:=(fold_parts h0 ht.lt).2
 intro i hi
 unfold plusW minusW foldW
 unfold ltW at h
 rw [hm] at h ⊢
 have h2:W5 a<topW a*lI:=of_decide_eq_true h
 have h3:=h1 h2
 have h4:=modl (W5 a)
 have h5:W5 (dgt q64 (W5 a - topW a*lI))=(W5 a - topW a*lI) % q64 ^ 5:=sumB_dgt q64_pos _ 5
 have h6:(W5 a - topW a*lI) % q64 ^ 5=W5 a - topW a*lI+q64 ^ 5:=by
  have h7:(q64:Int) ^ 5=2135987035920910082395021706169552114602704522356652769947041607822219725780640550022962086936576:=rfl
  rw [h7]
  generalize W5 a - topW a*lI=d at *
  simp only [lI] at *
  omega
 rw [h5,h6,hm1]
 have h8:W5 a - topW a*lI+q64 ^ 5+lI=W5 a % lI+q64 ^ 5*1:=by rw [← h3];omega
 rw [h8,dgt_low q64_pos _ _ hi]
def bytesW (a:Nat→Int):Nat→Int:=byt (W5 a)
theorem word_byte {a:Nat→Int} (ha:Is5 a) {i:Nat} (hi:i<32):IntKind.wrap .u8 (realBin .shr .u64 (a (i / 8)) ((i % 8*8:Nat):Int))=bytesW a i:=by
 have h:=dgt_sumB q64_pos ha (i:=i / 8) (by omega)
 have hp:(0:Int)<256 ^ (i % 8):=Int.pow_pos (by decide)
 have e2:realBin .shr .u64 (a (i / 8)) ((i % 8*8:Nat):Int)=a (i / 8) / 256 ^ (i % 8):=by
  rw [shr_any .u64 _ _ (by show i % 8*8≤64;omega)]
  congr 1
  rw [Nat.mul_comm,Int.pow_mul]
  rfl
 rw [wrap_u8,e2,← h]
 unfold bytesW byt dgt
 show sumB q64 5 a / q64 ^ (i / 8) % q64 / 256 ^ (i % 8) % 256=W5 a / 256 ^ i % 256
 have e3:(q64:Int) ^ (i / 8)=256 ^ (8*(i / 8)):=by
  rw [Int.pow_mul];rfl
 have e4:(256:Int) ^ i=256 ^ (8*(i / 8))*256 ^ (i % 8):=by
  rw [← Int.pow_add];congr 1;omega
 rw [e3,e4,← Int.ediv_ediv_of_nonneg (Int.le_of_lt (Int.pow_pos (by decide)))]
 show W5 a / 256 ^ (8*(i / 8)) % q64 / 256 ^ (i % 8) % 256=_
 generalize W5 a / 256 ^ (8*(i / 8))=y
 have e5:(q64:Int)=256 ^ (i % 8)*256*256 ^ (7 - i % 8):=by
  rw [← Int.pow_succ,← Int.pow_add]
  have:i % 8+1+(7 - i % 8)=8:=by omega
  rw [this];rfl
 have h6:=Int.emod_add_mul_ediv y q64
 have e7:y / 256 ^ (i % 8)=(y % q64) / 256 ^ (i % 8)+256*(256 ^ (7 - i % 8)*(y / q64)):=by
  have:y=y % q64+256 ^ (i % 8)*(256*(256 ^ (7 - i % 8)*(y / q64))):=by
   rw [← Int.mul_assoc,← Int.mul_assoc,← e5];omega
  rw [this,Int.add_mul_ediv_left _ _ (by omega),← this]
 rw [e7,Int.add_mul_emod_self_left]
theorem pow_mono {m n:Nat} (h:m≤n):(256:Int) ^ m≤256 ^ n:=by
 obtain ⟨k,rfl⟩:∃ k,n=m+k:=⟨n - m,by omega⟩
 have h1:0<(256:Int) ^ m:=Int.pow_pos (by decide)
 have h2:0<(256:Int) ^ k:=Int.pow_pos (by decide)
 have h3:(256:Int) ^ m*1≤256 ^ m*256 ^ k:=Int.mul_le_mul_of_nonneg_left (by omega) (Int.le_of_lt h1)
 rw [Int.pow_add]
 omega
theorem num_range {n:Nat} {f:Nat→Int} (h:IsBytes n f):0≤num n f∧num n f<256 ^ n:=by
 rw [num_sumB]
 exact sumB_range (by decide) h
def numW (b:Nat→Int) (i:Nat):Nat→Int:=dgt q64 (num i b)
theorem numW_zero (b:Nat→Int) (j:Nat):numW b 0 j=0:=by
 show 0 / q64 ^ j % q64=0
 simp
theorem numW_step {b:Nat→Int} (hb:IsBytes 32 b) {i:Nat} (hi:i<32) (j:Nat) (_hj:j<5) :
  (if j=i / 8 then realBin .or .u64 (numW b i (i / 8)) (realBin .shl .u64 (b i) ((i % 8*8:Nat):Int)) else numW b i j)=numW b (i+1) j:=by
 have hbi:=hb i hi
 have hr:=num_range (n:=i) (fun k hk=>hb k (by omega))
 have hq:0<(256:Int) ^ (8*(i / 8)):=Int.pow_pos (by decide)
 have hq8:0<(256:Int) ^ (i % 8):=Int.pow_pos (by decide)
 have e4:(256:Int) ^ i=256 ^ (8*(i / 8))*256 ^ (i % 8):=by
  rw [← Int.pow_add];congr 1;omega
 have pw:∀ k:Nat,(q64:Int) ^ k=256 ^ (8*k):=fun k=>by rw [Int.pow_mul];rfl
 have hlow:256 ^ (i % 8)≤(72057594037927936:Int):=by
  have:(72057594037927936:Int)=256 ^ 7:=rfl
  rw [this]
  exact pow_mono (by omega)
 unfold numW dgt
 rw [num_last]
 by_cases h:j=i / 8
 ·rw [if_pos h,h,pw,e4]
  have e5:num i b+256 ^ (8*(i / 8))*256 ^ (i % 8)*b i=num i b+256 ^ (8*(i / 8))*(256 ^ (i % 8)*b i):=by rw [Int.mul_assoc]
  rw [e5,Int.add_mul_ediv_left _ _ (by omega)]
  have hy0:0≤num i b / 256 ^ (8*(i / 8)):=Int.ediv_nonneg hr.1 (Int.le_of_lt hq)
  have hy1:num i b / 256 ^ (8*(i / 8))<256 ^ (i % 8):=Int.ediv_lt_of_lt_mul hq (by rw [Int.mul_comm,← e4];exact hr.2)
  have hbp0:0≤256 ^ (i % 8)*b i:=Int.mul_nonneg (Int.le_of_lt hq8) hbi.1
  have hbp:256 ^ (i % 8)*b i≤256 ^ (i % 8)*255:=Int.mul_le_mul_of_nonneg_left (by omega) (Int.le_of_lt hq8)
  have es:realBin .shl .u64 (b i) ((i % 8*8:Nat):Int)=256 ^ (i % 8)*b i:=by
   rw [shl_u64 _ _ (by omega)]
   have:(2:Int) ^ (i % 8*8)=256 ^ (i % 8):=by rw [Nat.mul_comm,Int.pow_mul];rfl
   rw [this,Int.mul_comm]
   exact Int.emod_eq_of_lt hbp0 (by simp only [q64] at *;omega)
  rw [es]
  generalize num i b / 256 ^ (8*(i / 8))=y at *
  have em:y % q64=y:=Int.emod_eq_of_lt hy0 (by simp only [q64] at *;omega)
  rw [em,or_comm',or_apart (k:=.u64) rfl (x:=256 ^ (i % 8)*b i) (y:=y) (i % 8*8) ⟨hbp0,by show _<(18446744073709551616:Int);omega⟩ ?_ ⟨hy0,?_⟩ (by show i % 8*8≤64;omega)]
  ·rw [Int.add_comm]
   exact (Int.emod_eq_of_lt (by omega) (by simp only [q64] at *;omega)).symm
  ·have:(2:Int) ^ (i % 8*8)=256 ^ (i % 8):=by rw [Nat.mul_comm,Int.pow_mul];rfl
   rw [this]
   exact Int.mul_emod_right _ _
  ·have:(2:Int) ^ (i % 8*8)=256 ^ (i % 8):=by rw [Nat.mul_comm,Int.pow_mul];rfl
   rw [this]
   exact hy1
 ·rw [if_neg h,pw]
  rcases Nat.lt_or_ge j (i / 8) with hlt | hge
  ·have e6:(256:Int) ^ i*b i=256 ^ (8*j)*(q64*(256 ^ (i - 8*j - 8)*b i)):=by
    have:(256:Int) ^ i=256 ^ (8*j)*256 ^ 8*256 ^ (i - 8*j - 8):=by
     rw [← Int.pow_add,← Int.pow_add];congr 1;omega
    rw [this,Int.mul_assoc,Int.mul_assoc];rfl
   have hq2:0<(256:Int) ^ (8*j):=Int.pow_pos (by decide)
   rw [e6,Int.add_mul_ediv_left _ _ (by omega),Int.add_mul_emod_self_left]
  ·have hq2:0<(256:Int) ^ (8*j):=Int.pow_pos (by decide)
   have hle:(256:Int) ^ i*256≤256 ^ (8*j):=by
    rw [← Int.pow_succ]
    exact pow_mono (by omega)
   have hi0:0<(256:Int) ^ i:=Int.pow_pos (by decide)
   have hb1:256 ^ i*b i≤256 ^ i*255:=Int.mul_le_mul_of_nonneg_left (by omega) (Int.le_of_lt hi0)
   have hb0:0≤256 ^ i*b i:=Int.mul_nonneg (Int.le_of_lt hi0) hbi.1
   rw [Int.ediv_eq_zero_of_lt hr.1 (by omega),Int.ediv_eq_zero_of_lt (by omega) (by omega)]
end Sx

namespace Sx
open Go
theorem lI_cast:((lN:Nat):Int)=lI:=rfl
def sn (n:Nat) (f:Nat→Int):Zl:=zi lN (num n f)
def se (f:Nat→Int):Zl:=zi lN (num 32 f)
def sb (x:Zl):Nat→Int:=byt (x.val:Int)
theorem sval_bounds (x:Zl):0≤(x.val:Int)∧(x.val:Int)<lI:=⟨Int.natCast_nonneg _,by have:=x.isLt;rw [← lI_cast];omega⟩
theorem num_sb (x:Zl):num 32 (sb x)=(x.val:Int):=by
 have h:=sval_bounds x
 refine num_byt 32 _ h.1 (Int.lt_trans h.2 (by decide))
theorem se_sb (x:Zl):se (sb x)=x:=by unfold se;rw [num_sb,zi_of_val]
theorem sb_isBytes (x:Zl):IsBytes 32 (sb x):=byt_isBytes _ _
theorem sb_zi (n:Int):sb (zi lN n)=byt (n % lI):=by unfold sb;rw [zi_val,lI_cast]
theorem sb_inj {x y:Zl}:realEqA 32 (sb x) (sb y)=decide (x=y):=by
 rw [eqA_num (sb_isBytes x) (sb_isBytes y),num_sb,num_sb,Bool.eq_iff_iff]
 simp only [beq_iff_eq,decide_eq_true_eq]
 exact ⟨fun h=>fin_ext_int h,fun h=>by rw [h]⟩
theorem bytes_red (n:Nat) (f:Nat→Int):bytesW (redW n f)=sb (sn n f):=by
 unfold bytesW redW sn
 rw [W5_mod,sb_zi]
theorem W5_red (n:Nat) (f:Nat→Int):W5 (redW n f)=num n f % lI:=W5_mod _
def canS (f:Nat→Int):Bool:=decide (num 32 f<lI)
theorem can_eqS {f:Nat→Int} (hf:IsBytes 32 f):realEqA 32 (bytesW (redW 32 f)) f=canS f:=by
 have h0:=num_bounds 32 f hf
 unfold bytesW canS
 rw [W5_red,eqA_num (byt_isBytes _ _) hf,num_byt 32 _ (modl _).1 (Int.lt_trans (modl _).2 (by decide)),Bool.eq_iff_iff]
 simp only [beq_iff_eq,decide_eq_true_eq]
 have h1:=modl (num 32 f)
 exact ⟨fun h=>by omega,fun h=>Int.emod_eq_of_lt h0.1 h⟩
theorem zero_off (f:Nat→Int):(fun j:Nat=>f (0+j))=f:=funext fun j=>by rw [Nat.zero_add]
end Sx

namespace Sx
open Go
theorem se_zero:se (fun _=>0)=0:=by unfold se;rw [num_zero];exact zi_zero
end Sx

namespace Sx
open Go
def mixW (T V:Int) (j:Nat):Nat→Int:=fun k=>if k<j then dgt q64 T k else dgt q64 V k
def carW (T V:Int) (j:Nat):Int:=T / q64 ^ j - V / q64 ^ j
def rowV (x y:Nat→Int) (Z:Int) (i:Nat):Int:=Z+sumB q64 i x*sumB q64 4 y
def rowT (x y:Nat→Int) (Z:Int) (i j:Nat):Int:=rowV x y Z i+q64 ^ i*(x i*sumB q64 j y)
theorem rowT_zero (x y:Nat→Int) (Z:Int) (i:Nat):rowT x y Z i 0=rowV x y Z i:=by simp [rowT,sumB]
theorem rowT_four (x y:Nat→Int) (Z:Int) (i:Nat):rowT x y Z i 4=rowV x y Z (i+1):=by
 unfold rowT rowV
 show Z+sumB q64 i x*sumB q64 4 y+q64 ^ i*(x i*sumB q64 4 y)=Z+(sumB q64 i x+q64 ^ i*x i)*sumB q64 4 y
 rw [Int.add_mul,Int.mul_assoc];omega
theorem rowT_succ (x y:Nat→Int) (Z:Int) (i j:Nat):rowT x y Z i (j+1)=rowT x y Z i j+q64 ^ (i+j)*(x i*y j):=by
 unfold rowT
 show _+q64 ^ i*(x i*(sumB q64 j y+q64 ^ j*y j))=_
 rw [Int.mul_add,Int.mul_add,Int.pow_add]
 have:q64 ^ i*(x i*(q64 ^ j*y j))=q64 ^ i*q64 ^ j*(x i*y j):=by
  rw [Int.mul_assoc,Int.mul_left_comm (x i)]
 omega
theorem mix_sum {T V m:Int} {k:Nat}:m+dgt q64 V k+carW T V k=(T+q64 ^ k*m) / q64 ^ k - q64*(V / q64 ^ (k+1)):=by
 have p:=powB_pos q64_pos k
 unfold dgt carW
 rw [Int.add_mul_ediv_left _ _ (by omega),Int.pow_succ,← Int.ediv_ediv_of_nonneg (Int.le_of_lt p)]
 have:=Int.emod_add_mul_ediv (V / q64 ^ k) q64
 omega
theorem mix_low {T V m:Int} {k:Nat}:(m+dgt q64 V k+carW T V k) % q64=dgt q64 (T+q64 ^ k*m) k:=by
 rw [mix_sum,Int.sub_mul_emod_self_left]
 rfl
theorem mix_high {T V m:Int} {k:Nat}:(m+dgt q64 V k+carW T V k) / q64=carW (T+q64 ^ k*m) V (k+1):=by
 have p:=powB_pos q64_pos k
 have e:m+dgt q64 V k+carW T V k=(T+q64 ^ k*m) / q64 ^ k+q64*(- (V / q64 ^ (k+1))):=by rw [mix_sum,Int.mul_neg];omega
 rw [e,Int.add_mul_ediv_left _ _ (by decide)]
 have e2:∀ N:Int,N / (q64 ^ k*q64)=N / q64 ^ k / q64:=fun N=>(Int.ediv_ediv_of_nonneg (Int.le_of_lt p)).symm
 unfold carW
 rw [Int.pow_succ,e2,e2]
 omega
theorem mix_upd {T V m:Int} {k:Nat} (j:Nat):(if j=k then dgt q64 (T+q64 ^ k*m) k else mixW T V k j)=mixW (T+q64 ^ k*m) V (k+1) j:=by
 unfold mixW
 by_cases h:j=k
 ·rw [if_pos h,h,if_pos (by omega)]
 ·rw [if_neg h]
  by_cases h2:j<k
  ·rw [if_pos h2,if_pos (by omega),dgt_low q64_pos _ _ h2]
  ·rw [if_neg h2,if_neg (by omega)]
theorem mix_at {T V:Int} {k:Nat}:mixW T V k k=dgt q64 V k:=if_neg (by omega)
theorem mix_same {V:Int} {k:Nat} (j:Nat):mixW V V k j=dgt q64 V j:=by unfold mixW;split <;> rfl
theorem mix_end {T V:Int} {k:Nat} (h:carW T V k=0) (j:Nat):mixW T V k j=dgt q64 T j:=by
 unfold mixW
 by_cases h2:j<k
 ·rw [if_pos h2]
 ·rw [if_neg h2]
  unfold carW at h
  obtain ⟨m,rfl⟩:∃ m,j=k+m:=⟨j - k,by omega⟩
  have p:=powB_pos q64_pos k
  unfold dgt
  rw [Int.pow_add,← Int.ediv_ediv_of_nonneg (Int.le_of_lt p),← Int.ediv_ediv_of_nonneg (Int.le_of_lt p)]
  have:T / q64 ^ k=V / q64 ^ k:=by omega
  rw [this]
theorem mix_eight {T V:Int} {j:Nat} (h:j<8):mixW T V 8 j=dgt q64 T j:=if_pos h
theorem mul_word {x y p c:Int} (hx:0≤x∧x<q64) (hy:0≤y∧y<q64) (hp:0≤p∧p<q64) (hc:0≤c∧c<q64) :
  adcS (adcS (umul x y) p 0) c 0=(x*y+p+c) % q64∧uadd (uadd (mulH x y) (adcC (umul x y) p 0)) (adcC (adcS (umul x y) p 0) c 0)=(x*y+p+c) / q64:=by
 have e1:umul x y=x*y % q64:=mul_u64 x y
 have e2:mulH x y=x*y / q64:=mulH_eq hx hy
 have h1:x*y≤(q64 - 1)*(q64 - 1):=Int.mul_le_mul (by omega) (by omega) hy.1 (by decide)
 have h2:0≤x*y:=Int.mul_nonneg hx.1 hy.1
 rw [e1,e2]
 generalize x*y=m at *
 simp only [q64] at *
 unfold adcS adcC uadd
 simp only [add_u64]
 split <;> split <;> omega
theorem add_word {p c:Int} (hp:0≤p∧p<q64) (hc:0≤c∧c<q64):adcS p c 0=(0+p+c) % q64∧adcC p c 0=(0+p+c) / q64:=by
 simp only [q64] at *
 unfold adcS adcC
 split <;> omega
theorem word_byteN (N:Int) (i:Nat):IntKind.wrap .u8 (realBin .shr .u64 (dgt q64 N (i / 8)) ((i % 8*8:Nat):Int))=byt N i:=by
 have hp:(0:Int)<256 ^ (i % 8):=Int.pow_pos (by decide)
 have e2:realBin .shr .u64 (dgt q64 N (i / 8)) ((i % 8*8:Nat):Int)=dgt q64 N (i / 8) / 256 ^ (i % 8):=by
  rw [shr_any .u64 _ _ (by show i % 8*8≤64;omega)]
  congr 1
  rw [Nat.mul_comm,Int.pow_mul]
  rfl
 rw [wrap_u8,e2]
 unfold byt dgt
 have e3:(q64:Int) ^ (i / 8)=256 ^ (8*(i / 8)):=by
  rw [Int.pow_mul];rfl
 have e4:(256:Int) ^ i=256 ^ (8*(i / 8))*256 ^ (i % 8):=by
  rw [← Int.pow_add];congr 1;omega
 rw [e3,e4,← Int.ediv_ediv_of_nonneg (Int.le_of_lt (Int.pow_pos (by decide)))]
 generalize N / 256 ^ (8*(i / 8))=y
 have e5:(q64:Int)=256 ^ (i % 8)*256*256 ^ (7 - i % 8):=by
  rw [← Int.pow_succ,← Int.pow_add]
  have:i % 8+1+(7 - i % 8)=8:=by omega
  rw [this];rfl
 have h6:=Int.emod_add_mul_ediv y q64
 have e7:y / 256 ^ (i % 8)=(y % q64) / 256 ^ (i % 8)+256*(256 ^ (7 - i % 8)*(y / q64)):=by
  have:y=y % q64+256 ^ (i % 8)*(256*(256 ^ (7 - i % 8)*(y / q64))):=by
   rw [← Int.mul_assoc,← Int.mul_assoc,← e5];omega
  rw [this,Int.add_mul_ediv_left _ _ (by omega),← this]
 rw [e7,Int.add_mul_emod_self_left]
theorem num4 {b:Nat→Int} (hb:IsBytes 32 b):sumB q64 4 (numW b 32)=num 32 b:=by
 have h:=num_range hb
 exact sumB_dgt_lt q64_pos h.1 (by exact h.2)
theorem rowV_zero (x y:Nat→Int) (Z:Int):rowV x y Z 0=Z:=by simp [rowV,sumB]
theorem init_words {c:Nat→Int} (hc:IsBytes 32 c) (x y:Nat→Int) (k:Nat):splice (fun _=>0) 0 4 (fun j=>numW c 32 (0+j)) k=dgt q64 (rowV x y (num 32 c) 0) k:=by
 have h:=num_range hc
 rw [rowV_zero]
 unfold splice
 by_cases h4:k<4
 ·rw [if_neg (by omega),if_pos (by omega)]
  show numW c 32 (0+(k - 0))=_
  rw [Nat.zero_add,Nat.sub_zero]
  rfl
 ·rw [if_neg (by omega),if_neg (by omega)]
  unfold dgt
  obtain ⟨m,rfl⟩:∃ m,k=4+m:=⟨k - 4,by omega⟩
  have p:=powB_pos q64_pos 4
  have e:num 32 c / q64 ^ (4+m)=0:=by
   rw [Int.pow_add,← Int.ediv_ediv_of_nonneg (Int.le_of_lt p),Int.ediv_eq_zero_of_lt h.1 (by exact h.2)]
   simp
  rw [e]
  rfl
theorem mix_first (x y:Nat→Int) (Z:Int) (i k:Nat):dgt q64 (rowV x y Z i) k=mixW (rowT x y Z i 0) (rowV x y Z i) (i+0) k∧0=carW (rowT x y Z i 0) (rowV x y Z i) (i+0):=by
 rw [rowT_zero,mix_same]
 refine ⟨rfl,?_⟩
 unfold carW
 omega
theorem numW_word (a:Nat→Int) (i:Nat):0≤numW a 32 i∧numW a 32 i<q64:=dgt_isDig q64_pos _ (i+1) i (by omega)
theorem step_word (a b:Nat→Int) (Z:Int) (i j:Nat) (hc:inR .u64 (carW (rowT (numW a 32) (numW b 32) Z i j) (rowV (numW a 32) (numW b 32) Z i) (i+j))) :
  (∀ k,(if k=i+j then adcS (adcS (umul (numW a 32 i) (numW b 32 j)) (mixW (rowT (numW a 32) (numW b 32) Z i j) (rowV (numW a 32) (numW b 32) Z i) (i+j) (i+j)) 0) (carW (rowT (numW a 32) (numW b 32) Z i j) (rowV (numW a 32) (numW b 32) Z i) (i+j)) 0 else mixW (rowT (numW a 32) (numW b 32) Z i j) (rowV (numW a 32) (numW b 32) Z i) (i+j) k)=mixW (rowT (numW a 32) (numW b 32) Z i (j+1)) (rowV (numW a 32) (numW b 32) Z i) (i+(j+1)) k) ∧
  uadd (uadd (mulH (numW a 32 i) (numW b 32 j)) (adcC (umul (numW a 32 i) (numW b 32 j)) (mixW (rowT (numW a 32) (numW b 32) Z i j) (rowV (numW a 32) (numW b 32) Z i) (i+j) (i+j)) 0)) (adcC (adcS (umul (numW a 32 i) (numW b 32 j)) (mixW (rowT (numW a 32) (numW b 32) Z i j) (rowV (numW a 32) (numW b 32) Z i) (i+j) (i+j)) 0) (carW (rowT (numW a 32) (numW b 32) Z i j) (rowV (numW a 32) (numW b 32) Z i) (i+j)) 0)=carW (rowT (numW a 32) (numW b 32) Z i (j+1)) (rowV (numW a 32) (numW b 32) Z i) (i+(j+1)):=by
 obtain ⟨m1,m2⟩:=mul_word (numW_word a i) (numW_word b j) (p:=dgt q64 (rowV (numW a 32) (numW b 32) Z i) (i+j)) (dgt_isDig q64_pos _ (i+j+1) (i+j) (by omega)) (inR_u64.1 hc)
 rw [rowT_succ,mix_at,m1,m2,mix_low,mix_high]
 exact ⟨fun k=>mix_upd k,rfl⟩
theorem step_carry (T V:Int) (k:Nat) (hc:inR .u64 (carW T V k)) :
  (∀ n,(if n=k then adcS (mixW T V k k) (carW T V k) 0 else mixW T V k n)=mixW T V (k+1) n)∧adcC (mixW T V k k) (carW T V k) 0=carW T V (k+1):=by
 obtain ⟨m1,m2⟩:=add_word (p:=dgt q64 V k) (dgt_isDig q64_pos _ (k+1) k (by omega)) (inR_u64.1 hc)
 have e:T+q64 ^ k*0=T:=by simp
 have l:=mix_low (T:=T) (V:=V) (m:=0) (k:=k)
 have h:=mix_high (T:=T) (V:=V) (m:=0) (k:=k)
 have u:=fun n=>mix_upd (T:=T) (V:=V) (m:=0) (k:=k) n
 rw [e] at l h
 simp only [e] at u
 rw [mix_at,m1,m2,l,h]
 exact ⟨u,rfl⟩
theorem sn_congr {n:Nat} {f g:Nat→Int} (h:∀ i,i<n→f i=g i):sn n f=sn n g:=by unfold sn;rw [num_congr n h]
theorem muladd_bytes {a b c:Nat→Int} (ha:IsBytes 32 a) (hb:IsBytes 32 b) (hc:IsBytes 32 c):sb (sn 64 (byt (rowV (numW a 32) (numW b 32) (num 32 c) 4)))=sb (se a*se b+se c):=by
 have h1:=num_range ha
 have h2:=num_range hb
 have h3:=num_range hc
 have h4:num 32 a*num 32 b≤(256 ^ 32 - 1)*(256 ^ 32 - 1):=Int.mul_le_mul (by omega) (by omega) h2.1 (by decide)
 have h5:0≤num 32 a*num 32 b:=Int.mul_nonneg h1.1 h2.1
 unfold rowV
 rw [num4 ha,num4 hb]
 unfold sn se
 rw [num_byt 64 _ (by omega) (by have e:(256:Int) ^ 64=256 ^ 32*256 ^ 32:=rfl;rw [e];omega),Int.add_comm,zi_add,zi_mul]
end Sx

namespace Sx
open Go Go.RowKit
theorem lssT {a b:Int} (h:realCmp .lss a b=true):a<b:=of_decide_eq_true h
theorem lssF {a b:Int} (h:realCmp .lss a b=false):b≤a:=by have h2:¬ a<b:=of_decide_eq_false h;omega
theorem geqT {a b:Int} (h:realCmp .geq a b=true):b≤a:=of_decide_eq_true h
theorem geqF {a b:Int} (h:realCmp .geq a b=false):a<b:=by have h2:¬ b≤a:=of_decide_eq_false h;omega
theorem eqlT {a b:Int} (h:realCmp .eql a b=true):a=b:=by simpa [realCmp] using h
theorem eqlF {a b:Int} (h:realCmp .eql a b=false):a≠b:=by simpa [realCmp] using h
structure Short (n:Nat):Prop where
 h:n≤4096
structure Dig33 (r:Nat→Int):Prop where
 h:IsDig 256 33 r
def restR (n:Nat) (b:Nat→Int) (m:Nat):Int:=num n b / 2 ^ m % lI
def restB (n:Nat) (b:Nat→Int) (i:Nat):Int:=num n b / 2 ^ i % 2
def restX (n:Nat) (b:Nat→Int) (i:Nat):Int:=2*restR n b (i+1)+restB n b i
section
variable {n:Nat} {b:Nat→Int} {i:Nat}
def restS (n:Nat) (b:Nat→Int) (i:Nat):Int:=restX n b i - lI
def subA (n:Nat) (b:Nat→Int) (i j:Nat):Nat→Int:=fun k=>if k<j then dgt 256 (restS n b i) k else dgt 256 (restX n b i) k
theorem sub_zero (k:Nat):subA n b i 0 k=dgt 256 (restX n b i) k:=if_neg (Nat.not_lt_zero k)
end
end Sx
namespace Sx
open Go Go.RowKit
end Sx
namespace Sx
open Go Go.RowKit
end Sx

namespace Sx
open Go Go.RowKit
section
variable {la lb:Nat} {a b:Nat→Int}
end
end Sx
namespace Sx
open Go Go.RowKit
end Sx
namespace Sx
open Go Go.RowKit
end Sx
namespace Sx
open Go Go.RowKit
end Sx
namespace Sx
open Go Go.RowKit
theorem can_sb (x:Zl):canS (sb x)=true:=by
 unfold canS
 rw [num_sb]
 exact decide_eq_true (sval_bounds x).2
end Sx

namespace Sx
open Go Go.RowKit
def nafD (w:Nat) (N:Int):Int:=if N % 2=1 then (if 2 ^ (w - 1)≤N % 2 ^ w then N % 2 ^ w - 2 ^ w else N % 2 ^ w) else 0
def nafN (w:Nat) (N:Int):Nat→Int
 | 0=>N
 | i+1=>(nafN w N i - nafD w (nafN w N i)) / 2
def nafF (w:Nat) (N:Int):Nat→Int:=fun i=>nafD w (nafN w N i)
structure Wid (w:Nat):Prop where
 h:2≤w∧w≤8
theorem wid_cases {w:Nat} (h:Wid w):w=2∨w=3∨w=4∨w=5∨w=6∨w=7∨w=8:=by have:=h.h;omega
theorem nafD_range {w:Nat} (h:Wid w) (N:Int):-128<nafD w N∧nafD w N<128∧(N - nafD w N) % 2=0:=by
 unfold nafD
 rcases wid_cases h with e | e | e | e | e | e | e <;> subst e <;> simp only [Nat.reduceSub,Int.reducePow] <;> (repeat' split) <;> omega
theorem nafD_le {w:Nat} (h:Wid w) {N:Int} (h0:0≤N):nafD w N≤N:=by
 unfold nafD
 rcases wid_cases h with e | e | e | e | e | e | e <;> subst e <;> simp only [Nat.reduceSub,Int.reducePow] <;> (repeat' split) <;> omega
abbrev q256:Int:=115792089237316195423570985008687907853269984665640564039457584007913129639936
theorem nafN_range {w:Nat} (h:Wid w) {N:Int} (h0:0≤N) (h1:N<q256):∀ i,0≤nafN w N i∧nafN w N i<q256
 | 0=>⟨h0,h1⟩
 | i+1=>by
  obtain ⟨h2,h3⟩:=nafN_range h h0 h1 i
  have h4:=nafD_range h (nafN w N i)
  have h5:=nafD_le h h2
  simp only [nafN]
  simp only [q256] at *
  omega
theorem naf_halve {w:Nat} (h:Wid w) {m:Nat} {x:Int} (h0:0≤x) (h1:x≤2 ^ (m+1)):(x - nafD w x) / 2≤2 ^ m:=by
 by_cases hm:w≤m+1
 ·obtain ⟨t,ht⟩:∃ t,m+1=w+t:=⟨m+1 - w,by omega⟩
  have e1:(2:Int) ^ (m+1)=2 ^ w*2 ^ t:=by rw [ht,Int.pow_add]
  have e2:(2:Int) ^ (m+1)=2 ^ m*2:=Int.pow_succ _ _
  have hp:(0:Int)<2 ^ t:=Int.pow_pos (by decide)
  rw [e1] at h1 e2
  generalize (2:Int) ^ t=T at *
  generalize (2:Int) ^ m=M at *
  clear e1
  unfold nafD
  rcases wid_cases h with e | e | e | e | e | e | e <;> subst e <;> simp only [Nat.reduceSub,Int.reducePow] at * <;> (repeat' split) <;> omega
 ·have hw:=h.h
  have hp:(0:Int)<2 ^ m:=Int.pow_pos (by decide)
  have h2:(2:Int) ^ (m+1)≤2 ^ (w - 1):=by
   have:(2:Nat) ^ (m+1)≤2 ^ (w - 1):=Nat.pow_le_pow_right (by decide) (by omega)
   exact_mod_cast this
  have h3:(2:Int) ^ (m+1)=2 ^ m*2:=Int.pow_succ _ _
  have h4:x≤2 ^ (w - 1):=by omega
  generalize (2:Int) ^ m=M at *
  generalize (2:Int) ^ (m+1)=K at *
  unfold nafD
  rcases wid_cases h with e | e | e | e | e | e | e <;> subst e <;> simp only [Nat.reduceSub,Int.reducePow] at * <;> (repeat' split) <;> omega
theorem naf_bound {w:Nat} (h:Wid w) {N:Int} (h0:0≤N) (h1:N<q256):∀ i,i≤256→nafN w N i≤2 ^ (256 - i)
 | 0,_=>by
  show N≤2 ^ 256
  have e:(2:Int) ^ 256=q256:=by decide
  omega
 | i+1,hi=>by
  have h2:=naf_bound h h0 h1 i (by omega)
  have h3:=(nafN_range h h0 h1 i).1
  have e:256 - i=(256 - (i+1))+1:=by omega
  rw [e] at h2
  exact naf_halve h h3 h2
theorem naf_end {w:Nat} (h:Wid w) {N:Int} (h0:0≤N) (h1:N<q256):nafN w N 257=0:=by
 have h2:=naf_bound h h0 h1 256 (by omega)
 have h3:=(nafN_range h h0 h1 256).1
 simp only [Nat.sub_self,Int.pow_zero] at h2
 show (nafN w N 256 - nafD w (nafN w N 256)) / 2=0
 generalize nafN w N 256=x at *
 unfold nafD
 rcases wid_cases h with e | e | e | e | e | e | e <;> subst e <;> simp only [Nat.reduceSub,Int.reducePow] at * <;> (repeat' split) <;> omega
theorem naf_form {w:Nat} (h:Wid w) (N:Int):nafD w N=0∨(nafD w N % 2=1∧nafD w N<2 ^ (w - 1)∧-2 ^ (w - 1)<nafD w N):=by
 unfold nafD
 rcases wid_cases h with e | e | e | e | e | e | e <;> subst e <;> simp only [Nat.reduceSub,Int.reducePow] <;> (repeat' split) <;> omega
end Sx

namespace Sx
open Go Go.RowKit
def oneW (x:Int):Nat→Int:=upd (fun _=>0) 0 x
theorem W5_one (x:Int):W5 (oneW x)=x:=by
 unfold W5 oneW upd
 simp [sumB]
structure Sgn (s:Int):Prop where
 h:s=1∨s=-1
structure Upto300 (n:Nat):Prop where
 h:n≤300
def IsDigs (n:Nat) (d:Nat→Int):Prop:=∀ i,i<n→-128≤d i∧d i<128
section
variable {n:Nat} {d:Nat→Int} {s:Int} (hn:Upto300 n) (hs:Sgn s) (hd:IsDigs n d)
include hn hs hd
end
end Sx

namespace Sx
open Go Go.RowKit
def arrIn (S:St) (k:Nat):Nat→Int :=
 match get S k with
 | .own (.arr _ _ f)=>f
 | _=>fun _=>0
def digW (w:Int):Bool:=decide (2≤w) && decide (w≤8)
def digL (w:Int):Nat:=if digW w=true then 257 else 0
def digE (w:Int):Int:=if digW w=true then 0 else 1
def digF (a:Nat→Int) (w:Int):Nat→Int:=nafF w.toNat (num 32 a)
def digitsC (D:(Nat→Int)→Int→Nat→Int) (L:Int→Nat) (F:Int→Int):Contract:=fun vs=>match vs with
 | [.arr .u8 32 a,.int .i64 w]=>some ([],.otup .i8 1 (.sym (L w.val)) (D a w.val) [.int .i64 (.sym (F w.val))])
 | _=>none
theorem digW_wid {w:Int} (h:digW w=true):Wid w.toNat∧w=(w.toNat:Int):=by
 simp only [digW,Bool.and_eq_true,decide_eq_true_eq] at h
 exact ⟨⟨by omega,by omega⟩,by omega⟩
theorem digW_look (w:Int):(match realCmp .lss w 2 with | true=>true | false=>realCmp .gtr w 8)=!digW w:=by
 unfold digW
 by_cases h:w<2
 ·have e:realCmp .lss w 2=true:=decide_eq_true h
  rw [e]
  have:decide (2≤w)=false:=decide_eq_false (by omega)
  simp [this]
 ·have e:realCmp .lss w 2=false:=decide_eq_false h
  rw [e]
  have:decide (2≤w)=true:=decide_eq_true (by omega)
  rw [this]
  by_cases h2:8<w
  ·have e2:realCmp .gtr w 8=true:=decide_eq_true h2
   have e3:decide (w≤8)=false:=decide_eq_false (by omega)
   rw [e2,e3];rfl
  ·have e2:realCmp .gtr w 8=false:=decide_eq_false h2
   have e3:decide (w≤8)=true:=decide_eq_true (by omega)
   rw [e2,e3];rfl
def halvF (B:Int) (f:Nat→Int) (j:Nat):Nat→Int:=fun k=>if k<j then f k / 2+f (k+1) % 2*(B / 2) else f k
theorem halv_zero {B:Int} {f:Nat→Int} (k:Nat):halvF B f 0 k=f k:=if_neg (Nat.not_lt_zero k)
theorem halv_at {B:Int} {f:Nat→Int} (j:Nat):halvF B f j j=f j:=if_neg (Nat.lt_irrefl j)
theorem halv_next {B:Int} {f:Nat→Int} (j:Nat):halvF B f j (j+1)=f (j+1):=if_neg (by omega)
theorem halv_upd {B:Int} {f:Nat→Int} {j:Nat} (k:Nat):(if k=j then f j / 2+f (j+1) % 2*(B / 2) else halvF B f j k)=halvF B f (j+1) k:=by
 unfold halvF
 by_cases h:k=j
 ·subst h;rw [if_pos rfl,if_pos (by omega)]
 ·rw [if_neg h]
  by_cases h2:k<j
  ·rw [if_pos h2,if_pos (by omega)]
  ·rw [if_neg h2,if_neg (by omega)]
theorem half_dgt {B:Int} (hB:B=q64∨B=256) (M:Int) (k:Nat):dgt B (M / 2) k=dgt B M k / 2+dgt B M (k+1) % 2*(B / 2):=by
 have hp:(0:Int)<B:=by rcases hB with e | e <;> subst e <;> decide
 have hk:=powB_pos hp k
 unfold dgt
 have e1:M / 2 / B ^ k=M / B ^ k / 2:=by
  rw [Int.ediv_ediv_of_nonneg (by omega),Int.ediv_ediv_of_nonneg (by omega),Int.mul_comm]
 have e2:M / B ^ (k+1)=M / B ^ k / B:=by rw [Int.pow_succ,Int.ediv_ediv_of_nonneg (by omega)]
 rw [e1,e2]
 generalize M / B ^ k=x
 rcases hB with e | e <;> subst e
 ·simp only [q64];omega
 ·omega
theorem half_all {B:Int} (hB:B=q64∨B=256) {M:Int} {n:Nat} (h0:0≤M) (h1:M<B ^ (n+1)) {f:Nat→Int} (hf:∀ k,k<n+1→f k=dgt B M k) :
  ∀ k,k<n+1→upd (halvF B f n) n (f n / 2) k=dgt B (M / 2) k:=by
 intro k hk
 have hp:(0:Int)<B:=by rcases hB with e | e <;> subst e <;> decide
 rw [half_dgt hB]
 unfold upd halvF
 by_cases h:k=n
 ·subst h
  rw [if_pos rfl,hf k hk]
  have:dgt B M (k+1)=0:=by
   unfold dgt
   rw [Int.ediv_eq_zero_of_lt h0 h1]
   exact Int.zero_emod B
  rw [this]
  omega
 ·rw [if_neg h,if_pos (by omega),hf k hk,hf (k+1) (by omega)]
theorem half_word {x y:Int} (hx:0≤x∧x<q64) (_hy:0≤y∧y<q64):realBin .or .u64 (realBin .shr .u64 x 1) (realBin .shl .u64 y 63)=x / 2+y % 2*(q64 / 2):=by
 have e1:realBin .shr .u64 x 1=x / 2:=shr_any .u64 x 1 (by decide)
 have e2:realBin .shl .u64 y 63=(y*9223372036854775808) % q64:=shl_u64 y 63 (by decide)
 simp only [q64] at *
 rw [e1,e2,or_comm',or_apart (k:=.u64) rfl (x:=y*9223372036854775808 % 18446744073709551616) (y:=x / 2) 63 ⟨by omega,by show _<(18446744073709551616:Int);omega⟩ (by show y*9223372036854775808 % 18446744073709551616 % 9223372036854775808=0;omega) ⟨by omega,by show x / 2<9223372036854775808;omega⟩ (by decide)]
 omega
theorem half_last (x:Int):realBin .shr .u64 x 1=x / 2:=shr_any .u64 x 1 (by decide)
theorem half_word' {f:Nat→Int} (hf:Is5 f) {j:Nat} (hj:j<4):realBin .or .u64 (realBin .shr .u64 (f j) 1) (realBin .shl .u64 (f (j+1)) 63)=f j / 2+f (j+1) % 2*(q64 / 2) :=
 half_word (hf j (by omega)) (hf (j+1) (by omega))
theorem dgt0 (B M:Int):dgt B M 0=M % B:=by simp [dgt]
theorem low_bit (M:Int):realBin .and .u64 (dgt q64 M 0) 1=M % 2:=by
 have h:=dgt_isDig q64_pos M 1 0 (by decide)
 have e:=and_mask (k:=.u64) rfl (a:=dgt q64 M 0) ⟨h.1,h.2⟩ 1 (by decide)
 rw [show ((2:Int) ^ 1 - 1)=1 from rfl] at e
 rw [e,dgt0]
 simp only [q64]
 omega
theorem shl_one {k:IntKind} (hk:k=.u64∨k=.i64) {w:Int} {n:Nat} (hw:w=(n:Int)) (hn:n≤8):realBin .shl k 1 w=2 ^ n:=by
 subst hw
 rcases hk with e | e <;> subst e
 ·rw [shl_u64 1 n (by omega)]
  have:n=0∨n=1∨n=2∨n=3∨n=4∨n=5∨n=6∨n=7∨n=8:=by omega
  rcases this with e | e | e | e | e | e | e | e | e <;> subst e <;> decide
 ·have:n=0∨n=1∨n=2∨n=3∨n=4∨n=5∨n=6∨n=7∨n=8:=by omega
  rcases this with e | e | e | e | e | e | e | e | e <;> subst e <;> decide
theorem two_pows {n:Nat} (h:Wid n):(2:Int) ^ n=2*2 ^ (n - 1)∧2≤(2:Int) ^ (n - 1)∧(2:Int) ^ (n - 1)≤128∧(2:Int) ^ (n - 1) % 2=0:=by
 rcases wid_cases h with e | e | e | e | e | e | e <;> subst e <;> decide
theorem low_bits {n:Nat} (h:Wid n) (M:Int):realBin .and .u64 (dgt q64 M 0) (2 ^ n - 1)=M % 2 ^ n:=by
 have h1:=dgt_isDig q64_pos M 1 0 (by decide)
 rw [and_mask (k:=.u64) rfl ⟨h1.1,h1.2⟩ n (by have:=h.h;show n≤64;omega),dgt0]
 simp only [q64]
 rcases wid_cases h with e | e | e | e | e | e | e <;> subst e <;> simp only [Int.reducePow] <;> omega
theorem naf_even' {w:Nat} {N:Int} (h:N % 2≠1):nafD w N=0:=if_neg h
theorem naf_high {w:Nat} {N:Int} (h:N % 2=1) (h2:2 ^ (w - 1)≤N % 2 ^ w):nafD w N=N % 2 ^ w - 2 ^ w:=by unfold nafD;rw [if_pos h,if_pos h2]
theorem naf_low {w:Nat} {N:Int} (h:N % 2=1) (h2:N % 2 ^ w<2 ^ (w - 1)):nafD w N=N % 2 ^ w:=by unfold nafD;rw [if_pos h,if_neg (by omega)]
def nafW (w:Nat) (N:Int) (i:Nat):Nat→Int:=dgt q64 (nafN w N i)
theorem W5_naf {w:Nat} (h:Wid w) {N:Int} (h0:0≤N) (h1:N<q256) (i:Nat):W5 (nafW w N i)=nafN w N i:=by
 have:=nafN_range h h0 h1 i
 exact W5_dgt this.1 (by simp only [q256] at this;omega)
theorem naf_plus {w:Nat} (h:Wid w) {N:Int} (h0:0≤N) (h1:N<q256) (i:Nat) (d:Int):plusW (nafW w N i) (oneW (-d))=dgt q64 (nafN w N i - d):=by
 unfold plusW
 rw [W5_naf h h0 h1,W5_one]
 congr 1
theorem naf_minus {w:Nat} (h:Wid w) {N:Int} (h0:0≤N) (h1:N<q256) (i:Nat) (d:Int):minusW (nafW w N i) (oneW d)=dgt q64 (nafN w N i - d):=by
 unfold minusW
 rw [W5_naf h h0 h1,W5_one]
theorem naf_next {w:Nat} (h:Wid w) {N:Int} (h0:0≤N) (h1:N<q256) (i:Nat) {f:Nat→Int} (hf:∀ k,k<5→f k=dgt q64 (nafN w N i - nafD w (nafN w N i)) k) :
  ∀ k,k<5→upd (halvF q64 f 4) 4 (f 4 / 2) k=nafW w N (i+1) k:=by
 have r:=nafN_range h h0 h1 i
 have h2:=nafD_le h r.1
 have h3:=nafD_range h (nafN w N i)
 have e:q64 ^ 5=2135987035920910082395021706169552114602704522356652769947041607822219725780640550022962086936576:=by decide
 exact half_all (.inl rfl) (n:=4) (by omega) (by rw [e];simp only [q256] at r;omega) hf
theorem num_q256 {a:Nat→Int} (ha:IsBytes 32 a):0≤num 32 a∧num 32 a<q256:=by
 have h:=num_range ha
 have e:(256:Int) ^ 32=q256:=by decide
 rw [e] at h
 exact h
end Sx
namespace Sx
open Go Go.RowKit
theorem halv_step {bi:BinOp→IntKind→Int→Int→Int} (hbi:bi=realBin) {HV:(Nat→Int)→Nat→Nat→Int} (hHV:HV=halvF q64) {f:Nat→Int} (hf:Is5 f) {j:Nat} (hj:j<4) (k:Nat) :
  (if k=j then bi .or .u64 (bi .shr .u64 (HV f j j) 1) (bi .shl .u64 (HV f j (j+1)) 63) else HV f j k)=HV f (j+1) k:=by
 subst hbi hHV
 rw [halv_at,halv_next,half_word' hf hj]
 exact halv_upd k
theorem naf_next' {bi:BinOp→IntKind→Int→Int→Int} (hbi:bi=realBin) {HV:(Nat→Int)→Nat→Nat→Int} (hHV:HV=halvF q64) {w:Nat} {N:Int} {YN:Nat→Nat→Int} (hYN:YN=nafW w N) (h:Wid w) (h0:0≤N) (h1:N<q256) (i:Nat) {f:Nat→Int} (hf:∀ k,k<5→f k=dgt q64 (nafN w N i - nafD w (nafN w N i)) k) :
  ∀ k,k<5→(if k=4 then bi .shr .u64 (HV f 4 4) 1 else HV f 4 k)=YN (i+1) k:=by
 subst hbi hHV hYN
 intro k hk
 rw [half_last,halv_at]
 exact naf_next h h0 h1 i hf k hk
end Sx
namespace Sx
open Go Go.RowKit
section
variable {w:Nat} {N:Int} {i:Nat}
end
end Sx

namespace Sx
open Go
theorem lss_yes {a b:Int} (h:realCmp .lss a b=true):a<b:=of_decide_eq_true h
theorem lss_no {a b:Int} (h:realCmp .lss a b=false):b≤a:=by have:=of_decide_eq_false h;omega
def plT (i j:Nat):Nat:=if i+j<5 then i+j else i+j - 5
def dgT (i k:Nat):Nat:=if i≤k then k - i else k+5 - i
def partT (l m:Nat→Int) (i j:Nat):Nat→Int:=fun c=>rowsT l m (if dgT i (c / 2)<j then i+1 else i) (c / 2) (c % 2)
theorem partT_zero (l m:Nat→Int) (i c:Nat):sumsT l m i c=partT l m i 0 c:=by
 unfold partT
 rw [if_neg (Nat.not_lt_zero _)]
 rfl
theorem dgT_lt {i k:Nat} (hi:i<5) (hk:k<5):dgT i k<5:=by unfold dgT;split <;> omega
theorem partT_end (l m:Nat→Int) {i c:Nat} (hi:i<5) (hc:c<10):partT l m i 5 c=sumsT l m (i+1) c:=by
 unfold partT
 rw [if_pos (dgT_lt hi (by omega))]
 rfl
theorem dgT_plT {i j:Nat} (hi:i<5) (hj:j<5):dgT i (plT i j)=j:=by
 unfold dgT plT
 split <;> split <;> omega
theorem plT_dgT {i k:Nat} (hi:i<5) (hk:k<5):plT i (dgT i k)=k:=by
 unfold dgT plT
 split <;> split <;> omega
theorem partT_step (l m:Nat→Int) {i j c:Nat} (hi:i<5) (hj:j<5) (hc:c<10) :
  (if c / 2=plT i j then wideR (partT l m i j (2*plT i j)) (partT l m i j (2*plT i j+1)) (l i) (if i+j<5 then m j else umul 19 (m j)) (c % 2) else partT l m i j c)=partT l m i (j+1) c:=by
 by_cases h:c / 2=plT i j
 ·rw [if_pos h]
  have hd:dgT i (c / 2)=j:=by rw [h,dgT_plT hi hj]
  have e:∀ b,b<2→partT l m i j (2*plT i j+b)=rowsT l m i (plT i j) b:=by
   intro b hb
   unfold partT
   have e1:(2*plT i j+b) / 2=plT i j:=by omega
   have e2:(2*plT i j+b) % 2=b:=by omega
   rw [e1,e2,dgT_plT hi hj,if_neg (Nat.lt_irrefl j)]
  have e0:=e 0 (by decide)
  rw [Nat.add_zero] at e0
  rw [e0,e 1 (by decide)]
  unfold partT
  rw [hd,if_pos (Nat.lt_succ_self j),h]
  show _=tstep (rowsT l m i (plT i j)) (l i) (if i≤plT i j then m (plT i j - i) else umul 19 (m (plT i j+5 - i))) (c % 2)
  have e3:(if i≤plT i j then m (plT i j - i) else umul 19 (m (plT i j+5 - i)))=(if i+j<5 then m j else umul 19 (m j)):=by
   unfold plT
   by_cases h5:i+j<5
   ·rw [if_pos h5,if_pos h5,if_pos (by omega)]
    congr 1
    omega
   ·rw [if_neg h5,if_neg h5,if_neg (by omega)]
    congr 2
    omega
  rw [e3]
  rfl
 ·rw [if_neg h]
  unfold partT
  have hne:dgT i (c / 2)≠j:=by
   intro e
   apply h
   rw [← e,plT_dgT hi (by omega)]
  by_cases h2:dgT i (c / 2)<j
  ·rw [if_pos h2,if_pos (by omega)]
  ·rw [if_neg h2,if_neg (by omega)]
theorem splice_part (f v:Nat→Int) {O t:Nat} (hO:O=2*t) (k:Nat):splice f O 2 v k=if k / 2=t then v (k % 2) else f k:=by
 subst hO
 unfold splice
 by_cases h:k / 2=t
 ·rw [if_pos h,if_neg (by omega),if_pos (by omega)]
  congr 1
  omega
 ·rw [if_neg h]
  by_cases h2:k<2*t
  ·rw [if_pos h2]
  ·rw [if_neg h2,if_neg (by omega)]
end Sx

namespace Sx
open Go Go.RowKit
def clampF (h:Nat→Int):Nat→Int:=fun i=>if i=0 then h 0 / 8*8 else if i=31 then h 31 % 64+64 else h i
theorem and_248:∀ x:Fin 256,realBin .and .u8 (x.val:Int) 248=(x.val:Int) / 8*8:=by decide +kernel
theorem and_127:∀ x:Fin 256,realBin .or .u8 (realBin .and .u8 (x.val:Int) 127) 64=(x.val:Int) % 64+64:=by decide +kernel
theorem byte_fin {x:Int} (h:0≤x∧x<256):∃ y:Fin 256,x=(y.val:Int):=⟨⟨x.toNat,by omega⟩,by simp only;omega⟩
theorem clamp_low {x:Int} (h:0≤x∧x<256):realBin .and .u8 x 248=x / 8*8:=by
 obtain ⟨y,rfl⟩:=byte_fin h
 exact and_248 y
theorem clamp_high {x:Int} (h:0≤x∧x<256):realBin .or .u8 (realBin .and .u8 x 127) 64=x % 64+64:=by
 obtain ⟨y,rfl⟩:=byte_fin h
 exact and_127 y
theorem clamp_isB {h:Nat→Int} (hh:IsBytes 32 h):IsBytes 32 (clampF h):=by
 intro i hi
 have h0:=hh 0 (by decide)
 have h1:=hh 31 (by decide)
 have h2:=hh i hi
 unfold clampF
 split
 ·omega
 ·split <;> omega
theorem clamp_each {h:Nat→Int} (hh:IsBytes 32 h):∀ i,i<32→upd (upd h 0 (realBin .and .u8 (h 0) 248)) 31 (realBin .or .u8 (realBin .and .u8 (h 31) 127) 64) i=clampF h i:=by
 intro i hi
 rw [clamp_low (hh 0 (by decide)),clamp_high (hh 31 (by decide))]
 unfold upd clampF
 by_cases h0:i=0
 ·subst h0;rfl
 ·rw [if_neg h0]
  by_cases h1:i=31
  ·subst h1;rfl
  ·simp [h0,h1]
section
variable {h:Nat→Int} (hh:IsBytes 32 h)
include hh
end
end Sx

namespace Sx
open Go Go.RowKit
section
variable {P:Program}
def symX:AV→AV
 | .int k n=>.int k (.sym n.val)
 | .bool b=>.bool (.sym b.val)
 | .xsl k es len cap f=>.xsl k es (.sym len.val) cap f
 | x=>x
theorem symX_arg {w:World} {x:AV} {v:Value} (h:ArgR w x v):ArgR w (symX x) v:=by
 cases x <;> exact h
theorem symX_wf {x:AV} (h:wfV x):wfV (symX x):=by
 cases x <;> exact h
theorem symX_all {w:World}:∀ {vs:List AV} {args:List Value},All2 (ArgR w) vs args→All2 (ArgR w) (vs.map symX) args
 | [],[],_=>trivial
 | _ :: _,_ :: _,h=>⟨symX_arg h.1,symX_all h.2⟩
 | [],_ :: _,h=>h.elim
 | _ :: _,[],h=>h.elim
theorem sound_symx {G:Nat→AV} (hmix:P.follows .mixedOrders=true) {f:FuncId} {fn:Func} (hf:P.funcs[f]?=some fn) {n:Nat} {rs:List ResultVar} {sc:SC} (hn:fn.ntmps=n) (hrs:fn.results.toList=rs) (hb:fn.body.isNone=false)
  (hname : (fn.name == "runtime.NumGoroutine") = false) (hsc : strip (body fn) = sc) {c : Contract}
  (h:∀ vs cs r,c vs=some (cs,r)→vs.length≤n∧((∀ p ∈ cs,p)→(∀ x ∈ vs,wfV x)→∃ E:Env,EnvOK0 P E∧E.glob=G∧Walk E sc n rs (vs.map symX) r)):Sound P G f c:=by
 intro vs cs r hc hcs hwf w hG args hargs
 obtain ⟨hl,hw⟩:=h vs cs r hc
 obtain ⟨E,hE,hg,hW⟩:=hw hcs hwf
 subst hg
 subst hn;subst hrs;subst hsc
 classical
 have key:Sound P E.glob f (fun vs'=>if vs'=vs.map symX then some (cs,r) else none):=by
  refine sound_of hE hmix hf hb hname (fun vs' cs' r' hc'=>?_) (fun vs' cs' r' hc' _ _=>?_)
  ·split at hc'
   ·rename_i e;subst e;simpa using hl
   ·cases hc'
  ·split at hc'
   ·rename_i e;subst e;cases hc';exact hW.run
   ·cases hc'
 refine key (vs.map symX) cs r (if_pos rfl) hcs (fun x hx=>?_) w hG args (symX_all hargs)
 obtain ⟨y,hy,rfl⟩:=List.mem_map.1 hx
 exact symX_wf (hwf y hy)
end
end Sx

