/- Plain law: the count of ones, strings that are in order. No condition: lemmas only. -/
import Derived.Test.YtogkkamlmklpkaaDoorHd
set_option maxRecDepth 100000
set_option linter.unusedVariables false
set_option linter.unusedSimpArgs false
namespace Go.Proofs.YtogkkamlmklpkaaDoor.Ab
open Go
def popN:Nat→Nat
 |0=>0
 |n+1=>(n+1) % 2+popN ((n+1) / 2)
theorem popN_eq (n:Nat):popN n=n % 2+popN (n / 2):=by
 cases n with
 |zero=>simp [popN]
 |succ n=>rw [popN]
theorem and_half (a b:Nat):(a &&& b) / 2=(a / 2) &&& (b / 2):=Nat.and_div_two
theorem and_mod (a b:Nat):(a &&& b) % 2=(a % 2)*(b % 2):=by
 have h1:=Nat.mod_two_eq_zero_or_one a
 have h2:=Nat.mod_two_eq_zero_or_one b
 have e:∀ n:Nat,n.testBit 0=decide (n % 2=1):=fun n=>Nat.testBit_zero n
 have h3:(a &&& b).testBit 0=(a.testBit 0&&b.testBit 0):=Nat.testBit_and a b 0
 rw [e,e,e] at h3
 have h4:=Nat.mod_two_eq_zero_or_one (a &&& b)
 rcases h1 with h1|h1<;>rcases h2 with h2|h2<;>rcases h4 with h4|h4<;>simp [h1,h2,h4] at h3 ⊢
theorem pop_step:∀ n:Nat,0<n→popN (n &&& (n-1))+1=popN n:=by
 intro n
 induction n using Nat.strongRecOn with
 |_ n ih=>
  intro h
  rw [popN_eq (n &&& (n-1)),popN_eq n,and_half,and_mod]
  rcases Nat.mod_two_eq_zero_or_one n with q|q
  ·have e1:(n-1) / 2=n / 2-1:=by omega
   have:=ih (n / 2) (by omega) (by omega)
   rw [e1,q];omega
  ·have e1:(n-1) / 2=n / 2:=by omega
   have e2:(n-1) % 2=0:=by omega
   rw [e1,e2,q,Nat.and_self];omega
theorem popN_le:∀ (k n:Nat),n<2 ^ k→popN n≤k
 |0,n,h=>by
  have:n=0:=by simpa using h
  subst this;simp [popN]
 |k+1,n,h=>by
  rw [popN_eq]
  have:=popN_le k (n / 2) (by rw [Nat.pow_succ] at h;omega)
  omega
def swar (x:BitVec 64):BitVec 64:=
 let x:=((x >>> 1) &&& 6148914691236517205#64)+(x &&& 6148914691236517205#64)
 let x:=((x >>> 2) &&& 3689348814741910323#64)+(x &&& 3689348814741910323#64)
 let x:=((x >>> 4)+x) &&& 1085102592571150095#64
 let x:=x+(x >>> 8)
 let x:=x+(x >>> 16)
 x+(x >>> 32)
def ones (x:BitVec 64):Int:=bitop .and .i64 (swar x).toInt 127
def fsum (c:Nat):Nat→Nat→Nat
 |0,_=>0
 |k+1,x=>x % 2 ^ c+fsum c k (x / 2 ^ c)
theorem and_block (c x m M:Nat)(hm:m<2 ^ c):x &&& (2 ^ c*M+m)=2 ^ c*((x / 2 ^ c) &&& M)+((x % 2 ^ c) &&& m):=by
 have h1:(x % 2 ^ c) &&& m<2 ^ c:=Nat.lt_of_le_of_lt Nat.and_le_right hm
 have h2:x % 2 ^ c<2 ^ c:=Nat.mod_lt _ (Nat.two_pow_pos c)
 conv=>lhs;rw [← Nat.div_add_mod x (2 ^ c)]
 apply Nat.eq_of_testBit_eq
 intro j
 rw [Nat.testBit_and,Nat.testBit_two_pow_mul_add _ h2,Nat.testBit_two_pow_mul_add _ hm,Nat.testBit_two_pow_mul_add _ h1]
 split
 ·rw [Nat.testBit_and]
 ·rw [Nat.testBit_and]
def lowM (w:Nat):Nat→Nat
 |0=>0
 |k+1=>2 ^ (2*w)*lowM w k+(2 ^ w-1)
theorem sq_pow (w:Nat):2 ^ (2*w)=2 ^ w*2 ^ w:=by rw [Nat.two_mul,Nat.pow_add]
theorem pow_pos (w:Nat):0<2 ^ w:=Nat.two_pow_pos w
theorem and_low (w k x:Nat):x &&& lowM w (k+1)=2 ^ (2*w)*((x / 2 ^ (2*w)) &&& lowM w k)+x % 2 ^ w:=by
 have hp:=pow_pos w
 have hlt:2 ^ w-1<2 ^ (2*w):=by
  rw [sq_pow]
  have:=Nat.mul_le_mul_left (2 ^ w) hp
  omega
 rw [lowM,and_block _ _ _ _ hlt,Nat.and_two_pow_sub_one_eq_mod]
 congr 1
 rw [sq_pow,Nat.mod_mul_right_mod]
def pairs (w k x:Nat):Nat:=((x / 2 ^ w) &&& lowM w k)+(x &&& lowM w k)
theorem pairs_succ (w k x:Nat):pairs w (k+1) x=2 ^ (2*w)*pairs w k (x / 2 ^ (2*w))+(x / 2 ^ w % 2 ^ w+x % 2 ^ w):=by
 unfold pairs
 have e:x / 2 ^ w / 2 ^ (2*w)=x / 2 ^ (2*w) / 2 ^ w:=by rw [Nat.div_div_eq_div_mul,Nat.mul_comm,← Nat.div_div_eq_div_mul]
 rw [and_low,and_low,e,Nat.mul_add]
 omega
theorem pairs_fsum (w:Nat)(hw:1≤w):∀ (k x:Nat),fsum (2*w) k (pairs w k x)=fsum w (2*k) x
 |0,x=>rfl
 |k+1,x=>by
  have hp:=pow_pos w
  have h2:2≤2 ^ w:=by
   have:=Nat.pow_le_pow_right (n:=2) (by omega) hw
   simpa using this
  have a1:x / 2 ^ w % 2 ^ w<2 ^ w:=Nat.mod_lt _ hp
  have a2:x % 2 ^ w<2 ^ w:=Nat.mod_lt _ hp
  have hlt:x / 2 ^ w % 2 ^ w+x % 2 ^ w<2 ^ (2*w):=by
   rw [sq_pow]
   have:=Nat.mul_le_mul_right (2 ^ w) h2
   omega
  have ih:=pairs_fsum w hw k (x / 2 ^ (2*w))
  rw [show 2*(k+1)=2*k+1+1 by omega]
  simp only [fsum]
  rw [pairs_succ,Nat.mul_add_mod,Nat.mod_eq_of_lt hlt,Nat.mul_add_div (pow_pos _),Nat.div_eq_of_lt hlt,Nat.add_zero,ih,Nat.div_div_eq_div_mul,← sq_pow]
  omega
theorem fsum_one:∀ (k x:Nat),x<2 ^ k→fsum 1 k x=popN x
 |0,x,h=>by
  have:x=0:=by simpa using h
  subst this;simp [fsum,popN]
 |k+1,x,h=>by
  rw [fsum,popN_eq,Nat.pow_one,fsum_one k (x / 2) (by rw [Nat.pow_succ] at h;omega)]
def fle (c b:Nat):Nat→Nat→Prop
 |0,_=>True
 |k+1,x=>x % 2 ^ c≤b∧fle c b k (x / 2 ^ c)
theorem fle_one:∀ (k x:Nat),fle 1 1 k x
 |0,_=>trivial
 |k+1,x=>⟨by rw [Nat.pow_one];omega,fle_one k _⟩
theorem fle_pairs (w b:Nat)(hw:1≤w):∀ (k x:Nat),fle w b (2*k) x→fle (2*w) (2*b) k (pairs w k x)
 |0,_,_=>trivial
 |k+1,x,h=>by
  have hp:=pow_pos w
  have h2:2≤2 ^ w:=by
   have:=Nat.pow_le_pow_right (n:=2) (by omega) hw
   simpa using this
  have a1:x / 2 ^ w % 2 ^ w<2 ^ w:=Nat.mod_lt _ hp
  have a2:x % 2 ^ w<2 ^ w:=Nat.mod_lt _ hp
  have hlt:x / 2 ^ w % 2 ^ w+x % 2 ^ w<2 ^ (2*w):=by
   rw [sq_pow]
   have:=Nat.mul_le_mul_right (2 ^ w) h2
   omega
  rw [show 2*(k+1)=2*k+1+1 by omega] at h
  obtain ⟨b1,b2,b3⟩:=h
  rw [Nat.div_div_eq_div_mul,← sq_pow] at b3
  have ih:=fle_pairs w b hw k _ b3
  refine ⟨?_,?_⟩
  ·rw [pairs_succ,Nat.mul_add_mod,Nat.mod_eq_of_lt hlt];omega
  ·rw [pairs_succ,Nat.mul_add_div (pow_pos _),Nat.div_eq_of_lt hlt,Nat.add_zero];exact ih
theorem add_mask:∀ (k y:Nat),fle 4 4 (2*k) y→(y / 16+y) &&& lowM 4 k=pairs 4 k y
 |0,y,_=>by simp [lowM,pairs]
 |k+1,y,h=>by
  rw [show 2*(k+1)=2*k+1+1 by omega] at h
  obtain ⟨b1,b2,b3⟩:=h
  rw [Nat.div_div_eq_div_mul] at b3
  have e1:(2:Nat) ^ 4=16:=rfl
  rw [e1] at b1 b2 b3
  have ih:=add_mask k (y / 256) b3
  have b4:(y / 256) % 16≤4∨k=0:=by
   cases k with
   |zero=>exact .inr rfl
   |succ k=>
    rw [show 2*(k+1)=2*k+1+1 by omega] at b3
    exact .inl b3.1
  have e2:(2:Nat) ^ (2*4)=256:=rfl
  rw [and_low,pairs_succ,e1,e2]
  have m1:(y / 16+y) % 16=y / 16 % 16+y % 16:=by omega
  rw [m1]
  congr 2
  rcases b4 with b4|b4
  ·have m2:(y / 16+y) / 256=y / 256 / 16+y / 256:=by
    obtain ⟨r1,r0,hi,lo,e,k0,k1,k2⟩:∃ r1 r0 hi lo,y=4096*r1+256*r0+16*hi+lo∧r0≤4∧hi≤4∧lo≤4:=
     ⟨y / 256 / 16,y / 256 % 16,y / 16 % 16,y % 16,by omega,b4,b2,b1⟩
    have e3:y / 16=256*r1+16*r0+hi:=by omega
    have e4:y / 256=16*r1+r0:=by omega
    have e5:(16*r1+r0) / 16=r1:=by omega
    rw [e3,e4,e5,e]
    clear e e3 e4 e5 b1 b2 b3 b4 m1 ih
    omega
   rw [m2,ih]
  ·subst b4
   simp [lowM,pairs]
theorem bytes_total (z:Nat)(h:fle 8 8 8 z)(hz:z<18446744073709551616) :
  ((z+z / 256)+(z+z / 256) / 65536+((z+z / 256)+(z+z / 256) / 65536) / 4294967296) % 128=fsum 8 8 z∧z+z / 256<18446744073709551616∧(z+z / 256)+(z+z / 256) / 65536<18446744073709551616∧
   ((z+z / 256)+(z+z / 256) / 65536)+((z+z / 256)+(z+z / 256) / 65536) / 4294967296<18446744073709551616∧fsum 8 8 z≤64:=by
 simp only [fle,fsum,Nat.reducePow,and_true,Nat.add_zero] at *
 obtain ⟨c0,c1,c2,c3,c4,c5,c6,c7⟩:=h
 generalize g1:z / 256=z1 at *
 generalize g2:z1 / 256=z2 at *
 generalize g3:z2 / 256=z3 at *
 generalize g4:z3 / 256=z4 at *
 generalize g5:z4 / 256=z5 at *
 generalize g6:z5 / 256=z6 at *
 generalize g7:z6 / 256=z7 at *
 generalize f0:z % 256=b0 at *
 generalize f1:z1 % 256=b1 at *
 generalize f2:z2 % 256=b2 at *
 generalize f3:z3 % 256=b3 at *
 generalize f4:z4 % 256=b4 at *
 generalize f5:z5 % 256=b5 at *
 generalize f6:z6 % 256=b6 at *
 generalize f7:z7 % 256=b7 at *
 have r0:z=256*z1+b0:=by omega
 have r1:z1=256*z2+b1:=by omega
 have r2:z2=256*z3+b2:=by omega
 have r3:z3=256*z4+b3:=by omega
 have r4:z4=256*z5+b4:=by omega
 have r5:z5=256*z6+b5:=by omega
 have r6:z6=256*z7+b6:=by omega
 have r7:∃ k,z7=256*k+b7:=⟨z7 / 256,by omega⟩
 obtain ⟨k,r7⟩:=r7
 clear g1 g2 g3 g4 g5 g6 g7 f0 f1 f2 f3 f4 f5 f6 f7
 have d1:(z+z1) / 65536=z2+z3:=by
  have e1:z=65536*z2+256*b1+b0:=by omega
  have e2:z1=65536*z3+256*b2+b1:=by omega
  rw [e1,e2]
  clear r0 r1 r2 r3 r4 r5 r6 r7 e1 e2 hz
  omega
 have e0:z=4294967296*z4+16777216*b3+65536*b2+256*b1+b0:=by omega
 have e1:z1=4294967296*z5+16777216*b4+65536*b3+256*b2+b1:=by omega
 have e2:z2=4294967296*z6+16777216*b5+65536*b4+256*b3+b2:=by omega
 have e3:z3=4294967296*z7+16777216*b6+65536*b5+256*b4+b3:=by omega
 have d2:(z+z1+(z2+z3)) / 4294967296=z4+z5+z6+z7:=by
  clear r0 r1 r2 r3 r4 r5 r6 r7 hz d1
  rw [e0,e1,e2,e3]
  clear e0 e1 e2 e3
  omega
 rw [d1,d2]
 clear d1 d2 e0 e1 e2 e3
 refine ⟨?_,by omega,by omega,by omega,by omega⟩
 clear hz
 omega
theorem tn_shr (x:BitVec 64)(k:Nat):(x >>> k).toNat=x.toNat / 2 ^ k:=by rw [BitVec.toNat_ushiftRight,Nat.shiftRight_eq_div_pow]
theorem tn_add {x y:BitVec 64}(h:x.toNat+y.toNat<18446744073709551616):(x+y).toNat=x.toNat+y.toNat:=by
 rw [BitVec.toNat_add];exact Nat.mod_eq_of_lt (by simpa using h)
theorem low1:lowM 1 32=6148914691236517205:=by decide
theorem low2:lowM 2 16=3689348814741910323:=by decide
theorem low4:lowM 4 8=1085102592571150095:=by decide
theorem ones_pop (x:BitVec 64):ones x=(popN x.toNat:Int):=by
 have hx:=x.isLt
 have n1:(((x >>> 1) &&& 6148914691236517205#64)+(x &&& 6148914691236517205#64)).toNat=pairs 1 32 x.toNat:=by
  rw [tn_add,BitVec.toNat_and,BitVec.toNat_and,tn_shr]
  ·unfold pairs;rw [low1];rfl
  ·rw [BitVec.toNat_and,BitVec.toNat_and]
   have a:=Nat.and_le_right (n:=(x >>> 1).toNat) (m:=(6148914691236517205#64).toNat)
   have b:=Nat.and_le_right (n:=x.toNat) (m:=(6148914691236517205#64).toNat)
   simp only [BitVec.toNat_ofNat] at a b ⊢
   omega
 generalize hx1:((x >>> 1) &&& 6148914691236517205#64)+(x &&& 6148914691236517205#64)=x1 at n1
 have n2:(((x1 >>> 2) &&& 3689348814741910323#64)+(x1 &&& 3689348814741910323#64)).toNat=pairs 2 16 x1.toNat:=by
  rw [tn_add,BitVec.toNat_and,BitVec.toNat_and,tn_shr]
  ·unfold pairs;rw [low2];rfl
  ·rw [BitVec.toNat_and,BitVec.toNat_and]
   have a:=Nat.and_le_right (n:=(x1 >>> 2).toNat) (m:=(3689348814741910323#64).toNat)
   have b:=Nat.and_le_right (n:=x1.toNat) (m:=(3689348814741910323#64).toNat)
   simp only [BitVec.toNat_ofNat] at a b ⊢
   omega
 generalize hx2:((x1 >>> 2) &&& 3689348814741910323#64)+(x1 &&& 3689348814741910323#64)=x2 at n2
 have f1:fle 2 2 32 x1.toNat:=by rw [n1];exact fle_pairs 1 1 (by omega) 32 _ (fle_one 64 _)
 have f2:fle 4 4 16 x2.toNat:=by rw [n2];exact fle_pairs 2 2 (by omega) 16 _ f1
 have t2:x2.toNat≤4919131752989213764+0:=by
  have h:=f2
  simp only [fle,Nat.reducePow,and_true] at h
  omega
 have n3:(((x2 >>> 4)+x2) &&& 1085102592571150095#64).toNat=pairs 4 8 x2.toNat:=by
  rw [BitVec.toNat_and,tn_add,tn_shr]
  ·have:=add_mask 8 x2.toNat f2
   rw [low4] at this
   exact this
  ·rw [tn_shr];omega
 generalize hx3:((x2 >>> 4)+x2) &&& 1085102592571150095#64=x3 at n3
 have f3:fle 8 8 8 x3.toNat:=by rw [n3];exact fle_pairs 4 4 (by omega) 8 _ f2
 obtain ⟨b1,b2,b3,b4,b5⟩:=bytes_total x3.toNat f3 x3.isLt
 have s3:fsum 8 8 x3.toNat=popN x.toNat:=by
  rw [n3,pairs_fsum 4 (by omega) 8,n2,pairs_fsum 2 (by omega) 16,n1,pairs_fsum 1 (by omega) 32]
  exact fsum_one 64 _ (by simpa using hx)
 have m1:(x3+(x3 >>> 8)).toNat=x3.toNat+x3.toNat / 256:=by rw [tn_add,tn_shr];rw [tn_shr];exact b2
 have m2:(x3+(x3 >>> 8)+((x3+(x3 >>> 8)) >>> 16)).toNat=(x3.toNat+x3.toNat / 256)+(x3.toNat+x3.toNat / 256) / 65536:=by
  rw [tn_add,tn_shr,m1];rw [tn_shr,m1];exact b3
 have m3:(swar x).toNat=(x3.toNat+x3.toNat / 256)+(x3.toNat+x3.toNat / 256) / 65536+((x3.toNat+x3.toNat / 256)+(x3.toNat+x3.toNat / 256) / 65536) / 4294967296:=by
  unfold swar
  simp only [hx1,hx2,hx3]
  rw [tn_add,tn_shr,m2];rw [tn_shr,m2];exact b4
 unfold ones bitop
 have e1:((swar x).toInt % 2 ^ IntKind.i64.bits).toNat=(swar x).toNat:=by
  have hb:(2:Int) ^ IntKind.i64.bits=18446744073709551616:=by decide
  have hl:=(swar x).isLt
  rw [hb,BitVec.toInt_eq_toNat_cond]
  split<;>omega
 have e2:((127:Int) % 2 ^ IntKind.i64.bits).toNat=2 ^ 7-1:=by decide
 simp only [e1,e2]
 rw [Nat.and_two_pow_sub_one_eq_mod,m3]
 rw [show (2:Nat) ^ 7=128 from rfl,b1,s3]
 exact wrap_of ⟨by omega,by omega⟩
theorem pop_xor:∀ (n a b:Nat),a<2 ^ n→b<2 ^ n→popN (a ^^^ b) % 2=(popN a+popN b) % 2
 |0,a,b,ha,hb=>by
  have:a=0:=by simpa using ha
  have:b=0:=by simpa using hb
  subst a b;simp [popN]
 |n+1,a,b,ha,hb=>by
  rw [Nat.pow_succ] at ha hb
  have ih:=pop_xor n (a / 2) (b / 2) (by omega) (by omega)
  have hd:(a ^^^ b) / 2=a / 2 ^^^ b / 2:=Nat.xor_div_two
  have hm:(a ^^^ b) % 2=(a % 2+b % 2) % 2:=by
   have h1:=Nat.mod_two_eq_zero_or_one a
   have h2:=Nat.mod_two_eq_zero_or_one b
   have h4:=Nat.mod_two_eq_zero_or_one (a ^^^ b)
   have h3:(a ^^^ b).testBit 0=(a.testBit 0 ^^ b.testBit 0):=Nat.testBit_xor a b 0
   rw [Nat.testBit_zero,Nat.testBit_zero,Nat.testBit_zero] at h3
   rcases h1 with h1|h1<;>rcases h2 with h2|h2<;>rcases h4 with h4|h4<;>simp [h1,h2,h4] at h3 ⊢
  rw [popN_eq (a ^^^ b),popN_eq a,popN_eq b,hd,hm]
  omega
def Pl.ok (p:Pl):Bool:=decide (0≤p.N)&&decide (p.N≤64)&&decide (0≤p.Ph)&&decide (p.Ph≤3)&&(decide (¬ p.N<64)||decide ((p.X ||| p.Z) >>> p.N.toNat=0#64))
def bitAt (x:BitVec 64)(q:Int):BitVec 64:=(x >>> (BitVec.ofInt 64 q).toNat) &&& 1#64
def isOne (x:BitVec 64)(q:Int):Bool:=decide ((bitAt x q).toInt=1)
def clr (X Z:BitVec 64):Nat→Int→Bool
 |0,_=>true
 |f+1,q=>decide (64≤q)||(!isOne X q && !isOne Z q&&clr X Z f (q+1))
def Pl.okR (p:Pl)(f:Nat):Bool:=decide (0≤p.N)&&decide (p.N≤64)&&decide (0≤p.Ph)&&decide (p.Ph≤3)&&clr p.X p.Z f p.N
theorem isOne_tb (x:BitVec 64)(q:Nat)(hq:q<64):isOne x (q:Int)=x.toNat.testBit q:=by
 have hk:(BitVec.ofInt 64 (q:Int)).toNat=q:=by simp;omega
 have hn:(bitAt x q).toNat=x.toNat / 2 ^ q % 2:=by
  unfold bitAt
  rw [hk,BitVec.toNat_and,tn_shr]
  exact Nat.and_one_is_mod _
 have h2:x.toNat / 2 ^ q % 2<2:=Nat.mod_lt _ (by decide)
 unfold isOne
 rw [Nat.testBit_eq_decide_div_mod_eq]
 have hi:(bitAt x q).toInt=((bitAt x q).toNat:Int):=BitVec.toInt_eq_toNat_of_lt (by rw [hn];omega)
 rw [hi,hn]
 congr 1
 apply propext
 omega
theorem half_zero (y q:Nat):y / 2 ^ q=0↔y.testBit q=false∧y / 2 ^ (q+1)=0:=by
 rw [Nat.testBit_eq_decide_div_mod_eq,decide_eq_false_iff_not,Nat.pow_succ,← Nat.div_div_eq_div_mul]
 omega
theorem clr_eq (X Z:BitVec 64):∀ (f q:Nat),64≤q+f→clr X Z f (q:Int)=decide ((X ||| Z).toNat / 2 ^ q=0)
 |0,q,h=>by
  have h1:=(X ||| Z).isLt
  have h2:2 ^ 64≤2 ^ q:=Nat.pow_le_pow_right (by omega) (by omega)
  rw [Nat.div_eq_of_lt (by omega)];rfl
 |f+1,q,h=>by
  simp only [clr]
  by_cases hq:64≤q
  ·have h1:=(X ||| Z).isLt
   have h2:2 ^ 64≤2 ^ q:=Nat.pow_le_pow_right (by omega) hq
   rw [Nat.div_eq_of_lt (by omega)]
   have:decide ((64:Int)≤(q:Int))=true:=by simp;omega
   rw [this];rfl
  ·have:decide ((64:Int)≤(q:Int))=false:=by simp;omega
   have ih:=clr_eq X Z f (q+1) (by omega)
   rw [show (((q+1:Nat)):Int)=(q:Int)+1 from rfl] at ih
   rw [this,Bool.false_or,isOne_tb X q (by omega),isOne_tb Z q (by omega),ih,Bool.eq_iff_iff]
   simp only [Bool.and_eq_true,Bool.not_eq_true',decide_eq_true_eq]
   rw [half_zero (X ||| Z).toNat q,BitVec.toNat_or,Nat.testBit_or,Bool.or_eq_false_iff]
theorem okR_eq (p:Pl)(f:Nat)(hf:64≤f):p.okR f=p.ok:=by
 obtain ⟨N,X,Z,Ph⟩:=p
 unfold Pl.okR Pl.ok
 by_cases h1:0≤N
 ·by_cases h2:N≤64
  ·obtain ⟨k,rfl⟩:∃ k:Nat,N=(k:Int):=⟨N.toNat,by omega⟩
   have e:=clr_eq X Z f k (by omega)
   simp only [e,Int.toNat_natCast]
   congr 1
   by_cases h3:(k:Int)<64
   ·have:decide (¬ (k:Int)<64)=false:=by simp;omega
    rw [this,Bool.false_or]
    congr 1
    apply propext
    rw [← tn_shr]
    constructor
    ·intro h;exact BitVec.eq_of_toNat_eq (by simpa using h)
    ·intro h;rw [h];rfl
   ·have h4:k=64:=by omega
    subst h4
    have h5:=(X ||| Z).isLt
    rw [Nat.div_eq_of_lt h5]
    rfl
  ·have:decide (N≤64)=false:=by simp;omega
   simp only [this,Bool.and_false,Bool.false_and]
 ·have:decide (0≤N)=false:=by simp;omega
  simp only [this,Bool.false_and]
end Go.Proofs.YtogkkamlmklpkaaDoor.Ab
/- Plain Lean: as many vectors of bits as there are bits, with a dual row, make every vector (by counting). -/
set_option linter.unusedVariables false
set_option linter.unusedSimpArgs false
namespace Go.Proofs.YtogkkamlmklpkaaDoor.Ab
theorem inj_surj:∀ (M:Nat) (f:Nat→Nat),(∀ i,i<M→f i<M)→(∀ i j,i<M→j<M→f i=f j→i=j)→∀ y,y<M→∃ x,x<M∧f x=y
 |0,f,_,_,y,hy=>absurd hy (by omega)
 |M+1,f,hf,hi,y,hy=>by
  have ha:=hf M (by omega)
  let g:Nat→Nat:=fun i=>if f i=M then f M else f i
  have hg1:∀ i,i<M→f i=M→f M<M:=fun i h e=>by
   have:f M≠M:=fun e'=>by
    have:=hi i M (by omega) (by omega) (by omega)
    omega
   omega
  have hg:∀ i,i<M→g i<M:=fun i h=>by
   simp only [g]
   split
   ·exact hg1 i h ‹_›
   ·have:=hf i (by omega);omega
  have hgi:∀ i j,i<M→j<M→g i=g j→i=j:=fun i j h1 h2 e=>by
   simp only [g] at e
   split at e
   ·split at e
    ·exact hi i j (by omega) (by omega) (by omega)
    ·have:=hi M j (by omega) (by omega) e;omega
   ·split at e
    ·have:=hi i M (by omega) (by omega) e;omega
    ·exact hi i j (by omega) (by omega) e
  by_cases h:y=f M
  ·exact ⟨M,by omega,h.symm⟩
  ·by_cases h1:y=M
   ·obtain ⟨x,hx,e⟩:=inj_surj M g hg hgi (f M) (by omega)
    simp only [g] at e
    split at e
    ·exact ⟨x,by omega,by omega⟩
    ·have:=hi x M (by omega) (by omega) e;omega
   ·obtain ⟨x,hx,e⟩:=inj_surj M g hg hgi y (by omega)
    simp only [g] at e
    split at e
    ·exact absurd e.symm h
    ·exact ⟨x,by omega,e⟩
def comb (r:Nat→Nat)(c:Nat→Bool):Nat→Nat
 |0=>0
 |k+1=>comb r c k ^^^ (bif c k then r k else 0)
theorem comb_lt {r:Nat→Nat}{c:Nat→Bool}{m:Nat}:∀ k,k≤m→(∀ j,j<m→r j<2 ^ m)→comb r c k<2 ^ m
 |0,_,_=>Nat.two_pow_pos m
 |k+1,hk,h=>by
  simp only [comb]
  refine Nat.xor_lt_two_pow (comb_lt k (by omega) h) ?_
  cases c k
  ·exact Nat.two_pow_pos m
  ·exact h k (by omega)
theorem comb_dual {b:Nat→Bool}{r:Nat→Nat}{c:Nat→Bool}{i m:Nat}(h0:b 0=false)(hx:∀ x y,b (x ^^^ y)=(b x ^^ b y))(hd:∀ j,j<m→b (r j)=decide (i=j)) :
  ∀ k,k≤m→b (comb r c k)=(decide (i<k)&&c i)
 |0,_=>by simp [comb,h0]
 |k+1,hk=>by
  simp only [comb,hx,comb_dual h0 hx hd k (by omega)]
  have e:b (bif c k then r k else 0)=(c k&&decide (i=k)):=by
   cases hc:c k
   ·simpa using h0
   ·simpa using hd k (by omega)
  rw [e]
  by_cases h1:i=k
  ·subst h1;simp
  ·have:decide (i<k+1)=decide (i<k):=by
    apply decide_eq_decide.2;omega
   simp [h1,this]
theorem comb_congr {r:Nat→Nat}{c c':Nat→Bool}:∀ k,(∀ j,j<k→c j=c' j)→comb r c k=comb r c' k
 |0,_=>rfl
 |k+1,h=>by simp only [comb];rw [comb_congr k (fun j hj=>h j (by omega)),h k (by omega)]
theorem dual_basis {m:Nat}{r:Nat→Nat}{b:Nat→Nat→Bool}(h0:∀ i,i<m→b i 0=false)(hx:∀ i,i<m→∀ x y,b i (x ^^^ y)=(b i x ^^ b i y))(hd:∀ i j,i<m→j<m→b i (r j)=decide (i=j))
  (hr:∀ j,j<m→r j<2 ^ m) {v:Nat} (hv:v<2 ^ m):comb r (fun j=>b j v) m=v:=by
 have hb:∀ i,i<m→∀ c,b i (comb r c m)=c i:=fun i hi c=>by
  rw [comb_dual (h0 i hi) (hx i hi) (fun j hj=>hd i j hi hj) m (Nat.le_refl _)];simp [hi]
 obtain ⟨x,hx1,hx2⟩:=inj_surj (2 ^ m) (fun x=>comb r (fun j=>x.testBit j) m) (fun i _=>comb_lt m (Nat.le_refl _) hr) (fun x y h1 h2 e=>by
  apply Nat.eq_of_testBit_eq
  intro i
  by_cases hi:i<m
  ·have e1:=hb i hi (fun j=>x.testBit j)
   have e2:=hb i hi (fun j=>y.testBit j)
   rw [e,e2] at e1
   exact e1.symm
  ·have h3:2 ^ m≤2 ^ i:=Nat.pow_le_pow_right (by omega) (by omega)
   rw [Nat.testBit_lt_two_pow (by omega),Nat.testBit_lt_two_pow (by omega)]) v hv
 subst hx2
 apply comb_congr
 intro j hj
 exact hb j hj _
def om (x z x' z':Nat):Bool:=decide (popN ((x &&& z') ^^^ (z &&& x')) % 2=1)
theorem pop_xor' (a b:Nat):popN (a ^^^ b) % 2=(popN a+popN b) % 2:=by
 have h1:a<2 ^ (a+b):=Nat.lt_of_lt_of_le Nat.lt_two_pow_self (Nat.pow_le_pow_right (by omega) (by omega))
 have h2:b<2 ^ (a+b):=Nat.lt_of_lt_of_le Nat.lt_two_pow_self (Nat.pow_le_pow_right (by omega) (by omega))
 exact pop_xor (a+b) a b h1 h2
theorem and_xor_l (a b c:Nat):a &&& (b ^^^ c)=(a &&& b) ^^^ (a &&& c):=by
 apply Nat.eq_of_testBit_eq
 intro i
 simp only [Nat.testBit_and,Nat.testBit_xor]
 cases a.testBit i<;>cases b.testBit i<;>cases c.testBit i<;>rfl
theorem om_xor (x z a b c d:Nat):om x z (a ^^^ c) (b ^^^ d)=(om x z a b ^^ om x z c d):=by
 unfold om
 have e:(x &&& (b ^^^ d)) ^^^ (z &&& (a ^^^ c))=((x &&& b) ^^^ (z &&& a)) ^^^ ((x &&& d) ^^^ (z &&& c)):=by
  rw [and_xor_l,and_xor_l]
  ac_rfl
 rw [e]
 have h:=pop_xor' ((x &&& b) ^^^ (z &&& a)) ((x &&& d) ^^^ (z &&& c))
 generalize popN ((x &&& b) ^^^ (z &&& a))=u at *
 generalize popN ((x &&& d) ^^^ (z &&& c))=w at *
 rw [h,Bool.eq_iff_iff]
 simp only [decide_eq_true_eq,bne_iff_ne,ne_eq,decide_eq_decide]
 omega
theorem om_comm (x z a b:Nat):om x z a b=om a b x z:=by
 unfold om
 rw [show (x &&& b) ^^^ (z &&& a)=(a &&& z) ^^^ (b &&& x) from by rw [Nat.and_comm x b,Nat.and_comm z a,Nat.xor_comm]]
theorem om_zero (x z:Nat):om x z 0 0=false:=by simp [om,popN]
theorem enc_mod (n x z:Nat)(hx:x<2 ^ n):(x+2 ^ n*z) % 2 ^ n=x:=by
 rw [Nat.add_mul_mod_self_left,Nat.mod_eq_of_lt hx]
theorem enc_div (n x z:Nat)(hx:x<2 ^ n):(x+2 ^ n*z) / 2 ^ n=z:=by
 rw [Nat.add_mul_div_left _ _ (Nat.two_pow_pos n),Nat.div_eq_of_lt hx,Nat.zero_add]
theorem enc_lt (n x z:Nat)(hx:x<2 ^ n)(hz:z<2 ^ n):x+2 ^ n*z<2 ^ (n+n):=by
 rw [Nat.pow_add]
 have:=Nat.mul_le_mul_left (2 ^ n) (Nat.succ_le_of_lt hz)
 rw [Nat.mul_succ] at this
 omega
theorem xor_div (n a b:Nat):(a ^^^ b) / 2 ^ n=(a / 2 ^ n) ^^^ (b / 2 ^ n):=by
 rw [← Nat.shiftRight_eq_div_pow,← Nat.shiftRight_eq_div_pow,← Nat.shiftRight_eq_div_pow,Nat.shiftRight_xor_distrib]
theorem comb_mod (n:Nat)(r:Nat→Nat)(c:Nat→Bool):∀ k,comb r c k % 2 ^ n=comb (fun j=>r j % 2 ^ n) c k
 |0=>by simp [comb]
 |k+1=>by
  simp only [comb]
  rw [Nat.xor_mod_two_pow,comb_mod n r c k]
  cases c k<;>simp
theorem comb_div (n:Nat)(r:Nat→Nat)(c:Nat→Bool):∀ k,comb r c k / 2 ^ n=comb (fun j=>r j / 2 ^ n) c k
 |0=>by simp [comb]
 |k+1=>by
  simp only [comb]
  rw [xor_div,comb_div n r c k]
  cases c k<;>simp
theorem comb_off (r:Nat→Nat)(c:Nat→Bool)(n:Nat):∀ k,(∀ j,n≤j→j<n+k→c j=false)→comb r c (n+k)=comb r c n
 |0,_=>rfl
 |k+1,h=>by
  rw [show n+(k+1)=(n+k)+1 from rfl]
  simp only [comb]
  rw [comb_off r c n k (fun j h1 h2=>h j h1 (by omega)),h (n+k) (by omega) (by omega)]
  simp
theorem comb_same {r r':Nat→Nat}{c:Nat→Bool}:∀ k,(∀ j,j<k→r j=r' j)→comb r c k=comb r' c k
 |0,_=>rfl
 |k+1,h=>by simp only [comb];rw [comb_same k (fun j hj=>h j (by omega)),h k (by omega)]
theorem span_stab {n:Nat}{sx sz dx dz:Nat→Nat}(b1:∀ i,i<n→sx i<2 ^ n)(b2:∀ i,i<n→sz i<2 ^ n)(b3:∀ i,i<n→dx i<2 ^ n)(b4:∀ i,i<n→dz i<2 ^ n)
  (hss:∀ i j,i<n→j<n→om (sx i) (sz i) (sx j) (sz j)=false) (hdd:∀ i j,i<n→j<n→om (dx i) (dz i) (dx j) (dz j)=false)
  (hds:∀ i j,i<n→j<n→om (dx i) (dz i) (sx j) (sz j)=decide (i=j)) {x z:Nat} (hx:x<2 ^ n) (hz:z<2 ^ n) (hc:∀ i,i<n→om (sx i) (sz i) x z=false) :
  comb sx (fun j=>om (dx j) (dz j) x z) n=x∧comb sz (fun j=>om (dx j) (dz j) x z) n=z:=by
 let r:Nat→Nat:=fun j=>if j<n then sx j+2 ^ n*sz j else dx (j-n)+2 ^ n*dz (j-n)
 let b:Nat→Nat→Bool:=fun j v=>if j<n then om (dx j) (dz j) (v % 2 ^ n) (v / 2 ^ n) else om (sx (j-n)) (sz (j-n)) (v % 2 ^ n) (v / 2 ^ n)
 have r1:∀ j,j<n→r j % 2 ^ n=sx j∧r j / 2 ^ n=sz j:=fun j h=>by
  simp only [r,if_pos h];exact ⟨enc_mod n _ _ (b1 j h),enc_div n _ _ (b1 j h)⟩
 have r2:∀ j,j<n→r (n+j) % 2 ^ n=dx j∧r (n+j) / 2 ^ n=dz j:=fun j h=>by
  simp only [r,if_neg (show ¬ n+j<n by omega),Nat.add_sub_cancel_left];exact ⟨enc_mod n _ _ (b3 j h),enc_div n _ _ (b3 j h)⟩
 have c1:∀ j v,j<n→b j v=om (dx j) (dz j) (v % 2 ^ n) (v / 2 ^ n):=fun j v h=>by simp only [b,if_pos h]
 have c2:∀ j v,j<n→b (n+j) v=om (sx j) (sz j) (v % 2 ^ n) (v / 2 ^ n):=fun j v h=>by simp only [b,if_neg (show ¬ n+j<n by omega),Nat.add_sub_cancel_left]
 have two:∀ j,j<n+n→j<n∨∃ i,i<n∧j=n+i:=fun j h=>by
  by_cases h1:j<n
  ·exact .inl h1
  ·exact .inr ⟨j-n,by omega,by omega⟩
 have key:=dual_basis (m:=n+n) (r:=r) (b:=b) (fun i hi=>by
   rcases two i hi with h|⟨i,h,rfl⟩
   ·rw [c1 i _ h,Nat.zero_mod,Nat.zero_div,om_zero]
   ·rw [c2 i _ h,Nat.zero_mod,Nat.zero_div,om_zero])
  (fun i hi v w=>by
   rcases two i hi with h|⟨i,h,rfl⟩
   ·rw [c1 i _ h,c1 i _ h,c1 i _ h,Nat.xor_mod_two_pow,xor_div,om_xor]
   ·rw [c2 i _ h,c2 i _ h,c2 i _ h,Nat.xor_mod_two_pow,xor_div,om_xor])
  (fun i j hi hj=>by
   rcases two i hi with h|⟨i,h,rfl⟩<;>rcases two j hj with h' | ⟨j,h',rfl⟩
   ·rw [c1 i _ h,(r1 j h').1,(r1 j h').2,hds i j h h']
   ·rw [c1 i _ h,(r2 j h').1,(r2 j h').2,hdd i j h h']
    exact (decide_eq_false (by omega)).symm
   ·rw [c2 i _ h,(r1 j h').1,(r1 j h').2,hss i j h h']
    exact (decide_eq_false (by omega)).symm
   ·rw [c2 i _ h,(r2 j h').1,(r2 j h').2,om_comm,hds j i h' h]
    apply decide_eq_decide.2;omega)
  (fun j hj=>by
   rcases two j hj with h|⟨j,h,rfl⟩
   ·simp only [r,if_pos h];exact enc_lt n _ _ (b1 j h) (b2 j h)
   ·simp only [r,if_neg (show ¬ n+j<n by omega),Nat.add_sub_cancel_left];exact enc_lt n _ _ (b3 j h) (b4 j h))
  (enc_lt n x z hx hz)
 have e1:=enc_mod n x z hx
 have e2:=enc_div n x z hx
 rw [comb_off r _ n n (fun j h1 h2=>by
  obtain ⟨i,rfl⟩:∃ i,j=n+i:=⟨j-n,by omega⟩
  rw [c2 i _ (by omega),e1,e2,hc i (by omega)])] at key
 rw [comb_congr (c':=fun j=>om (dx j) (dz j) x z) n (fun j hj=>by rw [c1 j _ hj,e1,e2])] at key
 have k1:=comb_mod n r (fun j=>om (dx j) (dz j) x z) n
 have k2:=comb_div n r (fun j=>om (dx j) (dz j) x z) n
 rw [key,e1] at k1
 rw [key,e2] at k2
 exact ⟨(comb_same n fun j hj=>((r1 j hj).1).symm).trans k1.symm,(comb_same n fun j hj=>((r1 j hj).2).symm).trans k2.symm⟩
end Go.Proofs.YtogkkamlmklpkaaDoor.Ab
/- Plain Lean: the power of i in a product of strings. -/
set_option linter.unusedVariables false
set_option linter.unusedSimpArgs false
namespace Go.Proofs.YtogkkamlmklpkaaDoor.Ab
def pw (a b c d:Nat):Nat:=
 if a % 2=0∧b % 2=0∨c % 2=0∧d % 2=0∨a % 2=c % 2∧b % 2=d % 2 then 0
 else if a % 2=1∧b % 2=0∧c % 2=1∧d % 2=1∨a % 2=1∧b % 2=1∧c % 2=0∧d % 2=1∨a % 2=0∧b % 2=1∧c % 2=1∧d % 2=0 then 1 else 3
def ps:Nat→Nat→Nat→Nat→Nat→Nat
 |0,_,_,_,_=>0
 |k+1,a,b,c,d=>pw a b c d+ps k (a / 2) (b / 2) (c / 2) (d / 2)
theorem pw_turn (a b c d:Nat):(pw a b c d+pw c d a b) % 4=0:=by
 have h1:=Nat.mod_two_eq_zero_or_one a
 have h2:=Nat.mod_two_eq_zero_or_one b
 have h3:=Nat.mod_two_eq_zero_or_one c
 have h4:=Nat.mod_two_eq_zero_or_one d
 rcases h1 with h1|h1<;>rcases h2 with h2|h2<;>rcases h3 with h3|h3<;>rcases h4 with h4|h4<;>simp [pw,h1,h2,h3,h4]
theorem ps_turn:∀ (k a b c d:Nat),(ps k a b c d+ps k c d a b) % 4=0
 |0,_,_,_,_=>rfl
 |k+1,a,b,c,d=>by
  have h1:=pw_turn a b c d
  have h2:=ps_turn k (a / 2) (b / 2) (c / 2) (d / 2)
  simp only [ps]
  omega
theorem pw_zero (a b c d:Nat)(h:a % 2=0∧b % 2=0∨c % 2=0∧d % 2=0):pw a b c d=0:=by
 unfold pw
 rw [if_pos]
 rcases h with h|h
 ·exact .inl h
 ·exact .inr (.inl h)
theorem ps_over:∀ (k j a b c d:Nat),a<2 ^ k→b<2 ^ k→ps (k+j) a b c d=ps k a b c d
 |0,0,_,_,_,_,_,_=>rfl
 |0,j+1,a,b,c,d,h1,h2=>by
  have:a=0:=by simpa using h1
  have:b=0:=by simpa using h2
  subst a b
  have:=ps_over 0 j 0 0 (c / 2) (d / 2) (by simp) (by simp)
  rw [show 0+(j+1)=(0+j)+1 from rfl]
  simp only [ps] at this ⊢
  rw [pw_zero 0 0 c d (.inl ⟨rfl,rfl⟩)]
  simpa using this
 |k+1,j,a,b,c,d,h1,h2=>by
  rw [Nat.pow_succ] at h1 h2
  rw [show k+1+j=(k+j)+1 from by omega]
  simp only [ps]
  rw [ps_over k j (a / 2) (b / 2) (c / 2) (d / 2) (by omega) (by omega)]
theorem ps_last:∀ (k a b c d:Nat),ps (k+1) a b c d=ps k a b c d+pw (a / 2 ^ k) (b / 2 ^ k) (c / 2 ^ k) (d / 2 ^ k)
 |0,a,b,c,d=>by simp [ps]
 |k+1,a,b,c,d=>by
  have h:=ps_last k (a / 2) (b / 2) (c / 2) (d / 2)
  have e:∀ x:Nat,x / 2 / 2 ^ k=x / 2 ^ (k+1):=fun x=>by rw [Nat.div_div_eq_div_mul,Nat.pow_succ,Nat.mul_comm]
  rw [ps,h,ps,e,e,e,e]
  omega
def ss (g:Nat→Nat):Nat→Nat→Nat→Nat
 |0,_,_=>0
 |k+1,q,x=>(if x % 2=1 then g q else 0)+ss g k (q+1) (x / 2)
theorem low_bit:∀ (k x:Nat),0<x→x<2 ^ k→∃ i m,i<k∧x=2 ^ i*(2*m+1)
 |0,x,h1,h2=>by simp at h2;omega
 |k+1,x,h1,h2=>by
  rw [Nat.pow_succ] at h2
  by_cases h:x % 2=1
  ·exact ⟨0,x / 2,by omega,by omega⟩
  ·obtain ⟨i,m,hi,e⟩:=low_bit k (x / 2) (by omega) (by omega)
   refine ⟨i+1,m,by omega,?_⟩
   rw [Nat.pow_succ,Nat.mul_right_comm,← e]
   omega
theorem ss_low (g:Nat→Nat):∀ (k q i m:Nat),i<k→ss g k q (2 ^ i*(2*m+1))=g (q+i)+ss g k q (2 ^ (i+1)*m)
 |0,_,_,_,h=>absurd h (by omega)
 |k+1,q,0,m,h=>by
  simp only [ss]
  rw [if_pos (by omega),if_neg (by omega)]
  rw [show 2 ^ 0*(2*m+1) / 2=m from by omega,show 2 ^ (0+1)*m / 2=m from by omega,show g (q+0)=g q from rfl]
  omega
 |k+1,q,i+1,m,h=>by
  have ih:=ss_low g k (q+1) i m (by omega)
  have e1:2 ^ (i+1)*(2*m+1)=2*(2 ^ i*(2*m+1)):=by rw [Nat.pow_succ,Nat.mul_comm (2 ^ i) 2,Nat.mul_assoc]
  have e2:2 ^ (i+1+1)*m=2*(2 ^ (i+1)*m):=by rw [Nat.pow_succ,Nat.mul_comm (2 ^ (i+1)) 2,Nat.mul_assoc]
  rw [e1,e2]
  simp only [ss]
  rw [if_neg (by omega),if_neg (by omega),Nat.mul_div_cancel_left _ (by decide),Nat.mul_div_cancel_left _ (by decide),ih]
  rw [show q+1+i=q+(i+1) from by omega]
  omega
theorem ss_zero (g:Nat→Nat):∀ (k q:Nat),ss g k q 0=0
 |0,_=>rfl
 |k+1,q=>by simp only [ss];rw [ss_zero g k (q+1)];rfl
theorem and_pred:∀ (i m:Nat),(2 ^ i*(2*m+1)) &&& (2 ^ i*(2*m+1)-1)=2 ^ (i+1)*m
 |0,m=>by
  have e1:(2 ^ 0*(2*m+1))=2*m+1:=by omega
  rw [e1,Nat.add_sub_cancel]
  have h1:((2*m+1) &&& (2*m)) / 2=m:=by
   rw [Nat.and_div_two,show (2*m+1) / 2=m from by omega,show 2*m / 2=m from by omega,Nat.and_self]
  have h2:((2*m+1) &&& (2*m)) % 2=0:=by
   have e:=Nat.testBit_and (2*m+1) (2*m) 0
   simp only [Nat.testBit_zero] at e
   have h5:=Nat.mod_two_eq_zero_or_one ((2*m+1) &&& (2*m))
   rcases h5 with h5|h5
   ·exact h5
   ·simp [h5] at e
  rw [show 2 ^ (0+1)=2 from rfl]
  omega
 |i+1,m=>by
  have ih:=and_pred i m
  have hp:0<2 ^ i*(2*m+1):=Nat.mul_pos (Nat.two_pow_pos i) (by omega)
  have e1:2 ^ (i+1)*(2*m+1)=2*(2 ^ i*(2*m+1)):=by rw [Nat.pow_succ,Nat.mul_comm (2 ^ i) 2,Nat.mul_assoc]
  have e2:2 ^ (i+1+1)*m=2*(2 ^ (i+1)*m):=by rw [Nat.pow_succ,Nat.mul_comm (2 ^ (i+1)) 2,Nat.mul_assoc]
  rw [e1,e2]
  generalize 2 ^ i*(2*m+1)=y at *
  have h1:((2*y) &&& (2*y-1)) / 2=y &&& (y-1):=by
   rw [Nat.and_div_two,show 2*y / 2=y from by omega,show (2*y-1) / 2=y-1 from by omega]
  have h2:((2*y) &&& (2*y-1)) % 2=0:=by
   have e:=Nat.testBit_and (2*y) (2*y-1) 0
   simp only [Nat.testBit_zero] at e
   have h5:=Nat.mod_two_eq_zero_or_one ((2*y) &&& (2*y-1))
   rcases h5 with h5|h5
   ·exact h5
   ·simp [h5] at e
  omega
theorem bth_mod (a b c d:Nat):((a ||| b) &&& (c ||| d)) % 2=1∨pw a b c d=0:=by
 have e:=Nat.testBit_and (a ||| b) (c ||| d) 0
 rw [Nat.testBit_or,Nat.testBit_or] at e
 simp only [Nat.testBit_zero] at e
 have h1:=Nat.mod_two_eq_zero_or_one a
 have h2:=Nat.mod_two_eq_zero_or_one b
 have h3:=Nat.mod_two_eq_zero_or_one c
 have h4:=Nat.mod_two_eq_zero_or_one d
 have h5:=Nat.mod_two_eq_zero_or_one ((a ||| b) &&& (c ||| d))
 rcases h1 with h1|h1<;>rcases h2 with h2|h2<;>rcases h3 with h3|h3<;>rcases h4 with h4|h4<;>rcases h5 with h5|h5<;>simp [pw,h1,h2,h3,h4,h5] at e ⊢
theorem or_div_two' (a b:Nat):(a ||| b) / 2=a / 2 ||| b / 2:=by
 have e:∀ x:Nat,x / 2=x >>> 1:=fun x=>by rw [Nat.shiftRight_eq_div_pow]
 rw [e,e,e,Nat.shiftRight_or_distrib]
theorem ps_ss (A B C D:Nat):∀ (k q:Nat),ps k (A / 2 ^ q) (B / 2 ^ q) (C / 2 ^ q) (D / 2 ^ q)=ss (fun q=>pw (A / 2 ^ q) (B / 2 ^ q) (C / 2 ^ q) (D / 2 ^ q)) k q ((A / 2 ^ q ||| B / 2 ^ q) &&& (C / 2 ^ q ||| D / 2 ^ q))
 |0,_=>rfl
 |k+1,q=>by
  have ih:=ps_ss A B C D k (q+1)
  have e:∀ x:Nat,x / 2 ^ q / 2=x / 2 ^ (q+1):=fun x=>by rw [Nat.div_div_eq_div_mul,Nat.pow_succ]
  simp only [ps,ss]
  rw [Nat.and_div_two,or_div_two',or_div_two',e,e,e,e,ih]
  congr 1
  rcases bth_mod (A / 2 ^ q) (B / 2 ^ q) (C / 2 ^ q) (D / 2 ^ q) with h|h
  ·rw [if_pos h]
  ·rw [h];split<;>rfl
def omv (v w:Nat×Nat):Bool:=om v.1 v.2 w.1 w.2
theorem omv_comm (v w:Nat×Nat):omv v w=omv w v:=om_comm ..
structure Sym (n:Nat) (s d:Nat→Nat×Nat):Prop where
 ss:∀ i j,i<n→j<n→omv (s i) (s j)=false
 dd:∀ i j,i<n→j<n→omv (d i) (d j)=false
 ds:∀ i j,i<n→j<n→omv (d i) (s j)=decide (i=j)
theorem and_mod2 (a b:Nat)(h:a % 2=0∨b % 2=0):(a &&& b) % 2=0:=by
 have e:=Nat.testBit_and a b 0
 simp only [Nat.testBit_zero] at e
 have h5:=Nat.mod_two_eq_zero_or_one (a &&& b)
 rcases h5 with h5|h5
 ·exact h5
 ·rcases h with h|h<;>simp [h5,h] at e
theorem and_odd (a b:Nat)(h1:a % 2=1)(h2:b % 2=1):(a &&& b) % 2=1:=by
 have e:=Nat.testBit_and a b 0
 simp only [Nat.testBit_zero] at e
 have h5:=Nat.mod_two_eq_zero_or_one (a &&& b)
 rcases h5 with h5|h5
 ·simp [h5,h1,h2] at e
 ·exact h5
theorem and_comp:∀ (k m:Nat),m<2 ^ k→m &&& (2 ^ k-1-m)=0
 |0,m,h=>by
  have:m=0:=by simpa using h
  subst this;rfl
 |k+1,m,h=>by
  rw [Nat.pow_succ] at h ⊢
  have ih:=and_comp k (m / 2) (by omega)
  have h1:(m &&& (2 ^ k*2-1-m)) / 2=0:=by
   rw [Nat.and_div_two,show (2 ^ k*2-1-m) / 2=2 ^ k-1-m / 2 from by omega,ih]
  have h2:(m &&& (2 ^ k*2-1-m)) % 2=0:=and_mod2 _ _ (by omega)
  omega
theorem and_neg:∀ (i k m:Nat),2 ^ i*(2*m+1)<2 ^ k→(2 ^ i*(2*m+1)) &&& (2 ^ k-2 ^ i*(2*m+1))=2 ^ i
 |0,0,m,h=>by simp at h
 |0,k+1,m,h=>by
  rw [Nat.pow_succ] at h ⊢
  have e1:(2 ^ 0*(2*m+1))=2*m+1:=by omega
  rw [e1] at h ⊢
  have hc:=and_comp k m (by omega)
  have h1:((2*m+1) &&& (2 ^ k*2-(2*m+1))) / 2=0:=by
   rw [Nat.and_div_two,show (2*m+1) / 2=m from by omega,show (2 ^ k*2-(2*m+1)) / 2=2 ^ k-1-m from by omega,hc]
  have h2:((2*m+1) &&& (2 ^ k*2-(2*m+1))) % 2=1:=and_odd _ _ (by omega) (by omega)
  rw [Nat.pow_zero]
  omega
 |i+1,0,m,h=>by
  have hp:0<2 ^ (i+1)*(2*m+1):=Nat.mul_pos (Nat.two_pow_pos _) (by omega)
  simp only [Nat.pow_zero] at h
  omega
 |i+1,k+1,m,h=>by
  have hp:0<2 ^ i*(2*m+1):=Nat.mul_pos (Nat.two_pow_pos i) (by omega)
  have e1:2 ^ (i+1)*(2*m+1)=2*(2 ^ i*(2*m+1)):=by rw [Nat.pow_succ,Nat.mul_comm (2 ^ i) 2,Nat.mul_assoc]
  rw [e1,Nat.pow_succ] at h
  have ih:=and_neg i k m (by omega)
  rw [e1,Nat.pow_succ 2 k,Nat.pow_succ 2 i]
  generalize 2 ^ i*(2*m+1)=y at *
  have h1:((2*y) &&& (2 ^ k*2-2*y)) / 2=y &&& (2 ^ k-y):=by
   rw [Nat.and_div_two,show 2*y / 2=y from by omega,show (2 ^ k*2-2*y) / 2=2 ^ k-y from by omega]
  have h2:((2*y) &&& (2 ^ k*2-2*y)) % 2=0:=and_mod2 _ _ (by omega)
  omega
end Go.Proofs.YtogkkamlmklpkaaDoor.Ab
/- Plain law: what the single functions on strings come to. No condition: lemmas only. -/
set_option maxRecDepth 100000
set_option linter.unusedVariables false
set_option linter.unusedSimpArgs false
namespace Go.Proofs.YtogkkamlmklpkaaDoor.Ab
open Go
theorem wrap_id {n:Int}(h:-9223372036854775808≤n∧n<9223372036854775808):IntKind.i64.wrap n=n:=wrap_of ⟨by omega,by omega⟩
theorem popN_64 (x:BitVec 64):popN x.toNat≤64:=popN_le 64 _ (by have:=x.isLt;simpa using this)
theorem P_ones (x:BitVec 64):Pbits_OnesCount64 x=(popN x.toNat:Int):=by
 rw [← ones_pop];rfl
def part (p q:Pl):Bool:=om p.X.toNat p.Z.toNat q.X.toNat q.Z.toNat
theorem P_commute (p q:Pl):Ptb_commute p.N p.X p.Z p.Ph q.N q.X q.Z q.Ph = !part p q:=by
 unfold Ptb_commute part om
 have l1:=popN_64 (p.X &&& q.Z)
 have l2:=popN_64 (p.Z &&& q.X)
 rw [P_ones,P_ones,wrap_id ⟨by omega,by omega⟩]
 have hx:=pop_xor 64 (p.X &&& q.Z).toNat (p.Z &&& q.X).toNat (p.X &&& q.Z).isLt (p.Z &&& q.X).isLt
 rw [BitVec.toNat_and,BitVec.toNat_and] at *
 generalize popN ((p.X.toNat &&& q.Z.toNat) ^^^ (p.Z.toNat &&& q.X.toNat))=a at *
 generalize popN (p.X.toNat &&& q.Z.toNat)=b at *
 generalize popN (p.Z.toNat &&& q.X.toNat)=c at *
 rw [← Int.natCast_add,Int.tmod_eq_emod_of_nonneg (by omega),← decide_not]
 congr 1
 apply propext
 omega
theorem P_check (p:Pl):Ppauli_Check p.N p.X p.Z p.Ph=if p.ok=true then 0 else 130:=by
 unfold Ppauli_Check Pl.ok
 by_cases h1:p.N<0
 ·rw [if_pos h1,decide_eq_false (by omega:¬ 0≤p.N)];rfl
 ·rw [if_neg h1,decide_eq_true (by omega:0≤p.N)]
  by_cases h2:p.N>64
  ·rw [if_pos h2,decide_eq_false (by omega:¬ p.N≤64)];rfl
  ·rw [if_neg h2,decide_eq_true (by omega:p.N≤64)]
   by_cases h3:p.Ph<0
   ·rw [if_pos h3,decide_eq_false (by omega:¬ 0≤p.Ph)];rfl
   ·rw [if_neg h3,decide_eq_true (by omega:0≤p.Ph)]
    by_cases h4:p.Ph>3
    ·rw [if_pos h4,decide_eq_false (by omega:¬ p.Ph≤3)];rfl
    ·rw [if_neg h4,decide_eq_true (by omega:p.Ph≤3)]
     by_cases h5:p.N<64
     ·rw [if_pos h5,decide_eq_false (by omega:¬ ¬ p.N<64)]
      by_cases h6:(p.X ||| p.Z) >>> p.N.toNat=0#64
      ·rw [if_pos h6,decide_eq_true h6];rfl
      ·rw [if_neg h6,decide_eq_false h6];rfl
     ·rw [if_neg h5,decide_eq_true h5];rfl
theorem P_right (p:Pl):Ppauli_right p.N p.X p.Z p.Ph=p.ok:=by
 unfold Ppauli_right
 rw [P_check]
 cases p.ok<;>rfl
def Pl.herm (p:Pl):Bool:=p.ok&&decide (p.Ph % 2=0)
theorem Pl.ok_ph {p:Pl}(h:p.ok=true):0≤p.N∧p.N≤64∧0≤p.Ph∧p.Ph≤3:=by
 unfold Pl.ok at h
 simp only [Bool.and_eq_true,decide_eq_true_eq] at h
 obtain ⟨⟨⟨⟨h1,h2⟩,h3⟩,h4⟩,_⟩:=h
 exact ⟨h1,h2,h3,h4⟩
theorem P_herm (p:Pl):Ppauli_Hermitian p.N p.X p.Z p.Ph=p.herm:=by
 unfold Ppauli_Hermitian Pl.herm
 rw [P_right]
 cases h:p.ok with
 |false=>rfl
 |true=>
  obtain ⟨_,_,h3,h4⟩:=Pl.ok_ph h
  rw [cond_true,Bool.true_and,Int.tmod_eq_emod_of_nonneg h3]
theorem R_bit (x:BitVec 64)(q:Int):Pref13_bit x q=(bitAt x q).toInt:=rfl
theorem clrL (N Ph:Int)(X Z:BitVec 64):∀ (f:Nat) (q:Int),0≤q→q≤64→65≤q+f→Pref13_RightL0 N X Z Ph f q=some (bif clr X Z f q then .inr () else .inl ())
 |0,q,h0,h1,h=>by omega
 |f+1,q,h0,hl,h=>by
  simp only [Pref13_RightL0,clr]
  by_cases hq:q<64
  ·rw [if_pos hq,decide_eq_false (by omega:¬ 64≤q),Bool.false_or]
   rw [R_bit,R_bit]
   unfold isOne
   by_cases h1:(bitAt X q).toInt=1
   ·rw [if_pos h1,decide_eq_true h1];rfl
   ·rw [if_neg h1,decide_eq_false h1]
    by_cases h2:(bitAt Z q).toInt=1
    ·rw [if_pos h2,decide_eq_true h2];rfl
    ·rw [if_neg h2,decide_eq_false h2,wrap_id ⟨by omega,by omega⟩,clrL N Ph X Z f (q+1) (by omega) (by omega) (by omega)]
     rfl
  ·rw [if_neg hq,decide_eq_true (by omega:64≤q)];rfl
theorem R_right (F:Nat)(hF:65≤F)(p:Pl):Pref13_Right F p.N p.X p.Z p.Ph=some p.ok:=by
 rw [← okR_eq p F (by omega)]
 unfold Pref13_Right Pl.okR
 by_cases h1:p.N<0
 ·rw [if_pos h1,decide_eq_false (by omega:¬ 0≤p.N)];rfl
 ·rw [if_neg h1,decide_eq_true (by omega:0≤p.N)]
  by_cases h2:p.N>64
  ·rw [if_pos h2,decide_eq_false (by omega:¬ p.N≤64)];rfl
  ·rw [if_neg h2,decide_eq_true (by omega:p.N≤64)]
   by_cases h3:p.Ph<0
   ·rw [if_pos h3,decide_eq_false (by omega:¬ 0≤p.Ph)];rfl
   ·rw [if_neg h3,decide_eq_true (by omega:0≤p.Ph)]
    by_cases h4:p.Ph>3
    ·rw [if_pos h4,decide_eq_false (by omega:¬ p.Ph≤3)];rfl
    ·rw [if_neg h4,decide_eq_true (by omega:p.Ph≤3),clrL _ _ _ _ _ _ (by omega) (by omega) (by omega)]
     cases clr p.X p.Z F p.N<;>rfl
def one (N:Int)(p:Pl):Bool:=decide (p.N=N)&&p.herm
def allFrom (P:Nat→Bool):Nat→Nat→Bool
 |0,_=>true
 |m+1,j=>P j&&allFrom P m (j+1)
theorem allFrom_iff {P:Nat→Bool}:∀ {m j:Nat},allFrom P m j=true↔∀ k,j≤k→k<j+m→P k=true
 |0,j=>⟨fun _ k h1 h2=>by omega,fun _=>rfl⟩
 |m+1,j=>by
  simp only [allFrom,Bool.and_eq_true,allFrom_iff (m:=m) (j:=j+1)]
  refine ⟨fun ⟨a,b⟩ k h1 h2=>?_,fun h=>⟨h j (by omega) (by omega),fun k h1 h2=>h k (by omega) (by omega)⟩⟩
  by_cases e:k=j
  ·subst e;exact a
  ·exact b k (by omega) (by omega)
def two (S D:List Pl)(i j:Nat):Bool:=match S[i]?,S[j]?,D[i]?,D[j]? with
 |some a,some b,some c,some e=>!part a b && !part c e&&(part c b==decide (i=j))
 |_,_,_,_=>false
def oneAt (N:Int)(S D:List Pl)(i:Nat):Bool:=match S[i]?,D[i]? with
 |some p,some q=>one N p&&one N q
 |_,_=>false
def chk (N:Int)(S D:List Pl):Bool:=decide (0≤N)&&decide (N≤64)&&decide ((S.length:Int)=N)&&decide ((D.length:Int)=N) &&
 (allFrom (oneAt N S D) N.toNat 0&&allFrom (fun i=>allFrom (two S D i) N.toNat 0) N.toNat 0)
theorem idx_lt {l:List Pl}{i:Nat}(h:i<l.length):idx l (i:Int)=some l[i]:=by rw [idx_nat,List.getElem?_eq_getElem h]
theorem PC0 (v0 v1 N:Int)(S D:List Pl)(p q:Pl):∀ F,3≤F→Ptb_CheckL0 v0 v1 2 N S D p.N p.X p.Z p.Ph q.N q.X q.Z q.Ph F 0=some (bif one N p&&one N q then .inr () else .inl ())
 |F+3,_=>by
  have w1:IntKind.i64.wrap (0+1)=1:=rfl
  have w2:IntKind.i64.wrap (1+1)=2:=rfl
  simp only [Ptb_CheckL0,P_herm,one,w1,w2]
  by_cases h1:p.N=N
  ·by_cases h2:q.N=N
   ·cases p.herm<;>cases q.herm<;>simp [h1,h2]
   ·cases p.herm<;>simp [h1,h2]
  ·simp [h1]
theorem PC1 (F:Nat)(hF:3≤F)(N:Int)(S D:List Pl)(n:Nat)(hn:n<1000)(hN:N=n)(hS:S.length=n)(hD:D.length=n):∀ (f m i:Nat),i+m=n→m<f→Ptb_CheckL1 F N N S D f (i:Int)=some (bif allFrom (oneAt N S D) m i then .inr () else .inl ())
 |0,m,i,_,h=>by omega
 |f+1,m,i,e,h=>by
  unfold Ptb_CheckL1
  cases m with
  |zero=>rw [if_neg (by omega)];rfl
  |succ m=>
   have i1:i<S.length:=by omega
   have i2:i<D.length:=by omega
   rw [if_pos (by omega),idx_lt i1,idx_lt i2]
   simp only [PC0 _ _ _ _ _ _ _ F hF]
   have ih:=PC1 F hF N S D n hn hN hS hD f m (i+1) (by omega) (by omega)
   have o:oneAt N S D i=(one N S[i]&&one N D[i]):=by unfold oneAt;rw [List.getElem?_eq_getElem i1,List.getElem?_eq_getElem i2]
   rw [allFrom,o]
   cases one N S[i]&&one N D[i] with
   |false=>rfl
   |true=>rw [cond_true,wrap_id ⟨by omega,by omega⟩];simpa using ih
theorem PC2 (N:Int)(S D:List Pl)(n:Nat)(hn:n<1000)(hN:N=n)(hS:S.length=n)(hD:D.length=n)(v1 v2:Int)(i:Nat)(hi:i<n):∀ (f m j:Nat),j+m=n→m<f→Ptb_CheckL2 (i:Int) v1 v2 N N S D f (j:Int)=some (bif allFrom (two S D i) m j then .inr () else .inl ())
 |0,m,j,_,h=>by omega
 |f+1,m,j,e,h=>by
  unfold Ptb_CheckL2
  cases m with
  |zero=>rw [if_neg (by omega)];rfl
  |succ m=>
   have i1:i<S.length:=by omega
   have i2:i<D.length:=by omega
   have i3:j<S.length:=by omega
   have i4:j<D.length:=by omega
   rw [if_pos (by omega),idx_lt i1,idx_lt i2,idx_lt i3,idx_lt i4]
   simp only [P_commute]
   have ih:=PC2 N S D n hn hN hS hD v1 v2 i hi f m (j+1) (by omega) (by omega)
   have o:two S D i j=(!part S[i] S[j] && !part D[i] D[j]&&(part D[i] S[j]==decide (i=j))):=by unfold two;rw [List.getElem?_eq_getElem i1,List.getElem?_eq_getElem i2,List.getElem?_eq_getElem i3,List.getElem?_eq_getElem i4]
   rw [allFrom,o,wrap_id ⟨by omega,by omega⟩]
   rw [show ((j+1:Nat):Int)=(j:Int)+1 by omega] at ih
   rw [ih]
   by_cases q:i=j
   ·have q':(i:Int)=(j:Int):=by omega
    simp only [if_pos q',decide_eq_true q]
    cases part S[i] S[j]<;>cases part D[i] D[j]<;>cases part D[i] S[j]<;>rfl
   ·have q':¬ (i:Int)=(j:Int):=by omega
    simp only [if_neg q',decide_eq_false q]
    cases part S[i] S[j]<;>cases part D[i] D[j]<;>cases part D[i] S[j]<;>rfl
theorem PC3 (F:Nat)(N:Int)(S D:List Pl)(n:Nat)(hF:n<F)(hn:n<1000)(hN:N=n)(hS:S.length=n)(hD:D.length=n):∀ (f m i:Nat),i+m=n→m<f→Ptb_CheckL3 F N N S D f (i:Int)=some (bif allFrom (fun i=>allFrom (two S D i) n 0) m i then .inr () else .inl ())
 |0,m,i,_,h=>by omega
 |f+1,m,i,e,h=>by
  unfold Ptb_CheckL3
  cases m with
  |zero=>rw [if_neg (by omega)];rfl
  |succ m=>
   have:=PC2 N S D n hn hN hS hD N (i:Int) i (by omega) F n 0 (by omega) hF
   rw [if_pos (by omega)]
   have ih:=PC3 F N S D n hF hn hN hS hD f m (i+1) (by omega) (by omega)
   rw [show ((i+1:Nat):Int)=(i:Int)+1 by omega] at ih
   rw [allFrom,wrap_id ⟨by omega,by omega⟩,ih]
   rw [show ((0:Nat):Int)=0 from rfl] at this
   rw [this]
   cases allFrom (two S D i) n 0<;>rfl
theorem P_Check (F:Nat)(hF:66≤F)(N:Int)(S D:List Pl):Ptb_Check F N S D=some (if chk N S D=true then 0 else 140):=by
 unfold Ptb_Check chk
 by_cases h1:N<0
 ·rw [if_pos h1,decide_eq_false (by omega:¬ 0≤N)];rfl
 ·rw [if_neg h1,decide_eq_true (by omega:0≤N)]
  by_cases h2:N>64
  ·rw [if_pos h2,decide_eq_false (by omega:¬ N≤64)];rfl
  ·rw [if_neg h2,decide_eq_true (by omega:N≤64)]
   by_cases h3:(S.length:Int)=N
   ·rw [if_pos h3,decide_eq_true h3]
    by_cases h4:(D.length:Int)=N
    ·rw [if_pos h4,decide_eq_true h4]
     obtain ⟨n,rfl⟩:∃ n:Nat,N=(n:Int):=⟨N.toNat,by omega⟩
     have c1:=PC1 F (by omega) n S D n (by omega) rfl (by omega) (by omega) F n 0 (by omega) (by omega)
     have c3:=PC3 F n S D n (by omega) (by omega) rfl (by omega) (by omega) F n 0 (by omega) (by omega)
     rw [show ((0:Nat):Int)=0 from rfl] at c1 c3
     rw [c1,c3,Int.toNat_natCast]
     cases allFrom (oneAt n S D) n 0<;>cases allFrom (fun i=>allFrom (two S D i) n 0) n 0<;>rfl
    ·rw [if_neg h4,decide_eq_false h4];rfl
   ·rw [if_neg h3,decide_eq_false h3];rfl
end Go.Proofs.YtogkkamlmklpkaaDoor.Ab
/- Plain law: the reference's word on a tableau is the program's. No condition: lemmas only. -/
set_option maxRecDepth 100000
set_option linter.unusedVariables false
set_option linter.unusedSimpArgs false
namespace Go.Proofs.YtogkkamlmklpkaaDoor.Ab
open Go
end Go.Proofs.YtogkkamlmklpkaaDoor.Ab
/- Plain law: the product of two strings, the program's and the reference's. No condition: lemmas only. -/
set_option maxRecDepth 100000
set_option linter.unusedVariables false
set_option linter.unusedSimpArgs false
namespace Go.Proofs.YtogkkamlmklpkaaDoor.Ab
open Go
def slot (i:Nat):Nat:=(((1#64 <<< i)*285870213051353865#64) >>> 58).toNat
theorem slot_zs:∀ i:Fin 64,zs64[slot i.val]? = some (i.val:Int):=by decide +kernel
theorem low_word (x:BitVec 64)(i m:Nat)(hx:x.toNat=2 ^ i*(2*m+1))(hi:i<64):x &&& -x=1#64 <<< i:=by
 apply BitVec.eq_of_toNat_eq
 have hl:=x.isLt
 have hp:0<2 ^ i*(2*m+1):=Nat.mul_pos (Nat.two_pow_pos i) (by omega)
 rw [BitVec.toNat_and,BitVec.toNat_neg,Nat.mod_eq_of_lt (by omega),hx,and_neg i 64 m (by omega),BitVec.toNat_shiftLeft,Nat.shiftLeft_eq]
 have:2 ^ i<2 ^ 64:=Nat.pow_lt_pow_right (by omega) hi
 rw [show (1#64).toNat=1 from rfl,Nat.one_mul,Nat.mod_eq_of_lt this]
theorem P_tz (x:BitVec 64)(i m:Nat)(hx:x.toNat=2 ^ i*(2*m+1))(hi:i<64):Pbits_TrailingZeros64 x=some (i:Int):=by
 have h0:x≠0#64:=by
  rintro rfl
  have:=Nat.mul_pos (Nat.two_pow_pos i) (show 0<2*m+1 by omega)
  rw [← hx] at this
  simp at this
 have e:idx zs64 (U (((x &&& -x)*285870213051353865#64) >>> (58:Nat)))=some (i:Int):=by
  rw [low_word x i m hx hi]
  exact (idx_nat zs64 (slot i)).trans (slot_zs ⟨i,hi⟩)
 unfold Pbits_TrailingZeros64
 rw [if_neg h0,e]
 simp only [wrap_id (n:=(i:Int)) ⟨by omega,by omega⟩]
theorem bit_nat (x:BitVec 64)(i:Nat):((x >>> i) &&& 1#64).toInt=((x.toNat / 2 ^ i % 2:Nat):Int):=by
 have hn:((x >>> i) &&& 1#64).toNat=x.toNat / 2 ^ i % 2:=by
  rw [BitVec.toNat_and,tn_shr]
  exact Nat.and_one_is_mod _
 have h2:x.toNat / 2 ^ i % 2<2:=Nat.mod_lt _ (by decide)
 rw [BitVec.toInt_eq_toNat_of_lt (by rw [hn];omega),hn]
def codeN (x z:Nat):Int:=if x % 2=0 then (if z % 2=0 then 0 else 3) else (if z % 2=0 then 1 else 2)
theorem P_code (p:Pl)(i:Nat):Ppauli_code p.N p.X p.Z p.Ph (i:Int)=some (codeN (p.X.toNat / 2 ^ i) (p.Z.toNat / 2 ^ i)):=by
 unfold Ppauli_code codeN
 rw [if_neg (by omega),Int.toNat_natCast,bit_nat,bit_nat]
 have h1:=Nat.mod_two_eq_zero_or_one (p.X.toNat / 2 ^ i)
 have h2:=Nat.mod_two_eq_zero_or_one (p.Z.toNat / 2 ^ i)
 rcases h1 with h1|h1<;>rcases h2 with h2|h2<;>rw [h1,h2]<;>decide
theorem step_pw (a b c d:Nat)(h1:a % 2=1∨b % 2=1)(h2:c % 2=1∨d % 2=1)(n:Int) :
  (if (IntKind.i64.wrap (IntKind.i64.wrap (codeN c d-codeN a b)+3)).tmod 3=1 then n+1
   else if (IntKind.i64.wrap (IntKind.i64.wrap (codeN c d-codeN a b)+3)).tmod 3=2 then n+3 else n)=n+(pw a b c d:Nat):=by
 unfold codeN pw
 have e1:=Nat.mod_two_eq_zero_or_one a
 have e2:=Nat.mod_two_eq_zero_or_one b
 have e3:=Nat.mod_two_eq_zero_or_one c
 have e4:=Nat.mod_two_eq_zero_or_one d
 have w:∀ k:Int,-10≤k→k≤10→IntKind.i64.wrap k=k:=fun k _ _=>wrap_id ⟨by omega,by omega⟩
 rcases e1 with e1|e1<;>rcases e2 with e2|e2<;>rcases e3 with e3|e3<;>rcases e4 with e4|e4<;>simp [e1,e2,e3,e4] at h1 h2 ⊢<;>simp [w]
theorem pw_le (a b c d:Nat):pw a b c d≤3:=by
 unfold pw
 split
 ·omega
 ·split<;>omega
theorem PT0 (p q r:Pl):∀ (f:Nat) (c:Int) (x:BitVec 64),popN x.toNat<f→0≤c→c+3*popN x.toNat<1000000→
  (∀ k,x.toNat.testBit k=true→((p.X.toNat / 2 ^ k % 2=1∨p.Z.toNat / 2 ^ k % 2=1)∧(q.X.toNat / 2 ^ k % 2=1∨q.Z.toNat / 2 ^ k % 2=1)))→
  Ppauli_timesL0 p.N p.X p.Z p.Ph q.N q.X q.Z q.Ph r.N r.X r.Z r.Ph f c x=some (c+(ss (fun k=>pw (p.X.toNat / 2 ^ k) (p.Z.toNat / 2 ^ k) (q.X.toNat / 2 ^ k) (q.Z.toNat / 2 ^ k)) 64 0 x.toNat:Nat))
 |0,c,x,h,_,_,_=>by omega
 |f+1,c,x,h,h0,h1,hb=>by
  unfold Ppauli_timesL0
  by_cases hx:x=0#64
  ·subst hx
   rw [if_pos rfl]
   simp [ss_zero]
  ·rw [if_neg hx]
   have hpos:0<x.toNat:=by
    rcases Nat.eq_zero_or_pos x.toNat with q|q
    ·exact absurd (BitVec.eq_of_toNat_eq (by simpa using q)) hx
    ·exact q
   obtain ⟨i,m,hi,hm⟩:=low_bit 64 x.toNat hpos x.isLt
   have e:(x &&& (x-1#64)).toNat=x.toNat &&& (x.toNat-1):=by
    rw [BitVec.toNat_and,BitVec.toNat_sub]
    congr 1
    have:=x.isLt
    simp only [BitVec.toNat_ofNat,Nat.reducePow,Nat.reduceMod]
    omega
   have e2:x.toNat &&& (x.toNat-1)=2 ^ (i+1)*m:=by rw [hm,and_pred]
   have ps:=pop_step x.toNat hpos
   have hti:x.toNat.testBit i=true:=by
    rw [hm,Nat.testBit_eq_decide_div_mod_eq,Nat.mul_div_cancel_left _ (Nat.two_pow_pos i)]
    simp
   obtain ⟨b1,b2⟩:=hb i hti
   have hs:=step_pw _ _ _ _ b1 b2 c
   have hl:=pw_le (p.X.toNat / 2 ^ i) (p.Z.toNat / 2 ^ i) (q.X.toNat / 2 ^ i) (q.Z.toNat / 2 ^ i)
   have ih:=fun c' (g0:0≤c') (g1:c'≤c+3)=>PT0 p q r f c' (x &&& (x-1#64)) (by rw [e];omega) g0 (by rw [e];omega) (fun k hk=>hb k (by
    rw [e,Nat.testBit_and,Bool.and_eq_true] at hk;exact hk.1))
   rw [P_tz x i m hm hi]
   simp only [P_code,wrap_id (n:=c+1) ⟨by omega,by omega⟩,wrap_id (n:=c+3) ⟨by omega,by omega⟩]
   have key:∀ t:Int,∀ P1 P2:Prop,∀ [Decidable P1] [Decidable P2],(if P1 then c+1 else if P2 then c+3 else c)=t→∀ R:Option Int,(∀ c',c'=t→Ppauli_timesL0 p.N p.X p.Z p.Ph q.N q.X q.Z q.Ph r.N r.X r.Z r.Ph f c' (x &&& (x-1#64))=R)→
     (if P1 then Ppauli_timesL0 p.N p.X p.Z p.Ph q.N q.X q.Z q.Ph r.N r.X r.Z r.Ph f (c+1) (x &&& (x-1#64)) else if P2 then Ppauli_timesL0 p.N p.X p.Z p.Ph q.N q.X q.Z q.Ph r.N r.X r.Z r.Ph f (c+3) (x &&& (x-1#64)) else Ppauli_timesL0 p.N p.X p.Z p.Ph q.N q.X q.Z q.Ph r.N r.X r.Z r.Ph f c (x &&& (x-1#64)))=R:=by
    intro t P1 P2 _ _ ht R hR
    by_cases q1:P1
    ·rw [if_pos q1] at ht ⊢;exact hR _ ht
    ·rw [if_neg q1] at ht ⊢
     by_cases q2:P2
     ·rw [if_pos q2] at ht ⊢;exact hR _ ht
     ·rw [if_neg q2] at ht ⊢;exact hR _ ht
   refine key _ _ _ hs _ (fun c' hc=>?_)
   rw [ih c' (by omega) (by omega),e,e2,hc]
   have hsl:=ss_low (fun k=>pw (p.X.toNat / 2 ^ k) (p.Z.toNat / 2 ^ k) (q.X.toNat / 2 ^ k) (q.Z.toNat / 2 ^ k)) 64 0 i m hi
   rw [← hm,Nat.zero_add] at hsl
   rw [hsl,Int.natCast_add,← Int.add_assoc]
def mulP (p q:Pl):Pl:=⟨p.N,p.X ^^^ q.X,p.Z ^^^ q.Z,(p.Ph+q.Ph+(ps 64 p.X.toNat p.Z.toNat q.X.toNat q.Z.toNat:Nat)) % 4⟩
theorem both_bits (a b c d k:Nat)(h:((a ||| b) &&& (c ||| d)).testBit k=true):(a / 2 ^ k % 2=1∨b / 2 ^ k % 2=1)∧(c / 2 ^ k % 2=1∨d / 2 ^ k % 2=1):=by
 rw [Nat.testBit_and,Nat.testBit_or,Nat.testBit_or] at h
 simp only [Nat.testBit_eq_decide_div_mod_eq,Bool.and_eq_true,Bool.or_eq_true,decide_eq_true_eq] at h
 exact h
theorem ps_le (a b c d:Nat):∀ k,ps k a b c d≤3*k:=by
 intro k
 induction k generalizing a b c d with
 |zero=>simp [ps]
 |succ k ih=>
  have:=ih (a / 2) (b / 2) (c / 2) (d / 2)
  have:=pw_le a b c d
  simp only [ps];omega
theorem P_times (F:Nat)(hF:65≤F)(p q:Pl)(hp:p.ok=true)(hq:q.ok=true):Ppauli_times F p.N p.X p.Z p.Ph q.N q.X q.Z q.Ph=some ((mulP p q).N,(mulP p q).X,(mulP p q).Z,(mulP p q).Ph):=by
 obtain ⟨_,_,p1,p2⟩:=Pl.ok_ph hp
 obtain ⟨_,_,q1,q2⟩:=Pl.ok_ph hq
 unfold Ppauli_times mulP
 have hl:=popN_64 ((p.X ||| p.Z) &&& (q.X ||| q.Z))
 have:=PT0 p q ⟨0,0#64,0#64,0⟩ F (p.Ph+q.Ph) ((p.X ||| p.Z) &&& (q.X ||| q.Z)) (by omega) (by omega) (by omega) (fun k hk=>both_bits _ _ _ _ _ (by
  rw [BitVec.toNat_and,BitVec.toNat_or,BitVec.toNat_or] at hk;exact hk))
 rw [wrap_id ⟨by omega,by omega⟩,this]
 have e:=ps_ss p.X.toNat p.Z.toNat q.X.toNat q.Z.toNat 64 0
 simp only [Nat.pow_zero,Nat.div_one] at e
 rw [BitVec.toNat_and,BitVec.toNat_or,BitVec.toNat_or,← e]
 simp only []
 rw [Int.tmod_eq_emod_of_nonneg (by omega)]
theorem P_pair (p q:Pl):Ppauli_pair p.N p.X p.Z p.Ph q.N q.X q.Z q.Ph=(p.ok&&(q.ok&&decide (p.N=q.N))):=by
 unfold Ppauli_pair
 rw [P_right,P_right]
 cases p.ok<;>cases q.ok<;>rfl
theorem P_mul (F:Nat)(hF:65≤F)(p q:Pl)(hp:p.ok=true)(hq:q.ok=true)(hn:p.N=q.N):Ptb_mul F p.N p.X p.Z p.Ph q.N q.X q.Z q.Ph=some ((mulP p q).N,(mulP p q).X,(mulP p q).Z,(mulP p q).Ph):=by
 unfold Ptb_mul Ppauli_Mul
 rw [P_pair,hp,hq,decide_eq_true hn,P_times F hF p q hp hq]
 rfl
end Go.Proofs.YtogkkamlmklpkaaDoor.Ab
/- Plain law: the reference's product is the program's. No condition: lemmas only. -/
set_option maxRecDepth 100000
set_option linter.unusedVariables false
set_option linter.unusedSimpArgs false
namespace Go.Proofs.YtogkkamlmklpkaaDoor.Ab
open Go
theorem Pl.ok_lt {p:Pl}(h:p.ok=true):p.X.toNat<2 ^ p.N.toNat∧p.Z.toNat<2 ^ p.N.toNat:=by
 have h0:=Pl.ok_ph h
 unfold Pl.ok at h
 simp only [Bool.and_eq_true,decide_eq_true_eq,Bool.or_eq_true] at h
 obtain ⟨_,h5⟩:=h
 have hx:=p.X.isLt
 have hz:=p.Z.isLt
 rcases h5 with h5|h5
 ·have e:p.N.toNat=64:=by omega
  rw [e];exact ⟨hx,hz⟩
 ·have h6:(p.X ||| p.Z).toNat / 2 ^ p.N.toNat=0:=by
   rw [← tn_shr,h5];rfl
  have hp:=Nat.two_pow_pos p.N.toNat
  have h7:(p.X ||| p.Z).toNat<2 ^ p.N.toNat:=by
   rcases Nat.lt_or_ge (p.X ||| p.Z).toNat (2 ^ p.N.toNat) with q|q
   ·exact q
   ·have:=Nat.div_pos q hp;omega
  rw [BitVec.toNat_or] at h7
  exact ⟨Nat.lt_of_le_of_lt Nat.left_le_or h7,Nat.lt_of_le_of_lt Nat.right_le_or h7⟩
theorem R_bitN (x:BitVec 64)(i:Nat)(hi:i<64):Pref13_bit x (i:Int)=((x.toNat / 2 ^ i % 2:Nat):Int):=by
 have hk:(BitVec.ofInt 64 (i:Int)).toNat=i:=by simp;omega
 unfold Pref13_bit
 rw [hk,bit_nat]
def letterN (x z:Nat):Int:=if x % 2=0 then (if z % 2=0 then 73 else 90) else (if z % 2=0 then 88 else 89)
theorem R_Letter (F:Nat)(hF:65≤F)(p:Pl)(hp:p.ok=true)(i:Nat)(hi:(i:Int)<p.N):Pref13_Letter F p.N p.X p.Z p.Ph (i:Int)=some (letterN (p.X.toNat / 2 ^ i) (p.Z.toNat / 2 ^ i)):=by
 have h0:=Pl.ok_ph hp
 unfold Pref13_Letter letterN
 rw [R_right F hF p,hp]
 simp only [cond_true]
 rw [if_neg (by omega),if_neg (by omega),R_bitN _ _ (by omega),R_bitN _ _ (by omega)]
 have h1:=Nat.mod_two_eq_zero_or_one (p.X.toNat / 2 ^ i)
 have h2:=Nat.mod_two_eq_zero_or_one (p.Z.toNat / 2 ^ i)
 rcases h1 with h1|h1<;>rcases h2 with h2|h2<;>rw [h1,h2]<;>decide
theorem R_one (a b c d:Nat):Pref13_one (letterN a b) (letterN c d)=(pw a b c d:Nat):=by
 unfold letterN pw
 have e1:=Nat.mod_two_eq_zero_or_one a
 have e2:=Nat.mod_two_eq_zero_or_one b
 have e3:=Nat.mod_two_eq_zero_or_one c
 have e4:=Nat.mod_two_eq_zero_or_one d
 rcases e1 with e1|e1<;>rcases e2 with e2|e2<;>rcases e3 with e3|e3<;>rcases e4 with e4|e4<;>rw [e1,e2,e3,e4]<;>decide
theorem RM0 (F:Nat)(hF:65≤F)(p q:Pl)(hp:p.ok=true)(hq:q.ok=true)(n:Nat)(hn:p.N=n)(hn2:q.N=n)(v9:Int)(v10 v11:BitVec 64)(v12 v13:Int)(v14 v15:BitVec 64)(b:Int)(hb:0≤b)(hb2:b≤100) :
  ∀ (f m i:Nat),i+m=n→m<f→Pref13_MulL0 F p.N p.X p.Z p.Ph q.N q.X q.Z q.Ph v9 v10 v11 v12 v13 v14 v15 f (i:Int) (b+(ps i p.X.toNat p.Z.toNat q.X.toNat q.Z.toNat:Nat))=some (b+(ps n p.X.toNat p.Z.toNat q.X.toNat q.Z.toNat:Nat))
 |0,m,i,_,h=>by omega
 |f+1,m,i,e,h=>by
  have h0:=Pl.ok_ph hp
  unfold Pref13_MulL0
  cases m with
  |zero=>
   rw [if_neg (by omega)]
   obtain rfl:i=n:=by omega
   rfl
  |succ m=>
   rw [if_pos (by omega),R_Letter F hF p hp i (by omega),R_Letter F hF q hq i (by omega)]
   simp only [R_one]
   have hl:=ps_le p.X.toNat p.Z.toNat q.X.toNat q.Z.toNat i
   have hw:=pw_le (p.X.toNat / 2 ^ i) (p.Z.toNat / 2 ^ i) (q.X.toNat / 2 ^ i) (q.Z.toNat / 2 ^ i)
   have ih:=RM0 F hF p q hp hq n hn hn2 v9 v10 v11 v12 v13 v14 v15 b hb hb2 f m (i+1) (by omega) (by omega)
   rw [show ((i+1:Nat):Int)=(i:Int)+1 by omega,ps_last i,Int.natCast_add,← Int.add_assoc] at ih
   rw [wrap_id (n:=(i:Int)+1) ⟨by omega,by omega⟩,wrap_id (n:=b+_+_) ⟨by omega,by omega⟩]
   exact ih
theorem R_times (F:Nat)(hF:66≤F)(p q:Pl)(hp:p.ok=true)(hq:q.ok=true)(hn:p.N=q.N):Pref14_times F p.N p.X p.Z p.Ph q.N q.X q.Z q.Ph=some ((mulP p q).N,(mulP p q).X,(mulP p q).Z,(mulP p q).Ph):=by
 obtain ⟨p3,p4,p1,p2⟩:=Pl.ok_ph hp
 obtain ⟨_,_,q1,q2⟩:=Pl.ok_ph hq
 obtain ⟨n,e⟩:∃ n:Nat,p.N=n:=⟨p.N.toNat,by omega⟩
 have:=RM0 F (by omega) p q hp hq n e (by omega) 0 0#64 0#64 0 p.N (p.X ^^^ q.X) (p.Z ^^^ q.Z) (p.Ph+q.Ph) (by omega) (by omega) F n 0 (by omega) (by omega)
 have hlt:=Pl.ok_lt hp
 rw [e,Int.toNat_natCast] at hlt
 have ho:=ps_over n (64-n) p.X.toNat p.Z.toNat q.X.toNat q.Z.toNat hlt.1 hlt.2
 rw [show n+(64-n)=64 by omega] at ho
 simp only [ps,Int.natCast_zero,Int.add_zero] at this
 unfold Pref14_times Pref13_Mul mulP
 rw [R_right F (by omega) p,R_right F (by omega) q,hp,hq]
 simp only [cond_true]
 rw [if_pos hn,wrap_id (n:=p.Ph+q.Ph) ⟨by omega,by omega⟩,this]
 simp only []
 rw [Int.tmod_eq_emod_of_nonneg (by omega),ho]
end Go.Proofs.YtogkkamlmklpkaaDoor.Ab
