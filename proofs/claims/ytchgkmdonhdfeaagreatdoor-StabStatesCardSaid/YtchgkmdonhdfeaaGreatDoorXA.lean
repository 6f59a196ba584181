/- Plain laws, as far as this claim uses them. No condition: lemmas only. -/
import Derived.Test.YtchgkmdonhdfeaaGreatDoorHd
set_option maxRecDepth 100000
set_option linter.unusedVariables false
set_option linter.unusedSimpArgs false
namespace Go.Proofs.YtchgkmdonhdfeaaGreatDoor.Ab
open Go
def popN:Nat→Nat
 |0=>0
 |n+1=>(n+1) % 2+popN ((n+1) / 2)
theorem popN_eq (n:Nat):popN n=n % 2+popN (n / 2):=by
 cases n with
 |zero=>simp [popN]
 |succ n=>rw [popN]
theorem and_half (a b:Nat):(a &&& b) / 2=(a / 2) &&& (b / 2):=Nat.and_div_two
theorem and_mod (a b:Nat):(a &&& b) % 2=(a % 2)*(b % 2):=by
 have h1:=Nat.mod_two_eq_zero_or_one a
 have h2:=Nat.mod_two_eq_zero_or_one b
 have e:∀ n:Nat,n.testBit 0=decide (n % 2=1):=fun n=>Nat.testBit_zero n
 have h3:(a &&& b).testBit 0=(a.testBit 0&&b.testBit 0):=Nat.testBit_and a b 0
 rw [e,e,e] at h3
 have h4:=Nat.mod_two_eq_zero_or_one (a &&& b)
 rcases h1 with h1|h1<;>rcases h2 with h2|h2<;>rcases h4 with h4|h4<;>simp [h1,h2,h4] at h3 ⊢
theorem pop_step:∀ n:Nat,0<n→popN (n &&& (n-1))+1=popN n:=by
 intro n
 induction n using Nat.strongRecOn with
 |_ n ih=>
  intro h
  rw [popN_eq (n &&& (n-1)),popN_eq n,and_half,and_mod]
  rcases Nat.mod_two_eq_zero_or_one n with q|q
  ·have e1:(n-1) / 2=n / 2-1:=by omega
   have:=ih (n / 2) (by omega) (by omega)
   rw [e1,q];omega
  ·have e1:(n-1) / 2=n / 2:=by omega
   have e2:(n-1) % 2=0:=by omega
   rw [e1,e2,q,Nat.and_self];omega
theorem popN_le:∀ (k n:Nat),n<2 ^ k→popN n≤k
 |0,n,h=>by
  have:n=0:=by simpa using h
  subst this;simp [popN]
 |k+1,n,h=>by
  rw [popN_eq]
  have:=popN_le k (n / 2) (by rw [Nat.pow_succ] at h;omega)
  omega
def swar (x:BitVec 64):BitVec 64:=
 let x:=((x >>> 1) &&& 6148914691236517205#64)+(x &&& 6148914691236517205#64)
 let x:=((x >>> 2) &&& 3689348814741910323#64)+(x &&& 3689348814741910323#64)
 let x:=((x >>> 4)+x) &&& 1085102592571150095#64
 let x:=x+(x >>> 8)
 let x:=x+(x >>> 16)
 x+(x >>> 32)
def ones (x:BitVec 64):Int:=bitop .and .i64 (swar x).toInt 127
def fsum (c:Nat):Nat→Nat→Nat
 |0,_=>0
 |k+1,x=>x % 2 ^ c+fsum c k (x / 2 ^ c)
theorem and_block (c x m M:Nat)(hm:m<2 ^ c):x &&& (2 ^ c*M+m)=2 ^ c*((x / 2 ^ c) &&& M)+((x % 2 ^ c) &&& m):=by
 have h1:(x % 2 ^ c) &&& m<2 ^ c:=Nat.lt_of_le_of_lt Nat.and_le_right hm
 have h2:x % 2 ^ c<2 ^ c:=Nat.mod_lt _ (Nat.two_pow_pos c)
 conv=>lhs;rw [← Nat.div_add_mod x (2 ^ c)]
 apply Nat.eq_of_testBit_eq
 intro j
 rw [Nat.testBit_and,Nat.testBit_two_pow_mul_add _ h2,Nat.testBit_two_pow_mul_add _ hm,Nat.testBit_two_pow_mul_add _ h1]
 split
 ·rw [Nat.testBit_and]
 ·rw [Nat.testBit_and]
def lowM (w:Nat):Nat→Nat
 |0=>0
 |k+1=>2 ^ (2*w)*lowM w k+(2 ^ w-1)
theorem sq_pow (w:Nat):2 ^ (2*w)=2 ^ w*2 ^ w:=by rw [Nat.two_mul,Nat.pow_add]
theorem pow_pos (w:Nat):0<2 ^ w:=Nat.two_pow_pos w
theorem and_low (w k x:Nat):x &&& lowM w (k+1)=2 ^ (2*w)*((x / 2 ^ (2*w)) &&& lowM w k)+x % 2 ^ w:=by
 have hp:=pow_pos w
 have hlt:2 ^ w-1<2 ^ (2*w):=by
  rw [sq_pow]
  have:=Nat.mul_le_mul_left (2 ^ w) hp
  omega
 rw [lowM,and_block _ _ _ _ hlt,Nat.and_two_pow_sub_one_eq_mod]
 congr 1
 rw [sq_pow,Nat.mod_mul_right_mod]
def pairs (w k x:Nat):Nat:=((x / 2 ^ w) &&& lowM w k)+(x &&& lowM w k)
theorem pairs_succ (w k x:Nat):pairs w (k+1) x=2 ^ (2*w)*pairs w k (x / 2 ^ (2*w))+(x / 2 ^ w % 2 ^ w+x % 2 ^ w):=by
 unfold pairs
 have e:x / 2 ^ w / 2 ^ (2*w)=x / 2 ^ (2*w) / 2 ^ w:=by rw [Nat.div_div_eq_div_mul,Nat.mul_comm,← Nat.div_div_eq_div_mul]
 rw [and_low,and_low,e,Nat.mul_add]
 omega
theorem pairs_fsum (w:Nat)(hw:1≤w):∀ (k x:Nat),fsum (2*w) k (pairs w k x)=fsum w (2*k) x
 |0,x=>rfl
 |k+1,x=>by
  have hp:=pow_pos w
  have h2:2≤2 ^ w:=by
   have:=Nat.pow_le_pow_right (n:=2) (by omega) hw
   simpa using this
  have a1:x / 2 ^ w % 2 ^ w<2 ^ w:=Nat.mod_lt _ hp
  have a2:x % 2 ^ w<2 ^ w:=Nat.mod_lt _ hp
  have hlt:x / 2 ^ w % 2 ^ w+x % 2 ^ w<2 ^ (2*w):=by
   rw [sq_pow]
   have:=Nat.mul_le_mul_right (2 ^ w) h2
   omega
  have ih:=pairs_fsum w hw k (x / 2 ^ (2*w))
  rw [show 2*(k+1)=2*k+1+1 by omega]
  simp only [fsum]
  rw [pairs_succ,Nat.mul_add_mod,Nat.mod_eq_of_lt hlt,Nat.mul_add_div (pow_pos _),Nat.div_eq_of_lt hlt,Nat.add_zero,ih,Nat.div_div_eq_div_mul,← sq_pow]
  omega
theorem fsum_one:∀ (k x:Nat),x<2 ^ k→fsum 1 k x=popN x
 |0,x,h=>by
  have:x=0:=by simpa using h
  subst this;simp [fsum,popN]
 |k+1,x,h=>by
  rw [fsum,popN_eq,Nat.pow_one,fsum_one k (x / 2) (by rw [Nat.pow_succ] at h;omega)]
def fle (c b:Nat):Nat→Nat→Prop
 |0,_=>True
 |k+1,x=>x % 2 ^ c≤b∧fle c b k (x / 2 ^ c)
theorem fle_one:∀ (k x:Nat),fle 1 1 k x
 |0,_=>trivial
 |k+1,x=>⟨by rw [Nat.pow_one];omega,fle_one k _⟩
theorem fle_pairs (w b:Nat)(hw:1≤w):∀ (k x:Nat),fle w b (2*k) x→fle (2*w) (2*b) k (pairs w k x)
 |0,_,_=>trivial
 |k+1,x,h=>by
  have hp:=pow_pos w
  have h2:2≤2 ^ w:=by
   have:=Nat.pow_le_pow_right (n:=2) (by omega) hw
   simpa using this
  have a1:x / 2 ^ w % 2 ^ w<2 ^ w:=Nat.mod_lt _ hp
  have a2:x % 2 ^ w<2 ^ w:=Nat.mod_lt _ hp
  have hlt:x / 2 ^ w % 2 ^ w+x % 2 ^ w<2 ^ (2*w):=by
   rw [sq_pow]
   have:=Nat.mul_le_mul_right (2 ^ w) h2
   omega
  rw [show 2*(k+1)=2*k+1+1 by omega] at h
  obtain ⟨b1,b2,b3⟩:=h
  rw [Nat.div_div_eq_div_mul,← sq_pow] at b3
  have ih:=fle_pairs w b hw k _ b3
  refine ⟨?_,?_⟩
  ·rw [pairs_succ,Nat.mul_add_mod,Nat.mod_eq_of_lt hlt];omega
  ·rw [pairs_succ,Nat.mul_add_div (pow_pos _),Nat.div_eq_of_lt hlt,Nat.add_zero];exact ih
theorem add_mask:∀ (k y:Nat),fle 4 4 (2*k) y→(y / 16+y) &&& lowM 4 k=pairs 4 k y
 |0,y,_=>by simp [lowM,pairs]
 |k+1,y,h=>by
  rw [show 2*(k+1)=2*k+1+1 by omega] at h
  obtain ⟨b1,b2,b3⟩:=h
  rw [Nat.div_div_eq_div_mul] at b3
  have e1:(2:Nat) ^ 4=16:=rfl
  rw [e1] at b1 b2 b3
  have ih:=add_mask k (y / 256) b3
  have b4:(y / 256) % 16≤4∨k=0:=by
   cases k with
   |zero=>exact .inr rfl
   |succ k=>
    rw [show 2*(k+1)=2*k+1+1 by omega] at b3
    exact .inl b3.1
  have e2:(2:Nat) ^ (2*4)=256:=rfl
  rw [and_low,pairs_succ,e1,e2]
  have m1:(y / 16+y) % 16=y / 16 % 16+y % 16:=by omega
  rw [m1]
  congr 2
  rcases b4 with b4|b4
  ·have m2:(y / 16+y) / 256=y / 256 / 16+y / 256:=by
    obtain ⟨r1,r0,hi,lo,e,k0,k1,k2⟩:∃ r1 r0 hi lo,y=4096*r1+256*r0+16*hi+lo∧r0≤4∧hi≤4∧lo≤4:=
     ⟨y / 256 / 16,y / 256 % 16,y / 16 % 16,y % 16,by omega,b4,b2,b1⟩
    have e3:y / 16=256*r1+16*r0+hi:=by omega
    have e4:y / 256=16*r1+r0:=by omega
    have e5:(16*r1+r0) / 16=r1:=by omega
    rw [e3,e4,e5,e]
    clear e e3 e4 e5 b1 b2 b3 b4 m1 ih
    omega
   rw [m2,ih]
  ·subst b4
   simp [lowM,pairs]
theorem bytes_total (z:Nat)(h:fle 8 8 8 z)(hz:z<18446744073709551616) :
  ((z+z / 256)+(z+z / 256) / 65536+((z+z / 256)+(z+z / 256) / 65536) / 4294967296) % 128=fsum 8 8 z∧z+z / 256<18446744073709551616∧(z+z / 256)+(z+z / 256) / 65536<18446744073709551616∧
   ((z+z / 256)+(z+z / 256) / 65536)+((z+z / 256)+(z+z / 256) / 65536) / 4294967296<18446744073709551616∧fsum 8 8 z≤64:=by
 simp only [fle,fsum,Nat.reducePow,and_true,Nat.add_zero] at *
 obtain ⟨c0,c1,c2,c3,c4,c5,c6,c7⟩:=h
 generalize g1:z / 256=z1 at *
 generalize g2:z1 / 256=z2 at *
 generalize g3:z2 / 256=z3 at *
 generalize g4:z3 / 256=z4 at *
 generalize g5:z4 / 256=z5 at *
 generalize g6:z5 / 256=z6 at *
 generalize g7:z6 / 256=z7 at *
 generalize f0:z % 256=b0 at *
 generalize f1:z1 % 256=b1 at *
 generalize f2:z2 % 256=b2 at *
 generalize f3:z3 % 256=b3 at *
 generalize f4:z4 % 256=b4 at *
 generalize f5:z5 % 256=b5 at *
 generalize f6:z6 % 256=b6 at *
 generalize f7:z7 % 256=b7 at *
 have r0:z=256*z1+b0:=by omega
 have r1:z1=256*z2+b1:=by omega
 have r2:z2=256*z3+b2:=by omega
 have r3:z3=256*z4+b3:=by omega
 have r4:z4=256*z5+b4:=by omega
 have r5:z5=256*z6+b5:=by omega
 have r6:z6=256*z7+b6:=by omega
 have r7:∃ k,z7=256*k+b7:=⟨z7 / 256,by omega⟩
 obtain ⟨k,r7⟩:=r7
 clear g1 g2 g3 g4 g5 g6 g7 f0 f1 f2 f3 f4 f5 f6 f7
 have d1:(z+z1) / 65536=z2+z3:=by
  have e1:z=65536*z2+256*b1+b0:=by omega
  have e2:z1=65536*z3+256*b2+b1:=by omega
  rw [e1,e2]
  clear r0 r1 r2 r3 r4 r5 r6 r7 e1 e2 hz
  omega
 have e0:z=4294967296*z4+16777216*b3+65536*b2+256*b1+b0:=by omega
 have e1:z1=4294967296*z5+16777216*b4+65536*b3+256*b2+b1:=by omega
 have e2:z2=4294967296*z6+16777216*b5+65536*b4+256*b3+b2:=by omega
 have e3:z3=4294967296*z7+16777216*b6+65536*b5+256*b4+b3:=by omega
 have d2:(z+z1+(z2+z3)) / 4294967296=z4+z5+z6+z7:=by
  clear r0 r1 r2 r3 r4 r5 r6 r7 hz d1
  rw [e0,e1,e2,e3]
  clear e0 e1 e2 e3
  omega
 rw [d1,d2]
 clear d1 d2 e0 e1 e2 e3
 refine ⟨?_,by omega,by omega,by omega,by omega⟩
 clear hz
 omega
theorem tn_shr (x:BitVec 64)(k:Nat):(x >>> k).toNat=x.toNat / 2 ^ k:=by rw [BitVec.toNat_ushiftRight,Nat.shiftRight_eq_div_pow]
theorem tn_add {x y:BitVec 64}(h:x.toNat+y.toNat<18446744073709551616):(x+y).toNat=x.toNat+y.toNat:=by
 rw [BitVec.toNat_add];exact Nat.mod_eq_of_lt (by simpa using h)
theorem low1:lowM 1 32=6148914691236517205:=by decide
theorem low2:lowM 2 16=3689348814741910323:=by decide
theorem low4:lowM 4 8=1085102592571150095:=by decide
theorem ones_pop (x:BitVec 64):ones x=(popN x.toNat:Int):=by
 have hx:=x.isLt
 have n1:(((x >>> 1) &&& 6148914691236517205#64)+(x &&& 6148914691236517205#64)).toNat=pairs 1 32 x.toNat:=by
  rw [tn_add,BitVec.toNat_and,BitVec.toNat_and,tn_shr]
  ·unfold pairs;rw [low1];rfl
  ·rw [BitVec.toNat_and,BitVec.toNat_and]
   have a:=Nat.and_le_right (n:=(x >>> 1).toNat) (m:=(6148914691236517205#64).toNat)
   have b:=Nat.and_le_right (n:=x.toNat) (m:=(6148914691236517205#64).toNat)
   simp only [BitVec.toNat_ofNat] at a b ⊢
   omega
 generalize hx1:((x >>> 1) &&& 6148914691236517205#64)+(x &&& 6148914691236517205#64)=x1 at n1
 have n2:(((x1 >>> 2) &&& 3689348814741910323#64)+(x1 &&& 3689348814741910323#64)).toNat=pairs 2 16 x1.toNat:=by
  rw [tn_add,BitVec.toNat_and,BitVec.toNat_and,tn_shr]
  ·unfold pairs;rw [low2];rfl
  ·rw [BitVec.toNat_and,BitVec.toNat_and]
   have a:=Nat.and_le_right (n:=(x1 >>> 2).toNat) (m:=(3689348814741910323#64).toNat)
   have b:=Nat.and_le_right (n:=x1.toNat) (m:=(3689348814741910323#64).toNat)
   simp only [BitVec.toNat_ofNat] at a b ⊢
   omega
 generalize hx2:((x1 >>> 2) &&& 3689348814741910323#64)+(x1 &&& 3689348814741910323#64)=x2 at n2
 have f1:fle 2 2 32 x1.toNat:=by rw [n1];exact fle_pairs 1 1 (by omega) 32 _ (fle_one 64 _)
 have f2:fle 4 4 16 x2.toNat:=by rw [n2];exact fle_pairs 2 2 (by omega) 16 _ f1
 have t2:x2.toNat≤4919131752989213764+0:=by
  have h:=f2
  simp only [fle,Nat.reducePow,and_true] at h
  omega
 have n3:(((x2 >>> 4)+x2) &&& 1085102592571150095#64).toNat=pairs 4 8 x2.toNat:=by
  rw [BitVec.toNat_and,tn_add,tn_shr]
  ·have:=add_mask 8 x2.toNat f2
   rw [low4] at this
   exact this
  ·rw [tn_shr];omega
 generalize hx3:((x2 >>> 4)+x2) &&& 1085102592571150095#64=x3 at n3
 have f3:fle 8 8 8 x3.toNat:=by rw [n3];exact fle_pairs 4 4 (by omega) 8 _ f2
 obtain ⟨b1,b2,b3,b4,b5⟩:=bytes_total x3.toNat f3 x3.isLt
 have s3:fsum 8 8 x3.toNat=popN x.toNat:=by
  rw [n3,pairs_fsum 4 (by omega) 8,n2,pairs_fsum 2 (by omega) 16,n1,pairs_fsum 1 (by omega) 32]
  exact fsum_one 64 _ (by simpa using hx)
 have m1:(x3+(x3 >>> 8)).toNat=x3.toNat+x3.toNat / 256:=by rw [tn_add,tn_shr];rw [tn_shr];exact b2
 have m2:(x3+(x3 >>> 8)+((x3+(x3 >>> 8)) >>> 16)).toNat=(x3.toNat+x3.toNat / 256)+(x3.toNat+x3.toNat / 256) / 65536:=by
  rw [tn_add,tn_shr,m1];rw [tn_shr,m1];exact b3
 have m3:(swar x).toNat=(x3.toNat+x3.toNat / 256)+(x3.toNat+x3.toNat / 256) / 65536+((x3.toNat+x3.toNat / 256)+(x3.toNat+x3.toNat / 256) / 65536) / 4294967296:=by
  unfold swar
  simp only [hx1,hx2,hx3]
  rw [tn_add,tn_shr,m2];rw [tn_shr,m2];exact b4
 unfold ones bitop
 have e1:((swar x).toInt % 2 ^ IntKind.i64.bits).toNat=(swar x).toNat:=by
  have hb:(2:Int) ^ IntKind.i64.bits=18446744073709551616:=by decide
  have hl:=(swar x).isLt
  rw [hb,BitVec.toInt_eq_toNat_cond]
  split<;>omega
 have e2:((127:Int) % 2 ^ IntKind.i64.bits).toNat=2 ^ 7-1:=by decide
 simp only [e1,e2]
 rw [Nat.and_two_pow_sub_one_eq_mod,m3]
 rw [show (2:Nat) ^ 7=128 from rfl,b1,s3]
 exact wrap_of ⟨by omega,by omega⟩
theorem pop_xor:∀ (n a b:Nat),a<2 ^ n→b<2 ^ n→popN (a ^^^ b) % 2=(popN a+popN b) % 2
 |0,a,b,ha,hb=>by
  have:a=0:=by simpa using ha
  have:b=0:=by simpa using hb
  subst a b;simp [popN]
 |n+1,a,b,ha,hb=>by
  rw [Nat.pow_succ] at ha hb
  have ih:=pop_xor n (a / 2) (b / 2) (by omega) (by omega)
  have hd:(a ^^^ b) / 2=a / 2 ^^^ b / 2:=Nat.xor_div_two
  have hm:(a ^^^ b) % 2=(a % 2+b % 2) % 2:=by
   have h1:=Nat.mod_two_eq_zero_or_one a
   have h2:=Nat.mod_two_eq_zero_or_one b
   have h4:=Nat.mod_two_eq_zero_or_one (a ^^^ b)
   have h3:(a ^^^ b).testBit 0=(a.testBit 0 ^^ b.testBit 0):=Nat.testBit_xor a b 0
   rw [Nat.testBit_zero,Nat.testBit_zero,Nat.testBit_zero] at h3
   rcases h1 with h1|h1<;>rcases h2 with h2|h2<;>rcases h4 with h4|h4<;>simp [h1,h2,h4] at h3 ⊢
  rw [popN_eq (a ^^^ b),popN_eq a,popN_eq b,hd,hm]
  omega
def Pl.ok (p:Pl):Bool:=decide (0≤p.N)&&decide (p.N≤64)&&decide (0≤p.Ph)&&decide (p.Ph≤3)&&(decide (¬ p.N<64)||decide ((p.X ||| p.Z) >>> p.N.toNat=0#64))
def bitAt (x:BitVec 64)(q:Int):BitVec 64:=(x >>> (BitVec.ofInt 64 q).toNat) &&& 1#64
def isOne (x:BitVec 64)(q:Int):Bool:=decide ((bitAt x q).toInt=1)
def clr (X Z:BitVec 64):Nat→Int→Bool
 |0,_=>true
 |f+1,q=>decide (64≤q)||(!isOne X q && !isOne Z q&&clr X Z f (q+1))
def Pl.okR (p:Pl)(f:Nat):Bool:=decide (0≤p.N)&&decide (p.N≤64)&&decide (0≤p.Ph)&&decide (p.Ph≤3)&&clr p.X p.Z f p.N
theorem isOne_tb (x:BitVec 64)(q:Nat)(hq:q<64):isOne x (q:Int)=x.toNat.testBit q:=by
 have hk:(BitVec.ofInt 64 (q:Int)).toNat=q:=by simp;omega
 have hn:(bitAt x q).toNat=x.toNat / 2 ^ q % 2:=by
  unfold bitAt
  rw [hk,BitVec.toNat_and,tn_shr]
  exact Nat.and_one_is_mod _
 have h2:x.toNat / 2 ^ q % 2<2:=Nat.mod_lt _ (by decide)
 unfold isOne
 rw [Nat.testBit_eq_decide_div_mod_eq]
 have hi:(bitAt x q).toInt=((bitAt x q).toNat:Int):=BitVec.toInt_eq_toNat_of_lt (by rw [hn];omega)
 rw [hi,hn]
 congr 1
 apply propext
 omega
theorem half_zero (y q:Nat):y / 2 ^ q=0↔y.testBit q=false∧y / 2 ^ (q+1)=0:=by
 rw [Nat.testBit_eq_decide_div_mod_eq,decide_eq_false_iff_not,Nat.pow_succ,← Nat.div_div_eq_div_mul]
 omega
theorem clr_eq (X Z:BitVec 64):∀ (f q:Nat),64≤q+f→clr X Z f (q:Int)=decide ((X ||| Z).toNat / 2 ^ q=0)
 |0,q,h=>by
  have h1:=(X ||| Z).isLt
  have h2:2 ^ 64≤2 ^ q:=Nat.pow_le_pow_right (by omega) (by omega)
  rw [Nat.div_eq_of_lt (by omega)];rfl
 |f+1,q,h=>by
  simp only [clr]
  by_cases hq:64≤q
  ·have h1:=(X ||| Z).isLt
   have h2:2 ^ 64≤2 ^ q:=Nat.pow_le_pow_right (by omega) hq
   rw [Nat.div_eq_of_lt (by omega)]
   have:decide ((64:Int)≤(q:Int))=true:=by simp;omega
   rw [this];rfl
  ·have:decide ((64:Int)≤(q:Int))=false:=by simp;omega
   have ih:=clr_eq X Z f (q+1) (by omega)
   rw [show (((q+1:Nat)):Int)=(q:Int)+1 from rfl] at ih
   rw [this,Bool.false_or,isOne_tb X q (by omega),isOne_tb Z q (by omega),ih,Bool.eq_iff_iff]
   simp only [Bool.and_eq_true,Bool.not_eq_true',decide_eq_true_eq]
   rw [half_zero (X ||| Z).toNat q,BitVec.toNat_or,Nat.testBit_or,Bool.or_eq_false_iff]
theorem okR_eq (p:Pl)(f:Nat)(hf:64≤f):p.okR f=p.ok:=by
 obtain ⟨N,X,Z,Ph⟩:=p
 unfold Pl.okR Pl.ok
 by_cases h1:0≤N
 ·by_cases h2:N≤64
  ·obtain ⟨k,rfl⟩:∃ k:Nat,N=(k:Int):=⟨N.toNat,by omega⟩
   have e:=clr_eq X Z f k (by omega)
   simp only [e,Int.toNat_natCast]
   congr 1
   by_cases h3:(k:Int)<64
   ·have:decide (¬ (k:Int)<64)=false:=by simp;omega
    rw [this,Bool.false_or]
    congr 1
    apply propext
    rw [← tn_shr]
    constructor
    ·intro h;exact BitVec.eq_of_toNat_eq (by simpa using h)
    ·intro h;rw [h];rfl
   ·have h4:k=64:=by omega
    subst h4
    have h5:=(X ||| Z).isLt
    rw [Nat.div_eq_of_lt h5]
    rfl
  ·have:decide (N≤64)=false:=by simp;omega
   simp only [this,Bool.and_false,Bool.false_and]
 ·have:decide (0≤N)=false:=by simp;omega
  simp only [this,Bool.false_and]
def comb (r:Nat→Nat)(c:Nat→Bool):Nat→Nat
 |0=>0
 |k+1=>comb r c k ^^^ (bif c k then r k else 0)
def om (x z x' z':Nat):Bool:=decide (popN ((x &&& z') ^^^ (z &&& x')) % 2=1)
theorem pop_xor' (a b:Nat):popN (a ^^^ b) % 2=(popN a+popN b) % 2:=by
 have h1:a<2 ^ (a+b):=Nat.lt_of_lt_of_le Nat.lt_two_pow_self (Nat.pow_le_pow_right (by omega) (by omega))
 have h2:b<2 ^ (a+b):=Nat.lt_of_lt_of_le Nat.lt_two_pow_self (Nat.pow_le_pow_right (by omega) (by omega))
 exact pop_xor (a+b) a b h1 h2
theorem and_xor_l (a b c:Nat):a &&& (b ^^^ c)=(a &&& b) ^^^ (a &&& c):=by
 apply Nat.eq_of_testBit_eq
 intro i
 simp only [Nat.testBit_and,Nat.testBit_xor]
 cases a.testBit i<;>cases b.testBit i<;>cases c.testBit i<;>rfl
theorem om_xor (x z a b c d:Nat):om x z (a ^^^ c) (b ^^^ d)=(om x z a b ^^ om x z c d):=by
 unfold om
 have e:(x &&& (b ^^^ d)) ^^^ (z &&& (a ^^^ c))=((x &&& b) ^^^ (z &&& a)) ^^^ ((x &&& d) ^^^ (z &&& c)):=by
  rw [and_xor_l,and_xor_l]
  ac_rfl
 rw [e]
 have h:=pop_xor' ((x &&& b) ^^^ (z &&& a)) ((x &&& d) ^^^ (z &&& c))
 generalize popN ((x &&& b) ^^^ (z &&& a))=u at *
 generalize popN ((x &&& d) ^^^ (z &&& c))=w at *
 rw [h,Bool.eq_iff_iff]
 simp only [decide_eq_true_eq,bne_iff_ne,ne_eq,decide_eq_decide]
 omega
theorem om_comm (x z a b:Nat):om x z a b=om a b x z:=by
 unfold om
 rw [show (x &&& b) ^^^ (z &&& a)=(a &&& z) ^^^ (b &&& x) from by rw [Nat.and_comm x b,Nat.and_comm z a,Nat.xor_comm]]
theorem om_zero (x z:Nat):om x z 0 0=false:=by simp [om,popN]
def pw (a b c d:Nat):Nat:=
 if a % 2=0∧b % 2=0∨c % 2=0∧d % 2=0∨a % 2=c % 2∧b % 2=d % 2 then 0
 else if a % 2=1∧b % 2=0∧c % 2=1∧d % 2=1∨a % 2=1∧b % 2=1∧c % 2=0∧d % 2=1∨a % 2=0∧b % 2=1∧c % 2=1∧d % 2=0 then 1 else 3
def ps:Nat→Nat→Nat→Nat→Nat→Nat
 |0,_,_,_,_=>0
 |k+1,a,b,c,d=>pw a b c d+ps k (a / 2) (b / 2) (c / 2) (d / 2)
theorem pw_turn (a b c d:Nat):(pw a b c d+pw c d a b) % 4=0:=by
 have h1:=Nat.mod_two_eq_zero_or_one a
 have h2:=Nat.mod_two_eq_zero_or_one b
 have h3:=Nat.mod_two_eq_zero_or_one c
 have h4:=Nat.mod_two_eq_zero_or_one d
 rcases h1 with h1|h1<;>rcases h2 with h2|h2<;>rcases h3 with h3|h3<;>rcases h4 with h4|h4<;>simp [pw,h1,h2,h3,h4]
theorem ps_turn:∀ (k a b c d:Nat),(ps k a b c d+ps k c d a b) % 4=0
 |0,_,_,_,_=>rfl
 |k+1,a,b,c,d=>by
  have h1:=pw_turn a b c d
  have h2:=ps_turn k (a / 2) (b / 2) (c / 2) (d / 2)
  simp only [ps]
  omega
theorem omw_mod (a b c d:Nat):((a &&& d) ^^^ (b &&& c)) % 2=pw a b c d % 2:=by
 have e:=Nat.testBit_xor (a &&& d) (b &&& c) 0
 rw [Nat.testBit_and,Nat.testBit_and] at e
 simp only [Nat.testBit_zero] at e
 have h1:=Nat.mod_two_eq_zero_or_one a
 have h2:=Nat.mod_two_eq_zero_or_one b
 have h3:=Nat.mod_two_eq_zero_or_one c
 have h4:=Nat.mod_two_eq_zero_or_one d
 have h5:=Nat.mod_two_eq_zero_or_one ((a &&& d) ^^^ (b &&& c))
 rcases h1 with h1|h1<;>rcases h2 with h2|h2<;>rcases h3 with h3|h3<;>rcases h4 with h4|h4<;>rcases h5 with h5|h5<;>simp [pw,h1,h2,h3,h4,h5] at e ⊢
theorem omw_div (a b c d:Nat):((a &&& d) ^^^ (b &&& c)) / 2=((a / 2) &&& (d / 2)) ^^^ ((b / 2) &&& (c / 2)):=by
 rw [Nat.xor_div_two,Nat.and_div_two,Nat.and_div_two]
theorem ps_odd:∀ (k a b c d:Nat),a<2 ^ k→b<2 ^ k→c<2 ^ k→d<2 ^ k→ps k a b c d % 2=popN ((a &&& d) ^^^ (b &&& c)) % 2
 |0,a,b,c,d,h1,h2,h3,h4=>by
  have:a=0:=by simpa using h1
  have:b=0:=by simpa using h2
  subst a b
  simp [ps,popN]
 |k+1,a,b,c,d,h1,h2,h3,h4=>by
  rw [Nat.pow_succ] at h1 h2 h3 h4
  have ih:=ps_odd k (a / 2) (b / 2) (c / 2) (d / 2) (by omega) (by omega) (by omega) (by omega)
  have hm:=omw_mod a b c d
  simp only [ps]
  rw [popN_eq,omw_div]
  omega
theorem pw_zero (a b c d:Nat)(h:a % 2=0∧b % 2=0∨c % 2=0∧d % 2=0):pw a b c d=0:=by
 unfold pw
 rw [if_pos]
 rcases h with h|h
 ·exact .inl h
 ·exact .inr (.inl h)
def ss (g:Nat→Nat):Nat→Nat→Nat→Nat
 |0,_,_=>0
 |k+1,q,x=>(if x % 2=1 then g q else 0)+ss g k (q+1) (x / 2)
def omv (v w:Nat×Nat):Bool:=om v.1 v.2 w.1 w.2
theorem omv_comm (v w:Nat×Nat):omv v w=omv w v:=om_comm ..
theorem wrap_id {n:Int}(h:-9223372036854775808≤n∧n<9223372036854775808):IntKind.i64.wrap n=n:=wrap_of ⟨by omega,by omega⟩
theorem popN_64 (x:BitVec 64):popN x.toNat≤64:=popN_le 64 _ (by have:=x.isLt;simpa using this)
theorem P_ones (x:BitVec 64):Pbits_OnesCount64 x=(popN x.toNat:Int):=by
 rw [← ones_pop];rfl
def part (p q:Pl):Bool:=om p.X.toNat p.Z.toNat q.X.toNat q.Z.toNat
theorem P_commute (p q:Pl):Ptableau_commute p.N p.X p.Z p.Ph q.N q.X q.Z q.Ph = !part p q:=by
 unfold Ptableau_commute part om
 have l1:=popN_64 (p.X &&& q.Z)
 have l2:=popN_64 (p.Z &&& q.X)
 rw [P_ones,P_ones,wrap_id ⟨by omega,by omega⟩]
 have hx:=pop_xor 64 (p.X &&& q.Z).toNat (p.Z &&& q.X).toNat (p.X &&& q.Z).isLt (p.Z &&& q.X).isLt
 rw [BitVec.toNat_and,BitVec.toNat_and] at *
 generalize popN ((p.X.toNat &&& q.Z.toNat) ^^^ (p.Z.toNat &&& q.X.toNat))=a at *
 generalize popN (p.X.toNat &&& q.Z.toNat)=b at *
 generalize popN (p.Z.toNat &&& q.X.toNat)=c at *
 rw [← Int.natCast_add,Int.tmod_eq_emod_of_nonneg (by omega),← decide_not]
 congr 1
 apply propext
 omega
theorem kernL:∀ (f:Nat) (c:Int) (x:BitVec 64),popN x.toNat<f→0≤c→c+popN x.toNat<9223372036854775808→Pref14_commuteL0 f c x=some (c+popN x.toNat)
 |0,c,x,h,_,_=>by omega
 |f+1,c,x,h,h0,h1=>by
  simp only [Pref14_commuteL0]
  split
  ·rename_i hx;subst hx;simp [popN]
  ·rename_i hx
   have hpos:0<x.toNat:=by
    rcases Nat.eq_zero_or_pos x.toNat with q|q
    ·exact absurd (BitVec.eq_of_toNat_eq (by simpa using q)) hx
    ·exact q
   have e:(x &&& (x-1#64)).toNat=x.toNat &&& (x.toNat-1):=by
    rw [BitVec.toNat_and,BitVec.toNat_sub]
    congr 1
    have:=x.isLt
    simp only [BitVec.toNat_ofNat,Nat.reducePow,Nat.reduceMod]
    omega
   have ps:=pop_step x.toNat hpos
   rw [wrap_id ⟨by omega,by omega⟩,kernL f (c+1) _ (by rw [e];omega) (by omega) (by rw [e];omega),e]
   congr 1
   omega
theorem R_commute (F:Nat)(hF:65≤F)(p q:Pl):Pref14_commute F p.N p.X p.Z p.Ph q.N q.X q.Z q.Ph=some (!part p q):=by
 unfold Pref14_commute part om
 have l1:=popN_64 ((p.X &&& q.Z) ^^^ (p.Z &&& q.X))
 rw [kernL F 0 _ (by omega) (by omega) (by omega)]
 simp only [Int.zero_add,Option.some.injEq]
 rw [BitVec.toNat_xor,BitVec.toNat_and,BitVec.toNat_and,Int.tmod_eq_emod_of_nonneg (by omega),← decide_not]
 congr 1
 apply propext
 omega
theorem P_check (p:Pl):Ppauli_Check p.N p.X p.Z p.Ph=if p.ok=true then 0 else 130:=by
 unfold Ppauli_Check Pl.ok
 by_cases h1:p.N<0
 ·rw [if_pos h1,decide_eq_false (by omega:¬ 0≤p.N)];rfl
 ·rw [if_neg h1,decide_eq_true (by omega:0≤p.N)]
  by_cases h2:p.N>64
  ·rw [if_pos h2,decide_eq_false (by omega:¬ p.N≤64)];rfl
  ·rw [if_neg h2,decide_eq_true (by omega:p.N≤64)]
   by_cases h3:p.Ph<0
   ·rw [if_pos h3,decide_eq_false (by omega:¬ 0≤p.Ph)];rfl
   ·rw [if_neg h3,decide_eq_true (by omega:0≤p.Ph)]
    by_cases h4:p.Ph>3
    ·rw [if_pos h4,decide_eq_false (by omega:¬ p.Ph≤3)];rfl
    ·rw [if_neg h4,decide_eq_true (by omega:p.Ph≤3)]
     by_cases h5:p.N<64
     ·rw [if_pos h5,decide_eq_false (by omega:¬ ¬ p.N<64)]
      by_cases h6:(p.X ||| p.Z) >>> p.N.toNat=0#64
      ·rw [if_pos h6,decide_eq_true h6];rfl
      ·rw [if_neg h6,decide_eq_false h6];rfl
     ·rw [if_neg h5,decide_eq_true h5];rfl
theorem P_right (p:Pl):Ppauli_right p.N p.X p.Z p.Ph=p.ok:=by
 unfold Ppauli_right
 rw [P_check]
 cases p.ok<;>rfl
def Pl.herm (p:Pl):Bool:=p.ok&&decide (p.Ph % 2=0)
theorem Pl.ok_ph {p:Pl}(h:p.ok=true):0≤p.N∧p.N≤64∧0≤p.Ph∧p.Ph≤3:=by
 unfold Pl.ok at h
 simp only [Bool.and_eq_true,decide_eq_true_eq] at h
 obtain ⟨⟨⟨⟨h1,h2⟩,h3⟩,h4⟩,_⟩:=h
 exact ⟨h1,h2,h3,h4⟩
theorem P_herm (p:Pl):Ppauli_Hermitian p.N p.X p.Z p.Ph=p.herm:=by
 unfold Ppauli_Hermitian Pl.herm
 rw [P_right]
 cases h:p.ok with
 |false=>rfl
 |true=>
  obtain ⟨_,_,h3,h4⟩:=Pl.ok_ph h
  rw [cond_true,Bool.true_and,Int.tmod_eq_emod_of_nonneg h3]
theorem R_bit (x:BitVec 64)(q:Int):Pref13_bit x q=(bitAt x q).toInt:=rfl
theorem clrL (N Ph:Int)(X Z:BitVec 64):∀ (f:Nat) (q:Int),0≤q→q≤64→65≤q+f→Pref13_RightL0 N X Z Ph f q=some (bif clr X Z f q then .inr () else .inl ())
 |0,q,h0,h1,h=>by omega
 |f+1,q,h0,hl,h=>by
  simp only [Pref13_RightL0,clr]
  by_cases hq:q<64
  ·rw [if_pos hq,decide_eq_false (by omega:¬ 64≤q),Bool.false_or]
   rw [R_bit,R_bit]
   unfold isOne
   by_cases h1:(bitAt X q).toInt=1
   ·rw [if_pos h1,decide_eq_true h1];rfl
   ·rw [if_neg h1,decide_eq_false h1]
    by_cases h2:(bitAt Z q).toInt=1
    ·rw [if_pos h2,decide_eq_true h2];rfl
    ·rw [if_neg h2,decide_eq_false h2,wrap_id ⟨by omega,by omega⟩,clrL N Ph X Z f (q+1) (by omega) (by omega) (by omega)]
     rfl
  ·rw [if_neg hq,decide_eq_true (by omega:64≤q)];rfl
theorem R_right (F:Nat)(hF:65≤F)(p:Pl):Pref13_Right F p.N p.X p.Z p.Ph=some p.ok:=by
 rw [← okR_eq p F (by omega)]
 unfold Pref13_Right Pl.okR
 by_cases h1:p.N<0
 ·rw [if_pos h1,decide_eq_false (by omega:¬ 0≤p.N)];rfl
 ·rw [if_neg h1,decide_eq_true (by omega:0≤p.N)]
  by_cases h2:p.N>64
  ·rw [if_pos h2,decide_eq_false (by omega:¬ p.N≤64)];rfl
  ·rw [if_neg h2,decide_eq_true (by omega:p.N≤64)]
   by_cases h3:p.Ph<0
   ·rw [if_pos h3,decide_eq_false (by omega:¬ 0≤p.Ph)];rfl
   ·rw [if_neg h3,decide_eq_true (by omega:0≤p.Ph)]
    by_cases h4:p.Ph>3
    ·rw [if_pos h4,decide_eq_false (by omega:¬ p.Ph≤3)];rfl
    ·rw [if_neg h4,decide_eq_true (by omega:p.Ph≤3),clrL _ _ _ _ _ _ (by omega) (by omega) (by omega)]
     cases clr p.X p.Z F p.N<;>rfl
def one (N:Int)(p:Pl):Bool:=decide (p.N=N)&&p.herm
def allFrom (P:Nat→Bool):Nat→Nat→Bool
 |0,_=>true
 |m+1,j=>P j&&allFrom P m (j+1)
theorem allFrom_iff {P:Nat→Bool}:∀ {m j:Nat},allFrom P m j=true↔∀ k,j≤k→k<j+m→P k=true
 |0,j=>⟨fun _ k h1 h2=>by omega,fun _=>rfl⟩
 |m+1,j=>by
  simp only [allFrom,Bool.and_eq_true,allFrom_iff (m:=m) (j:=j+1)]
  refine ⟨fun ⟨a,b⟩ k h1 h2=>?_,fun h=>⟨h j (by omega) (by omega),fun k h1 h2=>h k (by omega) (by omega)⟩⟩
  by_cases e:k=j
  ·subst e;exact a
  ·exact b k (by omega) (by omega)
def two (S D:List Pl)(i j:Nat):Bool:=match S[i]?,S[j]?,D[i]?,D[j]? with
 |some a,some b,some c,some e=>!part a b && !part c e&&(part c b==decide (i=j))
 |_,_,_,_=>false
def oneAt (N:Int)(S D:List Pl)(i:Nat):Bool:=match S[i]?,D[i]? with
 |some p,some q=>one N p&&one N q
 |_,_=>false
def chk (N:Int)(S D:List Pl):Bool:=decide (0≤N)&&decide (N≤64)&&decide ((S.length:Int)=N)&&decide ((D.length:Int)=N) &&
 (allFrom (oneAt N S D) N.toNat 0&&allFrom (fun i=>allFrom (two S D i) N.toNat 0) N.toNat 0)
theorem idx_lt {l:List Pl}{i:Nat}(h:i<l.length):idx l (i:Int)=some l[i]:=by rw [idx_nat,List.getElem?_eq_getElem h]
theorem PC0 (v0 v1 N:Int)(S D:List Pl)(p q:Pl):∀ F,3≤F→Ptableau_CheckL0 v0 v1 2 N S D p.N p.X p.Z p.Ph q.N q.X q.Z q.Ph F 0=some (bif one N p&&one N q then .inr () else .inl ())
 |F+3,_=>by
  have w1:IntKind.i64.wrap (0+1)=1:=rfl
  have w2:IntKind.i64.wrap (1+1)=2:=rfl
  simp only [Ptableau_CheckL0,P_herm,one,w1,w2]
  by_cases h1:p.N=N
  ·by_cases h2:q.N=N
   ·cases p.herm<;>cases q.herm<;>simp [h1,h2]
   ·cases p.herm<;>simp [h1,h2]
  ·simp [h1]
theorem PC1 (F:Nat)(hF:3≤F)(N:Int)(S D:List Pl)(n:Nat)(hn:n<1000)(hN:N=n)(hS:S.length=n)(hD:D.length=n):∀ (f m i:Nat),i+m=n→m<f→Ptableau_CheckL1 F N N S D f (i:Int)=some (bif allFrom (oneAt N S D) m i then .inr () else .inl ())
 |0,m,i,_,h=>by omega
 |f+1,m,i,e,h=>by
  unfold Ptableau_CheckL1
  cases m with
  |zero=>rw [if_neg (by omega)];rfl
  |succ m=>
   have i1:i<S.length:=by omega
   have i2:i<D.length:=by omega
   rw [if_pos (by omega),idx_lt i1,idx_lt i2]
   simp only [PC0 _ _ _ _ _ _ _ F hF]
   have ih:=PC1 F hF N S D n hn hN hS hD f m (i+1) (by omega) (by omega)
   have o:oneAt N S D i=(one N S[i]&&one N D[i]):=by unfold oneAt;rw [List.getElem?_eq_getElem i1,List.getElem?_eq_getElem i2]
   rw [allFrom,o]
   cases one N S[i]&&one N D[i] with
   |false=>rfl
   |true=>rw [cond_true,wrap_id ⟨by omega,by omega⟩];simpa using ih
theorem PC2 (N:Int)(S D:List Pl)(n:Nat)(hn:n<1000)(hN:N=n)(hS:S.length=n)(hD:D.length=n)(v1 v2:Int)(i:Nat)(hi:i<n):∀ (f m j:Nat),j+m=n→m<f→Ptableau_CheckL2 (i:Int) v1 v2 N N S D f (j:Int)=some (bif allFrom (two S D i) m j then .inr () else .inl ())
 |0,m,j,_,h=>by omega
 |f+1,m,j,e,h=>by
  unfold Ptableau_CheckL2
  cases m with
  |zero=>rw [if_neg (by omega)];rfl
  |succ m=>
   have i1:i<S.length:=by omega
   have i2:i<D.length:=by omega
   have i3:j<S.length:=by omega
   have i4:j<D.length:=by omega
   rw [if_pos (by omega),idx_lt i1,idx_lt i2,idx_lt i3,idx_lt i4]
   simp only [P_commute]
   have ih:=PC2 N S D n hn hN hS hD v1 v2 i hi f m (j+1) (by omega) (by omega)
   have o:two S D i j=(!part S[i] S[j] && !part D[i] D[j]&&(part D[i] S[j]==decide (i=j))):=by unfold two;rw [List.getElem?_eq_getElem i1,List.getElem?_eq_getElem i2,List.getElem?_eq_getElem i3,List.getElem?_eq_getElem i4]
   rw [allFrom,o,wrap_id ⟨by omega,by omega⟩]
   rw [show ((j+1:Nat):Int)=(j:Int)+1 by omega] at ih
   rw [ih]
   by_cases q:i=j
   ·have q':(i:Int)=(j:Int):=by omega
    simp only [if_pos q',decide_eq_true q]
    cases part S[i] S[j]<;>cases part D[i] D[j]<;>cases part D[i] S[j]<;>rfl
   ·have q':¬ (i:Int)=(j:Int):=by omega
    simp only [if_neg q',decide_eq_false q]
    cases part S[i] S[j]<;>cases part D[i] D[j]<;>cases part D[i] S[j]<;>rfl
theorem PC3 (F:Nat)(N:Int)(S D:List Pl)(n:Nat)(hF:n<F)(hn:n<1000)(hN:N=n)(hS:S.length=n)(hD:D.length=n):∀ (f m i:Nat),i+m=n→m<f→Ptableau_CheckL3 F N N S D f (i:Int)=some (bif allFrom (fun i=>allFrom (two S D i) n 0) m i then .inr () else .inl ())
 |0,m,i,_,h=>by omega
 |f+1,m,i,e,h=>by
  unfold Ptableau_CheckL3
  cases m with
  |zero=>rw [if_neg (by omega)];rfl
  |succ m=>
   have:=PC2 N S D n hn hN hS hD N (i:Int) i (by omega) F n 0 (by omega) hF
   rw [if_pos (by omega)]
   have ih:=PC3 F N S D n hF hn hN hS hD f m (i+1) (by omega) (by omega)
   rw [show ((i+1:Nat):Int)=(i:Int)+1 by omega] at ih
   rw [allFrom,wrap_id ⟨by omega,by omega⟩,ih]
   rw [show ((0:Nat):Int)=0 from rfl] at this
   rw [this]
   cases allFrom (two S D i) n 0<;>rfl
theorem P_Check (F:Nat)(hF:66≤F)(N:Int)(S D:List Pl):Ptableau_Check F N S D=some (if chk N S D=true then 0 else 140):=by
 unfold Ptableau_Check chk
 by_cases h1:N<0
 ·rw [if_pos h1,decide_eq_false (by omega:¬ 0≤N)];rfl
 ·rw [if_neg h1,decide_eq_true (by omega:0≤N)]
  by_cases h2:N>64
  ·rw [if_pos h2,decide_eq_false (by omega:¬ N≤64)];rfl
  ·rw [if_neg h2,decide_eq_true (by omega:N≤64)]
   by_cases h3:(S.length:Int)=N
   ·rw [if_pos h3,decide_eq_true h3]
    by_cases h4:(D.length:Int)=N
    ·rw [if_pos h4,decide_eq_true h4]
     obtain ⟨n,rfl⟩:∃ n:Nat,N=(n:Int):=⟨N.toNat,by omega⟩
     have c1:=PC1 F (by omega) n S D n (by omega) rfl (by omega) (by omega) F n 0 (by omega) (by omega)
     have c3:=PC3 F n S D n (by omega) (by omega) rfl (by omega) (by omega) F n 0 (by omega) (by omega)
     rw [show ((0:Nat):Int)=0 from rfl] at c1 c3
     rw [c1,c3,Int.toNat_natCast]
     cases allFrom (oneAt n S D) n 0<;>cases allFrom (fun i=>allFrom (two S D i) n 0) n 0<;>rfl
    ·rw [if_neg h4,decide_eq_false h4];rfl
   ·rw [if_neg h3,decide_eq_false h3];rfl
theorem one_R (N:Int)(p:Pl):one N p=(p.ok&&(decide (p.N=N) && !decide (p.Ph.tmod 2=1))):=by
 unfold one Pl.herm
 cases h:p.ok with
 |false=>simp
 |true=>
  obtain ⟨_,_,h3,_⟩:=Pl.ok_ph h
  rw [Int.tmod_eq_emod_of_nonneg h3]
  have:(!decide (p.Ph % 2=1))=decide (p.Ph % 2=0):=by
   rw [← decide_not];congr 1;apply propext;omega
  rw [this];simp
theorem RR0 (N v3:Int)(S D:List Pl)(i:Nat)(h1:i<S.length)(h2:i<D.length):∀ F,65≤F→Pref14_RightL0 F N (i:Int) v3 S D F 0=some (bif one N S[i]&&one N D[i] then .inr () else .inl ()):=fun F hF=>by
 obtain ⟨f,hf⟩:∃ f,F=f+3:=⟨F-3,by omega⟩
 have w1:IntKind.i64.wrap (0+1)=1:=rfl
 have w2:IntKind.i64.wrap (1+1)=2:=rfl
 have s1:∀ k,Pref14_RightL0 F N (i:Int) v3 S D (k+1) 2=some (.inr ()):=fun k=>by unfold Pref14_RightL0;rfl
 have s2:Pref14_RightL0 F N (i:Int) v3 S D (f+2) 1=some (bif one N D[i] then .inr () else .inl ()):=by
  unfold Pref14_RightL0
  rw [idx_lt h1,idx_lt h2]
  simp only [R_right F hF,one_R,w2,s1]
  rw [if_pos (by decide)]
  cases D[i].ok
  ·rfl
  ·by_cases e1:D[i].N=N
   ·by_cases e2:D[i].Ph.tmod 2=1
    ·simp [e1,e2]
    ·simp [e1,e2]
   ·simp [e1]
 rw [show Pref14_RightL0 F N (i:Int) v3 S D F 0=Pref14_RightL0 F N (i:Int) v3 S D (f+3) 0 by rw [← hf]]
 unfold Pref14_RightL0
 rw [idx_lt h1]
 simp only [R_right F hF,w1,s2]
 rw [one_R N S[i],if_pos (by decide)]
 cases S[i].ok
 ·rfl
 ·by_cases e1:S[i].N=N
  ·by_cases e2:S[i].Ph.tmod 2=1
   ·simp [e1,e2]
   ·simp [e1,e2]
  ·simp [e1]
theorem RR1 (F:Nat)(hF:65≤F)(N:Int)(S D:List Pl)(n:Nat)(hn:n<1000)(hN:N=n)(hS:S.length=n)(hD:D.length=n):∀ (f m i:Nat),i+m=n→m<f→Pref14_RightL1 F N N S D f (i:Int)=some (bif allFrom (oneAt N S D) m i then .inr () else .inl ())
 |0,m,i,_,h=>by omega
 |f+1,m,i,e,h=>by
  unfold Pref14_RightL1
  cases m with
  |zero=>rw [if_neg (by omega)];rfl
  |succ m=>
   have i1:i<S.length:=by omega
   have i2:i<D.length:=by omega
   rw [if_pos (by omega),RR0 N N S D i i1 i2 F hF]
   have ih:=RR1 F hF N S D n hn hN hS hD f m (i+1) (by omega) (by omega)
   have o:oneAt N S D i=(one N S[i]&&one N D[i]):=by unfold oneAt;rw [List.getElem?_eq_getElem i1,List.getElem?_eq_getElem i2]
   rw [allFrom,o]
   cases one N S[i]&&one N D[i] with
   |false=>rfl
   |true=>simp only [cond_true];rw [wrap_id ⟨by omega,by omega⟩];simpa using ih
theorem RR2 (F:Nat)(hF:65≤F)(N:Int)(S D:List Pl)(n:Nat)(hn:n<1000)(hN:N=n)(hS:S.length=n)(hD:D.length=n)(i:Nat)(hi:i<n):∀ (f m j:Nat),j+m=n→m<f→Pref14_RightL2 F N (i:Int) N S D f (j:Int)=some (bif allFrom (two S D i) m j then .inr () else .inl ())
 |0,m,j,_,h=>by omega
 |f+1,m,j,e,h=>by
  unfold Pref14_RightL2
  cases m with
  |zero=>rw [if_neg (by omega)];rfl
  |succ m=>
   have i1:i<S.length:=by omega
   have i2:i<D.length:=by omega
   have i3:j<S.length:=by omega
   have i4:j<D.length:=by omega
   rw [if_pos (by omega),idx_lt i1,idx_lt i2,idx_lt i3,idx_lt i4]
   simp only [R_commute F hF]
   have ih:=RR2 F hF N S D n hn hN hS hD i hi f m (j+1) (by omega) (by omega)
   have o:two S D i j=(!part S[i] S[j] && !part D[i] D[j]&&(part D[i] S[j]==decide (i=j))):=by unfold two;rw [List.getElem?_eq_getElem i1,List.getElem?_eq_getElem i2,List.getElem?_eq_getElem i3,List.getElem?_eq_getElem i4]
   rw [allFrom,o,wrap_id ⟨by omega,by omega⟩]
   rw [show ((j+1:Nat):Int)=(j:Int)+1 by omega] at ih
   rw [ih]
   by_cases q:i=j
   ·have q':(i:Int)=(j:Int):=by omega
    simp only [if_pos q',decide_eq_true q]
    cases part S[i] S[j]<;>cases part D[i] D[j]<;>cases part D[i] S[j]<;>rfl
   ·have q':¬ (i:Int)=(j:Int):=by omega
    simp only [if_neg q',decide_eq_false q]
    cases part S[i] S[j]<;>cases part D[i] D[j]<;>cases part D[i] S[j]<;>rfl
theorem RR3 (F:Nat)(hF:66≤F)(N:Int)(S D:List Pl)(n:Nat)(hn:n≤64)(hN:N=n)(hS:S.length=n)(hD:D.length=n):∀ (f m i:Nat),i+m=n→m<f→Pref14_RightL3 F N N S D f (i:Int)=some (bif allFrom (fun i=>allFrom (two S D i) n 0) m i then .inr () else .inl ())
 |0,m,i,_,h=>by omega
 |f+1,m,i,e,h=>by
  unfold Pref14_RightL3
  cases m with
  |zero=>rw [if_neg (by omega)];rfl
  |succ m=>
   have:=RR2 F (by omega) N S D n (by omega) hN hS hD i (by omega) F n 0 (by omega) (by omega)
   rw [if_pos (by omega)]
   have ih:=RR3 F hF N S D n hn hN hS hD f m (i+1) (by omega) (by omega)
   rw [show ((i+1:Nat):Int)=(i:Int)+1 by omega] at ih
   rw [allFrom,wrap_id ⟨by omega,by omega⟩,ih]
   rw [show ((0:Nat):Int)=0 from rfl] at this
   rw [this]
   cases allFrom (two S D i) n 0<;>rfl
theorem R_Right (F:Nat)(hF:66≤F)(N:Int)(S D:List Pl):Pref14_Right F N S D=some (chk N S D):=by
 unfold Pref14_Right chk
 by_cases h1:N<0
 ·rw [if_pos h1,decide_eq_false (by omega:¬ 0≤N)];rfl
 ·rw [if_neg h1,decide_eq_true (by omega:0≤N)]
  by_cases h2:N>64
  ·rw [if_pos h2,decide_eq_false (by omega:¬ N≤64)];rfl
  ·rw [if_neg h2,decide_eq_true (by omega:N≤64)]
   by_cases h3:(S.length:Int)=N
   ·rw [if_pos h3,decide_eq_true h3]
    by_cases h4:(D.length:Int)=N
    ·rw [if_pos h4,decide_eq_true h4]
     obtain ⟨n,rfl⟩:∃ n:Nat,N=(n:Int):=⟨N.toNat,by omega⟩
     have c1:=RR1 F (by omega) n S D n (by omega) rfl (by omega) (by omega) F n 0 (by omega) (by omega)
     have c3:=RR3 F (by omega) n S D n (by omega) rfl (by omega) (by omega) F n 0 (by omega) (by omega)
     rw [show ((0:Nat):Int)=0 from rfl] at c1 c3
     rw [c1,c3,Int.toNat_natCast]
     cases allFrom (oneAt n S D) n 0<;>cases allFrom (fun i=>allFrom (two S D i) n 0) n 0<;>rfl
    ·rw [if_neg h4,decide_eq_false h4];rfl
   ·rw [if_neg h3,decide_eq_false h3];rfl
def mulP (p q:Pl):Pl:=⟨p.N,p.X ^^^ q.X,p.Z ^^^ q.Z,(p.Ph+q.Ph+(ps 64 p.X.toNat p.Z.toNat q.X.toNat q.Z.toNat:Nat)) % 4⟩
theorem Pl.ok_lt {p:Pl}(h:p.ok=true):p.X.toNat<2 ^ p.N.toNat∧p.Z.toNat<2 ^ p.N.toNat:=by
 have h0:=Pl.ok_ph h
 unfold Pl.ok at h
 simp only [Bool.and_eq_true,decide_eq_true_eq,Bool.or_eq_true] at h
 obtain ⟨_,h5⟩:=h
 have hx:=p.X.isLt
 have hz:=p.Z.isLt
 rcases h5 with h5|h5
 ·have e:p.N.toNat=64:=by omega
  rw [e];exact ⟨hx,hz⟩
 ·have h6:(p.X ||| p.Z).toNat / 2 ^ p.N.toNat=0:=by
   rw [← tn_shr,h5];rfl
  have hp:=Nat.two_pow_pos p.N.toNat
  have h7:(p.X ||| p.Z).toNat<2 ^ p.N.toNat:=by
   rcases Nat.lt_or_ge (p.X ||| p.Z).toNat (2 ^ p.N.toNat) with q|q
   ·exact q
   ·have:=Nat.div_pos q hp;omega
  rw [BitVec.toNat_or] at h7
  exact ⟨Nat.lt_of_le_of_lt Nat.left_le_or h7,Nat.lt_of_le_of_lt Nat.right_le_or h7⟩
structure Tab (N:Int) (S D:List Pl) (n:Nat):Prop where
 eN:N=n
 le:n≤64
 ls:S.length=n
 ld:D.length=n
 oS:∀ i (h:i<S.length),one N S[i]=true
 oD:∀ i (h:i<D.length),one N D[i]=true
 ss:∀ i j (h:i<S.length) (k:j<S.length),part S[i] S[j]=false
 dd:∀ i j (h:i<D.length) (k:j<D.length),part D[i] D[j]=false
 ds:∀ i j (h:i<D.length) (k:j<S.length),part D[i] S[j]=decide (i=j)
theorem chk_tab {N:Int}{S D:List Pl}(h:chk N S D=true):∃ n,Tab N S D n:=by
 unfold chk at h
 simp only [Bool.and_eq_true,decide_eq_true_eq] at h
 obtain ⟨⟨⟨⟨h1,h2⟩,h3⟩,h4⟩,h5,h6⟩:=h
 obtain ⟨n,rfl⟩:∃ n:Nat,N=(n:Int):=⟨N.toNat,by omega⟩
 rw [Int.toNat_natCast] at h5 h6
 have g1:=allFrom_iff.1 h5
 have g2:=fun i a b j c d=>allFrom_iff.1 (allFrom_iff.1 h6 i a b) j c d
 have k1:∀ i (a:i<S.length) (b:i<D.length),one n S[i]=true∧one n D[i]=true:=fun i a b=>by
  have:=g1 i (by omega) (by omega)
  unfold oneAt at this
  rw [List.getElem?_eq_getElem a,List.getElem?_eq_getElem b] at this
  simpa using this
 have k2:∀ i j (a:i<S.length) (b:i<D.length) (c:j<S.length) (d:j<D.length),part S[i] S[j]=false∧part D[i] D[j]=false∧part D[i] S[j]=decide (i=j):=fun i j a b c d=>by
  have:=g2 i (by omega) (by omega) j (by omega) (by omega)
  unfold two at this
  rw [List.getElem?_eq_getElem a,List.getElem?_eq_getElem b,List.getElem?_eq_getElem c,List.getElem?_eq_getElem d] at this
  simp only [Bool.and_eq_true,Bool.not_eq_true',beq_iff_eq] at this
  exact ⟨this.1.1,this.1.2,this.2⟩
 exact ⟨n,rfl,by omega,by omega,by omega,fun i a=>(k1 i a (by omega)).1,fun i a=>(k1 i (by omega) a).2,fun i j a b=>(k2 i j a (by omega) b (by omega)).1,fun i j a b=>(k2 i j (by omega) a (by omega) b).2.1,fun i j a b=>(k2 i j (by omega) a b (by omega)).2.2⟩
theorem one_iff {N:Int}{p:Pl}:one N p=true↔p.N=N∧p.ok=true∧p.Ph % 2=0:=by
 unfold one Pl.herm
 simp only [Bool.and_eq_true,decide_eq_true_eq]
theorem ok_iff {p:Pl}:p.ok=true↔0≤p.N∧p.N≤64∧0≤p.Ph∧p.Ph≤3∧p.X.toNat<2 ^ p.N.toNat∧p.Z.toNat<2 ^ p.N.toNat:=by
 refine ⟨fun h=>?_,fun ⟨h1,h2,h3,h4,h5,h6⟩=>?_⟩
 ·obtain ⟨a,b,c,d⟩:=Pl.ok_ph h
  obtain ⟨e,f⟩:=Pl.ok_lt h
  exact ⟨a,b,c,d,e,f⟩
 ·unfold Pl.ok
  simp only [Bool.and_eq_true,decide_eq_true_eq,Bool.or_eq_true]
  refine ⟨⟨⟨⟨h1,h2⟩,h3⟩,h4⟩,.inr ?_⟩
  apply BitVec.eq_of_toNat_eq
  rw [tn_shr,BitVec.toNat_or,Nat.div_eq_of_lt (Nat.or_lt_two_pow h5 h6)]
  rfl
theorem mulP_ok {p q:Pl}(hp:p.ok=true)(hq:q.ok=true)(hn:p.N=q.N):(mulP p q).ok=true∧(mulP p q).N=p.N:=by
 obtain ⟨a,b,c,d,e,f⟩:=ok_iff.1 hp
 obtain ⟨_,_,c',d',e',f'⟩:=ok_iff.1 hq
 rw [← hn] at e' f'
 refine ⟨ok_iff.2 ⟨a,b,?_,?_,?_,?_⟩,rfl⟩
 ·show 0≤(_:Int) % 4;omega
 ·show (_:Int) % 4≤3;omega
 ·show (p.X ^^^ q.X).toNat<_;rw [BitVec.toNat_xor];exact Nat.xor_lt_two_pow e e'
 ·show (p.Z ^^^ q.Z).toNat<_;rw [BitVec.toNat_xor];exact Nat.xor_lt_two_pow f f'
def unit (N:Int):Pl:=⟨N,0#64,0#64,0⟩
theorem part_mul (p a s:Pl):part p (mulP a s)=(part p a ^^ part p s):=by
 unfold part mulP
 simp only [BitVec.toNat_xor]
 exact om_xor ..
theorem part_unit (p:Pl)(N:Int):part p (unit N)=false:=om_zero ..
def Rowy (N:Int)(l:List Pl):Prop:=∀ (k:Nat) (v:Pl),l[k]? = some v→v.ok=true∧v.N=N
theorem R_Copy {N:Int}{S D:List Pl}(h1:S.length*32≤140737488355328)(h2:D.length*32≤140737488355328):Pref14_Copy N S D=some (N,S,D):=by
 unfold Pref14_Copy
 simp only [h1,h2,if_true]
 by_cases a:S=[]<;>by_cases b:D=[]<;>simp [a,b]
def vec (p:Pl):Nat×Nat:=(p.X.toNat,p.Z.toNat)
theorem part_vec (p q:Pl):part p q=omv (vec p) (vec q):=rfl
theorem same_rows (l:List Pl)(hl:l.length<4611686018427387904):∀ (f m i:Nat),i+m=l.length→m<f→Pref14_SameRowsL0 l l f (i:Int)=some (.inr ())
 |0,m,i,_,h=>by omega
 |f+1,m,i,e,h=>by
  unfold Pref14_SameRowsL0
  cases m with
  |zero=>rw [if_neg (by omega)]
  |succ m=>
   have ih:=same_rows l hl f m (i+1) (by omega) (by omega)
   rw [show ((i+1:Nat):Int)=(i:Int)+1 by omega] at ih
   rw [if_pos (by omega),idx_lt (by omega:i<l.length)]
   simp only [decide_true,Bool.and_self,cond_true,wrap_id (n:=(i:Int)+1) ⟨by omega,by omega⟩]
   exact ih
theorem R_SameRows (F:Nat)(l:List Pl)(hl:l.length<4611686018427387904)(hF:l.length<F):Pref14_SameRows F l l=some true:=by
 have:=same_rows l hl F l.length 0 (by omega) hF
 rw [show ((0:Nat):Int)=0 from rfl] at this
 unfold Pref14_SameRows
 rw [if_pos rfl,this]
theorem R_Alike (F:Nat)(N:Int)(S D:List Pl)(h1:S.length<4611686018427387904)(h2:D.length<4611686018427387904)(k1:S.length<F)(k2:D.length<F):Pref14_Alike F N S D N S D=some true:=by
 unfold Pref14_Alike
 rw [if_pos rfl,R_SameRows F S h1 k1,R_SameRows F D h2 k2]
 rfl
theorem pw_mod (a b c d:Nat):pw a b c d=pw (a % 2) (b % 2) (c % 2) (d % 2):=by
 unfold pw
 simp only [Nat.mod_mod]
theorem xor_mod2 (a b:Nat):(a ^^^ b) % 2=(a % 2 ^^^ b % 2) % 2:=by
 have h1:=Nat.mod_two_eq_zero_or_one a
 have h2:=Nat.mod_two_eq_zero_or_one b
 have h3:(a ^^^ b).testBit 0=(a.testBit 0 ^^ b.testBit 0):=Nat.testBit_xor a b 0
 rw [Nat.testBit_zero,Nat.testBit_zero,Nat.testBit_zero] at h3
 have h4:=Nat.mod_two_eq_zero_or_one (a ^^^ b)
 rcases h1 with h1|h1<;>rcases h2 with h2|h2<;>rcases h4 with h4|h4<;>simp [h1,h2,h4] at h3 ⊢
theorem pw_assoc (a b c d e f:Nat):(pw a b c d+pw (a ^^^ c) (b ^^^ d) e f) % 4=(pw c d e f+pw a b (c ^^^ e) (d ^^^ f)) % 4:=by
 rw [pw_mod a b c d,pw_mod (a ^^^ c) (b ^^^ d) e f,pw_mod c d e f,pw_mod a b (c ^^^ e) (d ^^^ f),xor_mod2 a c,xor_mod2 b d,xor_mod2 c e,xor_mod2 d f]
 have h1:=Nat.mod_two_eq_zero_or_one a
 have h2:=Nat.mod_two_eq_zero_or_one b
 have h3:=Nat.mod_two_eq_zero_or_one c
 have h4:=Nat.mod_two_eq_zero_or_one d
 have h5:=Nat.mod_two_eq_zero_or_one e
 have h6:=Nat.mod_two_eq_zero_or_one f
 rcases h1 with h1|h1<;>rcases h2 with h2|h2<;>rcases h3 with h3|h3<;>rcases h4 with h4|h4<;>rcases h5 with h5|h5<;>rcases h6 with h6|h6<;>rw [h1,h2,h3,h4,h5,h6]<;>rfl
theorem ps_assoc:∀ (k a b c d e f:Nat),(ps k a b c d+ps k (a ^^^ c) (b ^^^ d) e f) % 4=(ps k c d e f+ps k a b (c ^^^ e) (d ^^^ f)) % 4
 |0,_,_,_,_,_,_=>rfl
 |k+1,a,b,c,d,e,f=>by
  have h1:=pw_assoc a b c d e f
  have h2:=ps_assoc k (a / 2) (b / 2) (c / 2) (d / 2) (e / 2) (f / 2)
  simp only [ps,Nat.xor_div_two]
  omega
theorem mulP_assoc (p q r:Pl):mulP (mulP p q) r=mulP p (mulP q r):=by
 have h:=ps_assoc 64 p.X.toNat p.Z.toNat q.X.toNat q.Z.toNat r.X.toNat r.Z.toNat
 unfold mulP
 simp only [BitVec.toNat_xor,BitVec.xor_assoc,Pl.mk.injEq,true_and]
 generalize ps 64 p.X.toNat p.Z.toNat q.X.toNat q.Z.toNat=a at *
 generalize ps 64 (p.X.toNat ^^^ q.X.toNat) (p.Z.toNat ^^^ q.Z.toNat) r.X.toNat r.Z.toNat=b at *
 generalize ps 64 q.X.toNat q.Z.toNat r.X.toNat r.Z.toNat=c at *
 generalize ps 64 p.X.toNat p.Z.toNat (q.X.toNat ^^^ r.X.toNat) (q.Z.toNat ^^^ r.Z.toNat)=d at *
 omega
theorem mulP_comm {p q:Pl}(hn:p.N=q.N)(hc:part p q=false):mulP p q=mulP q p:=by
 have ho:=ps_odd 64 p.X.toNat p.Z.toNat q.X.toNat q.Z.toNat p.X.isLt p.Z.isLt q.X.isLt q.Z.isLt
 have ht:=ps_turn 64 p.X.toNat p.Z.toNat q.X.toNat q.Z.toNat
 unfold part om at hc
 rw [decide_eq_false_iff_not] at hc
 unfold mulP
 rw [hn,BitVec.xor_comm p.X,BitVec.xor_comm p.Z]
 simp only [Pl.mk.injEq,true_and]
 generalize ps 64 p.X.toNat p.Z.toNat q.X.toNat q.Z.toNat=a at *
 generalize ps 64 q.X.toNat q.Z.toNat p.X.toNat p.Z.toNat=b at *
 generalize popN ((p.X.toNat &&& q.Z.toNat) ^^^ (p.Z.toNat &&& q.X.toNat))=c at *
 omega
theorem pw_self (a b:Nat):pw a b a b=0:=by unfold pw;rw [if_pos (.inr (.inr ⟨rfl,rfl⟩))]
theorem ps_self:∀ (k a b:Nat),ps k a b a b=0
 |0,_,_=>rfl
 |k+1,a,b=>by simp only [ps,pw_self,ps_self k]
theorem mulP_self {p:Pl}(h:p.Ph % 2=0):mulP p p=unit p.N:=by
 unfold mulP unit
 rw [ps_self,BitVec.xor_self,BitVec.xor_self]
 simp only [Pl.mk.injEq,true_and]
 omega
def cprod (s:Nat→Pl)(c:Nat→Bool):Nat→Pl→Pl
 |0,a=>a
 |k+1,a=>bif c k then mulP (cprod s c k a) (s k) else cprod s c k a
def tw (s:Pl)(b:Bool)(a:Pl):Pl:=bif b then mulP a s else a
theorem cprod_succ (s:Nat→Pl)(c:Nat→Bool)(k:Nat)(a:Pl):cprod s c (k+1) a=tw (s k) (c k) (cprod s c k a):=rfl
theorem ps_zero_r:∀ (k a b:Nat),ps k a b 0 0=0
 |0,_,_=>rfl
 |k+1,a,b=>by
  have:pw a b 0 0=0:=pw_zero _ _ _ _ (.inr ⟨rfl,rfl⟩)
  simp only [ps,this,Nat.zero_div,ps_zero_r k]
theorem mulP_unit_r {p:Pl}{M:Int}(h1:0≤p.Ph)(h2:p.Ph≤3):mulP p (unit M)=p:=by
 unfold mulP unit
 obtain ⟨N,X,Z,Ph⟩:=p
 simp only [show (0#64).toNat=0 from rfl,ps_zero_r,BitVec.xor_zero,Pl.mk.injEq,true_and]
 simp only at h1 h2
 omega
theorem mulP_ph (p q:Pl):0≤(mulP p q).Ph∧(mulP p q).Ph≤3:=by
 constructor
 ·show 0≤(_:Int) % 4;omega
 ·show (_:Int) % 4≤3;omega
theorem tw_ph {s a:Pl}{b:Bool}(h:0≤a.Ph∧a.Ph≤3):0≤(tw s b a).Ph∧(tw s b a).Ph≤3:=by
 unfold tw
 cases b with
 |false=>exact h
 |true=>exact mulP_ph _ _
theorem cprod_ph {s:Nat→Pl}{c:Nat→Bool}{a:Pl}(h:0≤a.Ph∧a.Ph≤3):∀ k,0≤(cprod s c k a).Ph∧(cprod s c k a).Ph≤3
 |0=>h
 |k+1=>by rw [cprod_succ];exact tw_ph (cprod_ph h k)
def xs (c b:Nat→Bool):Nat→Bool
 |0=>false
 |k+1=>xs c b k ^^ (c k&&b k)
def sAt (S:List Pl)(j:Nat):Pl:=match S[j]? with|some s=>s|none=>unit 0
theorem sAt_lt {S:List Pl}{j:Nat}(h:j<S.length):sAt S j=S[j]:=by unfold sAt;rw [List.getElem?_eq_getElem h]
def colb (p:Pl)(n c:Nat):Bool:=if c<n then p.X.toNat.testBit c else p.Z.toNat.testBit (c-n)
def elimAt (n r c i:Nat)(l:List Pl):List Pl:=if i=r then l else match l[i]?,l[r]? with
 |some p,some q=>bif colb p n c then l.set i (mulP p q) else l
 |_,_=>l
def elim (n r c:Nat):Nat→Nat→List Pl→List Pl
 |0,_,l=>l
 |m+1,i,l=>elim n r c m (i+1) (elimAt n r c i l)
theorem elimAt_len {n r c i:Nat}{l:List Pl}:(elimAt n r c i l).length=l.length:=by
 unfold elimAt
 split
 ·rfl
 ·split
  ·rename_i p q _ _;cases colb p n c<;>simp
  ·rfl
theorem elim_len {n r c:Nat}:∀ {m i:Nat}{l:List Pl},(elim n r c m i l).length=l.length
 |0,_,_=>rfl
 |m+1,i,l=>by rw [elim,elim_len,elimAt_len]
theorem elimAt_at {n r c i:Nat}{l:List Pl}(h:i≠r)(hi:i<l.length)(hr:r<l.length):elimAt n r c i l=bif colb l[i] n c then l.set i (mulP l[i] l[r]) else l:=by
 unfold elimAt
 rw [if_neg h,List.getElem?_eq_getElem hi,List.getElem?_eq_getElem hr]
theorem elimAt_r {n r c:Nat}{l:List Pl}:elimAt n r c r l=l:=by unfold elimAt;rw [if_pos rfl]
theorem Rowy.at {N:Int}{l:List Pl}(h:Rowy N l){i:Nat}(hi:i<l.length):l[i].ok=true∧l[i].N=N:=h i _ (List.getElem?_eq_getElem hi)
theorem Rowy.set {N:Int}{l:List Pl}(h:Rowy N l){i:Nat}{p:Pl}(hp:p.ok=true∧p.N=N):Rowy N (l.set i p):=by
 intro k v hv
 by_cases e:i=k
 ·subst e
  have hk:i<l.length:=by
   have:=(List.getElem?_eq_some_iff.1 hv).1
   rwa [List.length_set] at this
  rw [List.getElem?_set_self hk] at hv
  cases hv;exact hp
 ·rw [List.getElem?_set_ne e] at hv;exact h k v hv
theorem Rowy.elimAt {N:Int}{l:List Pl}(h:Rowy N l){n r c i:Nat}:Rowy N (elimAt n r c i l):=by
 unfold Ab.elimAt
 split
 ·exact h
 ·split
  ·rename_i p q e1 e2
   cases colb p n c with
   |false=>exact h
   |true=>
    obtain ⟨a1,a2⟩:=h _ _ e1
    obtain ⟨b1,b2⟩:=h _ _ e2
    obtain ⟨m1,m2⟩:=mulP_ok a1 b1 (a2.trans b2.symm)
    exact h.set ⟨m1,m2.trans a2⟩
  ·exact h
theorem Rowy.elim {N:Int}{n r c:Nat}:∀ {m i:Nat}{l:List Pl},Rowy N l→Rowy N (elim n r c m i l)
 |0,_,_,h=>h
 |m+1,i,l,h=>Rowy.elim (m:=m) h.elimAt
theorem colb_mul (p q:Pl)(n c:Nat):colb (mulP p q) n c=(colb p n c ^^ colb q n c):=by
 unfold colb mulP
 split
 ·rw [BitVec.toNat_xor,Nat.testBit_xor]
 ·rw [BitVec.toNat_xor,Nat.testBit_xor]
theorem elim_get {n r c:Nat}:∀ {m i:Nat}{l:List Pl}{k:Nat},r<l.length→(elim n r c m i l)[k]? = if i≤k∧k<i+m then (elimAt n r c k l)[k]? else l[k]?
 |0,i,l,k,_=>by rw [if_neg (by omega)];rfl
 |m+1,i,l,k,hr=>by
  rw [elim,elim_get (by rw [elimAt_len];exact hr)]
  have other:∀ j,j≠i→(elimAt n r c i l)[j]? = l[j]?:=fun j hj=>by
   unfold elimAt
   split
   ·rfl
   ·split
    ·rename_i p q _ _
     cases colb p n c with
     |false=>rfl
     |true=>rw [cond_true,List.getElem?_set_ne (Ne.symm hj)]
    ·rfl
  have rsame:(elimAt n r c i l)[r]? = l[r]?:=by
   by_cases e:r=i
   ·subst e;rw [elimAt_r]
   ·exact other r e
  by_cases h1:i+1≤k∧k<i+1+m
  ·rw [if_pos h1,if_pos (by omega)]
   have hk:=other k (by omega)
   generalize elimAt n r c i l=L at hk rsame ⊢
   unfold elimAt
   by_cases e:k=r
   ·rw [if_pos e,if_pos e];exact hk
   ·rw [if_neg e,if_neg e]
    rw [hk,rsame]
    cases e1:l[k]? with
    |none=>simp only [];rw [hk,e1]
    |some p=>
     cases e2:l[r]? with
     |none=>simp only [];rw [hk,e1]
     |some q=>
      simp only []
      obtain ⟨a,_⟩:=List.getElem?_eq_some_iff.1 e1
      obtain ⟨b,_⟩:=List.getElem?_eq_some_iff.1 (hk.trans e1)
      cases colb p n c with
      |false=>simp only [cond_false];rw [hk,e1]
      |true=>simp only [cond_true];rw [List.getElem?_set_self a,List.getElem?_set_self b]
  ·rw [if_neg h1]
   by_cases h2:k=i
   ·subst h2;rw [if_pos (by omega)]
   ·rw [if_neg (by omega),other k h2]
theorem elim_row {n r c m:Nat}{l:List Pl}(hm:m=l.length)(hr:r<l.length){k:Nat}(hk:k<l.length):(elim n r c m 0 l)[k]'(by rw [elim_len];exact hk)=if k=r then l[k] else bif colb l[k] n c then mulP l[k] l[r] else l[k]:=by
 subst hm
 have h:=elim_get (n:=n) (c:=c) (m:=l.length) (i:=0) (k:=k) hr
 rw [if_pos (by omega),List.getElem?_eq_getElem (by rw [elim_len];exact hk)] at h
 by_cases e:k=r
 ·subst e
  rw [elimAt_r,List.getElem?_eq_getElem hk] at h
  rw [if_pos rfl];exact Option.some.inj h
 ·rw [elimAt_at e hk hr] at h
  rw [if_neg e]
  cases hb:colb l[k] n c with
  |false=>rw [hb,cond_false,List.getElem?_eq_getElem hk] at h;exact Option.some.inj h
  |true=>rw [hb,cond_true,List.getElem?_set_self hk] at h;exact Option.some.inj h
theorem colb_nought {p:Pl}{n d:Nat}(h:p.X=0#64∧p.Z=0#64):colb p n d=false:=by
 unfold colb
 rw [h.1,h.2]
 simp
def Comm (N:Int)(l:List Pl):Prop:=(∀ i (h:i<l.length),one N l[i]=true)∧∀ i j (h:i<l.length) (k:j<l.length),part l[i] l[j]=false
def InG (N:Int)(l:List Pl)(x:Pl):Prop:=∃ c,x=cprod (sAt l) c l.length (unit N)
theorem u_ph (N:Int):0≤(unit N).Ph∧(unit N).Ph≤3:=by unfold unit;simp
theorem part_g {N:Int}{l:List Pl}(s:Nat→Pl){c:Nat→Bool}{m:Pl}:∀ k,(∀ j,j<k→part m (s j)=false)→part m (cprod s c k (unit N))=false
 |0,_=>part_unit _ _
 |k+1,h=>by
  rw [cprod_succ,tw]
  cases c k with
  |false=>exact part_g (l:=l) s k (fun j hj=>h j (by omega))
  |true=>rw [cond_true,part_mul,part_g (l:=l) s k (fun j hj=>h j (by omega)),h k (by omega)];rfl
theorem cprod_N {s:Nat→Pl}{c:Nat→Bool}{N:Int}:∀ k,(cprod s c k (unit N)).N=N
 |0=>rfl
 |k+1=>by
  rw [cprod_succ,tw]
  cases c k with
  |false=>exact cprod_N k
  |true=>exact cprod_N k
theorem cprod_mul {N:Int}{s:Nat→Pl}{c c':Nat→Bool}:∀ k,(∀ j,j<k→(s j).N=N∧(s j).Ph % 2=0)→(∀ i j,i<k→j<k→part (s i) (s j)=false)→
  mulP (cprod s c k (unit N)) (cprod s c' k (unit N))=cprod s (fun j=>c j ^^ c' j) k (unit N)
 |0,_,_=>by show mulP (unit N) (unit N)=unit N;exact mulP_unit_r (u_ph N).1 (u_ph N).2
 |k+1,h1,h2=>by
  have ih:=cprod_mul (c:=c) (c':=c') k (fun j hj=>h1 j (by omega)) (fun i j hi hj=>h2 i j (by omega) (by omega))
  rw [cprod_succ,cprod_succ,cprod_succ,← ih]
  obtain ⟨n1,e1⟩:=h1 k (by omega)
  have cm:part (s k) (cprod s c' k (unit N))=false:=part_g (l:=[]) s k (fun j hj=>h2 k j (by omega) (by omega))
  have nb:=cprod_N (s:=s) (c:=c') (N:=N) k
  have pa:=cprod_ph (s:=s) (c:=c) (u_ph N) k
  have pb:=cprod_ph (s:=s) (c:=c') (u_ph N) k
  generalize cprod s c k (unit N)=A at *
  generalize cprod s c' k (unit N)=B at *
  have com:mulP (s k) B=mulP B (s k):=mulP_comm (n1.trans nb.symm) cm
  unfold tw
  cases c k<;>cases c' k<;>simp only [cond_true,cond_false,Bool.xor_false,Bool.false_xor,Bool.xor_self,Bool.true_xor,Bool.not_false]
  ·rw [mulP_assoc]
  ·rw [mulP_assoc,com,mulP_assoc]
  ·rw [mulP_assoc A (s k),← mulP_assoc (s k) B (s k),com,mulP_assoc B (s k) (s k),mulP_self e1,mulP_unit_r pb.1 pb.2]
theorem Comm.facts {N:Int}{l:List Pl}(h:Comm N l):(∀ j,j<l.length→(sAt l j).N=N∧(sAt l j).Ph % 2=0)∧(∀ i j,i<l.length→j<l.length→part (sAt l i) (sAt l j)=false):=by
 refine ⟨fun j hj=>?_,fun i j hi hj=>?_⟩
 ·rw [sAt_lt hj]
  obtain ⟨a,_,b⟩:=one_iff.1 (h.1 j hj)
  exact ⟨a,b⟩
 ·rw [sAt_lt hi,sAt_lt hj]
  exact h.2 i j hi hj
theorem InG.mul {N:Int}{l:List Pl}(h:Comm N l){x y:Pl}(hx:InG N l x)(hy:InG N l y):InG N l (mulP x y):=by
 obtain ⟨c,rfl⟩:=hx
 obtain ⟨c',rfl⟩:=hy
 obtain ⟨f1,f2⟩:=h.facts
 exact ⟨_,cprod_mul l.length f1 f2⟩
theorem InG.unit {N:Int}{l:List Pl}:InG N l (unit N):=⟨fun _=>false,by
 have:∀ k,cprod (sAt l) (fun _=>false) k (Ab.unit N)=Ab.unit N:=fun k=>by
  induction k with
  |zero=>rfl
  |succ k ih=>rw [cprod_succ,ih];rfl
 exact (this _).symm⟩
def Sub (N:Int)(l l':List Pl):Prop:=∀ i (h:i<l.length),InG N l' l[i]
theorem Sub.in {N:Int}{l l':List Pl}(h':Comm N l')(s:Sub N l l'){x:Pl}(hx:InG N l x):InG N l' x:=by
 obtain ⟨c,rfl⟩:=hx
 have:∀ k,k≤l.length→InG N l' (cprod (sAt l) c k (Ab.unit N)):=fun k=>by
  induction k with
  |zero=>exact fun _=>InG.unit
  |succ k ih=>
   intro hk
   rw [cprod_succ,tw]
   cases c k with
   |false=>exact ih (by omega)
   |true=>
    rw [cond_true,sAt_lt (by omega:k<l.length)]
    exact (ih (by omega)).mul h' (s k (by omega))
 exact this _ (Nat.le_refl _)
theorem Sub.trans {N:Int}{l l' l'':List Pl}(h'':Comm N l'')(a:Sub N l l')(b:Sub N l' l''):Sub N l l'':=fun i hi=>b.in h'' (a i hi)
def Grp (N:Int)(l l':List Pl):Prop:=Comm N l'∧Sub N l' l∧Sub N l l'
theorem Grp.trans {N:Int}{l l' l'':List Pl}(h:Comm N l)(a:Grp N l l')(b:Grp N l' l''):Grp N l l'':=⟨b.1,b.2.1.trans h a.2.1,a.2.2.trans b.1 b.2.2⟩
theorem colb_cprod {N:Int}{s:Nat→Pl}{c:Nat→Bool}{n d:Nat}:∀ k,colb (cprod s c k (unit N)) n d=xs c (fun j=>colb (s j) n d) k
 |0=>by
  show colb (unit N) n d=false
  exact colb_nought ⟨rfl,rfl⟩
 |k+1=>by
  rw [cprod_succ,tw,xs]
  cases c k with
  |false=>rw [cond_false,colb_cprod k];simp
  |true=>rw [cond_true,colb_mul,colb_cprod k];simp
theorem xs_delta {c b:Nat→Bool}{i:Nat}:∀ k,(∀ j,j<k→b j=decide (j=i))→xs c b k=(decide (i<k)&&c i)
 |0,_=>by simp [xs]
 |k+1,h=>by
  rw [xs,xs_delta k (fun j hj=>h j (by omega)),h k (by omega)]
  by_cases q:k=i
  ·subst q;simp
  ·rw [decide_eq_false q]
   have:decide (i<k)=decide (i<k+1):=by
    by_cases q2:i<k
    ·rw [decide_eq_true q2,decide_eq_true (by omega)]
    ·rw [decide_eq_false q2,decide_eq_false (by omega)]
   rw [this];simp
theorem xs_zero {c b:Nat→Bool}:∀ k,(∀ j,j<k→(c j&&b j)=false)→xs c b k=false
 |0,_=>rfl
 |k+1,h=>by rw [xs,xs_zero k (fun j hj=>h j (by omega)),h k (by omega)];rfl
structure Full (n:Nat) (l:List Pl) (piv:Nat→Nat):Prop where
 inc:∀ i j,i<j→j<l.length→piv i<piv j
 one:∀ i k (h:k<l.length),i<l.length→colb l[k] n (piv i)=decide (k=i)
 lead:∀ i (h:i<l.length),∀ d,d<piv i→colb l[i] n d=false
theorem Full.coef {N:Int}{n:Nat}{l:List Pl}{piv:Nat→Nat}(f:Full n l piv){c:Nat→Bool}{i:Nat}(hi:i<l.length):colb (cprod (sAt l) c l.length (unit N)) n (piv i)=c i:=by
 rw [colb_cprod,xs_delta (i:=i) l.length (fun j hj=>by rw [sAt_lt hj];exact f.one i j hj hi),decide_eq_true hi,Bool.true_and]
theorem least (c:Nat→Bool):∀ k,(∃ i,i<k∧c i=true∧∀ j,j<i→c j=false)∨∀ i,i<k→c i=false
 |0=>.inr fun i hi=>by omega
 |k+1=>by
  rcases least c k with ⟨i,h1,h2,h3⟩|h
  ·exact .inl ⟨i,by omega,h2,h3⟩
  ·cases e:c k with
   |true=>exact .inl ⟨k,by omega,e,h⟩
   |false=>
    refine .inr fun i hi=>?_
    by_cases q:i=k
    ·subst q;exact e
    ·exact h i (by omega)
theorem Full.first {N:Int}{n:Nat}{l:List Pl}{piv:Nat→Nat}(f:Full n l piv){x:Pl}(hx:InG N l x){d:Nat}(h1:colb x n d=true)(h2:∀ d',d'<d→colb x n d'=false):∃ i,i<l.length∧d=piv i:=by
 obtain ⟨c,rfl⟩:=hx
 rcases least c l.length with ⟨i,hi,ci,hl⟩|hz
 ·refine ⟨i,hi,?_⟩
  have low:∀ d',d'<piv i→colb (cprod (sAt l) c l.length (unit N)) n d'=false:=fun d' hd=>by
   rw [colb_cprod]
   refine xs_zero _ fun j hj=>?_
   by_cases q:j<i
   ·rw [hl j q];rfl
   ·rw [sAt_lt hj,f.lead j hj d' ?_,Bool.and_false]
    by_cases q2:j=i
    ·subst q2;exact hd
    ·have:=f.inc i j (by omega) hj;omega
  have top:=f.coef (N:=N) (c:=c) hi
  rw [ci] at top
  by_cases q:d<piv i
  ·rw [low d q] at h1;cases h1
  ·by_cases q2:piv i<d
   ·rw [h2 _ q2] at top;cases top
   ·omega
 ·rw [colb_cprod,xs_zero _ (fun j hj=>by rw [hz j hj];rfl)] at h1
  cases h1
def xo (f:Nat→Bool):Nat→Bool
 |0=>false
 |k+1=>xo f k ^^ f k
theorem xo_congr {f g:Nat→Bool}:∀ k,(∀ j,j<k→f j=g j)→xo f k=xo g k
 |0,_=>rfl
 |k+1,h=>by unfold xo;rw [xo_congr k (fun j hj=>h j (by omega)),h k (by omega)]
theorem xo_xor (f g:Nat→Bool):∀ k,xo (fun j=>f j ^^ g j) k=(xo f k ^^ xo g k)
 |0=>rfl
 |k+1=>by
  unfold xo
  rw [xo_xor f g k]
  cases xo f k<;>cases xo g k<;>cases f k<;>cases g k<;>rfl
theorem xo_one {f:Nat→Bool}{i:Nat}:∀ k,xo (fun j=>f j&&decide (j=i)) k=(decide (i<k)&&f i)
 |0=>by simp [xo]
 |k+1=>by
  unfold xo
  rw [xo_one k]
  by_cases h:k=i
  ·subst h;simp
  ·have:decide (i<k+1)=decide (i<k):=decide_eq_decide.2 (by omega)
   simp [h,this]
def pr (n:Nat)(u:Nat→Bool)(p:Pl):Bool:=xo (fun d=>u d&&colb p n d) (2*n)
theorem pr_mul (n:Nat)(u:Nat→Bool)(p q:Pl):pr n u (mulP p q)=(pr n u p ^^ pr n u q):=by
 unfold pr
 rw [← xo_xor]
 refine xo_congr _ fun d _=>?_
 rw [colb_mul]
 cases u d<;>simp
def Even (n:Nat)(u:Nat→Bool)(l:List Pl):Prop:=∀ k (h:k<l.length),pr n u l[k]=false
theorem Even.elim {n:Nat}{u:Nat→Bool}{l:List Pl}{r c:Nat}(hr:r<l.length):Even n u (elim n r c l.length 0 l)↔Even n u l:=by
 have key:∀ k (hk:k<l.length),(Ab.elim n r c l.length 0 l)[k]'(by rw [elim_len];exact hk)=if k=r then l[k] else bif colb l[k] n c then mulP l[k] l[r] else l[k]:=fun k hk=>elim_row rfl hr hk
 constructor
 ·intro h
  have h0:pr n u l[r]=false:=by
   have:=h r (by rw [elim_len];exact hr)
   rwa [key r hr,if_pos rfl] at this
  intro k hk
  have:=h k (by rw [elim_len];exact hk)
  rw [key k hk] at this
  by_cases e:k=r
  ·rwa [if_pos e] at this
  ·rw [if_neg e] at this
   cases hc:colb l[k] n c with
   |false=>rwa [hc,cond_false] at this
   |true=>rw [hc,cond_true,pr_mul,h0,Bool.xor_false] at this;exact this
 ·intro h k hk
  rw [elim_len] at hk
  rw [key k hk]
  split
  ·exact h k hk
  ·cases colb l[k] n c with
   |false=>exact h k hk
   |true=>rw [cond_true,pr_mul,h k hk,h r hr];rfl
def rowAt (l:List Pl)(j:Nat):Pl:=(l[j]?).getD ⟨0,0#64,0#64,0⟩
theorem rowAt_lt {l:List Pl}{j:Nat}(h:j<l.length):rowAt l j=l[j]:=by unfold rowAt;rw [List.getElem?_eq_getElem h];rfl
def cv (r:Nat→Nat×Nat)(c:Nat→Bool)(k:Nat):Nat×Nat:=(comb (fun j=>(r j).1) c k,comb (fun j=>(r j).2) c k)
theorem omv_cv (r:Nat→Nat×Nat)(c:Nat→Bool)(w:Nat×Nat):∀ k,omv (cv r c k) w=xo (fun j=>c j&&omv (r j) w) k
 |0=>by show om 0 0 w.1 w.2=false;rw [om_comm,om_zero]
 |k+1=>by
  show om (comb (fun j=>(r j).1) c k ^^^ (bif c k then (r k).1 else 0)) (comb (fun j=>(r j).2) c k ^^^ (bif c k then (r k).2 else 0)) w.1 w.2=(xo (fun j=>c j&&omv (r j) w) k ^^ (c k&&omv (r k) w))
  rw [om_comm,om_xor,om_comm,← omv_cv r c w k]
  congr 1
  cases c k
  ·exact om_zero _ _
  ·rw [cond_true,cond_true,om_comm];rfl
def sv (l:List Pl)(j:Nat):Nat×Nat:=vec (rowAt l j)
theorem Tab.om_ds {N:Int}{S D:List Pl}{n:Nat}(t:Tab N S D n){i j:Nat}(hi:i<n)(hj:j<n):omv (sv D i) (sv S j)=decide (i=j):=by
 unfold sv
 rw [rowAt_lt (by rw [t.ld];exact hi),rowAt_lt (by rw [t.ls];exact hj),← part_vec]
 exact t.ds i j _ _
theorem Tab.coef {N:Int}{S D:List Pl}{n:Nat}(t:Tab N S D n)(c:Nat→Bool){i:Nat}(hi:i<n):omv (cv (sv S) c n) (sv D i)=c i:=by
 rw [omv_cv,xo_congr (g:=fun j=>c j&&decide (j=i)) n (fun j hj=>by
  rw [omv_comm,t.om_ds hi hj]
  congr 1
  exact decide_eq_decide.2 ⟨Eq.symm,Eq.symm⟩),xo_one,decide_eq_true hi,Bool.true_and]
def Other (n:Nat)(m m':BitVec 64):Prop:=∀ q,q<n→m'.toNat.testBit q = !m.toNat.testBit q
theorem Other.symm {n:Nat}{m m':BitVec 64}(h:Other n m m'):Other n m' m:=fun q hq=>by rw [h q hq,Bool.not_not]
def pb (x z c d:Bool):Nat:=pw x.toNat z.toNat c.toNat d.toNat
theorem cut_zero (neg:Bool)(n:Nat):Ieee.Toward.even.cut neg n 0=n:=by
 unfold Ieee.Toward.cut
 simp [Nat.mod_one]
theorem log2_scale {n:Nat}(hn:0<n):∀ k:Nat,(n*2 ^ k).log2=n.log2+k
 |0=>by simp
 |k+1=>by
  have h0:n*2 ^ k≠0:=Nat.ne_of_gt (Nat.mul_pos hn (Nat.two_pow_pos k))
  rw [Nat.pow_succ,← Nat.mul_assoc,Nat.mul_comm _ 2,Nat.log2_two_mul h0,log2_scale hn k]
  omega
theorem cut_scale (neg:Bool){n:Nat}(hn:0<n)(k drop:Nat):Ieee.Toward.even.cut neg (n*2 ^ k) (drop+k)=Ieee.Toward.even.cut neg n drop:=by
 unfold Ieee.Toward.cut
 have e:1 <<< min (drop+k) ((n*2 ^ k).log2+2)=(1 <<< min drop (n.log2+2))*2 ^ k:=by
  rw [log2_scale hn,Nat.one_shiftLeft,Nat.one_shiftLeft,← Nat.pow_add]
  congr 1
  omega
 simp only [e]
 generalize hg:1 <<< min drop (n.log2+2)=g
 have hp:0<2 ^ k:=Nat.two_pow_pos k
 rw [Nat.mul_div_mul_right _ _ hp,Nat.mul_mod_mul_right]
 have a1:decide (g*2 ^ k<2*(n % g*2 ^ k))=decide (g<2*(n % g)):=by
  rw [← Nat.mul_assoc,decide_eq_decide]
  exact Nat.mul_lt_mul_right hp
 have a2:(g*2 ^ k==2*(n % g*2 ^ k))=(g==2*(n % g)):=by
  rw [← Nat.mul_assoc,Bool.eq_iff_iff,beq_iff_eq,beq_iff_eq]
  exact Nat.mul_left_inj (by omega)
 rw [a1,a2]
theorem nearest_scale (f:Ieee.Format)(neg:Bool){mag:Nat}(hm:0<mag)(k:Nat)(place:Int):f.nearest neg (mag*2 ^ k) place=f.nearest neg mag (place+k):=by
 unfold Ieee.Format.nearest
 have h1:¬ mag*2 ^ k=0:=Nat.ne_of_gt (Nat.mul_pos hm (Nat.two_pow_pos k))
 rw [if_neg h1,if_neg (by omega:¬ mag=0),log2_scale hm]
 have e:place+((mag.log2+k:Nat):Int)-(f.fractionBits:Int)=place+k+(mag.log2:Int)-f.fractionBits:=by omega
 simp only [e]
 generalize hl:max (place+k+(mag.log2:Int)-f.fractionBits) f.leastPlace=last
 have key:Ieee.Toward.even.cut neg ((mag*2 ^ k) <<< (place-last).toNat) (last-place).toNat=Ieee.Toward.even.cut neg (mag <<< (place+k-last).toNat) (last-(place+k)).toNat:=by
  rw [Nat.shiftLeft_eq,Nat.shiftLeft_eq]
  by_cases c1:last≤place
  ·rw [show (last-place).toNat=0 by omega,show (last-(place+k)).toNat=0 by omega,Nat.mul_assoc,← Nat.pow_add,show k+(place-last).toNat=(place+k-last).toNat by omega]
  ·rw [show (place-last).toNat=0 by omega,Nat.pow_zero,Nat.mul_one]
   by_cases c2:last≤place+k
   ·have:=cut_scale neg (n:=mag*2 ^ (place+k-last).toNat) (Nat.mul_pos hm (Nat.two_pow_pos _)) (last-place).toNat 0
    rw [Nat.zero_add,Nat.mul_assoc,← Nat.pow_add,show (place+k-last).toNat+(last-place).toNat=k by omega] at this
    rw [this,show (last-(place+k)).toNat=0 by omega]
   ·have:=cut_scale neg (n:=mag) hm k (last-(place+k)).toNat
    rw [show (last-(place+k)).toNat+k=(last-place).toNat by omega] at this
    rw [this,show (place+k-last).toNat=0 by omega,Nat.pow_zero,Nat.mul_one]
 rw [key]
abbrev D64:Ieee.Format:=FloatKind.f64.format
theorem d_lp:D64.leastPlace = -1074:=rfl
theorem d_fb:D64.fractionBits=52:=rfl
theorem d_bin:D64.binade=2 ^ 52:=rfl
theorem d_inf:D64.infRung=2047*2 ^ 52:=rfl
theorem d_sw:D64.signWeight=2 ^ 63:=rfl
theorem word_mod (neg:Bool){r:Nat}(h:r<2 ^ 63):D64.word neg r % 2 ^ 63=r∧(D64.word neg r / 2 ^ 63 % 2==1)=neg:=by
 unfold Ieee.Format.word
 rw [d_sw]
 cases neg with
 |false=>simp only [Bool.false_eq_true,if_false,beq_eq_false_iff_ne,ne_eq];omega
 |true=>simp only [if_true,beq_iff_eq];omega
theorem read_word (neg:Bool){r:Nat}(h:r<2047*2 ^ 52):D64.read (D64.word neg r)=if r<2 ^ 52 then .number neg r (-1074) else .number neg (2 ^ 52+r % 2 ^ 52) (-1074+(r / 2 ^ 52-1:Nat)):=by
 obtain ⟨h1,h2⟩:=word_mod neg (r:=r) (by omega)
 unfold Ieee.Format.read
 rw [d_sw,d_bin,d_inf,d_lp]
 simp only [h1,h2]
 split
 ·rfl
 ·rfl
theorem read00:D64.read (0#64).toNat=.number false 0 (-1074):=by rfl
theorem near_lt (neg:Bool)(mag:Nat)(place:Int):D64.nearest neg mag place<2 ^ 64:=D64.nearest_lt neg mag place
theorem near_nat (neg:Bool)(mag:Nat)(place:Int):(BitVec.ofNat 64 (D64.nearest neg mag place)).toNat=D64.nearest neg mag place:=by
 rw [BitVec.toNat_ofNat,Nat.mod_eq_of_lt (near_lt ..)]
theorem fMul_near {x y:BitVec 64}{s t:Bool}{m n:Nat}{i j:Int}(hx:D64.read x.toNat=.number s m i)(hy:D64.read y.toNat=.number t n j):fMul x y=BitVec.ofNat 64 (D64.nearest (s ^^ t) (m*n) (i+j)):=by
 unfold fMul Ieee.Format.mul
 rw [hx,hy]
 rfl
theorem ord_self {x:BitVec 64}(h:fNaN x=false):FloatKind.f64.format.order x.toNat x.toNat=some .eq:=by
 unfold Ieee.Format.order
 unfold fNaN at h
 cases e:FloatKind.f64.format.read x.toNat with
 |number s m i=>unfold Ieee.Datum.order;simp
 |infinity s=>unfold Ieee.Datum.order;simp
 |nan s f=>rw [e] at h;cases h
theorem neq_self (x:BitVec 64):fCmp .neq x x=fNaN x:=by
 cases h:fNaN x with
 |false=>unfold fCmp;rw [ord_self h];rfl
 |true=>unfold fCmp;rw [ord_nl h];rfl
end Go.Proofs.YtchgkmdonhdfeaaGreatDoor.Ab
/- Floats: whole multiples of a power of two: their sums, halves and negations are exact. No condition: lemmas only. -/
set_option maxRecDepth 100000
set_option linter.unusedVariables false
set_option linter.unusedSimpArgs false
namespace Go.Proofs.YtchgkmdonhdfeaaGreatDoor.Ab
open Go
def gr (m:Int)(j:Nat):BitVec 64:=BitVec.ofNat 64 (D64.nearest (decide (m<0)) m.natAbs (-(j:Int)))
theorem near_zero (neg:Bool)(p:Int):D64.nearest neg 0 p=D64.word neg 0:=by
 unfold Ieee.Format.nearest
 rw [if_pos rfl]
theorem gr_zero (j:Nat):gr 0 j=0#64:=by
 unfold gr
 rw [Int.natAbs_zero,near_zero]
 rfl
theorem gr_nat (m:Int)(j:Nat):(gr m j).toNat=D64.nearest (decide (m<0)) m.natAbs (-(j:Int)):=near_nat ..
theorem gr_read {m:Int}{j:Nat}(hm:m≠0)(hb:m.natAbs<2 ^ 53)(hj:j≤1000):D64.read (gr m j).toNat=.number (decide (m<0)) (m.natAbs*2 ^ (52-m.natAbs.log2)) (-(j:Int)-(52-m.natAbs.log2:Nat)):=by
 rw [gr_nat]
 generalize hs:decide (m<0)=neg
 generalize ha:m.natAbs=a at hb ⊢
 have a0:a≠0:=by omega
 have hl:a.log2≤52:=by
  have:=(Nat.log2_lt a0).2 hb
  omega
 generalize hk:52-a.log2=k
 have l1:2 ^ a.log2≤a:=Nat.log2_self_le a0
 have l2:a<2 ^ (a.log2+1):=Nat.lt_log2_self
 have b1:2 ^ 52≤a*2 ^ k:=by
  have:=Nat.mul_le_mul_right (2 ^ k) l1
  rw [← Nat.pow_add,show a.log2+k=52 by omega] at this
  exact this
 have b2:a*2 ^ k<2 ^ 53:=by
  have:=(Nat.mul_lt_mul_right (Nat.two_pow_pos k)).2 l2
  rw [← Nat.pow_add,show a.log2+1+k=53 by omega] at this
  exact this
 generalize hK:a*2 ^ k=K at b1 b2
 obtain ⟨t,ht⟩:∃ t:Nat,(t:Int) = -(j:Int)-k+1074:=⟨(-(j:Int)-k+1074).toNat,by omega⟩
 have hw:D64.nearest neg a (-(j:Int))=D64.word neg (t*2 ^ 52+K):=by
  unfold Ieee.Format.nearest
  rw [if_neg a0,d_lp,d_fb,d_bin,d_inf]
  have e:max (-(j:Int)+(a.log2:Int)-((52:Nat):Int)) (-1074) = -(j:Int)-k:=by omega
  simp only [e]
  rw [show (-(j:Int)-k - -(j:Int)).toNat=0 by omega,cut_zero,Nat.shiftLeft_eq,show (-(j:Int)-(-(j:Int)-k)).toNat=k by omega,hK,show (-(j:Int)-k - -1074).toNat=t by omega,Nat.min_eq_left (by omega)]
 rw [hw,read_word neg (by omega),if_neg (by omega),show 2 ^ 52+(t*2 ^ 52+K) % 2 ^ 52=K by omega,show (t*2 ^ 52+K) / 2 ^ 52-1=t by omega]
 congr 1
 omega
theorem gr_at {m:Int}{j:Nat}(hb:m.natAbs<2 ^ 53)(hj:j≤1000):∃ a i,D64.read (gr m j).toNat=.number (decide (m<0)) a i∧i≤-(j:Int)∧∀ base:Int,base≤i→Ieee.signed (decide (m<0)) a (i-base).toNat=m*(2 ^ (-(j:Int)-base).toNat:Nat):=by
 by_cases h0:m=0
 ·subst h0
  rw [gr_zero,read00]
  refine ⟨0,-1074,rfl,by omega,fun base _=>?_⟩
  unfold Ieee.signed
  rw [Nat.zero_shiftLeft]
  simp
 ·refine ⟨_,_,gr_read h0 hb hj,by omega,fun base hbase=>?_⟩
  unfold Ieee.signed
  generalize hk:52-m.natAbs.log2=k at hbase ⊢
  rw [Nat.shiftLeft_eq,Nat.mul_assoc,← Nat.pow_add,show k+(-(j:Int)-k-base).toNat=(-(j:Int)-base).toNat by omega]
  generalize (2:Nat) ^ (-(j:Int)-base).toNat=e
  by_cases hn:m<0
  ·rw [decide_eq_true hn,if_pos rfl]
   have:m = -(m.natAbs:Int):=by omega
   rw [Int.natCast_mul]
   conv=>rhs;rw [this]
   rw [Int.neg_mul]
  ·rw [decide_eq_false hn,if_neg (by decide)]
   have:m=(m.natAbs:Int):=by omega
   rw [Int.natCast_mul]
   conv=>rhs;rw [this]
theorem gr_add {m n:Int}{j:Nat}(hm:m.natAbs<2 ^ 53)(hn:n.natAbs<2 ^ 53)(hj:j≤1000):fAdd (gr m j) (gr n j)=gr (m+n) j:=by
 obtain ⟨a,i,r1,l1,v1⟩:=gr_at hm hj
 obtain ⟨b,p,r2,l2,v2⟩:=gr_at hn hj
 unfold fAdd Ieee.Format.add
 rw [r1,r2,Ieee.Datum.sum]
 have e1:=v1 (min i p) (by omega)
 have e2:=v2 (min i p) (by omega)
 simp only [e1,e2]
 generalize hE:(-(j:Int)-min i p).toNat=E
 have ht:m*(2 ^ E:Nat)+n*(2 ^ E:Nat)=(m+n)*(2 ^ E:Nat):=(Int.add_mul m n _).symm
 rw [ht]
 have hp:(0:Int)<(2 ^ E:Nat):=by
  have:=Nat.two_pow_pos E
  omega
 by_cases h0:m+n=0
 ·rw [h0,Int.zero_mul,if_pos rfl,gr_zero]
  show BitVec.ofNat 64 (D64.nearest _ 0 _)=_
  rw [near_zero]
  have:(decide (m<0)&&decide (n<0))=false:=by
   rw [Bool.and_eq_false_iff,decide_eq_false_iff_not,decide_eq_false_iff_not]
   omega
  rw [this]
  rfl
 ·have hne:(m+n)*(2 ^ E:Nat)≠0:=Int.mul_ne_zero h0 (by omega)
  rw [if_neg hne]
  have hs:decide ((m+n)*(2 ^ E:Nat)<0)=decide (m+n<0):=by
   rw [decide_eq_decide]
   constructor
   ·intro h
    exact Decidable.byContradiction fun q=>absurd (Int.mul_nonneg (by omega:0≤m+n) (Int.le_of_lt hp)) (by omega)
   ·intro h
    exact Int.mul_neg_of_neg_of_pos h hp
  rw [hs,Int.natAbs_mul,Int.natAbs_natCast]
  show BitVec.ofNat 64 (D64.nearest (decide (m+n<0)) ((m+n).natAbs*2 ^ E) (min i p))=_
  rw [nearest_scale D64 _ (by omega),show min i p+(E:Int) = -(j:Int) by omega]
  rfl
theorem read05:D64.read (4602678819172646912#64).toNat=.number false (2 ^ 52) (-53):=by rfl
theorem gr_half {m:Int}{j:Nat}(hm:m.natAbs<2 ^ 53)(hj:j≤1000):fMul (gr m j) 4602678819172646912#64=gr m (j+1):=by
 by_cases h0:m=0
 ·subst h0
  rw [gr_zero,gr_zero,fMul_near read00 read05,Nat.zero_mul,near_zero]
  rfl
 ·rw [fMul_near (gr_read h0 hm hj) read05,Bool.xor_false]
  have ha:0<m.natAbs:=by omega
  generalize hk:52-m.natAbs.log2=k
  rw [nearest_scale D64 _ (Nat.mul_pos ha (Nat.two_pow_pos k)),nearest_scale D64 _ ha]
  unfold gr
  rw [show -(j:Int)-(k:Int) + -53+((52:Nat):Int)+(k:Int) = -((j+1:Nat):Int) by omega]
theorem top_xor {r:Nat}(h:r<2 ^ 63):2 ^ 63 ^^^ r=r+2 ^ 63:=by
 apply Nat.eq_of_testBit_eq
 intro i
 rw [Nat.testBit_xor,Nat.testBit_two_pow,Nat.add_comm r]
 rcases Nat.lt_trichotomy i 63 with c|c|c
 ·rw [Nat.testBit_two_pow_add_gt c,decide_eq_false (by omega),Bool.false_xor]
 ·subst c;rw [Nat.testBit_two_pow_add_eq,decide_eq_true rfl,Bool.true_xor]
 ·have h1:2 ^ 64≤2 ^ i:=Nat.pow_le_pow_right (by decide) (by omega)
  rw [decide_eq_false (by omega),Bool.false_xor,Nat.testBit_lt_two_pow (by omega),Nat.testBit_lt_two_pow (by omega)]
theorem gr_neg_clean {m:Int}{j:Nat}(hm:m.natAbs<2 ^ 53)(hj:j≤1000):fAdd (fNeg (gr m j)) 0#64=gr (-m) j:=by
 by_cases h0:m=0
 ·subst h0
  rw [gr_zero,Int.neg_zero,gr_zero]
  rfl
 ·have:fNeg (gr m j)=gr (-m) j:=by
   unfold fNeg gr
   rw [Int.natAbs_neg]
   apply BitVec.eq_of_toNat_eq
   rw [BitVec.toNat_xor,near_nat,near_nat]
   have hne:m.natAbs≠0:=by omega
   have hw:∀ neg,D64.nearest neg m.natAbs (-(j:Int))=D64.word neg (D64.nearest false m.natAbs (-(j:Int)))∧D64.nearest false m.natAbs (-(j:Int))<2 ^ 63:=fun neg=>by
    unfold Ieee.Format.nearest
    rw [if_neg hne]
    have hc:∀ n d,Ieee.Toward.even.cut neg n d=Ieee.Toward.even.cut false n d:=fun n d=>rfl
    simp only [hc]
    have e:∀ r,D64.word false r=r:=fun r=>rfl
    rw [e,if_neg hne,e]
    exact ⟨rfl,Nat.lt_of_le_of_lt (Nat.min_le_right _ _) (by rw [d_inf];decide)⟩
   obtain ⟨w1,w2⟩:=hw (decide (m<0))
   obtain ⟨w3,_⟩:=hw (decide (-m<0))
   rw [w1,w3]
   generalize D64.nearest false m.natAbs (-(j:Int))=r at w2
   have hx:∀ r:Nat,r<2 ^ 63→r ^^^ 9223372036854775808=9223372036854775808+r:=fun r hr=>by
    have h1:(9223372036854775808:Nat)=2 ^ 63:=rfl
    rw [h1,Nat.add_comm]
    rw [Nat.xor_comm,top_xor hr,Nat.add_comm]
   have hy:∀ r:Nat,r<2 ^ 63→(9223372036854775808+r) ^^^ 9223372036854775808=r:=fun r hr=>by
    rw [← hx r hr,Nat.xor_assoc,Nat.xor_self,Nat.xor_zero]
   unfold Ieee.Format.word
   rw [d_sw]
   show (if decide (m<0)=true then 2 ^ 63+r else r) ^^^ 9223372036854775808=if decide (-m<0)=true then 2 ^ 63+r else r
   by_cases hn:m<0
   ·rw [decide_eq_true hn,decide_eq_false (by omega:¬ -m<0),if_pos rfl,if_neg (by decide)]
    exact hy r w2
   ·rw [decide_eq_false hn,decide_eq_true (by omega:-m<0),if_pos rfl,if_neg (by decide)]
    exact hx r w2
  rw [this,← gr_zero j,gr_add (by rw [Int.natAbs_neg];exact hm) (by decide) hj,Int.add_zero]
theorem gr_clean {m:Int}{j:Nat}(hm:m.natAbs<2 ^ 53)(hj:j≤1000):fAdd (gr m j) 0#64=gr m j:=by
 rw [← gr_zero j,gr_add hm (by decide) hj,Int.add_zero]
end Go.Proofs.YtchgkmdonhdfeaaGreatDoor.Ab
/- Plain law: what a Pauli string does to a row of numbers that are whole multiples of a power of two: the program's word and the reference's. No condition: lemmas only. -/
set_option maxRecDepth 100000
set_option linter.unusedVariables false
set_option linter.unusedSimpArgs false
namespace Go.Proofs.YtchgkmdonhdfeaaGreatDoor.Ab
open Go
theorem i64_nat {a b:Nat}(ha:a<2 ^ 63)(r:Nat)(hr:r<2 ^ 63):IntKind.i64.wrap (r:Int)=r:=wrap_id ⟨by omega,by omega⟩
theorem mod64_nat {a:Nat}(ha:a<2 ^ 63):(((a:Int) % 2 ^ IntKind.i64.bits).toNat)=a:=by
 have:(2:Int) ^ IntKind.i64.bits=18446744073709551616:=rfl
 rw [this]
 omega
theorem and_i64 {a b:Nat}(ha:a<2 ^ 63)(hb:b<2 ^ 63):bitop .and .i64 (a:Int) (b:Int)=((a &&& b:Nat):Int):=by
 unfold bitop
 simp only [mod64_nat ha,mod64_nat hb]
 have:a &&& b≤a:=Nat.and_le_left
 exact wrap_id ⟨by omega,by omega⟩
theorem xor_i64 {a b:Nat}(ha:a<2 ^ 62)(hb:b<2 ^ 62):bitop .xor .i64 (a:Int) (b:Int)=((a ^^^ b:Nat):Int):=by
 unfold bitop
 simp only [mod64_nat (Nat.lt_trans ha (by decide)),mod64_nat (Nat.lt_trans hb (by decide))]
 have:a ^^^ b<2 ^ 62:=Nat.xor_lt_two_pow ha hb
 exact wrap_id ⟨by omega,by omega⟩
theorem and3 (t:Nat):t &&& 3=t % 4:=Nat.and_two_pow_sub_one_eq_mod t 2
abbrev Gi:=Int×Int
def cG (j:Nat)(z:Gi):Cpx:=⟨gr z.1 j,gr z.2 j⟩
def sG (j:Nat)(z:Gi):S83:=⟨gr z.1 j,gr z.2 j⟩
def turnG (t:Nat)(z:Gi):Gi:=if t % 4=1 then (-z.2,z.1) else if t % 4=2 then (-z.1,-z.2) else if t % 4=3 then (z.2,-z.1) else z
def bd (B:Nat)(z:Gi):Prop:=z.1.natAbs≤B∧z.2.natAbs≤B
theorem turn_bd {B t:Nat}{z:Gi}(h:bd B z):bd B (turnG t z):=by
 unfold turnG
 unfold bd at h
 obtain ⟨a,b⟩:=h
 split
 ·exact ⟨by rw [Int.natAbs_neg];exact b,a⟩
 ·split
  ·exact ⟨by rw [Int.natAbs_neg];exact a,by rw [Int.natAbs_neg];exact b⟩
  ·split
   ·exact ⟨b,by rw [Int.natAbs_neg];exact a⟩
   ·exact ⟨a,b⟩
theorem P_turn {j t:Nat}{z:Gi}(hb:bd (2 ^ 40) z)(hj:j≤1000)(ht:t<2 ^ 62):∃ r2 r3,Pplane_Turn (cG j z).re (cG j z).im (t:Int)=(r2,r3)∧Pplane_Clean r2 r3=((cG j (turnG t z)).re,(cG j (turnG t z)).im):=by
 have b1:z.1.natAbs<2 ^ 53:=Nat.lt_of_le_of_lt hb.1 (by decide)
 have b2:z.2.natAbs<2 ^ 53:=Nat.lt_of_le_of_lt hb.2 (by decide)
 unfold Pplane_Turn turnG
 rw [show (3:Int)=((3:Nat):Int) from rfl,and_i64 (by omega) (by decide),and3]
 unfold Pplane_Clean Pscalar_Plus Pplane_Neg cG
 by_cases h1:t % 4=1
 ·rw [if_pos (by omega),if_pos h1]
  exact ⟨_,_,rfl,by simp only [gr_neg_clean b2 hj,gr_clean b1 hj]⟩
 ·rw [if_neg (by omega),if_neg h1]
  by_cases h2:t % 4=2
  ·rw [if_pos (by omega),if_pos h2]
   exact ⟨_,_,rfl,by simp only [gr_neg_clean b2 hj,gr_neg_clean b1 hj]⟩
  ·rw [if_neg (by omega),if_neg h2]
   by_cases h3:t % 4=3
   ·rw [if_pos (by omega),if_pos h3]
    exact ⟨_,_,rfl,by simp only [gr_neg_clean b1 hj,gr_clean b2 hj]⟩
   ·rw [if_neg (by omega),if_neg h3]
    exact ⟨_,_,rfl,by simp only [gr_clean b1 hj,gr_clean b2 hj]⟩
theorem R_turn {j t:Nat}{z:Gi}(hb:bd (2 ^ 40) z)(hj:j≤1000)(ht:t<2 ^ 62):∃ r2 r3,Pref03_Turn (sG j z).f_Re (sG j z).f_Im (t:Int)=some (r2,r3)∧Pref03_Clean r2 r3=((sG j (turnG t z)).f_Re,(sG j (turnG t z)).f_Im):=by
 have b1:z.1.natAbs<2 ^ 53:=Nat.lt_of_le_of_lt hb.1 (by decide)
 have b2:z.2.natAbs<2 ^ 53:=Nat.lt_of_le_of_lt hb.2 (by decide)
 have hm:∀ c:Nat,c<4→(((BitVec.ofInt 64 (t:Int)) % 4#64=BitVec.ofNat 64 c)↔t % 4=c):=fun c hc=>by
  rw [← BitVec.toNat_inj,BitVec.toNat_umod,BitVec.ofInt_natCast,BitVec.toNat_ofNat,BitVec.toNat_ofNat,BitVec.toNat_ofNat,show (4:Nat) % 2 ^ 64=4 from rfl,Nat.mod_eq_of_lt (by omega:t<2 ^ 64),Nat.mod_eq_of_lt (by omega:c<2 ^ 64)]
 unfold Pref03_Turn turnG
 rw [if_neg (by decide)]
 unfold Pref03_Clean sG
 by_cases h1:t % 4=1
 ·rw [if_pos ((hm 1 (by decide)).2 h1),if_pos h1]
  exact ⟨_,_,rfl,by simp only [gr_neg_clean b2 hj,gr_clean b1 hj]⟩
 ·rw [if_neg (fun q=>h1 ((hm 1 (by decide)).1 q)),if_neg h1]
  by_cases h2:t % 4=2
  ·rw [if_pos ((hm 2 (by decide)).2 h2),if_pos h2]
   exact ⟨_,_,rfl,by simp only [gr_neg_clean b2 hj,gr_neg_clean b1 hj]⟩
  ·rw [if_neg (fun q=>h2 ((hm 2 (by decide)).1 q)),if_neg h2]
   by_cases h3:t % 4=3
   ·rw [if_pos ((hm 3 (by decide)).2 h3),if_pos h3]
    exact ⟨_,_,rfl,by simp only [gr_neg_clean b1 hj,gr_clean b2 hj]⟩
   ·rw [if_neg (fun q=>h3 ((hm 3 (by decide)).1 q)),if_neg h3]
    exact ⟨_,_,rfl,by simp only [gr_clean b1 hj,gr_clean b2 hj]⟩
theorem pow_wrap:∀ {n:Nat},n≤12→IntKind.i64.wrap ((1:Int)*2 ^ (min ((n:Int)).toNat 64))=((2 ^ n:Nat):Int):=by
 intro n h
 rw [Int.toNat_natCast,show min n 64=n by omega,Int.one_mul,show (2:Int) ^ n=((2 ^ n:Nat):Int) from (Int.natCast_pow 2 n).symm]
 have:2 ^ n≤2 ^ 12:=Nat.pow_le_pow_right (by decide) h
 generalize 2 ^ n=x at this ⊢
 exact wrap_id ⟨by omega,by omega⟩
theorem len_tab:∀ n:Nat,n≤12→Pbits_Len (BitVec.ofInt 64 (((2 ^ n:Nat)):Int))=some ((n:Int)+1):=by
 intro n h
 rcases n with _|_|_|_|_|_|_|_|_|_|_|_|_|n<;>first|(exact (by omega:False).elim)|rfl
theorem P_state {L:List Cpx}{n:Nat}(hn:n≤12)(hl:L.length=2 ^ n):Pstate_Check L=some ((n:Int),0):=by
 unfold Pstate_Check
 rw [hl,len_tab n hn]
 simp only []
 rw [show (n:Int)+1-1=(n:Int) by omega,wrap_id ⟨by omega,by omega⟩,if_neg (by omega),if_neg (by omega),pow_wrap hn,if_pos rfl]
theorem R_QubitsL {n:Nat}(hn:n≤12):∀ (f i:Nat),i≤n→n<f+i→Pref09_QubitsL0 (((2 ^ n:Nat)):Int) f (i:Int)=some (.inl (n:Int))
 |0,i,h1,h2=>by omega
 |f+1,i,h1,h2=>by
  unfold Pref09_QubitsL0
  have hu:(U (BitVec.ofInt 64 (i:Int))).toNat=((i:Int)).toNat:=by
   unfold U
   rw [BitVec.ofInt_natCast,BitVec.toNat_ofNat]
   omega
  rw [if_pos (by omega),hu,pow_wrap (by omega)]
  by_cases e:i=n
  ·subst e;rw [if_pos rfl]
  ·rw [if_neg (fun q=>e (by
    have q':(2:Nat) ^ n=2 ^ i:=by omega
    exact ((Nat.pow_right_inj (by decide)).1 q').symm)),wrap_id ⟨by omega,by omega⟩]
   exact R_QubitsL hn f (i+1) (by omega) (by omega)
theorem R_Qubits {n F:Nat}(hn:n≤12)(hF:13≤F):Pref09_Qubits F (((2 ^ n:Nat)):Int)=some (n:Int):=by
 unfold Pref09_Qubits
 rw [show (0:Int)=((0:Nat):Int) from rfl,R_QubitsL hn F 0 (by omega) (by omega)]
def tn (p:Pl)(k:Nat):Nat:=p.Ph.toNat+popN (p.X.toNat &&& p.Z.toNat)+2*popN (k &&& p.Z.toNat)
theorem tn_lt {p:Pl}(hp:p.ok=true)(k:Nat):tn p k<1000:=by
 obtain ⟨_,_,h1,h2⟩:=Pl.ok_ph hp
 have a:=popN_le 64 (p.X.toNat &&& p.Z.toNat) (Nat.lt_of_le_of_lt Nat.and_le_left p.X.isLt)
 have b:=popN_le 64 (k &&& p.Z.toNat) (Nat.lt_of_le_of_lt Nat.and_le_right p.Z.isLt)
 unfold tn
 omega
theorem ok_lt {p:Pl}{n:Nat}(hp:p.ok=true)(hn:p.N=n)(h12:n≤12):p.X.toNat<2 ^ n∧p.Z.toNat<2 ^ n:=by
 unfold Pl.ok at hp
 simp only [Bool.and_eq_true,Bool.or_eq_true,decide_eq_true_eq] at hp
 have h:=hp.2
 rw [hn] at h
 have h':=h.resolve_left (by omega)
 rw [Int.toNat_natCast] at h'
 have h2:=congrArg BitVec.toNat h'
 rw [BitVec.toNat_ushiftRight,BitVec.toNat_or,Nat.shiftRight_eq_div_pow] at h2
 have h3:(p.X.toNat ||| p.Z.toNat)<2 ^ n:=by
  have:=(Nat.div_eq_zero_iff).1 (show (p.X.toNat ||| p.Z.toNat) / 2 ^ n=0 from h2)
  rcases this with q|q
  ·exact absurd q (Nat.ne_of_gt (Nat.two_pow_pos n))
  ·exact q
 exact ⟨Nat.lt_of_le_of_lt Nat.left_le_or h3,Nat.lt_of_le_of_lt Nat.right_le_or h3⟩
def actG (p:Pl)(L:List Gi):List Gi:=(List.range L.length).map fun y=>turnG (tn p (y ^^^ p.X.toNat)) (L.getD (y ^^^ p.X.toNat) (0,0))
theorem act_len (p:Pl)(L:List Gi):(actG p L).length=L.length:=by unfold actG;rw [List.length_map,List.length_range]
theorem act_bd {p:Pl}{L:List Gi}{B:Nat}(h:∀ z,z∈L→bd B z):∀ z,z∈actG p L→bd B z:=by
 intro z hz
 unfold actG at hz
 obtain ⟨y,_,rfl⟩:=List.mem_map.1 hz
 refine turn_bd ?_
 rw [List.getD_eq_getElem?_getD]
 cases e:L[y ^^^ p.X.toNat]? with
 |none=>exact ⟨by simp,by simp⟩
 |some x=>exact h x (List.mem_of_getElem? e)
theorem filled {α:Type}{n X:Nat}(hX:X<2 ^ n){v:List α}{g:Nat→α}(hv:v.length=2 ^ n)(h:∀ k,k<2 ^ n→v[k ^^^ X]? = some (g k)):v=(List.range (2 ^ n)).map fun y=>g (y ^^^ X):=by
 apply List.ext_getElem?
 intro y
 by_cases hy:y<2 ^ n
 ·have hk:y ^^^ X<2 ^ n:=Nat.xor_lt_two_pow hy hX
  have:=h (y ^^^ X) hk
  rw [Nat.xor_assoc,Nat.xor_self,Nat.xor_zero] at this
  rw [this,List.getElem?_map,List.getElem?_range hy]
  rfl
 ·rw [List.getElem?_eq_none (by omega),List.getElem?_eq_none (by rw [List.length_map,List.length_range];omega)]
theorem xor_inj {a b X:Nat}(h:a ^^^ X=b ^^^ X):a=b:=by
 have:=congrArg (· ^^^ X) h
 simp only [Nat.xor_assoc,Nat.xor_self,Nat.xor_zero] at this
 exact this
section
variable {n:Nat}(hn:n≤12){p:Pl}(hp:p.ok=true)(hN:p.N=n){L:List Gi}(hl:L.length=2 ^ n){j:Nat}(hj:j≤1000)(hb:∀ z,z∈L→bd (2 ^ 40) z)
include hn hp hN hl hj hb
theorem P_ActL:∀ (f m i:Nat) (v:List Cpx),i+m=2 ^ n→m<f→v.length=2 ^ n→(∀ k,k<i→v[k ^^^ p.X.toNat]? = some (cG j (turnG (tn p k) (L.getD k (0,0)))))→
  ∃ w,Ppauli_ActL0 (L.map (cG j)) ((2 ^ n:Nat):Int) p.N p.X p.Z p.Ph f (i:Int) v=some w∧w.length=2 ^ n∧∀ k,k<2 ^ n→w[k ^^^ p.X.toNat]? = some (cG j (turnG (tn p k) (L.getD k (0,0))))
 |0,m,i,v,h,hf,_,_=>by omega
 |f+1,0,i,v,h,hf,hv,hk=>by
  unfold Ppauli_ActL0
  rw [if_neg (by omega)]
  exact ⟨v,rfl,hv,fun k hk'=>hk k (by omega)⟩
 |f+1,m+1,i,v,h,hf,hv,hk=>by
  obtain ⟨hX,hZ⟩:=ok_lt hp hN hn
  have h12:2 ^ n≤4096:=Nat.pow_le_pow_right (n:=2) (by decide) hn
  have hi:i<L.length:=by omega
  obtain ⟨_,_,p0,p3⟩:=Pl.ok_ph hp
  have tl:=tn_lt hp i
  have a:=popN_le 64 (p.X.toNat &&& p.Z.toNat) (Nat.lt_of_le_of_lt Nat.and_le_left p.X.isLt)
  have b:=popN_le 64 (i &&& p.Z.toNat) (Nat.lt_of_le_of_lt Nat.and_le_right p.Z.isLt)
  unfold Ppauli_ActL0
  rw [if_pos (by omega),idx_nat,List.getElem?_map,List.getElem?_eq_getElem hi,Option.map_some]
  simp only []
  have ho:(BitVec.ofInt 64 (i:Int) &&& p.Z).toNat=i &&& p.Z.toNat:=by
   rw [BitVec.toNat_and,BitVec.ofInt_natCast,BitVec.toNat_ofNat,Nat.mod_eq_of_lt (by omega)]
  have hph:p.Ph=((p.Ph.toNat:Nat):Int):=by omega
  have ht:IntKind.i64.wrap ((IntKind.i64.wrap (p.Ph+((Pbits_OnesCount64 (p.X &&& p.Z)))))+(IntKind.i64.wrap ((2:Int)*((Pbits_OnesCount64 ((BitVec.ofInt 64 (i:Int)) &&& p.Z))))))=((tn p i:Nat):Int):=by
   rw [P_ones,P_ones,ho,BitVec.toNat_and]
   unfold tn at tl ⊢
   generalize popN (p.X.toNat &&& p.Z.toNat)=x at *
   generalize popN (i &&& p.Z.toNat)=y at *
   rw [wrap_id (n:=p.Ph+(x:Int)) ⟨by omega,by omega⟩,wrap_id (n:=2*(y:Int)) ⟨by omega,by omega⟩,wrap_id ⟨by omega,by omega⟩]
   omega
  rw [ht]
  have hx:bitop .xor .i64 (i:Int) p.X.toInt=((i ^^^ p.X.toNat:Nat):Int):=by
   rw [BitVec.toInt_eq_toNat_of_lt (by omega),xor_i64 (by omega) (by omega)]
  have hxl:i ^^^ p.X.toNat<2 ^ n:=Nat.xor_lt_two_pow (by omega) hX
  have hbi:bd (2 ^ 40) L[i]:=hb _ (List.getElem_mem hi)
  obtain ⟨r2,r3,e1,e2⟩:=P_turn hbi hj (t:=tn p i) (by omega)
  rw [e1]
  simp only []
  rw [e2]
  simp only []
  rw [hx,idx_nat,List.getElem?_eq_getElem (by omega)]
  simp only [Int.toNat_natCast]
  rw [wrap_id ⟨by omega,by omega⟩]
  refine P_ActL f m (i+1) _ (by omega) (by omega) (by rw [List.length_set];exact hv) ?_
  intro k hk'
  by_cases e:k=i
  ·subst e
   rw [List.getElem?_set_self (by omega),List.getD_eq_getElem?_getD,List.getElem?_eq_getElem hi]
   rfl
  ·rw [List.getElem?_set_ne (fun q=>e (xor_inj q).symm)]
   exact hk k (by omega)
theorem P_Act (F:Nat)(hF:2 ^ n<F):Ppauli_Act F p.N p.X p.Z p.Ph (L.map (cG j))=some ((actG p L).map (cG j),0):=by
 obtain ⟨hX,hZ⟩:=ok_lt hp hN hn
 have h12:2 ^ n≤4096:=Nat.pow_le_pow_right (n:=2) (by decide) hn
 unfold Ppauli_Act
 rw [P_state hn (by rw [List.length_map,hl])]
 simp only []
 rw [if_pos trivial,P_right,hp,cond_true,if_pos hN,List.length_map,hl]
 have hm:mkOk 16 ((2 ^ n:Nat):Int) ((2 ^ n:Nat):Int)=true:=by
  unfold mkOk
  rw [decide_eq_true_eq]
  generalize 2 ^ n=x at *
  omega
 rw [hm,cond_true]
 obtain ⟨w,e1,e2,e3⟩:=P_ActL hn hp hN hl hj hb F (2 ^ n) 0 (List.replicate (2 ^ n) ⟨0#64,0#64⟩) (by omega) hF (by rw [List.length_replicate]) (fun k hk=>by omega)
 rw [show (0:Int)=((0:Nat):Int) from rfl,e1]
 simp only []
 rw [filled hX e2 e3]
 unfold actG
 rw [hl,List.map_map]
 rfl
end
end Go.Proofs.YtchgkmdonhdfeaaGreatDoor.Ab
/- Plain law: the reference's word on what a Pauli string does. No condition: lemmas only. -/
set_option maxRecDepth 100000
set_option linter.unusedVariables false
set_option linter.unusedSimpArgs false
namespace Go.Proofs.YtchgkmdonhdfeaaGreatDoor.Ab
open Go
theorem u_of {q:Nat}(h:q≤64):(U (BitVec.ofInt 64 (q:Int))).toNat=q:=by
 unfold U
 rw [BitVec.ofInt_natCast,BitVec.toNat_ofNat]
 omega
theorem pow_wrapU {n:Nat}(h:n≤12):IntKind.i64.wrap ((1:Int)*2 ^ (min (U (BitVec.ofInt 64 (n:Int))).toNat 64))=((2 ^ n:Nat):Int):=by
 have:=pow_wrap h
 rw [Int.toNat_natCast] at this
 rw [u_of (by omega)]
 exact this
theorem bit_shr {k q:Nat}(hk:k<2 ^ 62)(hq:q≤12):bitop .and .i64 ((k:Int).fdiv (2 ^ (min (U (BitVec.ofInt 64 (q:Int))).toNat 64))) (1:Int)=((k / 2 ^ q % 2:Nat):Int):=by
 rw [u_of (by omega),show min q 64=q by omega,show (2:Int) ^ q=((2 ^ q:Nat):Int) from (Int.natCast_pow 2 q).symm,Int.fdiv_eq_ediv_of_nonneg _ (Int.natCast_nonneg _),← Int.natCast_ediv]
 have h1:k / 2 ^ q≤k:=Nat.div_le_self ..
 rw [show (1:Int)=((1:Nat):Int) from rfl,and_i64 (by omega) (by decide),Nat.and_one_is_mod]
def ltr (p:Pl)(q:Nat):Int:=if p.X.toNat / 2 ^ q % 2=1 then (if p.Z.toNat / 2 ^ q % 2=1 then 89 else 88) else (if p.Z.toNat / 2 ^ q % 2=1 then 90 else 73)
theorem bit_of {x:BitVec 64}{q:Nat}(hq:q<64):Pref13_bit x (q:Int)=((x.toNat / 2 ^ q % 2:Nat):Int):=by
 rw [R_bit]
 unfold bitAt
 have hu:(BitVec.ofInt 64 (q:Int)).toNat=q:=by
  rw [BitVec.ofInt_natCast,BitVec.toNat_ofNat]
  omega
 have h1:((x >>> (BitVec.ofInt 64 (q:Int)).toNat) &&& 1#64).toNat=x.toNat / 2 ^ q % 2:=by
  rw [BitVec.toNat_and,BitVec.toNat_ushiftRight,hu,Nat.shiftRight_eq_div_pow]
  exact Nat.and_one_is_mod _
 rw [BitVec.toInt_eq_toNat_of_lt (by rw [h1];omega),h1]
theorem R_Letr {p:Pl}(hp:p.ok=true){n q:Nat}(hN:p.N=n)(hn:n≤12)(hq:q<n)(F:Nat)(hF:65≤F):Pref13_Letter F p.N p.X p.Z p.Ph (q:Int)=some (ltr p q):=by
 unfold Pref13_Letter
 rw [R_right F hF,hp]
 simp only [cond_true]
 rw [if_neg (by omega),if_neg (by omega),bit_of (by omega),bit_of (by omega)]
 unfold ltr
 have hx:p.X.toNat / 2 ^ q % 2<2:=Nat.mod_lt _ (by decide)
 have hz:p.Z.toNat / 2 ^ q % 2<2:=Nat.mod_lt _ (by decide)
 generalize p.X.toNat / 2 ^ q % 2=x at *
 generalize p.Z.toNat / 2 ^ q % 2=z at *
 rw [wrap_id (n:=2*(x:Int)) ⟨by omega,by omega⟩,wrap_id ⟨by omega,by omega⟩]
 by_cases h1:x=1
 ·by_cases h2:z=1
  ·subst h1;subst h2;rfl
  ·have:z=0:=by omega
   subst h1;subst this;rfl
 ·have:x=0:=by omega
  subst this
  by_cases h2:z=1
  ·subst h2;rfl
  ·have:z=0:=by omega
   subst this;rfl
theorem odd_xor (y:Nat):2*y+1=1 ^^^ (2*y):=by
 apply Nat.eq_of_testBit_eq
 intro i
 rw [Nat.testBit_xor]
 cases i with
 |zero=>
  simp only [Nat.testBit_zero]
  have h1:2*y % 2=0:=by omega
  have h2:(2*y+1) % 2=1:=by omega
  rw [h1,h2]
  rfl
 |succ i=>
  rw [Nat.testBit_succ,Nat.testBit_succ,Nat.testBit_succ,show (2*y+1) / 2=y by omega,show 2*y / 2=y by omega,show 1 / 2=0 from rfl,Nat.zero_testBit,Bool.false_xor]
theorem step_xor (v q x:Nat)(h:x % 2=1):(v ^^^ 2 ^ q) ^^^ (2 ^ (q+1)*(x / 2))=v ^^^ (2 ^ q*x):=by
 rw [Nat.xor_assoc]
 congr 1
 have e:x=2*(x / 2)+1:=by omega
 conv=>rhs;rw [e,odd_xor]
 rw [Nat.mul_comm (2 ^ q),← Nat.shiftLeft_eq,Nat.shiftLeft_xor_distrib,Nat.shiftLeft_eq,Nat.shiftLeft_eq,Nat.one_mul,Nat.pow_succ]
 congr 1
 rw [Nat.mul_comm (2*(x / 2)),Nat.mul_assoc]
theorem step_even (v q x:Nat)(h:x % 2=0):v ^^^ (2 ^ (q+1)*(x / 2))=v ^^^ (2 ^ q*x):=by
 congr 1
 rw [Nat.pow_succ,Nat.mul_assoc]
 congr 1
 omega
theorem div_step (x q:Nat):x / 2 ^ (q+1)=x / 2 ^ q / 2:=by rw [Nat.pow_succ,Nat.div_div_eq_div_mul]
theorem pop_and (a b:Nat):popN (a &&& b)=(a % 2)*(b % 2)+popN ((a / 2) &&& (b / 2)):=by
 rw [popN_eq,and_mod,and_half]
section
variable {n:Nat}(hn:n≤12){p:Pl}(hp:p.ok=true)(hN:p.N=n){ls:List Int}(hls:∀ q,q<n→ls[q]? = some (ltr p q))
include hn hp hN hls
theorem R_ActL4 (v0 v11:List S83)(k:Nat)(hk:k<2 ^ n):∀ (f m q v v4:Nat),q+m=n→m<f→v<2 ^ n→v4+3*m<2 ^ 40→
  Pref13_ActL4 v0 (n:Int) (k:Int) p.N p.X p.Z p.Ph ls v11 f (v:Int) (v4:Int) (q:Int)=some (((v ^^^ (2 ^ q*(p.X.toNat / 2 ^ q)):Nat):Int),((v4+popN ((p.X.toNat / 2 ^ q) &&& (p.Z.toNat / 2 ^ q))+2*popN ((k / 2 ^ q) &&& (p.Z.toNat / 2 ^ q)):Nat):Int))
 |0,m,q,v,v4,h,hf,_,_=>by omega
 |f+1,0,q,v,v4,h,hf,hv,h4=>by
  obtain ⟨hX,hZ⟩:=ok_lt hp hN hn
  have e:q=n:=by omega
  subst e
  unfold Pref13_ActL4
  rw [if_neg (by omega),Nat.div_eq_of_lt hX,Nat.div_eq_of_lt hZ,Nat.mul_zero,Nat.xor_zero,Nat.and_zero,Nat.and_zero,show popN 0=0 by simp [popN]]
  rfl
 |f+1,m+1,q,v,v4,h,hf,hv,h4=>by
  obtain ⟨hX,hZ⟩:=ok_lt hp hN hn
  have h12:2 ^ n≤4096:=Nat.pow_le_pow_right (n:=2) (by decide) hn
  have hq2:2 ^ q<2 ^ n:=Nat.pow_lt_pow_right (by decide) (by omega)
  have hvq:v ^^^ 2 ^ q<2 ^ n:=Nat.xor_lt_two_pow hv hq2
  unfold Pref13_ActL4
  rw [if_pos (by omega),idx_nat,hls q (by omega)]
  simp only []
  rw [pow_wrapU (by omega),bit_shr (by omega) (by omega),xor_i64 (by omega) (by omega)]
  rw [wrap_id (n:=(q:Int)+1) ⟨by omega,by omega⟩,wrap_id (n:=(v4:Int)+1) ⟨by omega,by omega⟩,wrap_id (n:=(v4:Int)+1+2) ⟨by omega,by omega⟩,wrap_id (n:=(v4:Int)+2) ⟨by omega,by omega⟩]
  have ih:=fun v v4=>R_ActL4 v0 v11 k hk f m (q+1) v v4 (by omega) (by omega)
  rw [pop_and (p.X.toNat / 2 ^ q),pop_and (k / 2 ^ q)]
  simp only [div_step] at ih
  have hkm:k / 2 ^ q % 2<2:=Nat.mod_lt _ (by decide)
  unfold ltr
  by_cases hx:p.X.toNat / 2 ^ q % 2=1
  ·have sx:=step_xor v q _ hx
   rw [if_pos hx,hx]
   by_cases hz:p.Z.toNat / 2 ^ q % 2=1
   ·rw [if_pos hz,hz,if_neg (by decide),if_pos rfl]
    by_cases hk1:k / 2 ^ q % 2=1
    ·have:=ih (v ^^^ 2 ^ q) (v4+3) hvq (by omega)
     rw [sx] at this
     rw [if_pos (by omega),hk1,show (v4:Int)+1+2=((v4+3:Nat):Int) by omega]
     refine this.trans ?_
     congr 2
     omega
    ·have:=ih (v ^^^ 2 ^ q) (v4+1) hvq (by omega)
     rw [sx] at this
     rw [if_neg (by omega),show k / 2 ^ q % 2=0 by omega,show (v4:Int)+1=((v4+1:Nat):Int) by omega]
     refine this.trans ?_
     congr 2
     omega
   ·rw [if_neg hz,show p.Z.toNat / 2 ^ q % 2=0 by omega,if_pos rfl]
    have:=ih (v ^^^ 2 ^ q) v4 hvq (by omega)
    rw [sx] at this
    refine this.trans ?_
    congr 2
    omega
  ·have sx:=step_even v q _ (by omega:p.X.toNat / 2 ^ q % 2=0)
   rw [if_neg hx,show p.X.toNat / 2 ^ q % 2=0 by omega]
   by_cases hz:p.Z.toNat / 2 ^ q % 2=1
   ·rw [if_pos hz,hz,if_neg (by decide),if_neg (by decide),if_pos rfl]
    by_cases hk1:k / 2 ^ q % 2=1
    ·have:=ih v (v4+2) hv (by omega)
     rw [sx] at this
     rw [if_pos (by omega),hk1,show (v4:Int)+2=((v4+2:Nat):Int) by omega]
     refine this.trans ?_
     congr 2
     omega
    ·have:=ih v v4 hv (by omega)
     rw [sx] at this
     rw [if_neg (by omega),show k / 2 ^ q % 2=0 by omega]
     refine this.trans ?_
     congr 2
     omega
   ·rw [if_neg hz,show p.Z.toNat / 2 ^ q % 2=0 by omega,if_neg (by decide),if_neg (by decide),if_neg (by decide)]
    have:=ih v v4 hv (by omega)
    rw [sx] at this
    refine this.trans ?_
    congr 2
    omega
theorem R_ActL4t (v0 v11:List S83)(k F:Nat)(hF:13≤F)(hk:k<2 ^ n):Pref13_ActL4 v0 (n:Int) (k:Int) p.N p.X p.Z p.Ph ls v11 F (k:Int) p.Ph (0:Int)=some (((k ^^^ p.X.toNat:Nat):Int),((tn p k:Nat):Int)):=by
 obtain ⟨_,_,p0,p3⟩:=Pl.ok_ph hp
 have:=R_ActL4 hn hp hN hls v0 v11 k hk F n 0 k p.Ph.toNat (by omega) (by omega) hk (by omega)
 rw [Int.toNat_of_nonneg p0] at this
 refine this.trans ?_
 unfold tn
 simp only [Nat.pow_zero,Nat.div_one,Nat.one_mul]
end
theorem R_ActL0 {n:Nat}(hn:n≤12){p:Pl}(hp:p.ok=true)(hN:p.N=n)(F:Nat)(hF:65≤F)(v0:List S83):∀ (f m i:Nat) (w:List Int),i+m=n→m<f→w.length=i→(∀ q,q<i→w[q]? = some (ltr p q))→
  ∃ ls,Pref13_ActL0 F f v0 (n:Int) (i:Int) p.N p.X p.Z p.Ph w=some (.inr (v0,(n:Int),p.N,p.X,p.Z,p.Ph,ls))∧∀ q,q<n→ls[q]? = some (ltr p q)
 |0,m,i,w,h,hf,_,_=>by omega
 |f+1,0,i,w,h,hf,hw,hq=>by
  unfold Pref13_ActL0
  rw [if_neg (by omega)]
  exact ⟨w,rfl,fun q h=>hq q (by omega)⟩
 |f+1,m+1,i,w,h,hf,hw,hq=>by
  unfold Pref13_ActL0
  rw [if_pos (by omega),R_Letr hp hN hn (by omega) F hF]
  simp only []
  rw [if_pos (by omega),wrap_id ⟨by omega,by omega⟩]
  refine R_ActL0 hn hp hN F hF v0 f m (i+1) _ (by omega) (by omega) (by rw [List.length_append,hw];rfl) fun q h=>?_
  by_cases e:q<i
  ·rw [List.getElem?_append_left (by omega)];exact hq q e
  ·rw [List.getElem?_append_right (by omega),show q-w.length=0 by omega,show q=i by omega];rfl
section
variable {n:Nat}(hn:n≤12){p:Pl}(hp:p.ok=true)(hN:p.N=n){L:List Gi}(hl:L.length=2 ^ n){j:Nat}(hj:j≤1000)(hb:∀ z,z∈L→bd (2 ^ 40) z)
include hn hp hN hl hj hb
theorem R_ActL5 {ls:List Int}(hls:∀ q,q<n→ls[q]? = some (ltr p q))(F:Nat)(hF:13≤F):∀ (f m i:Nat) (v:List S83),i+m=2 ^ n→m<f→v.length=2 ^ n→(∀ k,k<i→v[k ^^^ p.X.toNat]? = some (sG j (turnG (tn p k) (L.getD k (0,0)))))→
  ∃ w,Pref13_ActL5 F (L.map (sG j)) (n:Int) p.N p.X p.Z p.Ph ls f (i:Int) v=some w∧w.length=2 ^ n∧∀ k,k<2 ^ n→w[k ^^^ p.X.toNat]? = some (sG j (turnG (tn p k) (L.getD k (0,0))))
 |0,m,i,v,h,hf,_,_=>by omega
 |f+1,0,i,v,h,hf,hv,hk=>by
  unfold Pref13_ActL5
  rw [if_neg (by rw [List.length_map];omega)]
  exact ⟨v,rfl,hv,fun k hk'=>hk k (by omega)⟩
 |f+1,m+1,i,v,h,hf,hv,hk=>by
  obtain ⟨hX,hZ⟩:=ok_lt hp hN hn
  have h12:2 ^ n≤4096:=Nat.pow_le_pow_right (n:=2) (by decide) hn
  have hi:i<L.length:=by omega
  have tl:=tn_lt hp i
  unfold Pref13_ActL5
  rw [if_pos (by rw [List.length_map];omega),R_ActL4t hn hp hN hls _ _ i F hF (by omega),idx_nat,List.getElem?_map,List.getElem?_eq_getElem hi,Option.map_some]
  simp only []
  have hxl:i ^^^ p.X.toNat<2 ^ n:=Nat.xor_lt_two_pow (by omega) hX
  have hbi:bd (2 ^ 40) L[i]:=hb _ (List.getElem_mem hi)
  obtain ⟨r2,r3,e1,e2⟩:=R_turn hbi hj (t:=tn p i) (by omega)
  rw [e1]
  simp only []
  rw [e2]
  simp only []
  rw [idx_nat,List.getElem?_eq_getElem (by omega)]
  simp only [Int.toNat_natCast]
  rw [wrap_id ⟨by omega,by omega⟩]
  refine R_ActL5 hls F hF f m (i+1) _ (by omega) (by omega) (by rw [List.length_set];exact hv) ?_
  intro k hk'
  by_cases e:k=i
  ·subst e
   rw [List.getElem?_set_self (by omega),List.getD_eq_getElem?_getD,List.getElem?_eq_getElem hi]
   rfl
  ·rw [List.getElem?_set_ne (fun q=>e (xor_inj q).symm)]
   exact hk k (by omega)
theorem R_ActL3 (h0:n=0)(F:Nat)(hF:1≤F):∀ (f m i:Nat) (v:List S83),i+m=2 ^ n→m<f→v.length=2 ^ n→(∀ k,k<i→v[k ^^^ p.X.toNat]? = some (sG j (turnG (tn p k) (L.getD k (0,0)))))→
  ∃ w,Pref13_ActL3 F (L.map (sG j)) (n:Int) p.N p.X p.Z p.Ph f (i:Int) v=some w∧w.length=2 ^ n∧∀ k,k<2 ^ n→w[k ^^^ p.X.toNat]? = some (sG j (turnG (tn p k) (L.getD k (0,0))))
 |0,m,i,v,h,hf,_,_=>by omega
 |f+1,0,i,v,h,hf,hv,hk=>by
  unfold Pref13_ActL3
  rw [if_neg (by rw [List.length_map];omega)]
  exact ⟨v,rfl,hv,fun k hk'=>hk k (by omega)⟩
 |f+1,m+1,i,v,h,hf,hv,hk=>by
  obtain ⟨hX,hZ⟩:=ok_lt hp hN hn
  obtain ⟨_,_,p0,p3⟩:=Pl.ok_ph hp
  have hp1:2 ^ n=1:=by rw [h0]
  have hX0:p.X.toNat=0:=by omega
  have hZ0:p.Z.toNat=0:=by omega
  have hi0:i=0:=by omega
  rw [hi0]
  have hi:0<L.length:=by omega
  unfold Pref13_ActL3
  have h2:∀ (v0:List S83) (v2 v3 v4 v6 v9:Int) (v7 v8:BitVec 64) (v10:List S83),Pref13_ActL2 v0 (n:Int) v2 v3 v4 (0:Int) v6 v7 v8 v9 v10 F=some ():=fun _ _ _ _ _ _ _ _ _=>by
   obtain ⟨G,rfl⟩:∃ G,F=G+1:=⟨F-1,by omega⟩
   unfold Pref13_ActL2
   rw [if_neg (by omega)]
  rw [if_pos (by rw [List.length_map];omega),h2,idx_nat,List.getElem?_map,List.getElem?_eq_getElem hi,Option.map_some]
  simp only []
  have ht:tn p 0=p.Ph.toNat:=by
   unfold tn
   rw [hX0,hZ0]
   simp [popN]
  have hbi:bd (2 ^ 40) L[0]:=hb _ (List.getElem_mem hi)
  obtain ⟨r2,r3,e1,e2⟩:=R_turn hbi hj (t:=tn p 0) (by omega)
  rw [ht,Int.toNat_of_nonneg p0] at e1
  rw [e1]
  simp only []
  rw [e2]
  simp only []
  rw [idx_nat,List.getElem?_eq_getElem (by omega)]
  simp only [Int.toNat_natCast]
  rw [wrap_id ⟨by omega,by omega⟩]
  refine R_ActL3 h0 F hF f m 1 _ (by omega) (by omega) (by rw [List.length_set];exact hv) ?_
  intro k hk'
  have:k=0:=by omega
  subst this
  rw [hX0,Nat.xor_zero,List.getElem?_set_self (by omega),List.getD_eq_getElem?_getD,List.getElem?_eq_getElem hi]
  rfl
theorem R_Act (F:Nat)(hF:2 ^ n<F)(hF2:65≤F):Pref13_Act F p.N p.X p.Z p.Ph (L.map (sG j))=some ((actG p L).map (sG j),0):=by
 obtain ⟨hX,hZ⟩:=ok_lt hp hN hn
 have h12:2 ^ n≤4096:=Nat.pow_le_pow_right (n:=2) (by decide) hn
 unfold Pref13_Act
 rw [List.length_map,hl,R_Qubits hn (by omega)]
 simp only []
 rw [if_neg (by omega),R_right F hF2,hp]
 simp only [cond_true]
 rw [if_pos hN]
 have hm:mkOk 16 ((2 ^ n:Nat):Int) ((2 ^ n:Nat):Int)=true:=by
  unfold mkOk
  rw [decide_eq_true_eq]
  generalize 2 ^ n=x at *
  omega
 have fin:∀ w:List S83,w.length=2 ^ n→(∀ k,k<2 ^ n→w[k ^^^ p.X.toNat]? = some (sG j (turnG (tn p k) (L.getD k (0,0)))))→w=(actG p L).map (sG j):=fun w e2 e3=>by
  rw [filled hX e2 e3]
  unfold actG
  rw [hl,List.map_map]
  rfl
 obtain ⟨G,rfl⟩:∃ G,F=G+1:=⟨F-1,by omega⟩
 unfold Pref13_ActL1
 simp only []
 by_cases h0:n=0
 ·rw [if_neg (by omega)]
  simp only []
  rw [List.length_map,hl,hm,cond_true]
  obtain ⟨w,e1,e2,e3⟩:=R_ActL3 hn hp hN hl hj hb h0 (G+1) (by omega) (G+1) (2 ^ n) 0 (List.replicate (2 ^ n) ⟨0#64,0#64⟩) (by omega) hF (by rw [List.length_replicate]) (fun k hk=>by omega)
  rw [show (0:Int)=((0:Nat):Int) from rfl,e1]
  simp only []
  rw [fin w e2 e3]
 ·have hL:=R_Letr hp hN hn (q:=0) (by omega) (G+1) hF2
  rw [show ((0:Nat):Int)=0 from rfl] at hL
  rw [if_pos (by omega),hL]
  simp only []
  rw [wrap_id ⟨by omega,by omega⟩]
  obtain ⟨ls,e0,hls⟩:=R_ActL0 hn hp hN (G+1) hF2 (L.map (sG j)) G (n-1) 1 [ltr p 0] (by omega) (by omega) rfl (fun q h=>by rw [show q=0 by omega];rfl)
  rw [show (0:Int)+1=((1:Nat):Int) from rfl,e0]
  simp only []
  rw [List.length_map,hl,hm,cond_true]
  obtain ⟨w,e1,e2,e3⟩:=R_ActL5 hn hp hN hl hj hb hls (G+1) (by omega) (G+1) (2 ^ n) 0 (List.replicate (2 ^ n) ⟨0#64,0#64⟩) (by omega) hF (by rw [List.length_replicate]) (fun k hk=>by omega)
  rw [show (0:Int)=((0:Nat):Int) from rfl,e1]
  simp only []
  rw [fin w e2 e3]
end
end Go.Proofs.YtchgkmdonhdfeaaGreatDoor.Ab
/- Plain law: a state of a tableau: the program's word and the reference's; the law StabStates. No condition but what an address space holds. -/
set_option maxRecDepth 100000
set_option linter.unusedVariables false
set_option linter.unusedSimpArgs false
namespace Go.Proofs.YtchgkmdonhdfeaaGreatDoor.Ab
open Go
theorem gr_eq0 {m:Int}{j:Nat}(hb:m.natAbs<2 ^ 53)(hj:j≤1000):fCmp .eql (gr m j) 0#64=decide (m=0):=by
 obtain ⟨a,i,r1,l1,v1⟩:=gr_at hb hj
 obtain ⟨b,p,r2,l2,v2⟩:=gr_at (m:=0) (j:=j) (by decide) hj
 rw [gr_zero] at r2
 unfold fCmp Ieee.Format.order
 rw [r1,r2]
 have e1:=v1 (min i p) (by omega)
 have e2:=v2 (min i p) (by omega)
 rw [Int.zero_mul] at e2
 have hord:Ieee.Datum.order (.number (decide (m<0)) a i) (.number (decide ((0:Int)<0)) b p)=some (compare (m*(2 ^ (-(j:Int)-min i p).toNat:Nat)) 0):=by
  show some (compare _ _)=_
  rw [e1,e2]
 rw [hord]
 have hp:(2 ^ (-(j:Int)-min i p).toNat:Nat)≠0:=Nat.ne_of_gt (Nat.two_pow_pos _)
 generalize (2 ^ (-(j:Int)-min i p).toNat:Nat)=E at hp
 show ((some (compare (m*(E:Int)) 0)==some Ordering.eq:Bool))=_
 have:(compare (m*(E:Int)) 0=.eq)↔m=0:=by
  rw [Std.compare_eq_iff_eq,Int.mul_eq_zero]
  omega
 by_cases h:m=0
 ·rw [decide_eq_true h,this.2 h];rfl
 ·rw [decide_eq_false h]
  cases e:compare (m*(E:Int)) 0 with
  |lt=>rfl
  |gt=>rfl
  |eq=>exact absurd (this.1 e) h
def halfG (p:Pl)(L:List Gi):List Gi:=List.zipWith (fun a b=>(a.1+b.1,a.2+b.2)) L (actG p L)
theorem half_len (p:Pl)(L:List Gi):(halfG p L).length=L.length:=by unfold halfG;rw [List.length_zipWith,act_len,Nat.min_self]
theorem half_get {p:Pl}{L:List Gi}{i:Nat}(hi:i<(halfG p L).length)(h1:i<L.length)(h2:i<(actG p L).length):(halfG p L)[i]=((L[i].1+(actG p L)[i].1,L[i].2+(actG p L)[i].2):Gi):=List.getElem_zipWith
theorem half_bd {p:Pl}{L:List Gi}{j:Nat}(h:∀ z,z∈L→bd (2 ^ j) z):∀ z,z∈halfG p L→bd (2 ^ (j+1)) z:=by
 intro z hz
 obtain ⟨i,hi,rfl⟩:=List.getElem_of_mem hz
 have hi2:=hi
 rw [half_len] at hi2
 have e:(halfG p L)[i]=((L[i].1+((actG p L)[i]'(by rw [act_len];exact hi2)).1,L[i].2+((actG p L)[i]'(by rw [act_len];exact hi2)).2):Gi):=half_get hi hi2 _
 have a:=h _ (List.getElem_mem hi2)
 have b:=act_bd h _ (List.getElem_mem (l:=actG p L) (n:=i) (by rw [act_len];exact hi2))
 rw [e]
 unfold bd at *
 rw [Nat.pow_succ]
 dsimp only
 omega
def zG (L:List Gi):Bool:=L.all fun z=>decide (z=(0,0))
theorem turn_zero (t:Nat):turnG t (0,0)=(0,0):=by
 unfold turnG
 split
 ·rfl
 ·split
  ·rfl
  ·split<;>rfl
theorem half_zero' {p:Pl}{L:List Gi}(h:zG L=true):zG (halfG p L)=true:=by
 unfold zG at *
 rw [List.all_eq_true] at *
 have h':∀ z,z∈L→z=(0,0):=fun z hz=>of_decide_eq_true (h z hz)
 have ha:∀ z,z∈actG p L→z=(0,0):=fun z hz=>by
  unfold actG at hz
  obtain ⟨y,_,rfl⟩:=List.mem_map.1 hz
  rw [List.getD_eq_getElem?_getD]
  cases e:L[y ^^^ p.X.toNat]? with
  |none=>exact turn_zero _
  |some x=>rw [h' x (List.mem_of_getElem? e)];exact turn_zero _
 intro z hz
 obtain ⟨i,hi,rfl⟩:=List.getElem_of_mem hz
 have hi2:=hi
 rw [half_len] at hi2
 rw [half_get hi hi2 (by rw [act_len];exact hi2),h' _ (List.getElem_mem hi2),ha _ (List.getElem_mem _)]
 rfl
def foldG:List Pl→List Gi→List Gi
 | [],L=>L
 |p::r,L=>foldG r (halfG p L)
theorem fold_zero:∀ {S:List Pl}{L:List Gi},zG L=true→zG (foldG S L)=true
 | [],L,h=>h
 |p::r,L,h=>fold_zero (S:=r) (half_zero' h)
theorem fold_len:∀ (S:List Pl) (L:List Gi),(foldG S L).length=L.length
 | [],L=>rfl
 |p::r,L=>by unfold foldG;rw [fold_len r,half_len]
theorem fold_bd:∀ (S:List Pl) (L:List Gi) (j:Nat),(∀ z,z∈L→bd (2 ^ j) z)→∀ z,z∈foldG S L→bd (2 ^ (j+S.length)) z
 | [],L,j,h=>h
 |p::r,L,j,h=>by
  unfold foldG
  have:=fold_bd r (halfG p L) (j+1) (half_bd h)
  rw [List.length_cons,show j+(r.length+1)=j+1+r.length by omega]
  exact this
theorem bd_mono {a b:Nat}(h:a≤b){z:Gi}(hz:bd a z):bd b z:=⟨Nat.le_trans hz.1 h,Nat.le_trans hz.2 h⟩
theorem bd40 {j:Nat}(hj:j≤40){L:List Gi}(h:∀ z,z∈L→bd (2 ^ j) z):∀ z,z∈L→bd (2 ^ 40) z:=fun z hz=>bd_mono (Nat.pow_le_pow_right (by decide) hj) (h z hz)
theorem half_one {j:Nat}(hj:j≤40){a b:Int}(ha:a.natAbs≤2 ^ 40)(hb:b.natAbs≤2 ^ 40):fMul (fAdd (gr a j) (gr b j)) 4602678819172646912#64=gr (a+b) (j+1):=by
 rw [gr_add (Nat.lt_of_le_of_lt ha (by decide)) (Nat.lt_of_le_of_lt hb (by decide)) (by omega),gr_half (by omega) (by omega)]
theorem gr_inj_len {α β:Type}(f:α→β)(L:List α):(L.map f).length=L.length:=List.length_map ..
section
variable {n:Nat}(hn:n≤12)
include hn
theorem P_L3 {L A:List Gi}(hl:L.length=2 ^ n)(ha:A.length=2 ^ n){j:Nat}(hj:j≤40)(bL:∀ z,z∈L→bd (2 ^ 40) z)(bA:∀ z,z∈A→bd (2 ^ 40) z)(v1 v2 v4 v5 v8:Int)(v3 v9 v10:List Pl) :
  ∀ (f m i:Nat) (v:List Cpx),i+m=2 ^ n→m<f→v.length=2 ^ n→(∀ k,i≤k→v[k]? = (L.map (cG j))[k]?)→(∀ k,k<i→v[k]? = ((List.zipWith (fun a b=>((a.1+b.1,a.2+b.2):Gi)) L A).map (cG (j+1)))[k]?)→
  Pstab_StateL3 (A.map (cG j)) v1 v2 v3 v4 v5 ((2 ^ n:Nat):Int) v8 v9 v10 f (i:Int) v=some ((List.zipWith (fun a b=>((a.1+b.1,a.2+b.2):Gi)) L A).map (cG (j+1)))
 |0,m,i,v,h,hf,_,_,_=>by omega
 |f+1,0,i,v,h,hf,hv,h1,h2=>by
  unfold Pstab_StateL3
  rw [if_neg (by omega)]
  congr 1
  apply List.ext_getElem?
  intro k
  by_cases hk:k<i
  ·exact h2 k hk
  ·rw [List.getElem?_eq_none (by omega),List.getElem?_eq_none (by rw [List.length_map,List.length_zipWith];omega)]
 |f+1,m+1,i,v,h,hf,hv,h1,h2=>by
  have h12:2 ^ n≤4096:=Nat.pow_le_pow_right (n:=2) (by decide) hn
  have hi:i<L.length:=by omega
  have hi2:i<A.length:=by omega
  unfold Pstab_StateL3
  rw [if_pos (by omega),idx_nat,h1 i (Nat.le_refl _),List.getElem?_map,List.getElem?_eq_getElem hi,Option.map_some,idx_nat,List.getElem?_map,List.getElem?_eq_getElem hi2,Option.map_some]
  have b1:=bL _ (List.getElem_mem hi)
  have b2:=bA _ (List.getElem_mem hi2)
  simp only [Pplane_Add,cG,half_one hj b1.1 b2.1,half_one hj b1.2 b2.2,Int.toNat_natCast]
  rw [wrap_id ⟨by omega,by omega⟩]
  refine P_L3 hl ha hj bL bA v1 v2 v4 v5 v8 v3 v9 v10 f m (i+1) _ (by omega) (by omega) (by rw [List.length_set];exact hv) ?_ ?_
  ·intro k hk
   rw [List.getElem?_set_ne (by omega)]
   exact h1 k (by omega)
  ·intro k hk
   by_cases e:k=i
   ·subst e
    rw [List.getElem?_set_self (by omega),List.getElem?_map,List.getElem?_zipWith,List.getElem?_eq_getElem hi,List.getElem?_eq_getElem hi2]
    rfl
   ·rw [List.getElem?_set_ne (fun q=>e q.symm)]
    exact h2 k (by omega)
theorem P_L4 (F:Nat)(hF:2 ^ n<F)(S:List Pl)(hS:S.length≤12)(hp:∀ p,p∈S→p.ok=true∧p.N=n)(v0 v1 v5:Int)(v6 v7:List Pl) :
  ∀ (f m i:Nat) (L:List Gi) (j:Nat),i+m=S.length→m<f→j+m≤40→L.length=2 ^ n→(∀ z,z∈L→bd (2 ^ j) z)→
  Pstab_StateL4 F v0 v1 S (S.length:Int) v5 v6 v7 f (i:Int) (L.map (cG j))=some ((foldG (S.drop i) L).map (cG (j+m)))
 |0,m,i,L,j,h,hf,_,_,_=>by omega
 |f+1,0,i,L,j,h,hf,hj,hl,hb=>by
  unfold Pstab_StateL4
  rw [if_neg (by omega),List.drop_of_length_le (by omega)]
  rfl
 |f+1,m+1,i,L,j,h,hf,hj,hl,hb=>by
  have hi:i<S.length:=by omega
  obtain ⟨p1,p2⟩:=hp _ (List.getElem_mem hi)
  unfold Pstab_StateL4
  rw [if_pos (by omega),idx_lt hi]
  simp only []
  rw [P_Act hn p1 p2 hl (by omega) (bd40 (by omega) hb) F hF]
  simp only []
  rw [List.length_map,hl]
  have:=P_L3 hn hl (by rw [act_len,hl]) (j:=j) (by omega) (bd40 (by omega) hb) (act_bd (p:=S[i]) (bd40 (by omega) hb)) v0 v1 (S.length:Int) (i:Int) v5 S v6 v7 F (2 ^ n) 0 (L.map (cG j)) (by omega) hF (by rw [List.length_map,hl]) (fun k _=>rfl) (fun k hk=>by omega)
  rw [show (0:Int)=((0:Nat):Int) from rfl,this]
  simp only []
  rw [wrap_id ⟨by omega,by omega⟩]
  have ih:=P_L4 F hF S hS hp v0 v1 v5 v6 v7 f m (i+1) (halfG S[i] L) (j+1) (by omega) (by omega) (by omega) (by rw [half_len,hl]) (half_bd hb)
  rw [List.drop_eq_getElem_cons hi,show j+(m+1)=j+1+m by omega]
  exact ih
end
theorem P_L2 {L:List Gi}(hl:L.length≤4096){j:Nat}(hj:j≤40)(hb:∀ z,z∈L→bd (2 ^ 40) z):∀ (f m i:Nat),i+m=L.length→m<f→
  (zG (L.drop i)=true→Pstab_StateL2 (L.map (cG j)) (L.length:Int) f (i:Int)=some (.inr ()))∧(zG (L.drop i)=false→∃ y:Int,0≤y∧Pstab_StateL2 (L.map (cG j)) (L.length:Int) f (i:Int)=some (.inl y))
 |0,m,i,h,hf=>by omega
 |f+1,0,i,h,hf=>by
  rw [List.drop_of_length_le (by omega)]
  unfold Pstab_StateL2
  rw [if_neg (by omega)]
  exact ⟨fun _=>rfl,fun q=>by cases q⟩
 |f+1,m+1,i,h,hf=>by
  have hi:i<L.length:=by omega
  have b1:=hb _ (List.getElem_mem hi)
  unfold Pstab_StateL2
  rw [if_pos (by omega),idx_nat,List.getElem?_map,List.getElem?_eq_getElem hi,Option.map_some]
  have e:Pstab_State_1 (cG j L[i]).re (cG j L[i]).im = !decide (L[i]=(0,0)):=by
   unfold Pstab_State_1 cEq cG
   rw [gr_eq0 (Nat.lt_of_le_of_lt b1.1 (by decide)) (by omega),gr_eq0 (Nat.lt_of_le_of_lt b1.2 (by decide)) (by omega)]
   congr 1
   rw [Bool.eq_iff_iff,Bool.and_eq_true,decide_eq_true_eq,decide_eq_true_eq,decide_eq_true_eq,Prod.ext_iff]
  simp only []
  rw [e,List.drop_eq_getElem_cons hi,wrap_id ⟨by omega,by omega⟩]
  obtain ⟨a,b⟩:=P_L2 hl hj hb f m (i+1) (by omega) (by omega)
  rw [show ((i+1:Nat):Int)=(i:Int)+1 by omega] at a b
  unfold zG at *
  rw [List.all_cons]
  by_cases hz:L[i]=(0,0)
  ·rw [decide_eq_true hz,Bool.true_and]
   exact ⟨a,b⟩
  ·rw [decide_eq_false hz,Bool.false_and]
   exact ⟨fun q=>by (cases q),fun _=>⟨i,by omega,rfl⟩⟩
theorem R_noneL {L:List Gi}(hl:L.length≤4096){j:Nat}(hj:j≤40)(hb:∀ z,z∈L→bd (2 ^ 40) z):∀ (f m i:Nat),i+m=L.length→m<f→
  Pref15_noneL0 (L.map (sG j)) f (i:Int)=some (bif zG (L.drop i) then .inr () else .inl ())
 |0,m,i,h,hf=>by omega
 |f+1,0,i,h,hf=>by
  rw [List.drop_of_length_le (by omega)]
  unfold Pref15_noneL0
  rw [if_neg (by rw [List.length_map];omega)]
  rfl
 |f+1,m+1,i,h,hf=>by
  have hi:i<L.length:=by omega
  have b1:=hb _ (List.getElem_mem hi)
  unfold Pref15_noneL0
  rw [if_pos (by rw [List.length_map];omega),idx_nat,List.getElem?_map,List.getElem?_eq_getElem hi,Option.map_some]
  have e:Pref03_Equal (sG j L[i]).f_Re (sG j L[i]).f_Im 0#64 0#64=decide (L[i]=(0,0)):=by
   unfold Pref03_Equal sG
   rw [gr_eq0 (Nat.lt_of_le_of_lt b1.1 (by decide)) (by omega),gr_eq0 (Nat.lt_of_le_of_lt b1.2 (by decide)) (by omega)]
   rw [Bool.eq_iff_iff,decide_eq_true_eq,Prod.ext_iff]
   by_cases h1:L[i].1=0<;>simp [h1]
  simp only []
  rw [e,List.drop_eq_getElem_cons hi,wrap_id ⟨by omega,by omega⟩]
  have ih:=R_noneL hl hj hb f m (i+1) (by omega) (by omega)
  rw [show ((i+1:Nat):Int)=(i:Int)+1 by omega] at ih
  unfold zG at *
  rw [List.all_cons,ih]
  by_cases hz:L[i]=(0,0)
  ·rw [decide_eq_true hz];rfl
  ·rw [decide_eq_false hz];rfl
theorem R_none {L:List Gi}(hl:L.length≤4096){j:Nat}(hj:j≤40)(hb:∀ z,z∈L→bd (2 ^ 40) z)(F:Nat)(hF:L.length<F):Pref15_none F (L.map (sG j))=some (zG L):=by
 unfold Pref15_none
 have:=R_noneL hl hj hb F L.length 0 (by omega) hF
 rw [show (0:Int)=((0:Nat):Int) from rfl,this,List.drop_zero]
 cases zG L<;>rfl
theorem gr_clean' {a:Int}{j:Nat}(hj:j≤40)(ha:a.natAbs≤2 ^ 41):fAdd (gr a (j+1)) 0#64=gr a (j+1):=gr_clean (Nat.lt_of_le_of_lt ha (by decide)) (by omega)
section
variable {n:Nat}(hn:n≤12){L A:List Gi}(hl:L.length=2 ^ n)(ha:A.length=2 ^ n){j:Nat}(hj:j≤40)(bL:∀ z,z∈L→bd (2 ^ 40) z)(bA:∀ z,z∈A→bd (2 ^ 40) z)
include hn hl ha hj bL bA
theorem R_half0:∀ (f m i:Nat) (w:List S83),i+m=2 ^ n→m<f→w=(((List.zipWith (fun a b=>((a.1+b.1,a.2+b.2):Gi)) L A).map (sG (j+1))).take i)→
  Pref15_halfL0 f (L.map (sG j)) (A.map (sG j)) (i:Int) w=some (.inr ((List.zipWith (fun a b=>((a.1+b.1,a.2+b.2):Gi)) L A).map (sG (j+1))))
 |0,m,i,w,h,hf,_=>by omega
 |f+1,0,i,w,h,hf,hw=>by
  unfold Pref15_halfL0
  rw [if_neg (by rw [List.length_map];omega),hw,List.take_of_length_le (by rw [List.length_map,List.length_zipWith];omega)]
 |f+1,m+1,i,w,h,hf,hw=>by
  have h12:2 ^ n≤4096:=Nat.pow_le_pow_right (n:=2) (by decide) hn
  have hi:i<L.length:=by omega
  have hi2:i<A.length:=by omega
  have b1:=bL _ (List.getElem_mem hi)
  have b2:=bA _ (List.getElem_mem hi2)
  unfold Pref15_halfL0
  rw [if_pos (by rw [List.length_map];omega),idx_nat,List.getElem?_map,List.getElem?_eq_getElem hi,Option.map_some,idx_nat,List.getElem?_map,List.getElem?_eq_getElem hi2,Option.map_some]
  have c1:(L[i].1+A[i].1).natAbs≤2 ^ 41:=by have:=b1.1;have:=b2.1;omega
  have c2:(L[i].2+A[i].2).natAbs≤2 ^ 41:=by have:=b1.2;have:=b2.2;omega
  simp only [Pref03_Add,Pref03_Clean,sG,half_one hj b1.1 b2.1,half_one hj b1.2 b2.2,gr_clean' hj c1,gr_clean' hj c2]
  have hwl:w.length=i:=by rw [hw,List.length_take,List.length_map,List.length_zipWith];omega
  rw [if_pos (by omega),wrap_id ⟨by omega,by omega⟩]
  refine R_half0 f m (i+1) _ (by omega) (by omega) ?_
  have hi3:i<((List.zipWith (fun a b=>((a.1+b.1,a.2+b.2):Gi)) L A).map (sG (j+1))).length:=by rw [List.length_map,List.length_zipWith];omega
  rw [List.take_succ_eq_append_getElem hi3,hw,List.getElem_map,List.getElem_zipWith]
  rfl
theorem R_half1 (F:Nat)(hF:2 ^ n<F):Pref15_halfL1 F (L.map (sG j)) (A.map (sG j)) 0=some (.inr ((List.zipWith (fun a b=>((a.1+b.1,a.2+b.2):Gi)) L A).map (sG (j+1)))):=by
 have hpos:0<2 ^ n:=Nat.two_pow_pos n
 have h12:2 ^ n≤4096:=Nat.pow_le_pow_right (n:=2) (by decide) hn
 have hi:0<L.length:=by omega
 have hi2:0<A.length:=by omega
 have b1:=bL _ (List.getElem_mem hi)
 have b2:=bA _ (List.getElem_mem hi2)
 obtain ⟨f,rfl⟩:∃ f,F=f+1:=⟨F-1,by omega⟩
 unfold Pref15_halfL1
 simp only []
 rw [if_pos (by rw [List.length_map];omega),show (0:Int)=((0:Nat):Int) from rfl,idx_nat,List.getElem?_map,List.getElem?_eq_getElem hi,Option.map_some,idx_nat,List.getElem?_map,List.getElem?_eq_getElem hi2,Option.map_some]
 have c1:(L[0].1+A[0].1).natAbs≤2 ^ 41:=by have:=b1.1;have:=b2.1;omega
 have c2:(L[0].2+A[0].2).natAbs≤2 ^ 41:=by have:=b1.2;have:=b2.2;omega
 simp only [Pref03_Add,Pref03_Clean,sG,half_one hj b1.1 b2.1,half_one hj b1.2 b2.2,gr_clean' hj c1,gr_clean' hj c2]
 rw [wrap_id ⟨by omega,by omega⟩]
 refine R_half0 hn hl ha hj bL bA f (2 ^ n-1) 1 _ (by omega) (by omega) ?_
 have hi3:0<((List.zipWith (fun a b=>((a.1+b.1,a.2+b.2):Gi)) L A).map (sG (j+1))).length:=by rw [List.length_map,List.length_zipWith];omega
 rw [List.take_succ_eq_append_getElem hi3,List.take_zero,List.getElem_map,List.getElem_zipWith]
 rfl
end
theorem R_half {n:Nat}(hn:n≤12){p:Pl}(hp:p.ok=true)(hN:p.N=n){L:List Gi}(hl:L.length=2 ^ n){j:Nat}(hj:j≤40)(hb:∀ z,z∈L→bd (2 ^ 40) z)(F:Nat)(hF:2 ^ n<F)(hF2:65≤F) :
  Pref15_half F p.N p.X p.Z p.Ph (L.map (sG j))=some ((halfG p L).map (sG (j+1))):=by
 unfold Pref15_half
 rw [R_Act hn hp hN hl (by omega) hb F hF hF2]
 simp only []
 rw [R_half1 hn hl (by rw [act_len,hl]) hj hb (act_bd hb) F hF]
 rfl
theorem R_L0 {n:Nat}(hn:n≤12)(F:Nat)(hF:2 ^ n<F)(hF2:65≤F)(S:List Pl)(hS:S.length=n)(hp:∀ p,p∈S→p.ok=true∧p.N=n)(v0:Int)(v5:List Pl) :
  ∀ (f m i:Nat) (L:List Gi) (j:Nat),i+m=n→m<f→j+m≤40→L.length=2 ^ n→(∀ z,z∈L→bd (2 ^ j) z)→
  ∃ R j',Pref15_StateL0 F v0 (n:Int) S v5 f (L.map (sG j)) (i:Int)=some (R.map (sG j'))∧R.length=2 ^ n∧j'≤40∧(∀ z,z∈R→bd (2 ^ 40) z)∧((R=foldG (S.drop i) L∧j'=j+m)∨(zG R=true∧zG (foldG (S.drop i) L)=true))
 |0,m,i,L,j,h,hf,_,_,_=>by omega
 |f+1,0,i,L,j,h,hf,hj,hl,hb=>by
  unfold Pref15_StateL0
  rw [if_neg (by omega),List.drop_of_length_le (by omega)]
  exact ⟨L,j,rfl,hl,by omega,bd40 (by omega) hb,.inl ⟨rfl,rfl⟩⟩
 |f+1,m+1,i,L,j,h,hf,hj,hl,hb=>by
  have h12:2 ^ n≤4096:=Nat.pow_le_pow_right (n:=2) (by decide) hn
  have hi:i<S.length:=by omega
  obtain ⟨p1,p2⟩:=hp _ (List.getElem_mem hi)
  unfold Pref15_StateL0
  rw [if_pos (by omega),R_none (by omega) (by omega) (bd40 (by omega) hb) F (by omega)]
  simp only []
  cases hz:zG L with
  |true=>
   rw [cond_true]
   exact ⟨L,j,rfl,hl,by omega,bd40 (by omega) hb,.inr ⟨hz,fold_zero hz⟩⟩
  |false=>
   rw [cond_false,idx_lt hi]
   simp only []
   rw [R_half hn p1 p2 hl (by omega) (bd40 (by omega) hb) F hF hF2]
   simp only []
   rw [wrap_id ⟨by omega,by omega⟩]
   obtain ⟨R,j',e1,e2,e3,e4,e5⟩:=R_L0 hn F hF hF2 S hS hp v0 v5 f m (i+1) (halfG S[i] L) (j+1) (by omega) (by omega) (by omega) (by rw [half_len,hl]) (half_bd hb)
   refine ⟨R,j',e1,e2,e3,e4,?_⟩
   rw [List.drop_eq_getElem_cons hi]
   rcases e5 with ⟨a,b⟩|⟨a,b⟩
   ·exact .inl ⟨a,by omega⟩
   ·exact .inr ⟨a,b⟩
def basG (n k:Nat):List Gi:=(List.replicate (2 ^ n) (0,0)).set k (1,0)
theorem bas_len (n k:Nat):(basG n k).length=2 ^ n:=by unfold basG;rw [List.length_set,List.length_replicate]
theorem bas_bd (n k:Nat):∀ z,z∈basG n k→bd (2 ^ 0) z:=by
 intro z hz
 unfold basG at hz
 rcases List.mem_or_eq_of_mem_set hz with h|h
 ·rw [List.mem_replicate] at h
  rw [h.2];exact ⟨by decide,by decide⟩
 ·rw [h];exact ⟨by decide,by decide⟩
theorem gr10:gr 1 0=4607182418800017408#64:=by rfl
theorem mk16 {n:Nat}(hn:n≤12):mkOk 16 ((2 ^ n:Nat):Int) ((2 ^ n:Nat):Int)=true:=by
 have h12:2 ^ n≤4096:=Nat.pow_le_pow_right (n:=2) (by decide) hn
 unfold mkOk
 rw [decide_eq_true_eq]
 generalize 2 ^ n=x at *
 omega
theorem P_Basis {n k:Nat}(hn:n≤12)(hk:k<2 ^ n):Pstate_Basis (n:Int) (k:Int)=some ((basG n k).map (cG 0),0):=by
 unfold Pstate_Basis
 rw [if_neg (by omega),if_neg (by omega),if_neg (by omega),pow_wrap hn,if_neg (by omega),mk16 hn,cond_true,idx_nat,Int.toNat_natCast,List.getElem?_eq_getElem (by rw [List.length_replicate];exact hk)]
 simp only [Int.toNat_natCast]
 unfold basG
 rw [List.map_set,List.map_replicate]
 unfold cG
 rw [gr10,gr_zero]
theorem R_Basis {n k:Nat}(hn:n≤12)(hk:k<2 ^ n):Pref09_Basis (n:Int) (k:Int)=some ((basG n k).map (sG 0),0):=by
 unfold Pref09_Basis
 rw [if_neg (by omega),if_neg (by omega),if_neg (by omega),pow_wrapU hn,if_neg (by omega),mk16 hn,cond_true,idx_nat,Int.toNat_natCast,List.getElem?_eq_getElem (by rw [List.length_replicate];exact hk),List.getElem_replicate]
 simp only [Int.toNat_natCast]
 unfold basG
 rw [List.map_set,List.map_replicate]
 unfold sG
 rw [gr10,gr_zero]
def stG (S:List Pl)(n:Nat):Nat→Nat→Option (List Gi)
 |0,_=>none
 |m+1,k=>bif zG (foldG S (basG n k)) then stG S n m (k+1) else some (foldG S (basG n k))
section
variable {n:Nat}(hn:n≤12)(F:Nat)(hF:2 ^ n<F)(hF2:65≤F)(S:List Pl)(hS:S.length=n)(hp:∀ p,p∈S→p.ok=true∧p.N=n)
include hn hF hF2 hS hp
theorem P_L5 (v4:List Pl):∀ (f m i:Nat),i+m=2 ^ n→m<f→Pstab_StateL5 F ((2 ^ n:Nat):Int) (n:Int) S v4 f (i:Int)=some (match stG S n m i with|none=>.inr (.inr ())|some R=>.inr (.inl (R.map (cG n))))
 |0,m,i,h,hf=>by omega
 |f+1,0,i,h,hf=>by
  unfold Pstab_StateL5
  rw [if_neg (by omega)]
  rfl
 |f+1,m+1,i,h,hf=>by
  have h12:2 ^ n≤4096:=Nat.pow_le_pow_right (n:=2) (by decide) hn
  have hne:¬ (basG n i).map (cG 0)=[]:=fun q=>by
   have:=congrArg List.length q
   rw [List.length_map,bas_len] at this
   exact absurd this (Nat.ne_of_gt (Nat.two_pow_pos n))
  unfold Pstab_StateL5
  rw [if_pos (by omega),P_Basis hn (by omega)]
  simp only []
  rw [if_neg hne]
  have e4:=P_L4 hn F hF S (by omega) hp ((2 ^ n:Nat):Int) (i:Int) (n:Int) S v4 F n 0 (basG n i) 0 (by omega) (by omega) (by omega) (bas_len n i) (bas_bd n i)
  rw [show ((0:Nat):Int)=0 from rfl,List.drop_zero,Nat.zero_add] at e4
  rw [e4]
  simp only []
  have hfl:(foldG S (basG n i)).length=2 ^ n:=by rw [fold_len,bas_len]
  have hfb:=bd40 (j:=0+S.length) (by omega) (fold_bd S (basG n i) 0 (bas_bd n i))
  obtain ⟨a,b⟩:=P_L2 (L:=foldG S (basG n i)) (by omega) (j:=n) (by omega) hfb F (2 ^ n) 0 (by omega) hF
  rw [List.drop_zero,show ((0:Nat):Int)=0 from rfl] at a b
  rw [List.length_map]
  unfold stG
  have ih:=P_L5 v4 f m (i+1) (by omega) (by omega)
  rw [show ((i+1:Nat):Int)=(i:Int)+1 by omega] at ih
  rw [wrap_id ⟨by omega,by omega⟩,ih]
  cases hz:zG (foldG S (basG n i)) with
  |true=>rw [a hz,cond_true]
  |false=>
   obtain ⟨y,y0,e⟩:=b hz
   rw [e,cond_false]
   simp only []
   rw [if_pos (by omega)]
theorem R_L1 (v3:List Pl):∀ (f m i:Nat),i+m=2 ^ n→m<f→Pref15_StateL1 F (n:Int) S v3 f (i:Int)=some (match stG S n m i with|none=>.inr ()|some R=>.inl (R.map (sG n)))
 |0,m,i,h,hf=>by omega
 |f+1,0,i,h,hf=>by
  unfold Pref15_StateL1
  rw [pow_wrapU hn,if_neg (by omega)]
  rfl
 |f+1,m+1,i,h,hf=>by
  have h12:2 ^ n≤4096:=Nat.pow_le_pow_right (n:=2) (by decide) hn
  unfold Pref15_StateL1
  rw [pow_wrapU hn,if_pos (by omega),R_Basis hn (by omega)]
  simp only []
  obtain ⟨R,j',e1,e2,e3,e4,e5⟩:=R_L0 hn F hF hF2 S hS hp (i:Int) v3 F n 0 (basG n i) 0 (by omega) (by omega) (by omega) (bas_len n i) (bas_bd n i)
  rw [show ((0:Nat):Int)=0 from rfl] at e1
  rw [e1]
  simp only []
  rw [R_none (by omega) e3 e4 F (by omega)]
  simp only []
  rw [List.drop_zero,Nat.zero_add] at e5
  unfold stG
  have ih:=R_L1 v3 f m (i+1) (by omega) (by omega)
  rw [show ((i+1:Nat):Int)=(i:Int)+1 by omega] at ih
  rw [wrap_id ⟨by omega,by omega⟩,ih]
  rcases e5 with ⟨a,b⟩|⟨a,b⟩
  ·rw [← a,b]
   cases hz:zG R with
   |true=>rfl
   |false=>rfl
  ·rw [a,b]
   rfl
end
def stA (N:Int)(S D:List Pl):Option (List Gi)×Int:=if chk N S D=true then (if N>12 then (none,150) else match stG S N.toNat (2 ^ N.toNat) 0 with|none=>(none,150)|some R=>(some R,0)) else (none,140)
def rows {α:Type}(f:Nat→Gi→α)(n:Nat):Option (List Gi)→List α
 |none=>[]
 |some R=>R.map (f n)
theorem P_State (F:Nat)(hF:4097≤F)(N:Int)(S D:List Pl):Pstab_State F N S D=some (rows cG N.toNat (stA N S D).1,(stA N S D).2):=by
 unfold Pstab_State stA
 rw [P_Check F (by omega)]
 simp only []
 by_cases h:chk N S D=true
 ·rw [if_pos h,if_pos rfl,if_pos h]
  by_cases h2:N>12
  ·rw [if_pos h2,if_pos h2];rfl
  ·obtain ⟨n,t⟩:=chk_tab h
   have e:=t.eN
   subst e
   have hn:n≤12:=by omega
   have h12:2 ^ n≤4096:=Nat.pow_le_pow_right (n:=2) (by decide) hn
   have hp:∀ p,p∈S→p.ok=true∧p.N=n:=fun p hp=>by
    obtain ⟨i,hi,rfl⟩:=List.getElem_of_mem hp
    have:=t.oS i hi
    unfold one Pl.herm at this
    simp only [Bool.and_eq_true,decide_eq_true_eq] at this
    exact ⟨this.2.1,this.1⟩
   rw [if_neg h2,if_neg (by omega),if_neg h2,pow_wrap hn,Int.toNat_natCast]
   have:=P_L5 hn F (by omega) (by omega) S t.ls hp D F (2 ^ n) 0 (by omega) (by omega)
   rw [show ((0:Nat):Int)=0 from rfl] at this
   rw [this]
   cases stG S n (2 ^ n) 0<;>rfl
 ·rw [if_neg h,if_neg (by decide),if_neg h]
  rfl
theorem R_State (F:Nat)(hF:4097≤F)(N:Int)(S D:List Pl):Pref15_State F N S D=some (rows sG N.toNat (stA N S D).1,(stA N S D).2):=by
 unfold Pref15_State stA
 rw [R_Right F (by omega)]
 simp only []
 by_cases h:chk N S D=true
 ·rw [h,cond_true,if_pos rfl]
  by_cases h2:N>12
  ·rw [if_pos h2,if_pos h2];rfl
  ·obtain ⟨n,t⟩:=chk_tab h
   have e:=t.eN
   subst e
   have hn:n≤12:=by omega
   have h12:2 ^ n≤4096:=Nat.pow_le_pow_right (n:=2) (by decide) hn
   have hp:∀ p,p∈S→p.ok=true∧p.N=n:=fun p hp=>by
    obtain ⟨i,hi,rfl⟩:=List.getElem_of_mem hp
    have:=t.oS i hi
    unfold one Pl.herm at this
    simp only [Bool.and_eq_true,decide_eq_true_eq] at this
    exact ⟨this.2.1,this.1⟩
   rw [if_neg h2,if_neg h2,Int.toNat_natCast]
   have:=R_L1 hn F (by omega) (by omega) S t.ls hp D F (2 ^ n) 0 (by omega) (by omega)
   rw [show ((0:Nat):Int)=0 from rfl] at this
   rw [this]
   cases stG S n (2 ^ n) 0<;>rfl
 ·rw [if_neg h,Bool.eq_false_iff.2 h]
  rfl
theorem Zs0 (V:List Cpx)(hV:V.length≤4096):∀ (f m i:Nat) (w:List S83),i+m=V.length→m<f→w=(V.map fun x=>(⟨x.re,x.im⟩:S83)).take i→
  Plaw03_ZsL0 f V (i:Int) w=some (.inr (V.map fun x=>(⟨x.re,x.im⟩:S83)))
 |0,m,i,w,h,hf,_=>by omega
 |f+1,0,i,w,h,hf,hw=>by
  unfold Plaw03_ZsL0
  rw [if_neg (by omega),hw,List.take_of_length_le (by rw [List.length_map];omega)]
 |f+1,m+1,i,w,h,hf,hw=>by
  have hi:i<V.length:=by omega
  unfold Plaw03_ZsL0
  rw [if_pos (by omega),idx_nat,List.getElem?_eq_getElem hi]
  simp only [Plaw03_Z]
  have hwl:w.length=i:=by rw [hw,List.length_take,List.length_map];omega
  rw [if_pos (by omega),wrap_id ⟨by omega,by omega⟩]
  refine Zs0 V hV f m (i+1) _ (by omega) (by omega) ?_
  rw [List.take_succ_eq_append_getElem (by rw [List.length_map];exact hi),hw,List.getElem_map]
theorem Zs (V:List Cpx)(hV:V.length≤4096)(F:Nat)(hF:4097≤F):Plaw03_Zs F V=some (V.map fun x=>(⟨x.re,x.im⟩:S83)):=by
 obtain ⟨f,rfl⟩:∃ f,F=f+1:=⟨F-1,by omega⟩
 unfold Plaw03_Zs Plaw03_ZsL1
 simp only []
 by_cases h0:V=[]
 ·subst h0;rfl
 ·have hp:0<V.length:=List.length_pos_iff.2 h0
  rw [if_pos (by omega),show (0:Int)=((0:Nat):Int) from rfl,idx_nat,List.getElem?_eq_getElem hp]
  simp only [Plaw03_Z]
  have:=Zs0 V hV f (V.length-1) 1 [⟨V[0].re,V[0].im⟩] (by omega) (by omega) (by rw [List.take_succ_eq_append_getElem (by rw [List.length_map];exact hp),List.take_zero,List.getElem_map];rfl)
  rw [wrap_id ⟨by omega,by omega⟩,show ((0:Nat):Int)+1=((1:Nat):Int) from rfl,this]
def fBi (x:BitVec 64):BitVec 64:=bif fNaN x then 9221120237041090561#64 else x
theorem r01b (x:BitVec 64):Pref01_Bits64 x=some (fBi x):=by
 unfold Pref01_Bits64 fBi
 rw [neq_self]
 cases fNaN x<;>rfl
theorem same03b (a b:BitVec 64):Pref03_Same a b a b=some true:=by
 unfold Pref03_Same Pref01_Same
 rw [r01b,r01b]
 simp
theorem RowsL (V:List S83)(hV:V.length≤4096):∀ (f m i:Nat),i+m=V.length→m<f→Pref07_RowsL0 V V f (i:Int)=some (.inr ())
 |0,m,i,h,hf=>by omega
 |f+1,0,i,h,hf=>by
  unfold Pref07_RowsL0
  rw [if_neg (by omega)]
 |f+1,m+1,i,h,hf=>by
  have hi:i<V.length:=by omega
  unfold Pref07_RowsL0
  rw [if_pos (by omega),idx_nat,List.getElem?_eq_getElem hi]
  simp only []
  rw [same03b]
  simp only [cond_true]
  rw [wrap_id ⟨by omega,by omega⟩]
  exact RowsL V hV f m (i+1) (by omega) (by omega)
theorem rows_len {α:Type}(f:Nat→Gi→α)(N:Int)(S D:List Pl):(rows f N.toNat (stA N S D).1).length≤4096:=by
 unfold stA
 by_cases h:chk N S D=true
 ·rw [if_pos h]
  by_cases h2:N>12
  ·rw [if_pos h2];simp [rows]
  ·rw [if_neg h2]
   have h12:2 ^ N.toNat≤4096:=Nat.pow_le_pow_right (n:=2) (by decide) (by omega:N.toNat≤12)
   have:∀ m k R,stG S N.toNat m k=some R→R.length=2 ^ N.toNat:=fun m=>by
    induction m with
    |zero=>intro k R q;cases q
    |succ m ih=>
     intro k R q
     unfold stG at q
     cases hz:zG (foldG S (basG N.toNat k)) with
     |true=>rw [hz] at q;exact ih _ _ q
     |false=>rw [hz] at q;cases q;rw [fold_len,bas_len]
   cases e:stG S N.toNat (2 ^ N.toNat) 0 with
   |none=>simp [rows]
   |some R=>
    show (R.map _).length≤4096
    rw [List.length_map,this _ _ _ e]
    exact h12
 ·rw [if_neg h];simp [rows]
theorem law_stabStates (F:Nat)(hF:4200≤F)(N:Int)(S D:List Pl)(l1:S.length*32≤140737488355328)(l2:D.length*32≤140737488355328)(f1:S.length+D.length<F):Plaw15_StabStates F N S D=some true:=by
 unfold Plaw15_StabStates
 rw [R_Copy l1 l2]
 simp only []
 rw [P_State F (by omega),R_State F (by omega)]
 simp only []
 rw [Zs _ (rows_len ..) F (by omega)]
 simp only []
 have e:(rows cG N.toNat (stA N S D).1).map (fun x=>(⟨x.re,x.im⟩:S83))=rows sG N.toNat (stA N S D).1:=by
  cases (stA N S D).1 with
  |none=>rfl
  |some R=>show (R.map _).map _=R.map _;rw [List.map_map];rfl
 rw [e]
 have hl:=rows_len sG N S D
 have hr:Pref07_Rows F (rows sG N.toNat (stA N S D).1) (rows sG N.toNat (stA N S D).1)=some true:=by
  unfold Pref07_Rows
  rw [if_pos rfl,show (0:Int)=((0:Nat):Int) from rfl,RowsL _ hl F (rows sG N.toNat (stA N S D).1).length 0 (by omega) (by omega)]
 rw [hr]
 simp only [cond_true]
 rw [if_pos trivial,R_Alike F N S D (by omega) (by omega) (by omega) (by omega)]
 rfl
end Go.Proofs.YtchgkmdonhdfeaaGreatDoor.Ab
