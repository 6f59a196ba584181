/- Plain law: what a string is to a tableau (Member), the program's word and the reference's. No condition: lemmas only. -/
import Derived.Test.YtogkkamlmklpkaaDoorWA
set_option maxRecDepth 100000
set_option linter.unusedVariables false
set_option linter.unusedSimpArgs false
namespace Go.Proofs.YtogkkamlmklpkaaDoor.Ab
open Go
structure Tab (N:Int) (S D:List Pl) (n:Nat):Prop where
 eN:N=n
 le:n≤64
 ls:S.length=n
 ld:D.length=n
 oS:∀ i (h:i<S.length),one N S[i]=true
 oD:∀ i (h:i<D.length),one N D[i]=true
 ss:∀ i j (h:i<S.length) (k:j<S.length),part S[i] S[j]=false
 dd:∀ i j (h:i<D.length) (k:j<D.length),part D[i] D[j]=false
 ds:∀ i j (h:i<D.length) (k:j<S.length),part D[i] S[j]=decide (i=j)
theorem chk_tab {N:Int}{S D:List Pl}(h:chk N S D=true):∃ n,Tab N S D n:=by
 unfold chk at h
 simp only [Bool.and_eq_true,decide_eq_true_eq] at h
 obtain ⟨⟨⟨⟨h1,h2⟩,h3⟩,h4⟩,h5,h6⟩:=h
 obtain ⟨n,rfl⟩:∃ n:Nat,N=(n:Int):=⟨N.toNat,by omega⟩
 rw [Int.toNat_natCast] at h5 h6
 have g1:=allFrom_iff.1 h5
 have g2:=fun i a b j c d=>allFrom_iff.1 (allFrom_iff.1 h6 i a b) j c d
 have k1:∀ i (a:i<S.length) (b:i<D.length),one n S[i]=true∧one n D[i]=true:=fun i a b=>by
  have:=g1 i (by omega) (by omega)
  unfold oneAt at this
  rw [List.getElem?_eq_getElem a,List.getElem?_eq_getElem b] at this
  simpa using this
 have k2:∀ i j (a:i<S.length) (b:i<D.length) (c:j<S.length) (d:j<D.length),part S[i] S[j]=false∧part D[i] D[j]=false∧part D[i] S[j]=decide (i=j):=fun i j a b c d=>by
  have:=g2 i (by omega) (by omega) j (by omega) (by omega)
  unfold two at this
  rw [List.getElem?_eq_getElem a,List.getElem?_eq_getElem b,List.getElem?_eq_getElem c,List.getElem?_eq_getElem d] at this
  simp only [Bool.and_eq_true,Bool.not_eq_true',beq_iff_eq] at this
  exact ⟨this.1.1,this.1.2,this.2⟩
 exact ⟨n,rfl,by omega,by omega,by omega,fun i a=>(k1 i a (by omega)).1,fun i a=>(k1 i (by omega) a).2,fun i j a b=>(k2 i j a (by omega) b (by omega)).1,fun i j a b=>(k2 i j (by omega) a (by omega) b).2.1,fun i j a b=>(k2 i j (by omega) a b (by omega)).2.2⟩
theorem one_iff {N:Int}{p:Pl}:one N p=true↔p.N=N∧p.ok=true∧p.Ph % 2=0:=by
 unfold one Pl.herm
 simp only [Bool.and_eq_true,decide_eq_true_eq]
theorem ok_iff {p:Pl}:p.ok=true↔0≤p.N∧p.N≤64∧0≤p.Ph∧p.Ph≤3∧p.X.toNat<2 ^ p.N.toNat∧p.Z.toNat<2 ^ p.N.toNat:=by
 refine ⟨fun h=>?_,fun ⟨h1,h2,h3,h4,h5,h6⟩=>?_⟩
 ·obtain ⟨a,b,c,d⟩:=Pl.ok_ph h
  obtain ⟨e,f⟩:=Pl.ok_lt h
  exact ⟨a,b,c,d,e,f⟩
 ·unfold Pl.ok
  simp only [Bool.and_eq_true,decide_eq_true_eq,Bool.or_eq_true]
  refine ⟨⟨⟨⟨h1,h2⟩,h3⟩,h4⟩,.inr ?_⟩
  apply BitVec.eq_of_toNat_eq
  rw [tn_shr,BitVec.toNat_or,Nat.div_eq_of_lt (Nat.or_lt_two_pow h5 h6)]
  rfl
theorem mulP_ok {p q:Pl}(hp:p.ok=true)(hq:q.ok=true)(hn:p.N=q.N):(mulP p q).ok=true∧(mulP p q).N=p.N:=by
 obtain ⟨a,b,c,d,e,f⟩:=ok_iff.1 hp
 obtain ⟨_,_,c',d',e',f'⟩:=ok_iff.1 hq
 rw [← hn] at e' f'
 refine ⟨ok_iff.2 ⟨a,b,?_,?_,?_,?_⟩,rfl⟩
 ·show 0≤(_:Int) % 4;omega
 ·show (_:Int) % 4≤3;omega
 ·show (p.X ^^^ q.X).toNat<_;rw [BitVec.toNat_xor];exact Nat.xor_lt_two_pow e e'
 ·show (p.Z ^^^ q.Z).toNat<_;rw [BitVec.toNat_xor];exact Nat.xor_lt_two_pow f f'
end Go.Proofs.YtogkkamlmklpkaaDoor.Ab
/- Plain law: a string that parts with no stabilizer is their product (but for its sign): Member. No condition: lemmas only. -/
set_option maxRecDepth 100000
set_option linter.unusedVariables false
set_option linter.unusedSimpArgs false
namespace Go.Proofs.YtogkkamlmklpkaaDoor.Ab
open Go
end Go.Proofs.YtogkkamlmklpkaaDoor.Ab
/- Plain law: a string put into a tableau (replaced, Force). No condition: lemmas only. -/
set_option maxRecDepth 100000
set_option linter.unusedVariables false
set_option linter.unusedSimpArgs false
namespace Go.Proofs.YtogkkamlmklpkaaDoor.Ab
open Go
def Rowy (N:Int)(l:List Pl):Prop:=∀ (k:Nat) (v:Pl),l[k]? = some v→v.ok=true∧v.N=N
theorem Tab.rS {N:Int}{S D:List Pl}{n:Nat}(t:Tab N S D n):Rowy N S:=fun k v hv=>by
 obtain ⟨h1,h2⟩:=List.getElem?_eq_some_iff.1 hv
 obtain ⟨a,b,_⟩:=one_iff.1 (t.oS k h1)
 rw [← h2];exact ⟨b,a⟩
theorem Tab.rD {N:Int}{S D:List Pl}{n:Nat}(t:Tab N S D n):Rowy N D:=fun k v hv=>by
 obtain ⟨h1,h2⟩:=List.getElem?_eq_some_iff.1 hv
 obtain ⟨a,b,_⟩:=one_iff.1 (t.oD k h1)
 rw [← h2];exact ⟨b,a⟩
theorem P_copied {N:Int}{S D:List Pl}(h1:S.length*32≤140737488355328)(h2:D.length*32≤140737488355328):Ptb_copied N S D=some (N,S,D):=by
 unfold Ptb_copied
 simp only [h1,h2,if_true]
 by_cases a:S=[]<;>by_cases b:D=[]<;>simp [a,b]
end Go.Proofs.YtogkkamlmklpkaaDoor.Ab
/- Plain law: Force, the program's and the reference's. No condition: lemmas only. -/
set_option maxRecDepth 100000
set_option linter.unusedVariables false
set_option linter.unusedSimpArgs false
namespace Go.Proofs.YtogkkamlmklpkaaDoor.Ab
open Go
end Go.Proofs.YtogkkamlmklpkaaDoor.Ab
/- Plain law: a tableau with a string put in is in order again; Overlap; the law of Force. No condition: lemmas only. -/
set_option maxRecDepth 100000
set_option linter.unusedVariables false
set_option linter.unusedSimpArgs false
namespace Go.Proofs.YtogkkamlmklpkaaDoor.Ab
open Go
theorem tab_chk {N:Int}{S D:List Pl}{n:Nat}(t:Tab N S D n):chk N S D=true:=by
 have hN:=t.eN
 have hle:=t.le
 have hS:=t.ls
 have hD:=t.ld
 unfold chk
 simp only [Bool.and_eq_true,decide_eq_true_eq]
 refine ⟨⟨⟨⟨by omega,by omega⟩,by omega⟩,by omega⟩,allFrom_iff.2 fun k _ h=>?_,allFrom_iff.2 fun k _ h=>allFrom_iff.2 fun j _ h'=>?_⟩
 ·have k1:k<S.length:=by omega
  have k2:k<D.length:=by omega
  unfold oneAt
  rw [List.getElem?_eq_getElem k1,List.getElem?_eq_getElem k2]
  simp only [t.oS k k1,t.oD k k2,Bool.and_self]
 ·have k1:k<S.length:=by omega
  have k2:k<D.length:=by omega
  have j1:j<S.length:=by omega
  have j2:j<D.length:=by omega
  unfold two
  rw [List.getElem?_eq_getElem k1,List.getElem?_eq_getElem k2,List.getElem?_eq_getElem j1,List.getElem?_eq_getElem j2]
  simp only [t.ss k j k1 j1,t.dd k j k2 j2,t.ds k j k2 j1,Bool.not_false,Bool.true_and,beq_self_eq_true]
def vec (p:Pl):Nat×Nat:=(p.X.toNat,p.Z.toNat)
theorem part_vec (p q:Pl):part p q=omv (vec p) (vec q):=rfl
end Go.Proofs.YtogkkamlmklpkaaDoor.Ab
/- Plain law: Overlap; the law of Force comes to true. No condition: lemmas only. -/
set_option maxRecDepth 100000
set_option linter.unusedVariables false
set_option linter.unusedSimpArgs false
namespace Go.Proofs.YtogkkamlmklpkaaDoor.Ab
open Go
theorem same_rows (l:List Pl)(hl:l.length<4611686018427387904):∀ (f m i:Nat),i+m=l.length→m<f→Pref14_SameRowsL0 l l f (i:Int)=some (.inr ())
 |0,m,i,_,h=>by omega
 |f+1,m,i,e,h=>by
  unfold Pref14_SameRowsL0
  cases m with
  |zero=>rw [if_neg (by omega)]
  |succ m=>
   have ih:=same_rows l hl f m (i+1) (by omega) (by omega)
   rw [show ((i+1:Nat):Int)=(i:Int)+1 by omega] at ih
   rw [if_pos (by omega),idx_lt (by omega:i<l.length)]
   simp only [decide_true,Bool.and_self,cond_true,wrap_id (n:=(i:Int)+1) ⟨by omega,by omega⟩]
   exact ih
theorem R_SameRows (F:Nat)(l:List Pl)(hl:l.length<4611686018427387904)(hF:l.length<F):Pref14_SameRows F l l=some true:=by
 have:=same_rows l hl F l.length 0 (by omega) hF
 rw [show ((0:Nat):Int)=0 from rfl] at this
 unfold Pref14_SameRows
 rw [if_pos rfl,this]
theorem R_Alike (F:Nat)(N:Int)(S D:List Pl)(h1:S.length<4611686018427387904)(h2:D.length<4611686018427387904)(k1:S.length<F)(k2:D.length<F):Pref14_Alike F N S D N S D=some true:=by
 unfold Pref14_Alike
 rw [if_pos rfl,R_SameRows F S h1 k1,R_SameRows F D h2 k2]
 rfl
end Go.Proofs.YtogkkamlmklpkaaDoor.Ab
/- Plain law: the strings multiply as a group does: associative, commuting strings commute, an even string's square is nothing. No condition: lemmas only. -/
set_option maxRecDepth 100000
set_option linter.unusedVariables false
set_option linter.unusedSimpArgs false
namespace Go.Proofs.YtogkkamlmklpkaaDoor.Ab
open Go
theorem pw_mod (a b c d:Nat):pw a b c d=pw (a % 2) (b % 2) (c % 2) (d % 2):=by
 unfold pw
 simp only [Nat.mod_mod]
theorem xor_mod2 (a b:Nat):(a ^^^ b) % 2=(a % 2 ^^^ b % 2) % 2:=by
 have h1:=Nat.mod_two_eq_zero_or_one a
 have h2:=Nat.mod_two_eq_zero_or_one b
 have h3:(a ^^^ b).testBit 0=(a.testBit 0 ^^ b.testBit 0):=Nat.testBit_xor a b 0
 rw [Nat.testBit_zero,Nat.testBit_zero,Nat.testBit_zero] at h3
 have h4:=Nat.mod_two_eq_zero_or_one (a ^^^ b)
 rcases h1 with h1|h1<;>rcases h2 with h2|h2<;>rcases h4 with h4|h4<;>simp [h1,h2,h4] at h3 ⊢
theorem pw_assoc (a b c d e f:Nat):(pw a b c d+pw (a ^^^ c) (b ^^^ d) e f) % 4=(pw c d e f+pw a b (c ^^^ e) (d ^^^ f)) % 4:=by
 rw [pw_mod a b c d,pw_mod (a ^^^ c) (b ^^^ d) e f,pw_mod c d e f,pw_mod a b (c ^^^ e) (d ^^^ f),xor_mod2 a c,xor_mod2 b d,xor_mod2 c e,xor_mod2 d f]
 have h1:=Nat.mod_two_eq_zero_or_one a
 have h2:=Nat.mod_two_eq_zero_or_one b
 have h3:=Nat.mod_two_eq_zero_or_one c
 have h4:=Nat.mod_two_eq_zero_or_one d
 have h5:=Nat.mod_two_eq_zero_or_one e
 have h6:=Nat.mod_two_eq_zero_or_one f
 rcases h1 with h1|h1<;>rcases h2 with h2|h2<;>rcases h3 with h3|h3<;>rcases h4 with h4|h4<;>rcases h5 with h5|h5<;>rcases h6 with h6|h6<;>rw [h1,h2,h3,h4,h5,h6]<;>rfl
theorem ps_assoc:∀ (k a b c d e f:Nat),(ps k a b c d+ps k (a ^^^ c) (b ^^^ d) e f) % 4=(ps k c d e f+ps k a b (c ^^^ e) (d ^^^ f)) % 4
 |0,_,_,_,_,_,_=>rfl
 |k+1,a,b,c,d,e,f=>by
  have h1:=pw_assoc a b c d e f
  have h2:=ps_assoc k (a / 2) (b / 2) (c / 2) (d / 2) (e / 2) (f / 2)
  simp only [ps,Nat.xor_div_two]
  omega
theorem mulP_assoc (p q r:Pl):mulP (mulP p q) r=mulP p (mulP q r):=by
 have h:=ps_assoc 64 p.X.toNat p.Z.toNat q.X.toNat q.Z.toNat r.X.toNat r.Z.toNat
 unfold mulP
 simp only [BitVec.toNat_xor,BitVec.xor_assoc,Pl.mk.injEq,true_and]
 generalize ps 64 p.X.toNat p.Z.toNat q.X.toNat q.Z.toNat=a at *
 generalize ps 64 (p.X.toNat ^^^ q.X.toNat) (p.Z.toNat ^^^ q.Z.toNat) r.X.toNat r.Z.toNat=b at *
 generalize ps 64 q.X.toNat q.Z.toNat r.X.toNat r.Z.toNat=c at *
 generalize ps 64 p.X.toNat p.Z.toNat (q.X.toNat ^^^ r.X.toNat) (q.Z.toNat ^^^ r.Z.toNat)=d at *
 omega
end Go.Proofs.YtogkkamlmklpkaaDoor.Ab
/- Plain law: products of stabilizers, over a tableau and over the one after a string was put in. No condition: lemmas only. -/
set_option maxRecDepth 100000
set_option linter.unusedVariables false
set_option linter.unusedSimpArgs false
namespace Go.Proofs.YtogkkamlmklpkaaDoor.Ab
open Go
def tw (s:Pl)(b:Bool)(a:Pl):Pl:=bif b then mulP a s else a
theorem ps_zero_r:∀ (k a b:Nat),ps k a b 0 0=0
 |0,_,_=>rfl
 |k+1,a,b=>by
  have:pw a b 0 0=0:=pw_zero _ _ _ _ (.inr ⟨rfl,rfl⟩)
  simp only [ps,this,Nat.zero_div,ps_zero_r k]
theorem mulP_ph (p q:Pl):0≤(mulP p q).Ph∧(mulP p q).Ph≤3:=by
 constructor
 ·show 0≤(_:Int) % 4;omega
 ·show (_:Int) % 4≤3;omega
end Go.Proofs.YtogkkamlmklpkaaDoor.Ab
/- Plain law: what a measurement may give (Odds) and what comes of it (Project), the program's and the reference's. No condition: lemmas only. -/
set_option maxRecDepth 100000
set_option linter.unusedVariables false
set_option linter.unusedSimpArgs false
namespace Go.Proofs.YtogkkamlmklpkaaDoor.Ab
open Go
theorem tn_bit {q:Nat}(h:q<64):(1#64 <<< q).toNat=2 ^ q:=by
 rw [BitVec.toNat_shiftLeft,Nat.shiftLeft_eq,show (1#64).toNat=1 from rfl,Nat.one_mul,Nat.mod_eq_of_lt (Nat.pow_lt_pow_right (by omega) h)]
theorem popN_bit:∀ (q:Nat) (b:Bool),popN (b.toNat*2 ^ q)=b.toNat
 |0,b=>by cases b<;>simp [popN]
 |q+1,b=>by
  rw [popN_eq]
  have e1:b.toNat*2 ^ (q+1) % 2=0:=by rw [Nat.pow_succ,← Nat.mul_assoc];exact Nat.mul_mod_left ..
  have e2:b.toNat*2 ^ (q+1) / 2=b.toNat*2 ^ q:=by rw [Nat.pow_succ,← Nat.mul_assoc];exact Nat.mul_div_cancel _ (by omega)
  rw [e1,e2,popN_bit q b,Nat.zero_add]
theorem bit_dec (x:BitVec 64)(q:Nat):decide (((x >>> q) &&& 1#64)=1#64)=x.toNat.testBit q:=by
 have h1:((x >>> q) &&& 1#64).toNat=x.toNat / 2 ^ q % 2:=by
  rw [BitVec.toNat_and,tn_shr]
  exact Nat.and_one_is_mod _
 rw [Nat.testBit_eq_decide_div_mod_eq]
 apply decide_eq_decide.2
 constructor
 ·intro h;rw [h] at h1;exact h1.symm
 ·intro h;exact BitVec.eq_of_toNat_eq (by rw [h1,h];rfl)
end Go.Proofs.YtogkkamlmklpkaaDoor.Ab
