/- Plain laws, as far as this claim uses them. No condition: lemmas only. -/
import Derived.Test.YtbbikmfjnanpmaaDoorHd
set_option maxRecDepth 100000
set_option linter.unusedVariables false
set_option linter.unusedSimpArgs false
namespace Go.Proofs.YtbbikmfjnanpmaaDoor.Ab
open Go
def popN:Nat→Nat
 |0=>0
 |n+1=>(n+1) % 2+popN ((n+1) / 2)
theorem popN_eq (n:Nat):popN n=n % 2+popN (n / 2):=by
 cases n with
 |zero=>simp [popN]
 |succ n=>rw [popN]
theorem pop_xor:∀ (n a b:Nat),a<2 ^ n→b<2 ^ n→popN (a ^^^ b) % 2=(popN a+popN b) % 2
 |0,a,b,ha,hb=>by
  have:a=0:=by simpa using ha
  have:b=0:=by simpa using hb
  subst a b;simp [popN]
 |n+1,a,b,ha,hb=>by
  rw [Nat.pow_succ] at ha hb
  have ih:=pop_xor n (a / 2) (b / 2) (by omega) (by omega)
  have hd:(a ^^^ b) / 2=a / 2 ^^^ b / 2:=Nat.xor_div_two
  have hm:(a ^^^ b) % 2=(a % 2+b % 2) % 2:=by
   have h1:=Nat.mod_two_eq_zero_or_one a
   have h2:=Nat.mod_two_eq_zero_or_one b
   have h4:=Nat.mod_two_eq_zero_or_one (a ^^^ b)
   have h3:(a ^^^ b).testBit 0=(a.testBit 0 ^^ b.testBit 0):=Nat.testBit_xor a b 0
   rw [Nat.testBit_zero,Nat.testBit_zero,Nat.testBit_zero] at h3
   rcases h1 with h1|h1<;>rcases h2 with h2|h2<;>rcases h4 with h4|h4<;>simp [h1,h2,h4] at h3 ⊢
  rw [popN_eq (a ^^^ b),popN_eq a,popN_eq b,hd,hm]
  omega
def Pl.ok (p:Pl):Bool:=decide (0≤p.N)&&decide (p.N≤64)&&decide (0≤p.Ph)&&decide (p.Ph≤3)&&(decide (¬ p.N<64)||decide ((p.X ||| p.Z) >>> p.N.toNat=0#64))
def om (x z x' z':Nat):Bool:=decide (popN ((x &&& z') ^^^ (z &&& x')) % 2=1)
theorem pop_xor' (a b:Nat):popN (a ^^^ b) % 2=(popN a+popN b) % 2:=by
 have h1:a<2 ^ (a+b):=Nat.lt_of_lt_of_le Nat.lt_two_pow_self (Nat.pow_le_pow_right (by omega) (by omega))
 have h2:b<2 ^ (a+b):=Nat.lt_of_lt_of_le Nat.lt_two_pow_self (Nat.pow_le_pow_right (by omega) (by omega))
 exact pop_xor (a+b) a b h1 h2
theorem and_xor_l (a b c:Nat):a &&& (b ^^^ c)=(a &&& b) ^^^ (a &&& c):=by
 apply Nat.eq_of_testBit_eq
 intro i
 simp only [Nat.testBit_and,Nat.testBit_xor]
 cases a.testBit i<;>cases b.testBit i<;>cases c.testBit i<;>rfl
theorem om_xor (x z a b c d:Nat):om x z (a ^^^ c) (b ^^^ d)=(om x z a b ^^ om x z c d):=by
 unfold om
 have e:(x &&& (b ^^^ d)) ^^^ (z &&& (a ^^^ c))=((x &&& b) ^^^ (z &&& a)) ^^^ ((x &&& d) ^^^ (z &&& c)):=by
  rw [and_xor_l,and_xor_l]
  ac_rfl
 rw [e]
 have h:=pop_xor' ((x &&& b) ^^^ (z &&& a)) ((x &&& d) ^^^ (z &&& c))
 generalize popN ((x &&& b) ^^^ (z &&& a))=u at *
 generalize popN ((x &&& d) ^^^ (z &&& c))=w at *
 rw [h,Bool.eq_iff_iff]
 simp only [decide_eq_true_eq,bne_iff_ne,ne_eq,decide_eq_decide]
 omega
theorem om_zero (x z:Nat):om x z 0 0=false:=by simp [om,popN]
def pw (a b c d:Nat):Nat:=
 if a % 2=0∧b % 2=0∨c % 2=0∧d % 2=0∨a % 2=c % 2∧b % 2=d % 2 then 0
 else if a % 2=1∧b % 2=0∧c % 2=1∧d % 2=1∨a % 2=1∧b % 2=1∧c % 2=0∧d % 2=1∨a % 2=0∧b % 2=1∧c % 2=1∧d % 2=0 then 1 else 3
def ps:Nat→Nat→Nat→Nat→Nat→Nat
 |0,_,_,_,_=>0
 |k+1,a,b,c,d=>pw a b c d+ps k (a / 2) (b / 2) (c / 2) (d / 2)
theorem pw_turn (a b c d:Nat):(pw a b c d+pw c d a b) % 4=0:=by
 have h1:=Nat.mod_two_eq_zero_or_one a
 have h2:=Nat.mod_two_eq_zero_or_one b
 have h3:=Nat.mod_two_eq_zero_or_one c
 have h4:=Nat.mod_two_eq_zero_or_one d
 rcases h1 with h1|h1<;>rcases h2 with h2|h2<;>rcases h3 with h3|h3<;>rcases h4 with h4|h4<;>simp [pw,h1,h2,h3,h4]
theorem ps_turn:∀ (k a b c d:Nat),(ps k a b c d+ps k c d a b) % 4=0
 |0,_,_,_,_=>rfl
 |k+1,a,b,c,d=>by
  have h1:=pw_turn a b c d
  have h2:=ps_turn k (a / 2) (b / 2) (c / 2) (d / 2)
  simp only [ps]
  omega
theorem omw_mod (a b c d:Nat):((a &&& d) ^^^ (b &&& c)) % 2=pw a b c d % 2:=by
 have e:=Nat.testBit_xor (a &&& d) (b &&& c) 0
 rw [Nat.testBit_and,Nat.testBit_and] at e
 simp only [Nat.testBit_zero] at e
 have h1:=Nat.mod_two_eq_zero_or_one a
 have h2:=Nat.mod_two_eq_zero_or_one b
 have h3:=Nat.mod_two_eq_zero_or_one c
 have h4:=Nat.mod_two_eq_zero_or_one d
 have h5:=Nat.mod_two_eq_zero_or_one ((a &&& d) ^^^ (b &&& c))
 rcases h1 with h1|h1<;>rcases h2 with h2|h2<;>rcases h3 with h3|h3<;>rcases h4 with h4|h4<;>rcases h5 with h5|h5<;>simp [pw,h1,h2,h3,h4,h5] at e ⊢
theorem omw_div (a b c d:Nat):((a &&& d) ^^^ (b &&& c)) / 2=((a / 2) &&& (d / 2)) ^^^ ((b / 2) &&& (c / 2)):=by
 rw [Nat.xor_div_two,Nat.and_div_two,Nat.and_div_two]
theorem ps_odd:∀ (k a b c d:Nat),a<2 ^ k→b<2 ^ k→c<2 ^ k→d<2 ^ k→ps k a b c d % 2=popN ((a &&& d) ^^^ (b &&& c)) % 2
 |0,a,b,c,d,h1,h2,h3,h4=>by
  have:a=0:=by simpa using h1
  have:b=0:=by simpa using h2
  subst a b
  simp [ps,popN]
 |k+1,a,b,c,d,h1,h2,h3,h4=>by
  rw [Nat.pow_succ] at h1 h2 h3 h4
  have ih:=ps_odd k (a / 2) (b / 2) (c / 2) (d / 2) (by omega) (by omega) (by omega) (by omega)
  have hm:=omw_mod a b c d
  simp only [ps]
  rw [popN_eq,omw_div]
  omega
theorem pw_zero (a b c d:Nat)(h:a % 2=0∧b % 2=0∨c % 2=0∧d % 2=0):pw a b c d=0:=by
 unfold pw
 rw [if_pos]
 rcases h with h|h
 ·exact .inl h
 ·exact .inr (.inl h)
theorem wrap_id {n:Int}(h:-9223372036854775808≤n∧n<9223372036854775808):IntKind.i64.wrap n=n:=wrap_of ⟨by omega,by omega⟩
def part (p q:Pl):Bool:=om p.X.toNat p.Z.toNat q.X.toNat q.Z.toNat
def Pl.herm (p:Pl):Bool:=p.ok&&decide (p.Ph % 2=0)
def one (N:Int)(p:Pl):Bool:=decide (p.N=N)&&p.herm
def allFrom (P:Nat→Bool):Nat→Nat→Bool
 |0,_=>true
 |m+1,j=>P j&&allFrom P m (j+1)
theorem allFrom_iff {P:Nat→Bool}:∀ {m j:Nat},allFrom P m j=true↔∀ k,j≤k→k<j+m→P k=true
 |0,j=>⟨fun _ k h1 h2=>by omega,fun _=>rfl⟩
 |m+1,j=>by
  simp only [allFrom,Bool.and_eq_true,allFrom_iff (m:=m) (j:=j+1)]
  refine ⟨fun ⟨a,b⟩ k h1 h2=>?_,fun h=>⟨h j (by omega) (by omega),fun k h1 h2=>h k (by omega) (by omega)⟩⟩
  by_cases e:k=j
  ·subst e;exact a
  ·exact b k (by omega) (by omega)
def mulP (p q:Pl):Pl:=⟨p.N,p.X ^^^ q.X,p.Z ^^^ q.Z,(p.Ph+q.Ph+(ps 64 p.X.toNat p.Z.toNat q.X.toNat q.Z.toNat:Nat)) % 4⟩
theorem one_iff {N:Int}{p:Pl}:one N p=true↔p.N=N∧p.ok=true∧p.Ph % 2=0:=by
 unfold one Pl.herm
 simp only [Bool.and_eq_true,decide_eq_true_eq]
def unit (N:Int):Pl:=⟨N,0#64,0#64,0⟩
theorem part_mul (p a s:Pl):part p (mulP a s)=(part p a ^^ part p s):=by
 unfold part mulP
 simp only [BitVec.toNat_xor]
 exact om_xor ..
theorem part_unit (p:Pl)(N:Int):part p (unit N)=false:=om_zero ..
def Rowy (N:Int)(l:List Pl):Prop:=∀ (k:Nat) (v:Pl),l[k]? = some v→v.ok=true∧v.N=N
theorem pw_mod (a b c d:Nat):pw a b c d=pw (a % 2) (b % 2) (c % 2) (d % 2):=by
 unfold pw
 simp only [Nat.mod_mod]
theorem xor_mod2 (a b:Nat):(a ^^^ b) % 2=(a % 2 ^^^ b % 2) % 2:=by
 have h1:=Nat.mod_two_eq_zero_or_one a
 have h2:=Nat.mod_two_eq_zero_or_one b
 have h3:(a ^^^ b).testBit 0=(a.testBit 0 ^^ b.testBit 0):=Nat.testBit_xor a b 0
 rw [Nat.testBit_zero,Nat.testBit_zero,Nat.testBit_zero] at h3
 have h4:=Nat.mod_two_eq_zero_or_one (a ^^^ b)
 rcases h1 with h1|h1<;>rcases h2 with h2|h2<;>rcases h4 with h4|h4<;>simp [h1,h2,h4] at h3 ⊢
theorem pw_assoc (a b c d e f:Nat):(pw a b c d+pw (a ^^^ c) (b ^^^ d) e f) % 4=(pw c d e f+pw a b (c ^^^ e) (d ^^^ f)) % 4:=by
 rw [pw_mod a b c d,pw_mod (a ^^^ c) (b ^^^ d) e f,pw_mod c d e f,pw_mod a b (c ^^^ e) (d ^^^ f),xor_mod2 a c,xor_mod2 b d,xor_mod2 c e,xor_mod2 d f]
 have h1:=Nat.mod_two_eq_zero_or_one a
 have h2:=Nat.mod_two_eq_zero_or_one b
 have h3:=Nat.mod_two_eq_zero_or_one c
 have h4:=Nat.mod_two_eq_zero_or_one d
 have h5:=Nat.mod_two_eq_zero_or_one e
 have h6:=Nat.mod_two_eq_zero_or_one f
 rcases h1 with h1|h1<;>rcases h2 with h2|h2<;>rcases h3 with h3|h3<;>rcases h4 with h4|h4<;>rcases h5 with h5|h5<;>rcases h6 with h6|h6<;>rw [h1,h2,h3,h4,h5,h6]<;>rfl
theorem ps_assoc:∀ (k a b c d e f:Nat),(ps k a b c d+ps k (a ^^^ c) (b ^^^ d) e f) % 4=(ps k c d e f+ps k a b (c ^^^ e) (d ^^^ f)) % 4
 |0,_,_,_,_,_,_=>rfl
 |k+1,a,b,c,d,e,f=>by
  have h1:=pw_assoc a b c d e f
  have h2:=ps_assoc k (a / 2) (b / 2) (c / 2) (d / 2) (e / 2) (f / 2)
  simp only [ps,Nat.xor_div_two]
  omega
theorem mulP_assoc (p q r:Pl):mulP (mulP p q) r=mulP p (mulP q r):=by
 have h:=ps_assoc 64 p.X.toNat p.Z.toNat q.X.toNat q.Z.toNat r.X.toNat r.Z.toNat
 unfold mulP
 simp only [BitVec.toNat_xor,BitVec.xor_assoc,Pl.mk.injEq,true_and]
 generalize ps 64 p.X.toNat p.Z.toNat q.X.toNat q.Z.toNat=a at *
 generalize ps 64 (p.X.toNat ^^^ q.X.toNat) (p.Z.toNat ^^^ q.Z.toNat) r.X.toNat r.Z.toNat=b at *
 generalize ps 64 q.X.toNat q.Z.toNat r.X.toNat r.Z.toNat=c at *
 generalize ps 64 p.X.toNat p.Z.toNat (q.X.toNat ^^^ r.X.toNat) (q.Z.toNat ^^^ r.Z.toNat)=d at *
 omega
theorem mulP_comm {p q:Pl}(hn:p.N=q.N)(hc:part p q=false):mulP p q=mulP q p:=by
 have ho:=ps_odd 64 p.X.toNat p.Z.toNat q.X.toNat q.Z.toNat p.X.isLt p.Z.isLt q.X.isLt q.Z.isLt
 have ht:=ps_turn 64 p.X.toNat p.Z.toNat q.X.toNat q.Z.toNat
 unfold part om at hc
 rw [decide_eq_false_iff_not] at hc
 unfold mulP
 rw [hn,BitVec.xor_comm p.X,BitVec.xor_comm p.Z]
 simp only [Pl.mk.injEq,true_and]
 generalize ps 64 p.X.toNat p.Z.toNat q.X.toNat q.Z.toNat=a at *
 generalize ps 64 q.X.toNat q.Z.toNat p.X.toNat p.Z.toNat=b at *
 generalize popN ((p.X.toNat &&& q.Z.toNat) ^^^ (p.Z.toNat &&& q.X.toNat))=c at *
 omega
theorem pw_self (a b:Nat):pw a b a b=0:=by unfold pw;rw [if_pos (.inr (.inr ⟨rfl,rfl⟩))]
theorem ps_self:∀ (k a b:Nat),ps k a b a b=0
 |0,_,_=>rfl
 |k+1,a,b=>by simp only [ps,pw_self,ps_self k]
theorem mulP_self {p:Pl}(h:p.Ph % 2=0):mulP p p=unit p.N:=by
 unfold mulP unit
 rw [ps_self,BitVec.xor_self,BitVec.xor_self]
 simp only [Pl.mk.injEq,true_and]
 omega
def cprod (s:Nat→Pl)(c:Nat→Bool):Nat→Pl→Pl
 |0,a=>a
 |k+1,a=>bif c k then mulP (cprod s c k a) (s k) else cprod s c k a
def tw (s:Pl)(b:Bool)(a:Pl):Pl:=bif b then mulP a s else a
theorem cprod_succ (s:Nat→Pl)(c:Nat→Bool)(k:Nat)(a:Pl):cprod s c (k+1) a=tw (s k) (c k) (cprod s c k a):=rfl
theorem ps_zero_r:∀ (k a b:Nat),ps k a b 0 0=0
 |0,_,_=>rfl
 |k+1,a,b=>by
  have:pw a b 0 0=0:=pw_zero _ _ _ _ (.inr ⟨rfl,rfl⟩)
  simp only [ps,this,Nat.zero_div,ps_zero_r k]
theorem mulP_unit_r {p:Pl}{M:Int}(h1:0≤p.Ph)(h2:p.Ph≤3):mulP p (unit M)=p:=by
 unfold mulP unit
 obtain ⟨N,X,Z,Ph⟩:=p
 simp only [show (0#64).toNat=0 from rfl,ps_zero_r,BitVec.xor_zero,Pl.mk.injEq,true_and]
 simp only at h1 h2
 omega
theorem mulP_ph (p q:Pl):0≤(mulP p q).Ph∧(mulP p q).Ph≤3:=by
 constructor
 ·show 0≤(_:Int) % 4;omega
 ·show (_:Int) % 4≤3;omega
theorem tw_ph {s a:Pl}{b:Bool}(h:0≤a.Ph∧a.Ph≤3):0≤(tw s b a).Ph∧(tw s b a).Ph≤3:=by
 unfold tw
 cases b with
 |false=>exact h
 |true=>exact mulP_ph _ _
theorem cprod_ph {s:Nat→Pl}{c:Nat→Bool}{a:Pl}(h:0≤a.Ph∧a.Ph≤3):∀ k,0≤(cprod s c k a).Ph∧(cprod s c k a).Ph≤3
 |0=>h
 |k+1=>by rw [cprod_succ];exact tw_ph (cprod_ph h k)
def sAt (S:List Pl)(j:Nat):Pl:=match S[j]? with|some s=>s|none=>unit 0
theorem sAt_lt {S:List Pl}{j:Nat}(h:j<S.length):sAt S j=S[j]:=by unfold sAt;rw [List.getElem?_eq_getElem h]
theorem Rowy.at {N:Int}{l:List Pl}(h:Rowy N l){i:Nat}(hi:i<l.length):l[i].ok=true∧l[i].N=N:=h i _ (List.getElem?_eq_getElem hi)
theorem idxI {l:List Int}{i:Nat}(h:i<l.length):idx l (i:Int)=some l[i]:=by rw [idx_nat,List.getElem?_eq_getElem h]
def findI (x:Int):List Int→Nat→Option Nat
 | [],_=>none
 |y::l,i=>if x=y then some i else findI x l (i+1)
theorem findI_mem (x:Int):∀ (l:List Int) (i:Nat),(findI x l i).isSome=decide (x∈l)
 | [],_=>by simp [findI]
 |y::l,i=>by
  unfold findI
  by_cases e:x=y
  ·rw [if_pos e];simp [e]
  ·rw [if_neg e,findI_mem x l (i+1)];simp [e]
theorem PX0 (x:Int)(l:List Int)(hl:l.length<4611686018427387904):∀ (f m i:Nat),i+m=l.length→m<f→
  Pslices_Index_intL0 l x (l.length:Int) f (i:Int)=some (match findI x (l.drop i) i with|some j=>.inl (j:Int)|none=>.inr ())
 |0,m,i,_,h=>by omega
 |f+1,m,i,e,h=>by
  unfold Pslices_Index_intL0
  cases m with
  |zero=>rw [if_neg (by omega),List.drop_of_length_le (by omega)];rfl
  |succ m=>
   have i1:i<l.length:=by omega
   have ih:=PX0 x l hl f m (i+1) (by omega) (by omega)
   rw [show ((i+1:Nat):Int)=(i:Int)+1 by omega] at ih
   rw [if_pos (by omega),idxI i1,List.drop_eq_getElem_cons i1,findI]
   simp only [wrap_id (n:=(i:Int)+1) ⟨by omega,by omega⟩]
   by_cases q:x=l[i]
   ·rw [if_pos q,if_pos q]
   ·rw [if_neg q,if_neg q];exact ih
theorem P_contains (F:Nat)(x:Int)(l:List Int)(hl:l.length<4611686018427387904)(hF:l.length<F):Pslices_Contains_int F l x=some (decide (x∈l)):=by
 unfold Pslices_Contains_int Pslices_Index_int
 have:=PX0 x l hl F l.length 0 (by omega) hF
 rw [show ((0:Nat):Int)=0 from rfl,List.drop_zero] at this
 rw [this,← findI_mem x l 0]
 cases findI x l 0 with
 |none=>rfl
 |some j=>simp only [Option.isSome_some];rw [decide_eq_true (by omega)]
def okAt (l:List Int)(n:Int)(i:Nat):Bool:=match l[i]? with
 |some x=>decide (0≤x)&&(decide (x<n) && !decide (x∈l.take i))
 |none=>false
def apartB (l:List Int)(n:Int):Bool:=allFrom (okAt l n) l.length 0
theorem okAt_lt {l:List Int}{n:Int}{i:Nat}(h:i<l.length):okAt l n i=(decide (0≤l[i])&&(decide (l[i]<n) && !decide (l[i]∈l.take i))):=by unfold okAt;rw [List.getElem?_eq_getElem h]
theorem PG0 (F:Nat)(n:Int)(l:List Int)(hl:l.length<4611686018427387904)(hF:l.length<F):∀ (f m i:Nat),i+m=l.length→m<f→
  Pgate_CheckL0 F l n l (l.length:Int) f (i:Int)=some (bif allFrom (okAt l n) m i then .inr () else .inl ())
 |0,m,i,_,h=>by omega
 |f+1,m,i,e,h=>by
  unfold Pgate_CheckL0
  cases m with
  |zero=>rw [if_neg (by omega)];rfl
  |succ m=>
   have i1:i<l.length:=by omega
   have ih:=PG0 F n l hl hF f m (i+1) (by omega) (by omega)
   rw [show ((i+1:Nat):Int)=(i:Int)+1 by omega] at ih
   rw [if_pos (by omega),idxI i1,allFrom,okAt_lt i1]
   simp only [Int.toNat_natCast]
   rw [P_contains F l[i] (l.take i) (by rw [List.length_take];omega) (by rw [List.length_take];omega)]
   simp only [wrap_id (n:=(i:Int)+1) ⟨by omega,by omega⟩]
   by_cases h1:l[i]<0
   ·rw [if_pos h1,decide_eq_false (by omega:¬ 0≤l[i])];rfl
   ·rw [if_neg h1,decide_eq_true (by omega:0≤l[i])]
    by_cases h2:l[i]≥n
    ·rw [if_pos h2,decide_eq_false (by omega:¬ l[i]<n)];rfl
    ·rw [if_neg h2,decide_eq_true (by omega:l[i]<n),if_pos (by omega)]
     cases decide (l[i]∈l.take i) with
     |true=>rfl
     |false=>exact ih
theorem mem_drop_take {l:List Int}{x:Int}{i k:Nat}(hk:k<i)(hi:i≤l.length):decide (x∈(l.take i).drop k)=(decide (x=l[k]'(by omega))||decide (x∈(l.take i).drop (k+1))):=by
 rw [List.drop_eq_getElem_cons (by rw [List.length_take];omega),List.getElem_take]
 simp
def Comm (N:Int)(l:List Pl):Prop:=(∀ i (h:i<l.length),one N l[i]=true)∧∀ i j (h:i<l.length) (k:j<l.length),part l[i] l[j]=false
def InG (N:Int)(l:List Pl)(x:Pl):Prop:=∃ c,x=cprod (sAt l) c l.length (unit N)
theorem u_ph (N:Int):0≤(unit N).Ph∧(unit N).Ph≤3:=by unfold unit;simp
theorem part_g {N:Int}{l:List Pl}(s:Nat→Pl){c:Nat→Bool}{m:Pl}:∀ k,(∀ j,j<k→part m (s j)=false)→part m (cprod s c k (unit N))=false
 |0,_=>part_unit _ _
 |k+1,h=>by
  rw [cprod_succ,tw]
  cases c k with
  |false=>exact part_g (l:=l) s k (fun j hj=>h j (by omega))
  |true=>rw [cond_true,part_mul,part_g (l:=l) s k (fun j hj=>h j (by omega)),h k (by omega)];rfl
theorem cprod_N {s:Nat→Pl}{c:Nat→Bool}{N:Int}:∀ k,(cprod s c k (unit N)).N=N
 |0=>rfl
 |k+1=>by
  rw [cprod_succ,tw]
  cases c k with
  |false=>exact cprod_N k
  |true=>exact cprod_N k
theorem cprod_mul {N:Int}{s:Nat→Pl}{c c':Nat→Bool}:∀ k,(∀ j,j<k→(s j).N=N∧(s j).Ph % 2=0)→(∀ i j,i<k→j<k→part (s i) (s j)=false)→
  mulP (cprod s c k (unit N)) (cprod s c' k (unit N))=cprod s (fun j=>c j ^^ c' j) k (unit N)
 |0,_,_=>by show mulP (unit N) (unit N)=unit N;exact mulP_unit_r (u_ph N).1 (u_ph N).2
 |k+1,h1,h2=>by
  have ih:=cprod_mul (c:=c) (c':=c') k (fun j hj=>h1 j (by omega)) (fun i j hi hj=>h2 i j (by omega) (by omega))
  rw [cprod_succ,cprod_succ,cprod_succ,← ih]
  obtain ⟨n1,e1⟩:=h1 k (by omega)
  have cm:part (s k) (cprod s c' k (unit N))=false:=part_g (l:=[]) s k (fun j hj=>h2 k j (by omega) (by omega))
  have nb:=cprod_N (s:=s) (c:=c') (N:=N) k
  have pa:=cprod_ph (s:=s) (c:=c) (u_ph N) k
  have pb:=cprod_ph (s:=s) (c:=c') (u_ph N) k
  generalize cprod s c k (unit N)=A at *
  generalize cprod s c' k (unit N)=B at *
  have com:mulP (s k) B=mulP B (s k):=mulP_comm (n1.trans nb.symm) cm
  unfold tw
  cases c k<;>cases c' k<;>simp only [cond_true,cond_false,Bool.xor_false,Bool.false_xor,Bool.xor_self,Bool.true_xor,Bool.not_false]
  ·rw [mulP_assoc]
  ·rw [mulP_assoc,com,mulP_assoc]
  ·rw [mulP_assoc A (s k),← mulP_assoc (s k) B (s k),com,mulP_assoc B (s k) (s k),mulP_self e1,mulP_unit_r pb.1 pb.2]
theorem Comm.facts {N:Int}{l:List Pl}(h:Comm N l):(∀ j,j<l.length→(sAt l j).N=N∧(sAt l j).Ph % 2=0)∧(∀ i j,i<l.length→j<l.length→part (sAt l i) (sAt l j)=false):=by
 refine ⟨fun j hj=>?_,fun i j hi hj=>?_⟩
 ·rw [sAt_lt hj]
  obtain ⟨a,_,b⟩:=one_iff.1 (h.1 j hj)
  exact ⟨a,b⟩
 ·rw [sAt_lt hi,sAt_lt hj]
  exact h.2 i j hi hj
theorem InG.mul {N:Int}{l:List Pl}(h:Comm N l){x y:Pl}(hx:InG N l x)(hy:InG N l y):InG N l (mulP x y):=by
 obtain ⟨c,rfl⟩:=hx
 obtain ⟨c',rfl⟩:=hy
 obtain ⟨f1,f2⟩:=h.facts
 exact ⟨_,cprod_mul l.length f1 f2⟩
theorem InG.unit {N:Int}{l:List Pl}:InG N l (unit N):=⟨fun _=>false,by
 have:∀ k,cprod (sAt l) (fun _=>false) k (Ab.unit N)=Ab.unit N:=fun k=>by
  induction k with
  |zero=>rfl
  |succ k ih=>rw [cprod_succ,ih];rfl
 exact (this _).symm⟩
def Sub (N:Int)(l l':List Pl):Prop:=∀ i (h:i<l.length),InG N l' l[i]
theorem Sub.in {N:Int}{l l':List Pl}(h':Comm N l')(s:Sub N l l'){x:Pl}(hx:InG N l x):InG N l' x:=by
 obtain ⟨c,rfl⟩:=hx
 have:∀ k,k≤l.length→InG N l' (cprod (sAt l) c k (Ab.unit N)):=fun k=>by
  induction k with
  |zero=>exact fun _=>InG.unit
  |succ k ih=>
   intro hk
   rw [cprod_succ,tw]
   cases c k with
   |false=>exact ih (by omega)
   |true=>
    rw [cond_true,sAt_lt (by omega:k<l.length)]
    exact (ih (by omega)).mul h' (s k (by omega))
 exact this _ (Nat.le_refl _)
theorem Sub.trans {N:Int}{l l' l'':List Pl}(h'':Comm N l'')(a:Sub N l l')(b:Sub N l' l''):Sub N l l'':=fun i hi=>b.in h'' (a i hi)
def Grp (N:Int)(l l':List Pl):Prop:=Comm N l'∧Sub N l' l∧Sub N l l'
theorem Grp.trans {N:Int}{l l' l'':List Pl}(h:Comm N l)(a:Grp N l l')(b:Grp N l' l''):Grp N l l'':=⟨b.1,b.2.1.trans h a.2.1,a.2.2.trans b.1 b.2.2⟩
def arA (k:Int):Int:=if k<1 then 0 else if k>20 then 0 else if k≤10 then 1 else if k≤17 then 2 else 3
theorem k20 {k:Int}(h1:¬ k<1)(h2:¬ k>20):k=1∨k=2∨k=3∨k=4∨k=5∨k=6∨k=7∨k=8∨k=9∨k=10∨k=11∨k=12∨k=13∨k=14∨k=15∨k=16∨k=17∨k=18∨k=19∨k=20:=by omega
theorem P_Arity (k:Int):Pgate_Arity k=some (arA k):=by
 by_cases h1:k<1
 ·unfold Pgate_Arity Pgate_of arA
  rw [if_pos h1,if_pos h1]
 ·by_cases h2:k>20
  ·unfold Pgate_Arity Pgate_of arA
   rw [if_neg h1,if_pos h2,if_neg h1,if_pos h2]
  ·rcases k20 h1 h2 with rfl|rfl|rfl|rfl|rfl|rfl|rfl|rfl|rfl|rfl|rfl|rfl|rfl|rfl|rfl|rfl|rfl|rfl|rfl|rfl<;>rfl
theorem R_Arity (k:Int):Pref06_Arity k=arA k:=by
 by_cases h1:k<1
 ·unfold Pref06_Arity Pref06_Is arA
  rw [if_neg (by omega),if_pos h1];rfl
 ·by_cases h2:k>20
  ·unfold Pref06_Arity Pref06_Is arA
   rw [if_pos (by omega),decide_eq_false (by omega),if_neg h1,if_pos h2];rfl
  ·unfold Pref06_Arity Pref06_Is arA
   rw [if_pos (by omega),decide_eq_true (by omega),if_neg h1,if_neg h2];rfl
theorem R_Is (k:Int):Pref06_Is k=decide (¬ arA k=0):=by
 unfold Pref06_Is arA
 by_cases h1:k<1
 ·rw [if_neg (by omega),if_pos h1];rfl
 ·by_cases h2:k>20
  ·rw [if_pos (by omega),decide_eq_false (by omega),if_neg h1,if_pos h2];rfl
  ·rw [if_pos (by omega),decide_eq_true (by omega),if_neg h1,if_neg h2]
   split
   ·rfl
   ·split<;>rfl
theorem RK0 (n:Int)(l:List Int)(hl:l.length<4611686018427387904)(i:Nat)(hi:i<l.length):∀ (f m k:Nat),k+m=i→m<f→
  Pref06_CheckL0 l n (i:Int) f (k:Int)=some (bif decide (l[i]∈(l.take i).drop k) then .inl () else .inr ())
 |0,m,k,_,h=>by omega
 |f+1,m,k,e,h=>by
  unfold Pref06_CheckL0
  cases m with
  |zero=>rw [if_neg (by omega),List.drop_of_length_le (by rw [List.length_take];omega)];simp
  |succ m=>
   have k1:k<l.length:=by omega
   have ih:=RK0 n l hl i hi f m (k+1) (by omega) (by omega)
   rw [show ((k+1:Nat):Int)=(k:Int)+1 by omega] at ih
   rw [if_pos (by omega),idxI hi,idxI k1,mem_drop_take (by omega) (by omega)]
   simp only [wrap_id (n:=(k:Int)+1) ⟨by omega,by omega⟩]
   by_cases q:l[i]=l[k]
   ·rw [if_pos q,decide_eq_true q];rfl
   ·rw [if_neg q,decide_eq_false q,Bool.false_or];exact ih
theorem RK1 (F:Nat)(n:Int)(l:List Int)(hl:l.length<4611686018427387904)(hF:l.length<F):∀ (f m i:Nat),i+m=l.length→m<f→
  Pref06_CheckL1 F l n f (i:Int)=some (bif allFrom (okAt l n) m i then .inr () else .inl ())
 |0,m,i,_,h=>by omega
 |f+1,m,i,e,h=>by
  unfold Pref06_CheckL1
  cases m with
  |zero=>rw [if_neg (by omega)];rfl
  |succ m=>
   have i1:i<l.length:=by omega
   have ih:=RK1 F n l hl hF f m (i+1) (by omega) (by omega)
   rw [show ((i+1:Nat):Int)=(i:Int)+1 by omega] at ih
   have r0:=RK0 n l hl i i1 F i 0 (by omega) (by omega)
   rw [show ((0:Nat):Int)=0 from rfl,List.drop_zero] at r0
   rw [if_pos (by omega),idxI i1,allFrom,okAt_lt i1]
   simp only [r0,wrap_id (n:=(i:Int)+1) ⟨by omega,by omega⟩]
   by_cases h1:l[i]<0
   ·rw [if_pos h1,decide_eq_false (by omega:¬ 0≤l[i])];rfl
   ·rw [if_neg h1,decide_eq_true (by omega:0≤l[i])]
    by_cases h2:l[i]≥n
    ·rw [if_pos h2,decide_eq_false (by omega:¬ l[i]<n)];rfl
    ·rw [if_neg h2,decide_eq_true (by omega:l[i]<n)]
     cases decide (l[i]∈l.take i) with
     |true=>rfl
     |false=>exact ih
def gchk (k:Int)(l:List Int)(n:Int):Int:=if arA k=0 then 60 else if (l.length:Int)=arA k then (if apartB l n=true then 0 else 61) else 61
theorem P_gchk (F:Nat)(k n:Int)(l:List Int)(hl:l.length<4611686018427387904)(hF:l.length<F):Pgate_Check F k l n=some (gchk k l n):=by
 unfold Pgate_Check gchk apartB
 have:=PG0 F n l hl hF F l.length 0 (by omega) hF
 rw [show ((0:Nat):Int)=0 from rfl] at this
 rw [P_Arity]
 simp only [this]
 split
 ·rfl
 ·split
  ·cases allFrom (okAt l n) l.length 0<;>rfl
  ·rfl
theorem R_gchk (F:Nat)(k n:Int)(l:List Int)(hl:l.length<4611686018427387904)(hF:l.length<F):Pref06_Check F k l n=some (gchk k l n):=by
 unfold Pref06_Check gchk apartB
 have:=RK1 F n l hl hF F l.length 0 (by omega) hF
 rw [show ((0:Nat):Int)=0 from rfl] at this
 rw [R_Is,R_Arity,this]
 by_cases h:arA k=0
 ·rw [if_pos h,decide_eq_false (by simp [h])];rfl
 ·rw [if_neg h,decide_eq_true h,cond_true]
  split
  ·cases allFrom (okAt l n) l.length 0<;>rfl
  ·rfl
def Other (n:Nat)(m m':BitVec 64):Prop:=∀ q,q<n→m'.toNat.testBit q = !m.toNat.testBit q
theorem Other.symm {n:Nat}{m m':BitVec 64}(h:Other n m m'):Other n m' m:=fun q hq=>by rw [h q hq,Bool.not_not]
def pb (x z c d:Bool):Nat:=pw x.toNat z.toNat c.toNat d.toNat
abbrev Gop:=S40
theorem idxS {l:List Gop}{i:Nat}(h:i<l.length):idx l (i:Int)=some l[i]:=by rw [idx_nat,List.getElem?_eq_getElem h]
theorem PM0 (F:Nat)(n m K G B I W:Int)(l:List Int)(hl:l.length<4611686018427387904)(hF:l.length<F):∀ (f k i:Nat),i+k=l.length→k<f→
  Pcircuit_mayL0 F n m l (l.length:Int) K G l B I W f (i:Int)=some (bif allFrom (okAt l n) k i then .inr () else .inl ())
 |0,k,i,_,h=>by omega
 |f+1,k,i,e,h=>by
  unfold Pcircuit_mayL0
  cases k with
  |zero=>rw [if_neg (by omega)];rfl
  |succ k=>
   have i1:i<l.length:=by omega
   have ih:=PM0 F n m K G B I W l hl hF f k (i+1) (by omega) (by omega)
   rw [show ((i+1:Nat):Int)=(i:Int)+1 by omega] at ih
   rw [if_pos (by omega),idxI i1,allFrom,okAt_lt i1]
   simp only [Int.toNat_natCast]
   rw [P_contains F l[i] (l.take i) (by rw [List.length_take];omega) (by rw [List.length_take];omega)]
   simp only [wrap_id (n:=(i:Int)+1) ⟨by omega,by omega⟩]
   by_cases h1:l[i]<0
   ·rw [if_pos h1,decide_eq_false (by omega:¬ 0≤l[i])];rfl
   ·rw [if_neg h1,decide_eq_true (by omega:0≤l[i])]
    by_cases h2:l[i]≥n
    ·rw [if_pos h2,decide_eq_false (by omega:¬ l[i]<n)];rfl
    ·rw [if_neg h2,decide_eq_true (by omega:l[i]<n),if_pos (by omega)]
     cases decide (l[i]∈l.take i) with
     |true=>rfl
     |false=>exact ih
theorem RU0 (n:Int)(l:List Int)(hl:l.length<4611686018427387904)(i:Nat)(hi:i<l.length):∀ (f m k:Nat),k+m=i→m<f→
  Pref08_unlikeL0 l n (i:Int) f (k:Int)=some (bif decide (l[i]∈(l.take i).drop k) then .inl () else .inr ())
 |0,m,k,_,h=>by omega
 |f+1,m,k,e,h=>by
  unfold Pref08_unlikeL0
  cases m with
  |zero=>rw [if_neg (by omega),List.drop_of_length_le (by rw [List.length_take];omega)];simp
  |succ m=>
   have k1:k<l.length:=by omega
   have ih:=RU0 n l hl i hi f m (k+1) (by omega) (by omega)
   rw [show ((k+1:Nat):Int)=(k:Int)+1 by omega] at ih
   rw [if_pos (by omega),idxI hi,idxI k1,mem_drop_take (by omega) (by omega)]
   simp only [wrap_id (n:=(k:Int)+1) ⟨by omega,by omega⟩]
   by_cases q:l[k]=l[i]
   ·rw [if_pos q,decide_eq_true q.symm];rfl
   ·rw [if_neg q,decide_eq_false (Ne.symm q),Bool.false_or];exact ih
theorem RU1 (F:Nat)(n:Int)(l:List Int)(hl:l.length<4611686018427387904)(hF:l.length<F):∀ (f m i:Nat),i+m=l.length→m<f→
  Pref08_unlikeL1 F l n f (i:Int)=some (bif allFrom (okAt l n) m i then .inr () else .inl ())
 |0,m,i,_,h=>by omega
 |f+1,m,i,e,h=>by
  unfold Pref08_unlikeL1
  cases m with
  |zero=>rw [if_neg (by omega)];rfl
  |succ m=>
   have i1:i<l.length:=by omega
   have ih:=RU1 F n l hl hF f m (i+1) (by omega) (by omega)
   rw [show ((i+1:Nat):Int)=(i:Int)+1 by omega] at ih
   have r0:=RU0 n l hl i i1 F i 0 (by omega) (by omega)
   rw [show ((0:Nat):Int)=0 from rfl,List.drop_zero] at r0
   rw [if_pos (by omega),idxI i1,allFrom,okAt_lt i1]
   simp only [r0,wrap_id (n:=(i:Int)+1) ⟨by omega,by omega⟩]
   by_cases h1:l[i]<0
   ·rw [if_pos h1,decide_eq_false (by omega:¬ 0≤l[i])];rfl
   ·rw [if_neg h1,decide_eq_true (by omega:0≤l[i])]
    by_cases h2:l[i]≥n
    ·rw [if_pos h2,decide_eq_false (by omega:¬ l[i]<n)];rfl
    ·rw [if_neg h2,decide_eq_true (by omega:l[i]<n)]
     cases decide (l[i]∈l.take i) with
     |true=>rfl
     |false=>exact ih
theorem R_unlike (F:Nat)(n:Int)(l:List Int)(hl:l.length<4611686018427387904)(hF:l.length<F):Pref08_unlike F l n=some (apartB l n):=by
 unfold Pref08_unlike apartB
 have:=RU1 F n l hl hF F l.length 0 (by omega) hF
 rw [show ((0:Nat):Int)=0 from rfl] at this
 rw [this]
 cases allFrom (okAt l n) l.length 0<;>rfl
def opOK (o:Gop)(n m:Int):Bool:=
 if o.f_Kind=1 then decide (gchk o.f_Gate o.f_Qubits n=0)&&(decide (o.f_Bit=0)&&((decide (o.f_If = -1)&&decide (o.f_When=0))||(decide (0≤o.f_If)&&(decide (o.f_If<m)&&(decide (o.f_When=0)||decide (o.f_When=1))))))
 else decide (o.f_Gate=0)&&(decide (o.f_If = -1)&&(decide (o.f_When=0)&&(apartB o.f_Qubits n&&(if o.f_Kind=2 then decide (o.f_Qubits.length=1)&&(decide (0≤o.f_Bit)&&decide (o.f_Bit<m)) else if o.f_Kind=3 then decide (o.f_Qubits.length=1)&&decide (o.f_Bit=0) else if o.f_Kind=4 then decide (0<o.f_Qubits.length)&&decide (o.f_Bit=0) else false))))
theorem P_may (F:Nat)(o:Gop)(n m:Int)(hl:o.f_Qubits.length<4611686018427387904)(hF:o.f_Qubits.length<F):Pcircuit_may F o.f_Kind o.f_Gate o.f_Qubits o.f_Bit o.f_If o.f_When n m=some (opOK o n m):=by
 obtain ⟨K,G,Q,B,I,W⟩:=o
 simp only at hl hF
 unfold Pcircuit_may opOK apartB
 have h0:=PM0 F n m K G B I W Q hl hF F Q.length 0 (by omega) hF
 rw [show ((0:Nat):Int)=0 from rfl] at h0
 simp only [P_gchk F G n Q hl hF,h0]
 by_cases k1:K=1
 ·rw [if_pos k1,if_pos k1]
  by_cases g:gchk G Q n=0
  ·by_cases b:B=0
   ·by_cases i1:I = -1
    ·have i2:¬ I≥0:=by omega
     have i3:¬ 0≤I:=by omega
     by_cases w:W=0<;>simp [g,b,i1,w]
    ·by_cases i2:0≤I
     ·by_cases i3:I<m
      ·by_cases w:W=0<;>simp [g,b,i1,i2,i3,w]
      ·simp [g,b,i1,i2,i3]
     ·simp [g,b,i1,i2]
   ·simp [g,b]
  ·simp [g]
 ·rw [if_neg k1,if_neg k1]
  by_cases g:G=0
  ·by_cases i1:I = -1
   ·by_cases w:W=0
    ·by_cases q:Q.length=0
     ·have q':((Q.length:Nat):Int)=0:=by omega
      have q1:¬ Q.length=1:=by omega
      have q2:¬ 0<Q.length:=by omega
      rw [if_pos g,if_pos i1,if_pos w,if_pos q',decide_eq_false q1,decide_eq_false q2]
      simp
     ·have q':¬ ((Q.length:Nat):Int)=0:=by omega
      rw [if_pos g,if_pos i1,if_pos w,if_neg q']
      cases allFrom (okAt Q n) Q.length 0 with
      |false=>simp
      |true=>
       have e1:(((Q.length:Nat):Int)=1)↔Q.length=1:=by omega
       by_cases k2:K=2
       ·by_cases l1:Q.length=1
        ·by_cases b:0≤B<;>simp [g,i1,w,k2,l1,b]
        ·simp [k2,e1,l1]
       ·by_cases k3:K=3
        ·by_cases l1:Q.length=1<;>simp [g,i1,w,k3,e1,l1]
        ·by_cases k4:K=4
         ·have l1:0<Q.length:=by omega
          simp [g,i1,w,k4,l1]
         ·simp [k2,k3,k4]
    ·simp [w]
   ·simp [i1]
  ·simp [g]
theorem R_Op (F:Nat)(o:Gop)(n m:Int)(hl:o.f_Qubits.length<4611686018427387904)(hF:o.f_Qubits.length<F):Pref08_Op F o.f_Kind o.f_Gate o.f_Qubits o.f_Bit o.f_If o.f_When n m=some (opOK o n m):=by
 obtain ⟨K,G,Q,B,I,W⟩:=o
 simp only at hl hF
 unfold Pref08_Op opOK
 simp only [R_gchk F G n Q hl hF,R_unlike F n Q hl hF]
 have e1:(((Q.length:Nat):Int)=1)↔Q.length=1:=by omega
 have e2:(((Q.length:Nat):Int)>0)↔0<Q.length:=by omega
 by_cases k1:K=1
 ·by_cases g:gchk G Q n=0
  ·by_cases b:B=0
   ·by_cases i1:I = -1
    ·by_cases w:W=0<;>simp [k1,g,b,i1,w]
    ·by_cases i2:0≤I
     ·by_cases i3:I<m
      ·by_cases w:W=0<;>simp [k1,g,b,i1,i2,i3,w]
      ·simp [k1,g,b,i1,i2,i3]
     ·simp [k1,g,b,i1,i2]
   ·simp [k1,g,b]
  ·simp [k1,g]
 ·by_cases g:G=0
  ·cases apartB Q n with
   |false=>simp [k1,g]
   |true=>
    by_cases k2:K=2
    ·by_cases l1:Q.length=1
     ·by_cases b:0≤B
      ·by_cases b2:B<m
       ·by_cases i1:I = -1<;>by_cases w:W=0<;>simp [g,k2,e1,l1,b,b2,i1,w]
       ·simp [g,k2,e1,l1,b,b2]
      ·simp [g,k2,e1,l1,b]
     ·simp [g,k2,e1,l1]
    ·by_cases k3:K=3
     ·by_cases l1:Q.length=1
      ·by_cases b:B=0
       ·by_cases i1:I = -1<;>by_cases w:W=0<;>simp [g,k3,e1,l1,b,i1,w]
       ·simp [g,k3,e1,l1,b]
      ·simp [g,k3,e1,l1]
     ·by_cases k4:K=4
      ·by_cases l1:0<Q.length
       ·by_cases b:B=0
        ·by_cases i1:I = -1<;>by_cases w:W=0<;>simp [g,k4,e2,l1,b,i1,w]
        ·simp [g,k4,e2,l1,b]
       ·simp [g,k4,e2,l1]
      ·simp [k1,k2,k3,k4]
  ·simp [k1,g]
def Fits (F:Nat)(ops:List Gop):Prop:=∀ o,o∈ops→o.f_Qubits.length*8≤140737488355328∧o.f_Qubits.length<F
theorem Fits.at {F:Nat}{ops:List Gop}(h:Fits F ops){i:Nat}(hi:i<ops.length):ops[i].f_Qubits.length<4611686018427387904∧ops[i].f_Qubits.length<F:=by
 have:=h ops[i] (List.getElem_mem hi)
 omega
theorem PCC0 (F:Nat)(ops:List Gop)(n m:Int)(hf:Fits F ops)(hl:ops.length<4611686018427387904):∀ (f k i:Nat),i+k=ops.length→k<f→
  Pcircuit_CheckL0 F ops (ops.length:Int) n m ops f (i:Int)=some (.inr ())∧(ops.drop i).all (fun o=>opOK o n m)=true∨(∃ y,Pcircuit_CheckL0 F ops (ops.length:Int) n m ops f (i:Int)=some (.inl y))∧(ops.drop i).all (fun o=>opOK o n m)=false
 |0,k,i,_,h=>by omega
 |f+1,k,i,e,h=>by
  unfold Pcircuit_CheckL0
  cases k with
  |zero=>rw [if_neg (by omega),List.drop_of_length_le (by omega)];exact .inl ⟨rfl,rfl⟩
  |succ k=>
   have i1:i<ops.length:=by omega
   have ih:=PCC0 F ops n m hf hl f k (i+1) (by omega) (by omega)
   rw [show ((i+1:Nat):Int)=(i:Int)+1 by omega] at ih
   obtain ⟨a1,a2⟩:=hf.at i1
   rw [if_pos (by omega),idxS i1,List.drop_eq_getElem_cons i1,List.all_cons]
   simp only [P_may F ops[i] n m a1 a2,wrap_id (n:=(i:Int)+1) ⟨by omega,by omega⟩]
   cases opOK ops[i] n m with
   |false=>exact .inr ⟨⟨_,rfl⟩,rfl⟩
   |true=>exact ih
theorem RCC0 (F:Nat)(ops:List Gop)(n m:Int)(hf:Fits F ops)(hl:ops.length<4611686018427387904):∀ (f k i:Nat),i+k=ops.length→k<f→
  Pref08_CheckL0 F n m ops f (i:Int)=some (.inr ())∧(ops.drop i).all (fun o=>opOK o n m)=true∨(∃ y,Pref08_CheckL0 F n m ops f (i:Int)=some (.inl y))∧(ops.drop i).all (fun o=>opOK o n m)=false
 |0,k,i,_,h=>by omega
 |f+1,k,i,e,h=>by
  unfold Pref08_CheckL0
  cases k with
  |zero=>rw [if_neg (by omega),List.drop_of_length_le (by omega)];exact .inl ⟨rfl,rfl⟩
  |succ k=>
   have i1:i<ops.length:=by omega
   have ih:=RCC0 F ops n m hf hl f k (i+1) (by omega) (by omega)
   rw [show ((i+1:Nat):Int)=(i:Int)+1 by omega] at ih
   obtain ⟨a1,a2⟩:=hf.at i1
   rw [if_pos (by omega),idxS i1,List.drop_eq_getElem_cons i1,List.all_cons]
   simp only [R_Op F ops[i] n m a1 a2,wrap_id (n:=(i:Int)+1) ⟨by omega,by omega⟩]
   cases opOK ops[i] n m with
   |false=>exact .inr ⟨⟨_,rfl⟩,rfl⟩
   |true=>exact ih
def cirOK (n m:Int)(ops:List Gop):Bool:=decide (0≤n)&&(decide (n≤64)&&(decide (0≤m)&&(decide (m≤64)&&(decide (ops.length≤4096)&&ops.all (fun o=>opOK o n m)))))
theorem P_CCheck (F:Nat)(n m:Int)(ops:List Gop)(hf:Fits F ops)(hl:ops.length<4611686018427387904)(hF:ops.length<F):∃ i,Pcircuit_Check F n m ops=some (i,bif cirOK n m ops then 0 else 80):=by
 unfold Pcircuit_Check cirOK
 by_cases h1:n<0
 ·rw [if_pos h1,decide_eq_false (by omega)];exact ⟨_,rfl⟩
 rw [if_neg h1,decide_eq_true (by omega:0≤n)]
 by_cases h2:n>64
 ·rw [if_pos h2,decide_eq_false (by omega)];exact ⟨_,rfl⟩
 rw [if_neg h2,decide_eq_true (by omega:n≤64)]
 by_cases h3:m<0
 ·rw [if_pos h3,decide_eq_false (by omega)];exact ⟨_,rfl⟩
 rw [if_neg h3,decide_eq_true (by omega:0≤m)]
 by_cases h4:m>64
 ·rw [if_pos h4,decide_eq_false (by omega)];exact ⟨_,rfl⟩
 rw [if_neg h4,decide_eq_true (by omega:m≤64)]
 by_cases h5:(ops.length:Int)>4096
 ·rw [if_pos h5,decide_eq_false (by omega)];exact ⟨_,rfl⟩
 rw [if_neg h5,decide_eq_true (by omega:ops.length≤4096)]
 have:=PCC0 F ops n m hf hl F ops.length 0 (by omega) hF
 rw [show ((0:Nat):Int)=0 from rfl,List.drop_zero] at this
 rcases this with ⟨a,b⟩|⟨⟨y,a⟩,b⟩<;>rw [a,b]<;>exact ⟨_,rfl⟩
theorem R_CCheck (F:Nat)(n m:Int)(ops:List Gop)(hf:Fits F ops)(hl:ops.length<4611686018427387904)(hF:ops.length<F):∃ i,Pref08_Check F n m ops=some (i,bif cirOK n m ops then 0 else 80):=by
 unfold Pref08_Check cirOK
 by_cases h1:n<0
 ·rw [if_pos h1,decide_eq_false (by omega)];exact ⟨_,rfl⟩
 rw [if_neg h1,decide_eq_true (by omega:0≤n)]
 by_cases h2:n>64
 ·rw [if_pos h2,decide_eq_false (by omega)];exact ⟨_,rfl⟩
 rw [if_neg h2,decide_eq_true (by omega:n≤64)]
 by_cases h3:m<0
 ·rw [if_pos h3,decide_eq_false (by omega)];exact ⟨_,rfl⟩
 rw [if_neg h3,decide_eq_true (by omega:0≤m)]
 by_cases h4:m>64
 ·rw [if_pos h4,decide_eq_false (by omega)];exact ⟨_,rfl⟩
 rw [if_neg h4,decide_eq_true (by omega:m≤64)]
 by_cases h5:(ops.length:Int)>4096
 ·rw [if_pos h5,decide_eq_false (by omega)];exact ⟨_,rfl⟩
 rw [if_neg h5,decide_eq_true (by omega:ops.length≤4096)]
 have:=RCC0 F ops n m hf hl F ops.length 0 (by omega) hF
 rw [show ((0:Nat):Int)=0 from rfl,List.drop_zero] at this
 rcases this with ⟨a,b⟩|⟨⟨y,a⟩,b⟩<;>rw [a,b]<;>exact ⟨_,rfl⟩
theorem R_May (F:Nat)(n m:Int)(ops:List Gop)(hf:Fits F ops)(hl:ops.length<4611686018427387904)(hF:ops.length<F):Pref08_May F n m ops=some (cirOK n m ops):=by
 unfold Pref08_May
 obtain ⟨i,h⟩:=R_CCheck F n m ops hf hl hF
 rw [h]
 cases cirOK n m ops<;>rfl
end Go.Proofs.YtbbikmfjnanpmaaDoor.Ab
/- Floats: rounding hangs on the number alone; three halves of a number below 1. No condition: lemmas only. -/
set_option maxRecDepth 100000
set_option linter.unusedVariables false
set_option linter.unusedSimpArgs false
namespace Go.Proofs.YtbbikmfjnanpmaaDoor.Ab
open Go
theorem cut_zero (neg:Bool)(n:Nat):Ieee.Toward.even.cut neg n 0=n:=by
 unfold Ieee.Toward.cut
 simp [Nat.mod_one]
theorem log2_scale {n:Nat}(hn:0<n):∀ k:Nat,(n*2 ^ k).log2=n.log2+k
 |0=>by simp
 |k+1=>by
  have h0:n*2 ^ k≠0:=Nat.ne_of_gt (Nat.mul_pos hn (Nat.two_pow_pos k))
  rw [Nat.pow_succ,← Nat.mul_assoc,Nat.mul_comm _ 2,Nat.log2_two_mul h0,log2_scale hn k]
  omega
theorem cut_scale (neg:Bool){n:Nat}(hn:0<n)(k drop:Nat):Ieee.Toward.even.cut neg (n*2 ^ k) (drop+k)=Ieee.Toward.even.cut neg n drop:=by
 unfold Ieee.Toward.cut
 have e:1 <<< min (drop+k) ((n*2 ^ k).log2+2)=(1 <<< min drop (n.log2+2))*2 ^ k:=by
  rw [log2_scale hn,Nat.one_shiftLeft,Nat.one_shiftLeft,← Nat.pow_add]
  congr 1
  omega
 simp only [e]
 generalize hg:1 <<< min drop (n.log2+2)=g
 have hp:0<2 ^ k:=Nat.two_pow_pos k
 rw [Nat.mul_div_mul_right _ _ hp,Nat.mul_mod_mul_right]
 have a1:decide (g*2 ^ k<2*(n % g*2 ^ k))=decide (g<2*(n % g)):=by
  rw [← Nat.mul_assoc,decide_eq_decide]
  exact Nat.mul_lt_mul_right hp
 have a2:(g*2 ^ k==2*(n % g*2 ^ k))=(g==2*(n % g)):=by
  rw [← Nat.mul_assoc,Bool.eq_iff_iff,beq_iff_eq,beq_iff_eq]
  exact Nat.mul_left_inj (by omega)
 rw [a1,a2]
theorem nearest_scale (f:Ieee.Format)(neg:Bool){mag:Nat}(hm:0<mag)(k:Nat)(place:Int):f.nearest neg (mag*2 ^ k) place=f.nearest neg mag (place+k):=by
 unfold Ieee.Format.nearest
 have h1:¬ mag*2 ^ k=0:=Nat.ne_of_gt (Nat.mul_pos hm (Nat.two_pow_pos k))
 rw [if_neg h1,if_neg (by omega:¬ mag=0),log2_scale hm]
 have e:place+((mag.log2+k:Nat):Int)-(f.fractionBits:Int)=place+k+(mag.log2:Int)-f.fractionBits:=by omega
 simp only [e]
 generalize hl:max (place+k+(mag.log2:Int)-f.fractionBits) f.leastPlace=last
 have key:Ieee.Toward.even.cut neg ((mag*2 ^ k) <<< (place-last).toNat) (last-place).toNat=Ieee.Toward.even.cut neg (mag <<< (place+k-last).toNat) (last-(place+k)).toNat:=by
  rw [Nat.shiftLeft_eq,Nat.shiftLeft_eq]
  by_cases c1:last≤place
  ·rw [show (last-place).toNat=0 by omega,show (last-(place+k)).toNat=0 by omega,Nat.mul_assoc,← Nat.pow_add,show k+(place-last).toNat=(place+k-last).toNat by omega]
  ·rw [show (place-last).toNat=0 by omega,Nat.pow_zero,Nat.mul_one]
   by_cases c2:last≤place+k
   ·have:=cut_scale neg (n:=mag*2 ^ (place+k-last).toNat) (Nat.mul_pos hm (Nat.two_pow_pos _)) (last-place).toNat 0
    rw [Nat.zero_add,Nat.mul_assoc,← Nat.pow_add,show (place+k-last).toNat+(last-place).toNat=k by omega] at this
    rw [this,show (last-(place+k)).toNat=0 by omega]
   ·have:=cut_scale neg (n:=mag) hm k (last-(place+k)).toNat
    rw [show (last-(place+k)).toNat+k=(last-place).toNat by omega] at this
    rw [this,show (place+k-last).toNat=0 by omega,Nat.pow_zero,Nat.mul_one]
 rw [key]
abbrev D64:Ieee.Format:=FloatKind.f64.format
theorem d_lp:D64.leastPlace = -1074:=rfl
theorem d_fb:D64.fractionBits=52:=rfl
theorem d_bin:D64.binade=2 ^ 52:=rfl
theorem d_inf:D64.infRung=2047*2 ^ 52:=rfl
theorem d_sw:D64.signWeight=2 ^ 63:=rfl
theorem word_mod (neg:Bool){r:Nat}(h:r<2 ^ 63):D64.word neg r % 2 ^ 63=r∧(D64.word neg r / 2 ^ 63 % 2==1)=neg:=by
 unfold Ieee.Format.word
 rw [d_sw]
 cases neg with
 |false=>simp only [Bool.false_eq_true,if_false,beq_eq_false_iff_ne,ne_eq];omega
 |true=>simp only [if_true,beq_iff_eq];omega
theorem read_word (neg:Bool){r:Nat}(h:r<2047*2 ^ 52):D64.read (D64.word neg r)=if r<2 ^ 52 then .number neg r (-1074) else .number neg (2 ^ 52+r % 2 ^ 52) (-1074+(r / 2 ^ 52-1:Nat)):=by
 obtain ⟨h1,h2⟩:=word_mod neg (r:=r) (by omega)
 unfold Ieee.Format.read
 rw [d_sw,d_bin,d_inf,d_lp]
 simp only [h1,h2]
 split
 ·rfl
 ·rfl
theorem cut_bounds (neg:Bool){n d:Nat}(hn:0<n)(hd:d+52=n.log2):2 ^ 52≤Ieee.Toward.even.cut neg n d∧Ieee.Toward.even.cut neg n d≤2 ^ 53:=by
 unfold Ieee.Toward.cut
 have e:min d (n.log2+2)=d:=by omega
 rw [e,Nat.one_shiftLeft]
 have l1:2 ^ n.log2≤n:=Nat.log2_self_le (by omega)
 have l2:n<2 ^ (n.log2+1):=Nat.lt_log2_self
 have b1:2 ^ 52≤n / 2 ^ d:=by
  rw [Nat.le_div_iff_mul_le (Nat.two_pow_pos d),← Nat.pow_add,show 52+d=n.log2 by omega];exact l1
 have b2:n / 2 ^ d<2 ^ 53:=by
  rw [Nat.div_lt_iff_lt_mul (Nat.two_pow_pos d),← Nat.pow_add,show 53+d=n.log2+1 by omega];exact l2
 simp only []
 constructor
 ·exact Nat.le_trans b1 (Nat.le_add_right _ _)
 ·have:∀ b:Bool,b.toNat≤1:=fun b=>by cases b<;>decide
  have:=this (2 ^ d<2*(n % 2 ^ d)||(2 ^ d==2*(n % 2 ^ d)&&n / 2 ^ d % 2==1))
  omega
theorem kept_bounds (neg:Bool){mag:Nat}(hm:0<mag)(place last:Int)(h:last=place+mag.log2-52) :
  2 ^ 52≤Ieee.Toward.even.cut neg (mag <<< (place-last).toNat) (last-place).toNat∧Ieee.Toward.even.cut neg (mag <<< (place-last).toNat) (last-place).toNat≤2 ^ 53:=by
 rw [Nat.shiftLeft_eq]
 by_cases c:last≤place
 ·refine cut_bounds neg (Nat.mul_pos hm (Nat.two_pow_pos _)) ?_
  rw [log2_scale hm]
  omega
 ·rw [show (place-last).toNat=0 by omega,Nat.pow_zero,Nat.mul_one]
  exact cut_bounds neg hm (by omega)
theorem half_nearest (neg:Bool){mag:Nat}(hm:0<mag)(place:Int)(h0:-1074≤place)(h1:place+mag.log2≤900) :
  ∃ m' i',D64.read (D64.nearest neg mag place)=.number neg m' i'∧0<m'∧m'.log2≤52∧D64.nearest neg m' (i'-1)=D64.nearest neg mag (place-1):=by
 by_cases c:place+mag.log2-52≤-1074
 ·-- no digit is lost
  have hw:D64.nearest neg mag place=D64.word neg (mag*2 ^ (place+1074).toNat):=by
   unfold Ieee.Format.nearest
   rw [if_neg (by omega),d_lp,d_fb,d_bin,d_inf]
   have e:max (place+(mag.log2:Int)-((52:Nat):Int)) (-1074) = -1074:=by omega
   simp only [e]
   rw [show (-1074-place).toNat=0 by omega,cut_zero,Nat.shiftLeft_eq,show (place - -1074).toNat=(place+1074).toNat by omega]
   have:mag*2 ^ (place+1074).toNat<2 ^ 53:=by
    have l2:mag<2 ^ (mag.log2+1):=Nat.lt_log2_self
    calc mag*2 ^ (place+1074).toNat<2 ^ (mag.log2+1)*2 ^ (place+1074).toNat:=(Nat.mul_lt_mul_right (Nat.two_pow_pos _)).2 l2
     _=2 ^ (mag.log2+1+(place+1074).toNat):=by rw [← Nat.pow_add]
     _≤2 ^ 53:=Nat.pow_le_pow_right (by decide) (by omega)
   rw [show ((-1074:Int) - -1074).toNat=0 by decide,Nat.zero_mul,Nat.zero_add,Nat.min_eq_left (by omega)]
  have hr:mag*2 ^ (place+1074).toNat<2 ^ 53:=by
   have l2:mag<2 ^ (mag.log2+1):=Nat.lt_log2_self
   calc mag*2 ^ (place+1074).toNat<2 ^ (mag.log2+1)*2 ^ (place+1074).toNat:=(Nat.mul_lt_mul_right (Nat.two_pow_pos _)).2 l2
    _=2 ^ (mag.log2+1+(place+1074).toNat):=by rw [← Nat.pow_add]
    _≤2 ^ 53:=Nat.pow_le_pow_right (by decide) (by omega)
  have hp:0<mag*2 ^ (place+1074).toNat:=Nat.mul_pos hm (Nat.two_pow_pos _)
  refine ⟨mag*2 ^ (place+1074).toNat,-1074,?_,hp,?_,?_⟩
  ·rw [hw,read_word neg (by omega)]
   generalize mag*2 ^ (place+1074).toNat=r at hr
   split
   ·rfl
   ·rename_i h
    rw [show 2 ^ 52+r % 2 ^ 52=r by omega,show r / 2 ^ 52-1=0 by omega]
    rfl
  ·have:=(Nat.log2_lt (Nat.ne_of_gt hp)).2 hr
   omega
  ·rw [nearest_scale D64 neg hm]
   congr 1
   omega
 ·-- the significand is full
  have hl:max (place+(mag.log2:Int)-((52:Nat):Int)) (-1074)=place+mag.log2-52:=by omega
  have hl2:max (place-1+(mag.log2:Int)-((52:Nat):Int)) (-1074)=place+mag.log2-53:=by omega
  obtain ⟨k1,k2⟩:=kept_bounds neg hm place (place+mag.log2-52) rfl
  generalize hK:Ieee.Toward.even.cut neg (mag <<< (place-(place+(mag.log2:Int)-52)).toNat) ((place+mag.log2-52)-place).toNat=K at k1 k2
  generalize hT:(place+(mag.log2:Int)-52+1074).toNat=t
  have ht:(t:Int)=place+mag.log2-52+1074:=by omega
  have hA:D64.nearest neg mag place=D64.word neg (t*2 ^ 52+K):=by
   unfold Ieee.Format.nearest
   rw [if_neg (by omega),d_lp,d_fb,d_bin,d_inf]
   simp only [hl]
   rw [hK,show (place+(mag.log2:Int)-52 - -1074).toNat=t by omega,Nat.min_eq_left (by omega)]
  have hB:D64.nearest neg mag (place-1)=D64.word neg ((t-1)*2 ^ 52+K):=by
   unfold Ieee.Format.nearest
   rw [if_neg (by omega),d_lp,d_fb,d_bin,d_inf]
   simp only [hl2]
   rw [show (place-1-(place+(mag.log2:Int)-53)).toNat=(place-(place+mag.log2-52)).toNat by omega,show (place+(mag.log2:Int)-53-(place-1)).toNat=((place+mag.log2-52)-place).toNat by omega,hK,show (place+(mag.log2:Int)-53 - -1074).toNat=t-1 by omega,Nat.min_eq_left (by omega)]
  by_cases hK3:K=2 ^ 53
  ·refine ⟨2 ^ 52,-1074+((t+1:Nat):Int),?_,Nat.two_pow_pos 52,Nat.le_of_eq Nat.log2_two_pow,?_⟩
   ·rw [hA,read_word neg (by omega),if_neg (by omega),hK3,show (t*2 ^ 52+2 ^ 53) % 2 ^ 52=0 by omega,show (t*2 ^ 52+2 ^ 53) / 2 ^ 52-1=t+1 by omega]
   ·rw [hB,hK3]
    unfold Ieee.Format.nearest
    rw [if_neg (Nat.ne_of_gt (Nat.two_pow_pos 52)),d_lp,d_fb,d_bin,d_inf,Nat.log2_two_pow]
    have e:max (-1074+((t+1:Nat):Int)-1+((52:Nat):Int)-((52:Nat):Int)) (-1074) = -1074+(t:Int):=by omega
    simp only [e]
    rw [show (-1074+((t+1:Nat):Int)-1-(-1074+(t:Int))).toNat=0 by omega,show (-1074+(t:Int)-(-1074+((t+1:Nat):Int)-1)).toNat=0 by omega,cut_zero,show (-1074+(t:Int) - -1074).toNat=t by omega,Nat.shiftLeft_zero,Nat.min_eq_left (by omega),show t*2 ^ 52+2 ^ 52=(t-1)*2 ^ 52+2 ^ 53 by omega]
  ·have k3:K<2 ^ 53:=by omega
   have hlg:K.log2=52:=by
    have a:=(Nat.le_log2 (by omega:K≠0)).2 k1
    have b:=(Nat.log2_lt (by omega:K≠0)).2 k3
    omega
   refine ⟨K,-1074+(t:Int),?_,by omega,by omega,?_⟩
   ·rw [hA,read_word neg (by omega),if_neg (by omega),show 2 ^ 52+(t*2 ^ 52+K) % 2 ^ 52=K by omega,show (t*2 ^ 52+K) / 2 ^ 52-1=t by omega]
   ·rw [hB]
    unfold Ieee.Format.nearest
    rw [if_neg (by omega),d_lp,d_fb,d_bin,d_inf,hlg]
    have e:max (-1074+(t:Int)-1+((52:Nat):Int)-((52:Nat):Int)) (-1074) = -1074+(t:Int)-1:=by omega
    simp only [e]
    rw [show (-1074+(t:Int)-1-(-1074+(t:Int)-1)).toNat=0 by omega,cut_zero,show (-1074+(t:Int)-1 - -1074).toNat=t-1 by omega,Nat.shiftLeft_zero,Nat.min_eq_left (by omega)]
theorem read30:D64.read (4613937818241073152#64).toNat=.number false (3*2 ^ 51) (-51):=by rfl
theorem read15:D64.read (4609434218613702656#64).toNat=.number false (3*2 ^ 51) (-52):=by rfl
theorem read20:D64.read (4611686018427387904#64).toNat=.number false (2 ^ 52) (-51):=by rfl
theorem read10:D64.read (4607182418800017408#64).toNat=.number false (2 ^ 52) (-52):=by rfl
theorem read10B {B:Nat}(h:B=2 ^ 52):D64.read (4607182418800017408#64).toNat=.number false B (-52):=by subst h;rfl
theorem read00:D64.read (0#64).toNat=.number false 0 (-1074):=by rfl
theorem read_bounds {w:Nat}{neg:Bool}{m:Nat}{i:Int}(h:D64.read w=.number neg m i):-1074≤i∧m<2 ^ 53∧(m<2 ^ 52→i = -1074):=by
 unfold Ieee.Format.read at h
 rw [d_sw,d_bin,d_inf,d_lp] at h
 simp only [] at h
 split at h
 ·rename_i c
  cases h
  exact ⟨by omega,by omega,fun _=>rfl⟩
 ·split at h
  ·cases h
   have:w % 2 ^ 63 % 2 ^ 52<2 ^ 52:=Nat.mod_lt _ (Nat.two_pow_pos 52)
   exact ⟨by omega,by omega,fun q=>absurd q (by omega)⟩
  ·split at h<;>cases h
theorem nearest_nn (neg:Bool)(mag:Nat)(place:Int):nanb (D64.nearest neg mag place)=false:=by
 have wn:∀ r,r≤2047*2 ^ 52→nanb (D64.word neg r)=false:=fun r hr=>by
  rw [nan_iff,(word_mod neg (by omega:r<2 ^ 63)).1,decide_eq_false_iff_not]
  omega
 unfold Ieee.Format.nearest
 split
 ·exact wn _ (Nat.zero_le _)
 ·exact wn _ (Nat.min_le_right _ _)
theorem near_lt (neg:Bool)(mag:Nat)(place:Int):D64.nearest neg mag place<2 ^ 64:=D64.nearest_lt neg mag place
theorem near_nat (neg:Bool)(mag:Nat)(place:Int):(BitVec.ofNat 64 (D64.nearest neg mag place)).toNat=D64.nearest neg mag place:=by
 rw [BitVec.toNat_ofNat,Nat.mod_eq_of_lt (near_lt ..)]
theorem fMul_near {x y:BitVec 64}{s t:Bool}{m n:Nat}{i j:Int}(hx:D64.read x.toNat=.number s m i)(hy:D64.read y.toNat=.number t n j):fMul x y=BitVec.ofNat 64 (D64.nearest (s ^^ t) (m*n) (i+j)):=by
 unfold fMul Ieee.Format.mul
 rw [hx,hy]
 rfl
theorem unit_read {u:BitVec 64}(h0:fCmp .geq u 0#64=true)(h1:fCmp .lss u 4607182418800017408#64=true):∃ neg m i,D64.read u.toNat=.number neg m i∧-1074≤i∧i≤0∧m<2 ^ 53:=by
 obtain ⟨B,hB⟩:∃ B,B=2 ^ 52:=⟨_,rfl⟩
 unfold fCmp at h0 h1
 unfold Ieee.Format.order at h0 h1
 rw [read00] at h0
 rw [read10B hB] at h1
 cases e:D64.read u.toNat with
 |nan s f=>rw [e] at h1;cases h1
 |infinity s=>
  rw [e] at h0 h1
  cases s with
  |false=>cases h1
  |true=>cases h0
 |number neg m i=>
  obtain ⟨b1,b2,b3⟩:=read_bounds e
  refine ⟨neg,m,i,rfl,b1,?_,b2⟩
  refine Decidable.byContradiction fun q=>?_
  have hm:B≤m:=Decidable.byContradiction fun p=>by have:=b3 (by omega);omega
  have hB0:0<B:=by rw [hB];exact Nat.two_pow_pos 52
  clear hB b3
  rw [e] at h0 h1
  cases neg with
  |true=>
   have e1:min i (-1074) = -1074:=by omega
   simp only [Ieee.Datum.order,e1,Ieee.signed,if_true,Bool.false_eq_true,if_false,Nat.zero_shiftLeft,Int.natCast_zero,fcmpB,Option.getD_some,Bool.or_eq_true,beq_iff_eq,Option.some.injEq] at h0
   rw [Nat.shiftLeft_eq] at h0
   have hp:0<m*2 ^ (i - -1074).toNat:=Nat.mul_pos (by omega) (Nat.two_pow_pos _)
   generalize m*2 ^ (i - -1074).toNat=z at hp h0
   have:compare (-(z:Int)) 0=.lt:=Int.compare_eq_lt.2 (by omega)
   rw [this] at h0
   rcases h0 with h0|h0<;>cases h0
  |false=>
   have e1:min i (-52) = -52:=by omega
   simp only [Ieee.Datum.order,e1,Ieee.signed,Bool.false_eq_true,if_false,fcmpB,Option.getD_some,beq_iff_eq,Option.some.injEq] at h1
   have h2:=Int.compare_eq_lt.1 h1
   rw [Nat.shiftLeft_eq,show ((-52:Int) - -52).toNat=0 by decide,Nat.shiftLeft_zero] at h2
   have hk:(i - -52).toNat=0+(i - -52).toNat:=by omega
   have h3:1≤2 ^ (i - -52).toNat:=Nat.two_pow_pos _
   have h4:m*1≤m*2 ^ (i - -52).toNat:=Nat.mul_le_mul_left m h3
   omega
theorem thirds {u:BitVec 64}(h0:fCmp .geq u 0#64=true)(h1:fCmp .lss u 4607182418800017408#64=true) :
  fQuo (fMul u 4613937818241073152#64) 4611686018427387904#64=fMul u 4609434218613702656#64∧fNaN (fMul u 4613937818241073152#64)=false∧fNaN (fMul u 4609434218613702656#64)=false:=by
 obtain ⟨neg,m,i,hu,i0,i1,hm⟩:=unit_read h0 h1
 have nn:∀ a b,fNaN (BitVec.ofNat 64 (D64.nearest neg a b))=false:=fun a b=>by
  show nanb (BitVec.ofNat 64 (D64.nearest neg a b)).toNat=false
  rw [near_nat];exact nearest_nn ..
 rw [fMul_near hu read30,fMul_near hu read15,Bool.xor_false]
 refine ⟨?_,nn _ _,nn _ _⟩
 unfold fQuo Ieee.Format.div
 rw [near_nat,read20]
 by_cases c:m=0
 ·subst c
  rw [Nat.zero_mul]
  have hz:∀ p,D64.nearest neg 0 p=D64.word neg 0:=fun p=>by unfold Ieee.Format.nearest;rw [if_pos rfl]
  rw [hz,hz,read_word neg (by omega),if_pos (by omega)]
  rw [Ieee.Datum.quotient,if_neg (Nat.ne_of_gt (Nat.two_pow_pos 52))]
  simp only [Nat.zero_shiftLeft,Nat.zero_div,Nat.zero_mod,Nat.mul_zero,bne_self_eq_false,Bool.toNat_false,Nat.add_zero,Option.map_some,Bool.xor_false]
  show BitVec.ofNat 64 (D64.nearest neg 0 _)=_
  rw [hz]
 ·have hm0:0<3*m:=by omega
  have e3:m*(3*2 ^ 51)=3*m*2 ^ 51:=by rw [← Nat.mul_assoc,Nat.mul_comm m 3]
  rw [e3,nearest_scale D64 neg hm0,nearest_scale D64 neg hm0,show i + -51+((51:Nat):Int)=i by omega,show i + -52+((51:Nat):Int)=i-1 by omega]
  have hl:(3*m).log2≤55:=by
   have:=(Nat.log2_lt (by omega:3*m≠0)).2 (by omega:3*m<2 ^ 56)
   omega
  obtain ⟨m',i',hr,p0,p1,p2⟩:=half_nearest neg hm0 i i0 (by omega)
  rw [hr]
  rw [Ieee.Datum.quotient,if_neg (Nat.ne_of_gt (Nat.two_pow_pos 52))]
  simp only [d_fb,Nat.log2_two_pow,Option.map_some,Bool.xor_false]
  generalize hk:52+2+52-m'.log2=k
  have hk52:54≤k:=by omega
  have e1:m' <<< k=m'*2 ^ (k-52)*2 ^ 52:=by
   rw [Nat.shiftLeft_eq,Nat.mul_assoc,← Nat.pow_add,show k-52+52=k by omega]
  rw [e1,Nat.mul_div_cancel _ (Nat.two_pow_pos 52),Nat.mul_mod_left]
  simp only [bne_self_eq_false,Bool.toNat_false,Nat.add_zero]
  have e2:2*(m'*2 ^ (k-52))=m'*2 ^ (k-51):=by
   rw [show k-51=(k-52)+1 by omega,Nat.pow_succ,Nat.mul_comm (2 ^ (k-52)) 2,← Nat.mul_assoc,← Nat.mul_assoc,Nat.mul_comm 2 m']
  rw [e2]
  show BitVec.ofNat 64 (D64.nearest neg (m'*2 ^ (k-51)) _)=_
  rw [nearest_scale D64 neg p0,show i' - -51-(k:Int)-1+((k-51:Nat):Int)=i'-1 by omega,p2]
theorem geq_lss {x y:BitVec 64}(hx:fNaN x=false)(hy:fNaN y=false):fCmp .geq x y = !fCmp .lss x y:=by
 unfold fCmp Ieee.Format.order
 unfold fNaN at hx hy
 have ho:∀ o:Ordering,(fcmpB .geq (some o)).getD false = !(fcmpB .lss (some o)).getD false:=fun o=>by cases o<;>rfl
 cases e1:D64.read x.toNat with
 |nan s f=>rw [e1] at hx;cases hx
 |infinity s=>
  cases e2:D64.read y.toNat with
  |nan s f=>rw [e2] at hy;cases hy
  |infinity t=>exact ho _
  |number t n j=>exact ho _
 |number s m i=>
  cases e2:D64.read y.toNat with
  |nan s f=>rw [e2] at hy;cases hy
  |infinity t=>exact ho _
  |number t n j=>exact ho _
theorem cmp_nn {op:BinOp}{x y:BitVec 64}(h:fCmp op x y=true)(ho:(fcmpB op none).getD false=false):fNaN x=false∧fNaN y=false:=by
 unfold fCmp Ieee.Format.order at h
 unfold fNaN
 cases e1:D64.read x.toNat with
 |nan s f=>rw [e1] at h;rw [show (Ieee.Datum.nan s f).order (D64.read y.toNat)=none from rfl,ho] at h;cases h
 |infinity s=>
  cases e2:D64.read y.toNat with
  |nan s f=>rw [e1,e2] at h;rw [show ∀ a b c,(Ieee.Datum.infinity a).order (.nan b c)=none from fun _ _ _=>rfl,ho] at h;cases h
  |infinity t=>exact ⟨rfl,rfl⟩
  |number t n j=>exact ⟨rfl,rfl⟩
 |number s m i=>
  cases e2:D64.read y.toNat with
  |nan s f=>rw [e1,e2] at h;rw [show ∀ a b c d e,(Ieee.Datum.number a b c).order (.nan d e)=none from fun _ _ _ _ _=>rfl,ho] at h;cases h
  |infinity t=>exact ⟨rfl,rfl⟩
  |number t n j=>exact ⟨rfl,rfl⟩
end Go.Proofs.YtbbikmfjnanpmaaDoor.Ab
/- Plain law: errors drawn by numbers, the program's word and the reference's; numbers for values; the law NoiseDraws. No condition but what an address space holds. -/
set_option maxRecDepth 100000
set_option linter.unusedVariables false
set_option linter.unusedSimpArgs false
namespace Go.Proofs.YtbbikmfjnanpmaaDoor.Ab
open Go
abbrev Gsl:=S53
theorem ofInt_q {q:Int}(h0:0≤q)(h1:q<64):(BitVec.ofInt 64 q).toNat=q.toNat:=by
 obtain ⟨k,rfl⟩:=Int.eq_ofNat_of_zero_le h0
 simp
 omega
def slp (N:Int)(i:Nat)(q:Int)(r:BitVec 64×BitVec 64):Gsl:=⟨(i:Int)+1,N,r.1 <<< q.toNat,r.2 <<< q.toNat,0⟩
def drawQ (p:BitVec 64)(us:List (BitVec 64))(N:Int)(i:Nat):List Int→Nat→List Gsl→Option (Nat×List Gsl)
 | [],n,l=>some (n,l)
 |q::qs,n,l=>match us[n]? with
  |none=>none
  |some u=>bif fCmp .geq u 0#64&&fCmp .lss u 4607182418800017408#64 then
    (bif fCmp .lss u p then drawQ p us N i qs (n+1) (l++[slp N i q (Pnoise_drawn u p)]) else drawQ p us N i qs (n+1) l)
   else none
theorem drawQ_le (p:BitVec 64)(us:List (BitVec 64))(N:Int)(i:Nat):∀ (qs:List Int) (n:Nat) (l:List Gsl) (n':Nat) (l':List Gsl),drawQ p us N i qs n l=some (n',l')→n≤us.length→n'≤us.length∧l'.length≤l.length+qs.length∧(l≠[]→l'≠[])
 | [],n,l,n',l',h,hn=>by
  unfold drawQ at h
  cases h
  exact ⟨hn,by simp,id⟩
 |q::qs,n,l,n',l',h,hn=>by
  unfold drawQ at h
  split at h
  ·cases h
  ·rename_i u hu
   have hlt:n<us.length:=(List.getElem?_eq_some_iff.1 hu).1
   cases hc:fCmp .geq u 0#64&&fCmp .lss u 4607182418800017408#64 with
   |false=>rw [hc] at h;cases h
   |true=>
    rw [hc] at h
    cases hp:fCmp .lss u p with
    |true=>
     rw [hp] at h
     obtain ⟨a,b,c⟩:=drawQ_le p us N i qs (n+1) _ n' l' h (by omega)
     rw [List.length_append,List.length_singleton] at b
     exact ⟨a,by rw [List.length_cons];omega,fun _=>c (by simp)⟩
    |false=>
     rw [hp] at h
     obtain ⟨a,b,c⟩:=drawQ_le p us N i qs (n+1) _ n' l' h (by omega)
     exact ⟨a,by rw [List.length_cons];omega,c⟩
theorem idxU {l:List (BitVec 64)}{i:Nat}(h:i<l.length):idx l (i:Int)=some l[i]:=by rw [idx_nat,List.getElem?_eq_getElem h]
section
variable (p:BitVec 64)(us:List (BitVec 64))(hu:us.length<4611686018427387904)(N:Int)(i:Nat)(hi:i<4611686018427387904)(qs:List Int)(hq:∀ q,q∈qs→0≤q∧q<64)(hl:qs.length<4611686018427387904)
include hu hi hq hl
theorem PD2 (v4:List Gop)(v5 v6 v11:Int)(v12:List Gop):∀ (f m k n:Nat) (l:List Gsl),k+m=qs.length→m<f→l.length+m≤1000000→
  Pnoise_DrawL2 p us (i:Int) v4 v5 v6 qs (qs.length:Int) N v11 v12 f (n:Int) (k:Int) l=(match drawQ p us N i (qs.drop k) n l with
   |none=>some (.inl ())
   |some (n',l')=>some (.inr ((n':Int),l')))
 |0,m,k,n,l,_,h,_=>by omega
 |f+1,0,k,n,l,e,h,hb=>by
  unfold Pnoise_DrawL2
  rw [if_neg (by omega),List.drop_of_length_le (by omega)]
  rfl
 |f+1,m+1,k,n,l,e,h,hb=>by
  have k1:k<qs.length:=by omega
  obtain ⟨q0,q1⟩:=hq qs[k] (List.getElem_mem k1)
  unfold Pnoise_DrawL2
  rw [if_pos (by omega),idxI k1,List.drop_eq_getElem_cons k1]
  simp only []
  unfold drawQ
  by_cases hn:n<us.length
  ·have ih1:=PD2 v4 v5 v6 v11 v12 f m (k+1) (n+1) (l++[slp N i qs[k] (Pnoise_drawn us[n] p)]) (by omega) (by omega) (by rw [List.length_append,List.length_singleton];omega)
   have ih2:=PD2 v4 v5 v6 v11 v12 f m (k+1) (n+1) l (by omega) (by omega) (by omega)
   rw [show ((k+1:Nat):Int)=(k:Int)+1 by omega,show ((n+1:Nat):Int)=(n:Int)+1 by omega] at ih1 ih2
   rw [if_neg (by omega),idxU hn,List.getElem?_eq_getElem hn]
   simp only [wrap_id (n:=(k:Int)+1) ⟨by omega,by omega⟩,wrap_id (n:=(n:Int)+1) ⟨by omega,by omega⟩,wrap_id (n:=(i:Int)+1) ⟨by omega,by omega⟩]
   cases fCmp .geq us[n] 0#64 with
   |false=>rfl
   |true=>
    cases fCmp .lss us[n] 4607182418800017408#64 with
    |false=>rfl
    |true=>
     cases fCmp .lss us[n] p with
     |false=>exact ih2
     |true=>
      rw [cond_true,cond_true,cond_true,if_neg (by omega),if_pos (by omega)]
      exact ih1
  ·rw [if_pos (by omega),List.getElem?_eq_none (by omega)]
theorem PD0 (v4:List Gop)(v5 v6 v11:Int)(v12:List Gop):∀ (f m k n:Nat) (l:List Gsl),k+m=qs.length→m<f→l.length+m≤1000000→
  Pnoise_DrawL0 f p us (n:Int) (i:Int) v4 v5 v6 qs (qs.length:Int) (k:Int) N v11 v12 l=(match drawQ p us N i (qs.drop k) n l with
   |none=>some (.inl ())
   |some (n',l')=>some (.inr (.inr (p,us,(n':Int),v4,v5,v6,N,v11,v12,l'))))
 |0,m,k,n,l,_,h,_=>by omega
 |f+1,0,k,n,l,e,h,hb=>by
  unfold Pnoise_DrawL0
  rw [if_neg (by omega),List.drop_of_length_le (by omega)]
  rfl
 |f+1,m+1,k,n,l,e,h,hb=>by
  have k1:k<qs.length:=by omega
  obtain ⟨q0,q1⟩:=hq qs[k] (List.getElem_mem k1)
  unfold Pnoise_DrawL0
  rw [if_pos (by omega),idxI k1,List.drop_eq_getElem_cons k1]
  simp only []
  unfold drawQ
  by_cases hn:n<us.length
  ·have ih1:=PD0 v4 v5 v6 v11 v12 f m (k+1) (n+1) (l++[slp N i qs[k] (Pnoise_drawn us[n] p)]) (by omega) (by omega) (by rw [List.length_append,List.length_singleton];omega)
   have ih2:=PD0 v4 v5 v6 v11 v12 f m (k+1) (n+1) l (by omega) (by omega) (by omega)
   rw [show ((k+1:Nat):Int)=(k:Int)+1 by omega,show ((n+1:Nat):Int)=(n:Int)+1 by omega] at ih1 ih2
   rw [if_neg (by omega),idxU hn,List.getElem?_eq_getElem hn]
   simp only [wrap_id (n:=(k:Int)+1) ⟨by omega,by omega⟩,wrap_id (n:=(n:Int)+1) ⟨by omega,by omega⟩,wrap_id (n:=(i:Int)+1) ⟨by omega,by omega⟩]
   cases fCmp .geq us[n] 0#64 with
   |false=>rfl
   |true=>
    cases fCmp .lss us[n] 4607182418800017408#64 with
    |false=>rfl
    |true=>
     cases fCmp .lss us[n] p with
     |false=>exact ih2
     |true=>
      rw [cond_true,cond_true,cond_true,if_neg (by omega),if_pos (by omega)]
      exact ih1
  ·rw [if_pos (by omega),List.getElem?_eq_none (by omega)]
theorem PD1 (v4:List Gop)(v5 v6 v11:Int)(v12:List Gop):∀ (f m k n:Nat),k+m=qs.length→m<f→m≤1000→
  (drawQ p us N i (qs.drop k) n []=none∧Pnoise_DrawL1 f p us (n:Int) (i:Int) v4 v5 v6 qs (qs.length:Int) (k:Int) N v11 v12=some (.inl ()))∨
  (∃ n',drawQ p us N i (qs.drop k) n []=some (n',[])∧Pnoise_DrawL1 f p us (n:Int) (i:Int) v4 v5 v6 qs (qs.length:Int) (k:Int) N v11 v12=some (.inr (.inl (p,us,(n':Int),v4,v5,v6,N,v11,v12))))∨
  (∃ n' l',drawQ p us N i (qs.drop k) n []=some (n',l')∧Pnoise_DrawL1 f p us (n:Int) (i:Int) v4 v5 v6 qs (qs.length:Int) (k:Int) N v11 v12=some (.inr (.inr (p,us,(n':Int),v4,v5,v6,N,v11,v12,l'))))
 |0,m,k,n,_,h,_=>by omega
 |f+1,0,k,n,e,h,hb=>by
  refine .inr (.inl ⟨n,?_,?_⟩)
  ·rw [List.drop_of_length_le (by omega)];rfl
  ·unfold Pnoise_DrawL1
   rw [if_neg (by omega)]
 |f+1,m+1,k,n,e,h,hb=>by
  have k1:k<qs.length:=by omega
  obtain ⟨q0,q1⟩:=hq qs[k] (List.getElem_mem k1)
  unfold Pnoise_DrawL1
  rw [if_pos (by omega),idxI k1,List.drop_eq_getElem_cons k1]
  simp only []
  unfold drawQ
  by_cases hn:n<us.length
  ·have ih1:=PD0 p us hu N i hi qs hq hl v4 v5 v6 v11 v12 f m (k+1) (n+1) [slp N i qs[k] (Pnoise_drawn us[n] p)] (by omega) (by omega) (by rw [List.length_singleton];omega)
   have ih2:=PD1 v4 v5 v6 v11 v12 f m (k+1) (n+1) (by omega) (by omega) (by omega)
   rw [show ((k+1:Nat):Int)=(k:Int)+1 by omega,show ((n+1:Nat):Int)=(n:Int)+1 by omega] at ih1 ih2
   rw [if_neg (by omega),idxU hn,List.getElem?_eq_getElem hn]
   simp only [wrap_id (n:=(k:Int)+1) ⟨by omega,by omega⟩,wrap_id (n:=(n:Int)+1) ⟨by omega,by omega⟩,wrap_id (n:=(i:Int)+1) ⟨by omega,by omega⟩]
   cases fCmp .geq us[n] 0#64 with
   |false=>exact .inl ⟨rfl,rfl⟩
   |true=>
    cases fCmp .lss us[n] 4607182418800017408#64 with
    |false=>exact .inl ⟨rfl,rfl⟩
    |true=>
     cases fCmp .lss us[n] p with
     |false=>exact ih2
     |true=>
      simp only [cond_true,Bool.and_self,List.nil_append]
      rw [if_neg (by omega)]
      cases hd:drawQ p us N i (qs.drop (k+1)) (n+1) [slp N i qs[k] (Pnoise_drawn us[n] p)] with
      |none=>rw [hd] at ih1;exact .inl ⟨rfl,ih1⟩
      |some r=>
       obtain ⟨n',l'⟩:=r
       rw [hd] at ih1
       exact .inr (.inr ⟨n',l',rfl,ih1⟩)
  ·rw [if_pos (by omega),List.getElem?_eq_none (by omega)]
   exact .inl ⟨rfl,rfl⟩
end
theorem ref_slp (N:Int)(i:Nat){q:Int}(h0:0≤q)(h1:q<64){u p:BitVec 64}(hp:fNaN p=false)(g0:fCmp .geq u 0#64=true)(g1:fCmp .lss u 4607182418800017408#64=true){ρ:Type}(K:Gsl→ρ) :
  (bif fCmp .lss (fMul u 4613937818241073152#64) p then (bif fCmp .geq (fMul u 4613937818241073152#64) p then K ⟨(i:Int)+1,N,1#64 <<< (BitVec.ofInt 64 q).toNat,1#64 <<< (BitVec.ofInt 64 q).toNat,0⟩ else K ⟨(i:Int)+1,N,1#64 <<< (BitVec.ofInt 64 q).toNat,0#64,0⟩)
   else bif fCmp .geq (fQuo (fMul u 4613937818241073152#64) 4611686018427387904#64) p then (bif fCmp .geq (fMul u 4613937818241073152#64) p then K ⟨(i:Int)+1,N,1#64 <<< (BitVec.ofInt 64 q).toNat,1#64 <<< (BitVec.ofInt 64 q).toNat,0⟩ else K ⟨(i:Int)+1,N,1#64 <<< (BitVec.ofInt 64 q).toNat,0#64,0⟩)
   else bif fCmp .geq (fMul u 4613937818241073152#64) p then K ⟨(i:Int)+1,N,0#64,1#64 <<< (BitVec.ofInt 64 q).toNat,0⟩ else K ⟨(i:Int)+1,N,0#64,0#64,0⟩)=K (slp N i q (Pnoise_drawn u p)):=by
 obtain ⟨t1,t2,t3⟩:=thirds g0 g1
 rw [t1,geq_lss t2 hp,geq_lss t3 hp]
 unfold slp Pnoise_drawn
 rw [ofInt_q h0 h1]
 cases fCmp .lss (fMul u 4613937818241073152#64) p with
 |true=>
  simp only [Bool.not_true,cond_true,cond_false]
  rw [BitVec.zero_shiftLeft]
 |false=>
  cases fCmp .lss (fMul u 4609434218613702656#64) p with
  |true=>
   simp only [Bool.not_true,Bool.not_false,cond_true,cond_false]
   rw [BitVec.zero_shiftLeft]
  |false=>rfl
section
variable (p:BitVec 64)(hp:fNaN p=false)(us:List (BitVec 64))(hu:us.length<4611686018427387904)(N:Int)(i:Nat)(hi:i<4611686018427387904)(qs:List Int)(hq:∀ q,q∈qs→0≤q∧q<64)(hl:qs.length<4611686018427387904)
include hp hu hi hq hl
theorem RD2 (v6:Int)(v7:List Gop)(v9 v11 v12 v13:Int):∀ (f m k n:Nat) (l:List Gsl),k+m=qs.length→m<f→l.length+m≤1000000→
  Pref24_DrawL2 p us (i:Int) N v6 v7 1 v9 qs v11 v12 v13 f (n:Int) (k:Int) l=(match drawQ p us N i (qs.drop k) n l with
   |none=>some (.inl ())
   |some (n',l')=>some (.inr ((n':Int),l')))
 |0,m,k,n,l,_,h,_=>by omega
 |f+1,0,k,n,l,e,h,hb=>by
  unfold Pref24_DrawL2
  rw [if_neg (by omega),List.drop_of_length_le (by omega)]
  rfl
 |f+1,m+1,k,n,l,e,h,hb=>by
  have k1:k<qs.length:=by omega
  obtain ⟨q0,q1⟩:=hq qs[k] (List.getElem_mem k1)
  unfold Pref24_DrawL2
  rw [if_pos (by omega),if_pos rfl,idxI k1,List.drop_eq_getElem_cons k1]
  unfold drawQ
  by_cases hn:n<us.length
  ·have ih1:=RD2 v6 v7 v9 v11 v12 v13 f m (k+1) (n+1) (l++[slp N i qs[k] (Pnoise_drawn us[n] p)]) (by omega) (by omega) (by rw [List.length_append,List.length_singleton];omega)
   have ih2:=RD2 v6 v7 v9 v11 v12 v13 f m (k+1) (n+1) l (by omega) (by omega) (by omega)
   rw [show ((k+1:Nat):Int)=(k:Int)+1 by omega,show ((n+1:Nat):Int)=(n:Int)+1 by omega] at ih1 ih2
   rw [if_neg (by omega),idxU hn,List.getElem?_eq_getElem hn]
   simp only [wrap_id (n:=(k:Int)+1) ⟨by omega,by omega⟩,wrap_id (n:=(n:Int)+1) ⟨by omega,by omega⟩,wrap_id (n:=(i:Int)+1) ⟨by omega,by omega⟩,if_pos (show (l.length+1)*40≤140737488355328 by omega)]
   cases g0:fCmp .geq us[n] 0#64 with
   |false=>rfl
   |true=>
    cases g1:fCmp .lss us[n] 4607182418800017408#64 with
    |false=>rfl
    |true=>
     rw [geq_lss (cmp_nn g0 rfl).1 hp]
     cases fCmp .lss us[n] p with
     |false=>exact ih2
     |true=>
      simp only [cond_true,Bool.not_true,cond_false,Bool.and_self]
      rw [ref_slp N i q0 q1 hp g0 g1 (fun s=>Pref24_DrawL2 p us (i:Int) N v6 v7 1 v9 qs v11 v12 v13 f ((n:Int)+1) ((k:Int)+1) (l++[s]))]
      exact ih1
  ·rw [if_pos (by omega),List.getElem?_eq_none (by omega)]
theorem RD0 (v6:Int)(v7:List Gop)(v9 v11 v12 v13:Int):∀ (f m k n:Nat) (l:List Gsl),k+m=qs.length→m<f→l.length+m≤1000000→
  Pref24_DrawL0 f p us (n:Int) (i:Int) (k:Int) N v6 v7 1 v9 qs v11 v12 v13 l=(match drawQ p us N i (qs.drop k) n l with
   |none=>some (.inl ())
   |some (n',l')=>some (.inr (.inr (p,us,(n':Int),(i:Int),N,v6,v7,l'))))
 |0,m,k,n,l,_,h,_=>by omega
 |f+1,0,k,n,l,e,h,hb=>by
  unfold Pref24_DrawL0
  rw [if_neg (by omega),List.drop_of_length_le (by omega)]
  rfl
 |f+1,m+1,k,n,l,e,h,hb=>by
  have k1:k<qs.length:=by omega
  obtain ⟨q0,q1⟩:=hq qs[k] (List.getElem_mem k1)
  unfold Pref24_DrawL0
  rw [if_pos (by omega),if_pos rfl,idxI k1,List.drop_eq_getElem_cons k1]
  unfold drawQ
  by_cases hn:n<us.length
  ·have ih1:=RD0 v6 v7 v9 v11 v12 v13 f m (k+1) (n+1) (l++[slp N i qs[k] (Pnoise_drawn us[n] p)]) (by omega) (by omega) (by rw [List.length_append,List.length_singleton];omega)
   have ih2:=RD0 v6 v7 v9 v11 v12 v13 f m (k+1) (n+1) l (by omega) (by omega) (by omega)
   rw [show ((k+1:Nat):Int)=(k:Int)+1 by omega,show ((n+1:Nat):Int)=(n:Int)+1 by omega] at ih1 ih2
   rw [if_neg (by omega),idxU hn,List.getElem?_eq_getElem hn]
   simp only [wrap_id (n:=(k:Int)+1) ⟨by omega,by omega⟩,wrap_id (n:=(n:Int)+1) ⟨by omega,by omega⟩,wrap_id (n:=(i:Int)+1) ⟨by omega,by omega⟩,if_pos (show (l.length+1)*40≤140737488355328 by omega)]
   cases g0:fCmp .geq us[n] 0#64 with
   |false=>rfl
   |true=>
    cases g1:fCmp .lss us[n] 4607182418800017408#64 with
    |false=>rfl
    |true=>
     rw [geq_lss (cmp_nn g0 rfl).1 hp]
     cases fCmp .lss us[n] p with
     |false=>exact ih2
     |true=>
      simp only [cond_true,Bool.not_true,cond_false,Bool.and_self]
      rw [ref_slp N i q0 q1 hp g0 g1 (fun s=>Pref24_DrawL0 f p us ((n:Int)+1) (i:Int) ((k:Int)+1) N v6 v7 1 v9 qs v11 v12 v13 (l++[s]))]
      exact ih1
  ·rw [if_pos (by omega),List.getElem?_eq_none (by omega)]
theorem RD1 (v6:Int)(v7:List Gop)(v9 v11 v12 v13:Int):∀ (f m k n:Nat),k+m=qs.length→m<f→m≤1000→
  (drawQ p us N i (qs.drop k) n []=none∧Pref24_DrawL1 f p us (n:Int) (i:Int) (k:Int) N v6 v7 1 v9 qs v11 v12 v13=some (.inl ()))∨
  (∃ n',drawQ p us N i (qs.drop k) n []=some (n',[])∧Pref24_DrawL1 f p us (n:Int) (i:Int) (k:Int) N v6 v7 1 v9 qs v11 v12 v13=some (.inr (.inl (p,us,(n':Int),(i:Int),N,v6,v7))))∨
  (∃ n' l',drawQ p us N i (qs.drop k) n []=some (n',l')∧Pref24_DrawL1 f p us (n:Int) (i:Int) (k:Int) N v6 v7 1 v9 qs v11 v12 v13=some (.inr (.inr (p,us,(n':Int),(i:Int),N,v6,v7,l'))))
 |0,m,k,n,_,h,_=>by omega
 |f+1,0,k,n,e,h,hb=>by
  refine .inr (.inl ⟨n,?_,?_⟩)
  ·rw [List.drop_of_length_le (by omega)];rfl
  ·unfold Pref24_DrawL1
   rw [if_neg (by omega)]
 |f+1,m+1,k,n,e,h,hb=>by
  have k1:k<qs.length:=by omega
  obtain ⟨q0,q1⟩:=hq qs[k] (List.getElem_mem k1)
  unfold Pref24_DrawL1
  rw [if_pos (by omega),if_pos rfl,idxI k1,List.drop_eq_getElem_cons k1]
  unfold drawQ
  by_cases hn:n<us.length
  ·have ih1:=RD0 p hp us hu N i hi qs hq hl v6 v7 v9 v11 v12 v13 f m (k+1) (n+1) [slp N i qs[k] (Pnoise_drawn us[n] p)] (by omega) (by omega) (by rw [List.length_singleton];omega)
   have ih2:=RD1 v6 v7 v9 v11 v12 v13 f m (k+1) (n+1) (by omega) (by omega) (by omega)
   rw [show ((k+1:Nat):Int)=(k:Int)+1 by omega,show ((n+1:Nat):Int)=(n:Int)+1 by omega] at ih1 ih2
   rw [if_neg (by omega),idxU hn,List.getElem?_eq_getElem hn]
   simp only [wrap_id (n:=(k:Int)+1) ⟨by omega,by omega⟩,wrap_id (n:=(n:Int)+1) ⟨by omega,by omega⟩,wrap_id (n:=(i:Int)+1) ⟨by omega,by omega⟩]
   cases g0:fCmp .geq us[n] 0#64 with
   |false=>exact .inl ⟨rfl,rfl⟩
   |true=>
    cases g1:fCmp .lss us[n] 4607182418800017408#64 with
    |false=>exact .inl ⟨rfl,rfl⟩
    |true=>
     rw [geq_lss (cmp_nn g0 rfl).1 hp]
     cases fCmp .lss us[n] p with
     |false=>exact ih2
     |true=>
      simp only [cond_true,Bool.not_true,cond_false,Bool.and_self,List.nil_append]
      rw [ref_slp N i q0 q1 hp g0 g1 (fun s=>Pref24_DrawL0 f p us ((n:Int)+1) (i:Int) ((k:Int)+1) N v6 v7 1 v9 qs v11 v12 v13 [s])]
      cases hd:drawQ p us N i (qs.drop (k+1)) (n+1) [slp N i qs[k] (Pnoise_drawn us[n] p)] with
      |none=>rw [hd] at ih1;exact .inl ⟨rfl,ih1⟩
      |some r=>
       obtain ⟨n',l'⟩:=r
       rw [hd] at ih1
       exact .inr (.inr ⟨n',l',rfl,ih1⟩)
  ·rw [if_pos (by omega),List.getElem?_eq_none (by omega)]
   exact .inl ⟨rfl,rfl⟩
end
end Go.Proofs.YtbbikmfjnanpmaaDoor.Ab
/- Plain law: errors drawn by numbers, the program's word and the reference's; numbers for values; the law NoiseDraws. No condition but what an address space holds. -/
set_option maxRecDepth 100000
set_option linter.unusedVariables false
set_option linter.unusedSimpArgs false
namespace Go.Proofs.YtbbikmfjnanpmaaDoor.Ab
open Go
theorem arA_le (k:Int):arA k≤3:=by
 unfold arA
 split
 ·decide
 ·split
  ·decide
  ·split
   ·decide
   ·split<;>decide
theorem gateQs {o:Gop}{n m:Int}(h:opOK o n m=true)(hk:o.f_Kind=1)(hn:n≤64):(∀ q,q∈o.f_Qubits→0≤q∧q<64)∧o.f_Qubits.length≤3:=by
 unfold opOK at h
 rw [if_pos hk] at h
 simp only [Bool.and_eq_true,decide_eq_true_eq] at h
 have hg:=h.1
 unfold gchk at hg
 by_cases h0:arA o.f_Gate=0
 ·rw [if_pos h0] at hg;cases hg
 ·rw [if_neg h0] at hg
  by_cases h1:(o.f_Qubits.length:Int)=arA o.f_Gate
  ·rw [if_pos h1] at hg
   have h3:=arA_le o.f_Gate
   by_cases h2:apartB o.f_Qubits n=true
   ·refine ⟨fun q hq=>?_,by omega⟩
    obtain ⟨i,hi,rfl⟩:=List.getElem_of_mem hq
    unfold apartB at h2
    have h4:=allFrom_iff.1 h2 i (Nat.zero_le _) (by omega)
    rw [okAt_lt hi] at h4
    simp only [Bool.and_eq_true,decide_eq_true_eq] at h4
    omega
   ·rw [if_neg h2] at hg;cases hg
  ·rw [if_neg h1] at hg;cases hg
def drawO (p:BitVec 64)(us:List (BitVec 64))(N:Int):List Gop→Nat→Nat→List Gsl→Option (Nat×List Gsl)
 | [],_,n,l=>some (n,l)
 |o::t,i,n,l=>if o.f_Kind=1 then (match drawQ p us N i o.f_Qubits n l with
  |none=>none
  |some (n',l')=>drawO p us N t (i+1) n' l') else drawO p us N t (i+1) n l
theorem drawO_le (p:BitVec 64)(us:List (BitVec 64))(N:Int)(hq:∀ o:Gop,o.f_Kind=1→True):∀ (ops:List Gop),(∀ o,o∈ops→o.f_Kind=1→o.f_Qubits.length≤3)→∀ (i n:Nat) (l:List Gsl) (n':Nat) (l':List Gsl),drawO p us N ops i n l=some (n',l')→n≤us.length→n'≤us.length∧l'.length≤l.length+3*ops.length
 | [],_,i,n,l,n',l',h,hn=>by
  unfold drawO at h
  cases h
  exact ⟨hn,by simp⟩
 |o::t,ho,i,n,l,n',l',h,hn=>by
  have hot:=fun a ha=>ho a (List.mem_cons_of_mem o ha)
  unfold drawO at h
  by_cases k:o.f_Kind=1
  ·rw [if_pos k] at h
   have h3:=ho o (List.mem_cons_self ..) k
   cases hd:drawQ p us N i o.f_Qubits n l with
   |none=>rw [hd] at h;cases h
   |some r=>
    obtain ⟨n1,l1⟩:=r
    rw [hd] at h
    obtain ⟨a,b,_⟩:=drawQ_le p us N i _ n l n1 l1 hd hn
    obtain ⟨c,d⟩:=drawO_le p us N hq t hot (i+1) n1 l1 n' l' h a
    exact ⟨c,by rw [List.length_cons];omega⟩
  ·rw [if_neg k] at h
   obtain ⟨c,d⟩:=drawO_le p us N hq t hot (i+1) n l n' l' h hn
   exact ⟨c,by rw [List.length_cons];omega⟩
section
variable (F:Nat)(hF:66≤F)(p:BitVec 64)(hp:fNaN p=false)(us:List (BitVec 64))(hu:us.length<4611686018427387904)(N:Int)(ops:List Gop)(hl:ops.length≤4096)(hg:∀ o,o∈ops→o.f_Kind=1→(∀ q,q∈o.f_Qubits→0≤q∧q<64)∧o.f_Qubits.length≤3)(hf:∀ o,o∈ops→o.f_Qubits.length<4611686018427387904)
include hF hp hu hl hg hf
theorem PD3 (v7:Int)(v8:List Gop):∀ (f m i n:Nat) (l:List Gsl),i+m=ops.length→m<f→n≤us.length→l.length+3*m≤100000→
  Pnoise_DrawL3 F f p us (n:Int) ops (ops.length:Int) (i:Int) N v7 v8 l=(match drawO p us N (ops.drop i) i n l with
   |none=>some (.inl ())
   |some (n',l')=>some (.inr (.inr ((n':Int),l'))))
 |0,m,i,n,l,_,h,_,_=>by omega
 |f+1,0,i,n,l,e,h,hn,hb=>by
  have _:=hp
  have _:=hf
  unfold Pnoise_DrawL3
  rw [if_neg (by omega),List.drop_of_length_le (by omega)]
  rfl
 |f+1,m+1,i,n,l,e,h,hn,hb=>by
  have i1:i<ops.length:=by omega
  unfold Pnoise_DrawL3
  rw [if_pos (by omega),idxS i1,List.drop_eq_getElem_cons i1]
  simp only [wrap_id (n:=(i:Int)+1) ⟨by omega,by omega⟩]
  unfold drawO
  by_cases k:ops[i].f_Kind=1
  ·obtain ⟨g1,g2⟩:=hg ops[i] (List.getElem_mem i1) k
   have hd:=PD2 p us hu N i (by omega) ops[i].f_Qubits g1 (by omega) ops (ops.length:Int) (i:Int) v7 v8 F ops[i].f_Qubits.length 0 n l (by omega) (by omega) (by omega)
   rw [show ((0:Nat):Int)=0 from rfl,List.drop_zero] at hd
   rw [if_pos k,if_pos k,hd]
   cases hq:drawQ p us N i ops[i].f_Qubits n l with
   |none=>rfl
   |some r=>
    obtain ⟨n1,l1⟩:=r
    obtain ⟨a,b,_⟩:=drawQ_le p us N i _ n l n1 l1 hq hn
    have ih:=PD3 v7 v8 f m (i+1) n1 l1 (by omega) (by omega) a (by omega)
    rw [show ((i+1:Nat):Int)=(i:Int)+1 by omega] at ih
    exact ih
  ·have ih:=PD3 v7 v8 f m (i+1) n l (by omega) (by omega) hn (by omega)
   rw [show ((i+1:Nat):Int)=(i:Int)+1 by omega] at ih
   rw [if_neg k,if_neg k]
   exact ih
theorem PD4 (v7:Int)(v8:List Gop):∀ (f m i n:Nat),i+m=ops.length→m<f→n≤us.length→
  (drawO p us N (ops.drop i) i n []=none∧Pnoise_DrawL4 F f p us (n:Int) ops (ops.length:Int) (i:Int) N v7 v8=some (.inl ()))∨
  (∃ n',drawO p us N (ops.drop i) i n []=some (n',[])∧Pnoise_DrawL4 F f p us (n:Int) ops (ops.length:Int) (i:Int) N v7 v8=some (.inr (.inl (n':Int))))∨
  (∃ n' l',drawO p us N (ops.drop i) i n []=some (n',l')∧Pnoise_DrawL4 F f p us (n:Int) ops (ops.length:Int) (i:Int) N v7 v8=some (.inr (.inr ((n':Int),l'))))
 |0,m,i,n,_,h,_=>by omega
 |f+1,0,i,n,e,h,hn=>by
  refine .inr (.inl ⟨n,?_,?_⟩)
  ·rw [List.drop_of_length_le (by omega)];rfl
  ·unfold Pnoise_DrawL4
   rw [if_neg (by omega)]
 |f+1,m+1,i,n,e,h,hn=>by
  have i1:i<ops.length:=by omega
  unfold Pnoise_DrawL4
  rw [if_pos (by omega),idxS i1,List.drop_eq_getElem_cons i1]
  simp only [wrap_id (n:=(i:Int)+1) ⟨by omega,by omega⟩]
  unfold drawO
  by_cases k:ops[i].f_Kind=1
  ·obtain ⟨g1,g2⟩:=hg ops[i] (List.getElem_mem i1) k
   have hd:=PD1 p us hu N i (by omega) ops[i].f_Qubits g1 (by omega) ops (ops.length:Int) (i:Int) v7 v8 F ops[i].f_Qubits.length 0 n (by omega) (by omega) (by omega)
   rw [show ((0:Nat):Int)=0 from rfl,List.drop_zero] at hd
   rw [if_pos k,if_pos k]
   rcases hd with ⟨a,b⟩|⟨n1,a,b⟩|⟨n1,l1,a,b⟩
   ·rw [a,b];exact .inl ⟨rfl,rfl⟩
   ·rw [a,b]
    obtain ⟨c,_,_⟩:=drawQ_le p us N i _ n [] n1 [] a hn
    have ih:=PD4 v7 v8 f m (i+1) n1 (by omega) (by omega) c
    rw [show ((i+1:Nat):Int)=(i:Int)+1 by omega] at ih
    simp only [wrap_id (n:=(i:Int)+1) ⟨by omega,by omega⟩]
    exact ih
   ·rw [a,b]
    obtain ⟨c,d,_⟩:=drawQ_le p us N i _ n [] n1 l1 a hn
    rw [List.length_nil] at d
    have ih:=PD3 F hF p hp us hu N ops hl hg hf v7 v8 f m (i+1) n1 l1 (by omega) (by omega) c (by omega)
    rw [show ((i+1:Nat):Int)=(i:Int)+1 by omega] at ih
    simp only [wrap_id (n:=(i:Int)+1) ⟨by omega,by omega⟩]
    rw [ih]
    cases hq:drawO p us N (ops.drop (i+1)) (i+1) n1 l1 with
    |none=>exact .inl ⟨rfl,rfl⟩
    |some r=>exact .inr (.inr ⟨r.1,r.2,rfl,rfl⟩)
  ·have ih:=PD4 v7 v8 f m (i+1) n (by omega) (by omega) hn
   rw [show ((i+1:Nat):Int)=(i:Int)+1 by omega] at ih
   rw [if_neg k,if_neg k]
   exact ih
theorem RD3 (v5:Int):∀ (f m i n:Nat) (l:List Gsl),i+m=ops.length→m<f→n≤us.length→l.length+3*m≤100000→
  Pref24_DrawL3 F f p us (n:Int) (i:Int) N v5 ops l=(match drawO p us N (ops.drop i) i n l with
   |none=>some (.inl ())
   |some (n',l')=>some (.inr (.inr ((n':Int),l'))))
 |0,m,i,n,l,_,h,_,_=>by omega
 |f+1,0,i,n,l,e,h,hn,hb=>by
  have _:=hf
  unfold Pref24_DrawL3
  rw [if_neg (by omega),List.drop_of_length_le (by omega)]
  rfl
 |f+1,m+1,i,n,l,e,h,hn,hb=>by
  have i1:i<ops.length:=by omega
  unfold Pref24_DrawL3
  rw [if_pos (by omega),idxS i1,List.drop_eq_getElem_cons i1]
  simp only [wrap_id (n:=(i:Int)+1) ⟨by omega,by omega⟩]
  unfold drawO
  by_cases k:ops[i].f_Kind=1
  ·obtain ⟨g1,g2⟩:=hg ops[i] (List.getElem_mem i1) k
   have hd:=RD2 p hp us hu N i (by omega) ops[i].f_Qubits g1 (by omega) v5 ops ops[i].f_Gate ops[i].f_Bit ops[i].f_If ops[i].f_When F ops[i].f_Qubits.length 0 n l (by omega) (by omega) (by omega)
   rw [show ((0:Nat):Int)=0 from rfl,List.drop_zero] at hd
   rw [if_pos k,k,hd]
   cases hq:drawQ p us N i ops[i].f_Qubits n l with
   |none=>rfl
   |some r=>
    obtain ⟨n1,l1⟩:=r
    obtain ⟨a,b,_⟩:=drawQ_le p us N i _ n l n1 l1 hq hn
    have ih:=RD3 v5 f m (i+1) n1 l1 (by omega) (by omega) a (by omega)
    rw [show ((i+1:Nat):Int)=(i:Int)+1 by omega] at ih
    exact ih
  ·have ih:=RD3 v5 f m (i+1) n l (by omega) (by omega) hn (by omega)
   rw [show ((i+1:Nat):Int)=(i:Int)+1 by omega] at ih
   have hd:Pref24_DrawL2 p us (i:Int) N v5 ops ops[i].f_Kind ops[i].f_Gate ops[i].f_Qubits ops[i].f_Bit ops[i].f_If ops[i].f_When F (n:Int) 0 l=some (.inr ((n:Int),l)):=by
    obtain ⟨f,rfl⟩:∃ f,F=f+1:=⟨F-1,by omega⟩
    unfold Pref24_DrawL2
    rw [if_neg k]
    split<;>rfl
   rw [if_neg k,hd]
   exact ih
theorem RD4 (v5:Int):∀ (f m i n:Nat),i+m=ops.length→m<f→n≤us.length→
  (drawO p us N (ops.drop i) i n []=none∧Pref24_DrawL4 F f p us (n:Int) (i:Int) N v5 ops=some (.inl ()))∨
  (∃ n',drawO p us N (ops.drop i) i n []=some (n',[])∧Pref24_DrawL4 F f p us (n:Int) (i:Int) N v5 ops=some (.inr (.inl (n':Int))))∨
  (∃ n' l',drawO p us N (ops.drop i) i n []=some (n',l')∧Pref24_DrawL4 F f p us (n:Int) (i:Int) N v5 ops=some (.inr (.inr ((n':Int),l'))))
 |0,m,i,n,_,h,_=>by omega
 |f+1,0,i,n,e,h,hn=>by
  refine .inr (.inl ⟨n,?_,?_⟩)
  ·rw [List.drop_of_length_le (by omega)];rfl
  ·unfold Pref24_DrawL4
   rw [if_neg (by omega)]
 |f+1,m+1,i,n,e,h,hn=>by
  have i1:i<ops.length:=by omega
  unfold Pref24_DrawL4
  rw [if_pos (by omega),idxS i1,List.drop_eq_getElem_cons i1]
  simp only []
  unfold drawO
  by_cases k:ops[i].f_Kind=1
  ·obtain ⟨g1,g2⟩:=hg ops[i] (List.getElem_mem i1) k
   have hd:=RD1 p hp us hu N i (by omega) ops[i].f_Qubits g1 (by omega) v5 ops ops[i].f_Gate ops[i].f_Bit ops[i].f_If ops[i].f_When F ops[i].f_Qubits.length 0 n (by omega) (by omega) (by omega)
   rw [show ((0:Nat):Int)=0 from rfl,List.drop_zero] at hd
   rw [if_pos k,k]
   rcases hd with ⟨a,b⟩|⟨n1,a,b⟩|⟨n1,l1,a,b⟩
   ·rw [a,b];exact .inl ⟨rfl,rfl⟩
   ·rw [a,b]
    obtain ⟨c,_,_⟩:=drawQ_le p us N i _ n [] n1 [] a hn
    have ih:=RD4 v5 f m (i+1) n1 (by omega) (by omega) c
    rw [show ((i+1:Nat):Int)=(i:Int)+1 by omega] at ih
    simp only [wrap_id (n:=(i:Int)+1) ⟨by omega,by omega⟩]
    exact ih
   ·rw [a,b]
    obtain ⟨c,d,_⟩:=drawQ_le p us N i _ n [] n1 l1 a hn
    rw [List.length_nil] at d
    have ih:=RD3 F hF p hp us hu N ops hl hg hf v5 f m (i+1) n1 l1 (by omega) (by omega) c (by omega)
    rw [show ((i+1:Nat):Int)=(i:Int)+1 by omega] at ih
    simp only [wrap_id (n:=(i:Int)+1) ⟨by omega,by omega⟩]
    rw [ih]
    cases hq:drawO p us N (ops.drop (i+1)) (i+1) n1 l1 with
    |none=>exact .inl ⟨rfl,rfl⟩
    |some r=>exact .inr (.inr ⟨r.1,r.2,rfl,rfl⟩)
  ·have ih:=RD4 v5 f m (i+1) n (by omega) (by omega) hn
   rw [show ((i+1:Nat):Int)=(i:Int)+1 by omega] at ih
   have hd:Pref24_DrawL1 F p us (n:Int) (i:Int) 0 N v5 ops ops[i].f_Kind ops[i].f_Gate ops[i].f_Qubits ops[i].f_Bit ops[i].f_If ops[i].f_When=some (.inr (.inl (p,us,(n:Int),(i:Int),N,v5,ops))):=by
    obtain ⟨f,rfl⟩:∃ f,F=f+1:=⟨F-1,by omega⟩
    unfold Pref24_DrawL1
    rw [if_neg k]
    split<;>rfl
   rw [if_neg k,hd]
   simp only [wrap_id (n:=(i:Int)+1) ⟨by omega,by omega⟩]
   exact ih
end
def drawC (N B:Int)(ops:List Gop)(p:BitVec 64)(us:List (BitVec 64)):List Gsl×Int×Int:=
 bif cirOK N B ops then (bif fCmp .geq p 0#64&&fCmp .leq p 4607182418800017408#64 then (match drawO p us N ops 0 0 [] with
  |none=>([],0,240)
  |some (n,l)=>(l,(n:Int),0)) else ([],0,240)) else ([],0,80)
theorem cirG {N B:Int}{ops:List Gop}(h:cirOK N B ops=true):ops.length≤4096∧∀ o,o∈ops→o.f_Kind=1→(∀ q,q∈o.f_Qubits→0≤q∧q<64)∧o.f_Qubits.length≤3:=by
 unfold cirOK at h
 simp only [Bool.and_eq_true,decide_eq_true_eq,List.all_eq_true] at h
 obtain ⟨a1,a2,a3,a4,a5,a6⟩:=h
 exact ⟨a5,fun o ho hk=>gateQs (a6 o ho) hk a2⟩
section
variable (F:Nat)(hF:66≤F)(N B:Int)(ops:List Gop)(hf:Fits F ops)(ho:ops.length<4611686018427387904)(hF2:ops.length<F)(p:BitVec 64)(us:List (BitVec 64))(hu:us.length<4611686018427387904)
include hF hf ho hF2 hu
theorem P_Draw:Pnoise_Draw F N B ops p us=some (drawC N B ops p us):=by
 unfold Pnoise_Draw drawC
 obtain ⟨r,h⟩:=P_CCheck F N B ops hf ho hF2
 rw [h]
 cases hc:cirOK N B ops with
 |false=>rfl
 |true=>
  simp only [cond_true,if_true]
  obtain ⟨o1,hg⟩:=cirG hc
  cases g0:fCmp .geq p 0#64 with
  |false=>rfl
  |true=>
   cases fCmp .leq p 4607182418800017408#64 with
   |false=>rfl
   |true=>
    simp only [cond_true,Bool.and_self]
    have:=PD4 F hF p (cmp_nn g0 rfl).1 us hu N ops o1 hg (fun o h=>(hf o h).2 |> fun _=>by have:=(hf o h).1;omega) B ops F ops.length 0 0 (by omega) hF2 (Nat.zero_le _)
    rw [show ((0:Nat):Int)=0 from rfl,List.drop_zero] at this
    rcases this with ⟨a,b⟩|⟨n1,a,b⟩|⟨n1,l1,a,b⟩<;>rw [a,b]
theorem R_Draw:Pref24_Draw F N B ops p us=some (drawC N B ops p us):=by
 unfold Pref24_Draw drawC
 rw [R_May F N B ops hf ho hF2]
 cases hc:cirOK N B ops with
 |false=>rfl
 |true=>
  simp only [cond_true]
  obtain ⟨o1,hg⟩:=cirG hc
  cases g0:fCmp .geq p 0#64 with
  |false=>rfl
  |true=>
   cases fCmp .leq p 4607182418800017408#64 with
   |false=>rfl
   |true=>
    simp only [cond_true,Bool.and_self]
    have:=RD4 F hF p (cmp_nn g0 rfl).1 us hu N ops o1 hg (fun o h=>(hf o h).2 |> fun _=>by have:=(hf o h).1;omega) B F ops.length 0 0 (by omega) hF2 (Nat.zero_le _)
    rw [show ((0:Nat):Int)=0 from rfl,List.drop_zero] at this
    rcases this with ⟨a,b⟩|⟨n1,a,b⟩|⟨n1,l1,a,b⟩<;>rw [a,b]
end
theorem drawC_len (N B:Int)(ops:List Gop)(p:BitVec 64)(us:List (BitVec 64)):(drawC N B ops p us).1.length≤12288:=by
 unfold drawC
 cases hc:cirOK N B ops with
 |false=>exact Nat.zero_le _
 |true=>
  cases fCmp .geq p 0#64&&fCmp .leq p 4607182418800017408#64 with
  |false=>exact Nat.zero_le _
  |true=>
   obtain ⟨o1,hg⟩:=cirG hc
   simp only [cond_true]
   cases hd:drawO p us N ops 0 0 [] with
   |none=>exact Nat.zero_le _
   |some r=>
    obtain ⟨a,b⟩:=drawO_le p us N (fun _ _=>trivial) ops (fun o ho hk=>(hg o ho hk).2) 0 0 [] r.1 r.2 hd (Nat.zero_le _)
    rw [List.length_nil] at b
    show r.2.length≤_
    omega
def numQ:List Int→Option (List (BitVec 64))
 | []=>some []
 |v::vs=>if v=0 then (numQ vs).map (4607182418800017407#64 :: ·) else if v=1 then (numQ vs).map (0#64 :: ·) else none
theorem numQ_len:∀ (vs:List Int) (r:List (BitVec 64)),numQ vs=some r→r.length=vs.length
 | [],r,h=>by
  cases h
  rfl
 |v::vs,r,h=>by
  unfold numQ at h
  split at h
  ·obtain ⟨r',h1,rfl⟩:=Option.map_eq_some_iff.1 h
   rw [List.length_cons,List.length_cons,numQ_len vs r' h1]
  ·split at h
   ·obtain ⟨r',h1,rfl⟩:=Option.map_eq_some_iff.1 h
    rw [List.length_cons,List.length_cons,numQ_len vs r' h1]
   ·cases h
section
variable (vs:List Int)(hl:vs.length*8≤140737488355328)
include hl
theorem QN1:∀ (f m k:Nat) (w:List (BitVec 64)),k+m=vs.length→m<f→w.length=k→
  Pnoise_NumbersL1 f vs (vs.length:Int) (k:Int) w vs.length=(match numQ (vs.drop k) with
   |none=>some (.inl ())
   |some r=>some (.inr (.inl (w++r,vs.length))))
 |0,m,k,w,_,h,_=>by omega
 |f+1,0,k,w,e,h,hw=>by
  unfold Pnoise_NumbersL1
  rw [if_neg (by omega),List.drop_of_length_le (by omega)]
  show _=some (Sum.inr (Sum.inl (w++[],vs.length)))
  rw [List.append_nil]
 |f+1,m+1,k,w,e,h,hw=>by
  have k1:k<vs.length:=by omega
  unfold Pnoise_NumbersL1
  rw [if_pos (by omega),idxI k1,List.drop_eq_getElem_cons k1]
  simp only [wrap_id (n:=(k:Int)+1) ⟨by omega,by omega⟩]
  unfold numQ
  have ih:=fun x=>QN1 f m (k+1) (w++[x]) (by omega) (by omega) (by rw [List.length_append,List.length_singleton];omega)
  rw [show ((k+1:Nat):Int)=(k:Int)+1 by omega] at ih
  by_cases h0:vs[k]=0
  ·rw [if_pos h0,if_pos h0,if_pos (by omega),if_pos (by omega),ih]
   cases numQ (vs.drop (k+1)) with
   |none=>rfl
   |some r=>
    show some (Sum.inr (Sum.inl (w++[4607182418800017407#64]++r,vs.length)))=_
    rw [List.append_assoc];rfl
  ·rw [if_neg h0,if_neg h0]
   by_cases h1:vs[k]=1
   ·rw [if_pos h1,if_pos h1,if_pos (by omega),if_pos (by omega),ih]
    cases numQ (vs.drop (k+1)) with
    |none=>rfl
    |some r=>
     show some (Sum.inr (Sum.inl (w++[0#64]++r,vs.length)))=_
     rw [List.append_assoc];rfl
   ·rw [if_neg h1,if_neg h1]
theorem QN0:∀ (f m k:Nat) (w:List (BitVec 64)),k+m=vs.length→m<f→w.length=k→
  Pref24_NumbersL0 f vs (k:Int) w=(match numQ (vs.drop k) with
   |none=>some (.inl ())
   |some r=>some (.inr (.inr (w++r))))
 |0,m,k,w,_,h,_=>by omega
 |f+1,0,k,w,e,h,hw=>by
  unfold Pref24_NumbersL0
  rw [if_neg (by omega),List.drop_of_length_le (by omega)]
  show _=some (Sum.inr (Sum.inr (w++[])))
  rw [List.append_nil]
 |f+1,m+1,k,w,e,h,hw=>by
  have k1:k<vs.length:=by omega
  unfold Pref24_NumbersL0
  rw [if_pos (by omega),idxI k1,List.drop_eq_getElem_cons k1]
  simp only [wrap_id (n:=(k:Int)+1) ⟨by omega,by omega⟩]
  unfold numQ
  have ih:=fun x=>QN0 f m (k+1) (w++[x]) (by omega) (by omega) (by rw [List.length_append,List.length_singleton];omega)
  rw [show ((k+1:Nat):Int)=(k:Int)+1 by omega] at ih
  by_cases h0:vs[k]=0
  ·rw [if_pos h0,if_pos h0,if_pos (by omega),ih]
   cases numQ (vs.drop (k+1)) with
   |none=>rfl
   |some r=>
    show some (Sum.inr (Sum.inr (w++[4607182418800017407#64]++r)))=_
    rw [List.append_assoc];rfl
  ·rw [if_neg h0,if_neg h0]
   by_cases h1:vs[k]=1
   ·rw [if_pos h1,if_pos h1,if_pos (by omega),ih]
    cases numQ (vs.drop (k+1)) with
    |none=>rfl
    |some r=>
     show some (Sum.inr (Sum.inr (w++[0#64]++r)))=_
     rw [List.append_assoc];rfl
   ·rw [if_neg h1,if_neg h1]
end
def numC (vs:List Int):List (BitVec 64)×Int:=match numQ vs with
 |none=>([],240)
 |some r=>(r,0)
theorem P_Numbers (F:Nat)(vs:List Int)(hl:vs.length*8≤140737488355328)(hF:vs.length<F):Pnoise_Numbers F vs=some (numC vs):=by
 unfold Pnoise_Numbers numC
 have hm:mkOk 8 0 (vs.length:Int)=true:=by
  unfold mkOk
  rw [decide_eq_true]
  refine ⟨Int.le_refl _,by omega,?_,?_⟩<;>omega
 have:=QN1 vs hl F vs.length 0 [] (by omega) hF rfl
 rw [show ((0:Nat):Int)=0 from rfl,List.drop_zero] at this
 rw [hm,cond_true,this]
 cases numQ vs<;>rfl
theorem R_Numbers (F:Nat)(vs:List Int)(hl:vs.length*8≤140737488355328)(hF:vs.length+1<F):Pref24_Numbers F vs=some (numC vs):=by
 unfold Pref24_Numbers numC
 obtain ⟨f,rfl⟩:∃ f,F=f+1:=⟨F-1,by omega⟩
 rw [Pref24_NumbersL1]
 cases vs with
 |nil=>rfl
 |cons v vs=>
  have ih:=fun x=>QN0 (v::vs) hl f vs.length 1 [x] (by rw [List.length_cons];omega) (by rw [List.length_cons] at hF;omega) rfl
  rw [show ((1:Nat):Int)=1 from rfl,List.drop_succ_cons,List.drop_zero] at ih
  rw [if_pos (by rw [List.length_cons];omega),show idx (v::vs) (0:Int)=some v from rfl]
  simp only []
  rw [show IntKind.i64.wrap ((0:Int)+1)=1 from rfl]
  unfold numQ
  by_cases h0:v=0
  ·rw [if_pos h0,if_pos h0,ih]
   cases numQ vs<;>rfl
  ·rw [if_neg h0,if_neg h0]
   by_cases h1:v=1
   ·rw [if_pos h1,if_pos h1,ih]
    cases numQ vs<;>rfl
   ·rw [if_neg h1,if_neg h1]
theorem numC_len (vs:List Int):(numC vs).1.length≤vs.length:=by
 unfold numC
 cases h:numQ vs with
 |none=>exact Nat.zero_le _
 |some r=>exact Nat.le_of_eq (numQ_len vs r h)
theorem QS0 (v0:List Int)(l:List Gsl)(hl:l.length<4611686018427387904):∀ (f m k:Nat),k+m=l.length→m<f→Plaw24_NoiseDrawsL0 v0 l l f (k:Int)=some (.inr ())
 |0,m,k,_,h=>by omega
 |f+1,0,k,e,h=>by
  unfold Plaw24_NoiseDrawsL0
  rw [if_neg (by omega)]
 |f+1,m+1,k,e,h=>by
  have k1:k<l.length:=by omega
  have ih:=QS0 v0 l hl f m (k+1) (by omega) (by omega)
  rw [show ((k+1:Nat):Int)=(k:Int)+1 by omega] at ih
  unfold Plaw24_NoiseDrawsL0
  rw [if_pos (by omega),idx_nat,List.getElem?_eq_getElem k1]
  simp only [wrap_id (n:=(k:Int)+1) ⟨by omega,by omega⟩,decide_true,Bool.and_self,cond_true]
  exact ih
theorem QS1 (l:List (BitVec 64))(hl:l.length<4611686018427387904):∀ (f m k:Nat),k+m=l.length→m<f→Plaw24_NoiseDrawsL1 l l f (k:Int)=some (.inr ())
 |0,m,k,_,h=>by omega
 |f+1,0,k,e,h=>by
  unfold Plaw24_NoiseDrawsL1
  rw [if_neg (by omega)]
 |f+1,m+1,k,e,h=>by
  have k1:k<l.length:=by omega
  have ih:=QS1 l hl f m (k+1) (by omega) (by omega)
  rw [show ((k+1:Nat):Int)=(k:Int)+1 by omega] at ih
  unfold Plaw24_NoiseDrawsL1 Pref02_Same
  rw [if_pos (by omega),idx_nat,List.getElem?_eq_getElem k1]
  simp only [wrap_id (n:=(k:Int)+1) ⟨by omega,by omega⟩,decide_true,cond_true]
  exact ih
theorem law_noiseDraws (F:Nat)(hF:12600≤F)(N B:Int)(ops:List Gop)(p:BitVec 64)(us:List (BitVec 64))(vs:List Int)(hu:us.length*8≤140737488355328)(hv:vs.length*8≤140737488355328)(ho:ops.length*64≤140737488355328)(hf:Fits F ops)(hF2:ops.length+vs.length+1<F) :
  Plaw24_NoiseDraws F N B ops p us vs=some true:=by
 unfold Plaw24_NoiseDraws Plaw24_num
 rw [P_Draw F (by omega) N B ops hf (by omega) (by omega) p us (by omega),R_Draw F (by omega) N B ops hf (by omega) (by omega) p us (by omega)]
 have h1:=drawC_len N B ops p us
 generalize hr:drawC N B ops p us=r at h1
 obtain ⟨l,n,e⟩:=r
 simp only [] at h1
 have z0:=QS0 vs l (by omega) F l.length 0 (by omega) (by omega)
 have h2:=numC_len vs
 generalize hs:numC vs=s at h2
 obtain ⟨w,x⟩:=s
 simp only [] at h2
 have z1:=QS1 w (by omega) F w.length 0 (by omega) (by omega)
 rw [show ((0:Nat):Int)=0 from rfl] at z0 z1
 simp only [if_true,z0]
 rw [P_Numbers F vs hv (by omega),R_Numbers F vs hv (by omega),hs]
 simp only [if_true,z1]
end Go.Proofs.YtbbikmfjnanpmaaDoor.Ab
