/- Plain law: the form of stabilizers has as many rows as there are; Canon, the program's and the reference's; Same. No condition: lemmas only. -/
import Derived.Test.YtogkkamlmklpkaaDoorWC
set_option maxRecDepth 100000
set_option linter.unusedVariables false
set_option linter.unusedSimpArgs false
namespace Go.Proofs.YtogkkamlmklpkaaDoor.Ab
open Go
end Go.Proofs.YtogkkamlmklpkaaDoor.Ab
/- Plain law: the one form hangs on the group alone. No condition: lemmas only. -/
set_option maxRecDepth 100000
set_option linter.unusedVariables false
set_option linter.unusedSimpArgs false
namespace Go.Proofs.YtogkkamlmklpkaaDoor.Ab
open Go
structure Full (n:Nat) (l:List Pl) (piv:Nat→Nat):Prop where
 inc:∀ i j,i<j→j<l.length→piv i<piv j
 one:∀ i k (h:k<l.length),i<l.length→colb l[k] n (piv i)=decide (k=i)
 lead:∀ i (h:i<l.length),∀ d,d<piv i→colb l[i] n d=false
end Go.Proofs.YtogkkamlmklpkaaDoor.Ab
/- Plain law: the one form does not hang on the order of the strings, nor on one being multiplied with another: the law of Canon. No condition: lemmas only. -/
set_option maxRecDepth 100000
set_option linter.unusedVariables false
set_option linter.unusedSimpArgs false
namespace Go.Proofs.YtogkkamlmklpkaaDoor.Ab
open Go
end Go.Proofs.YtogkkamlmklpkaaDoor.Ab
/- Plain law: a string carried through a gate, the program's and the reference's word: letters at one or two qubits. No condition: lemmas only. -/
set_option maxRecDepth 100000
set_option linter.unusedVariables false
set_option linter.unusedSimpArgs false
namespace Go.Proofs.YtogkkamlmklpkaaDoor.Ab
open Go
def lx (c:UInt8):Bool:=decide (c=88)||decide (c=89)
def lz (c:UInt8):Bool:=decide (c=89)||decide (c=90)
def isL (c:UInt8):Bool:=decide (c=73)||(decide (c=88)||(decide (c=89)||decide (c=90)))
def bw (b:Bool)(q:Nat):BitVec 64:=bif b then 1#64 <<< q else 0#64
def sg (b:UInt8):Int:=if b=45 then 2 else 0
def on1 (N:Int)(q:Nat)(b c:UInt8):Pl:=⟨N,bw (lx c) q,bw (lz c) q,sg b⟩
def on2 (N:Int)(q r:Nat)(b c d:UInt8):Pl:=⟨N,bw (lx c) q ||| bw (lx d) r,bw (lz c) q ||| bw (lz d) r,sg b⟩
theorem bidx_nat {s:ByteArray}{i:Nat}{x:UInt8}(h:s.data.toList[i]? = some x):bidx s (i:Int)=some (x.toNat:Int):=by
 unfold bidx
 rw [if_pos (by omega),Int.toNat_natCast]
 obtain ⟨h1,h2⟩:=List.getElem?_eq_some_iff.1 h
 have h3:i<s.size:=by simpa using h1
 have h4:s[i]? = some x:=by
  rw [getElem?_pos s i h3]
  congr 1
 rw [h4]
theorem b45 (b:UInt8):((b.toNat:Int)=45)↔b=45:=by
 constructor
 ·intro h
  apply UInt8.toNat_inj.1
  have:(45:UInt8).toNat=45:=rfl
  omega
 ·rintro rfl;rfl
theorem isL_cases {c:UInt8}(h:isL c=true):c=73∨c=88∨c=89∨c=90:=by
 unfold isL at h
 simp only [Bool.or_eq_true,decide_eq_true_eq] at h
 exact h
theorem ix_letter {c:UInt8}(h:isL c=true):Pstrings_IndexByte (⟨#[73,88,89,90]⟩:ByteArray) (c.toNat:Int)=if c=73 then 0 else if c=88 then 1 else if c=89 then 2 else 3:=by
 rcases isL_cases h with rfl|rfl|rfl|rfl<;>rfl
theorem PS_step (s:ByteArray)(q:List Int)(n v4:Int)(v5 v6:BitVec 64)(v7 v8 v11:Int)(f i:Nat)(c:UInt8)(r:Nat)(x z:BitVec 64)(hi:i<100)(hn:(i:Int)<n)(hq:idx q (i:Int)=some (r:Int))(hs:s.data.toList[i+1]? = some c)(hc:isL c=true) :
  Ppauli_spreadL0 s q n v4 v5 v6 v7 v8 v11 (f+1) (i:Int) x z=Ppauli_spreadL0 s q n v4 v5 v6 v7 v8 v11 f ((i+1:Nat):Int) (x ||| bw (lx c) r) (z ||| bw (lz c) r):=by
 rw [Ppauli_spreadL0,if_pos hn,hq]
 have e:IntKind.i64.wrap ((i:Int)+1)=((i+1:Nat):Int):=wrap_id (n:=(i:Int)+1) ⟨by omega,by omega⟩
 rw [e,bidx_nat hs]
 simp only [ix_letter hc]
 rcases isL_cases hc with rfl|rfl|rfl|rfl
 ·simp only [lx,lz,bw]
  simp
 ·have:¬ ((r:Int)<0):=by omega
  simp only [lx,lz,bw]
  simp [this]
 ·have:¬ ((r:Int)<0):=by omega
  simp only [lx,lz,bw]
  simp [this]
 ·have:¬ ((r:Int)<0):=by omega
  simp only [lx,lz,bw]
  simp [this]
theorem RS_step (s:ByteArray)(q:List Int)(v3:Int)(v4 v5:BitVec 64)(v6 v7 v10:Int)(f i:Nat)(c:UInt8)(r:Nat)(x z:BitVec 64)(hi:i<100)(hr:r<64)(hn:i<q.length)(hq:idx q (i:Int)=some (r:Int))(hs:s.data.toList[i+1]? = some c)(hc:isL c=true) :
  Pref13_lettersL0 s q v3 v4 v5 v6 v7 v10 (f+1) (i:Int) x z=Pref13_lettersL0 s q v3 v4 v5 v6 v7 v10 f ((i+1:Nat):Int) (x ||| bw (lx c) r) (z ||| bw (lz c) r):=by
 rw [Pref13_lettersL0,if_pos (by omega),hq]
 have e:IntKind.i64.wrap ((i:Int)+1)=((i+1:Nat):Int):=wrap_id (n:=(i:Int)+1) ⟨by omega,by omega⟩
 rw [e,bidx_nat hs]
 have er:(BitVec.ofInt 64 (r:Int)).toNat=r:=ofInt_nat (by omega)
 simp only [er]
 rcases isL_cases hc with rfl|rfl|rfl|rfl
 ·simp only [lx,lz,bw]
  simp
 ·simp only [lx,lz,bw]
  simp
 ·simp only [lx,lz,bw]
  simp
 ·simp only [lx,lz,bw]
  simp
theorem PS_end (s:ByteArray)(q:List Int)(n v4:Int)(v5 v6:BitVec 64)(v7 v8 v11:Int)(f i:Nat)(x z:BitVec 64)(hn:¬ (i:Int)<n):Ppauli_spreadL0 s q n v4 v5 v6 v7 v8 v11 (f+1) (i:Int) x z=some (x,z):=by rw [Ppauli_spreadL0,if_neg hn]
theorem RS_end (s:ByteArray)(q:List Int)(v3:Int)(v4 v5:BitVec 64)(v6 v7 v10:Int)(f i:Nat)(x z:BitVec 64)(hn:¬ i<q.length):Pref13_lettersL0 s q v3 v4 v5 v6 v7 v10 (f+1) (i:Int) x z=some (x,z):=by rw [Pref13_lettersL0,if_neg (by omega)]
theorem P_spread1 (F:Nat)(hF:10≤F)(N:Int)(q:Nat)(b c:UInt8)(hc:isL c=true):Ppauli_spread F (⟨#[b,c]⟩:ByteArray) N [(q:Int)]=some ((on1 N q b c).N,(on1 N q b c).X,(on1 N q b c).Z,(on1 N q b c).Ph):=by
 obtain ⟨f,rfl⟩:∃ f,F=f+2:=⟨F-2,by omega⟩
 unfold Ppauli_spread
 have b0:bidx (⟨#[b,c]⟩:ByteArray) 0=some (b.toNat:Int):=bidx_nat (i:=0) rfl
 have st:=fun v8 v11=>PS_step (⟨#[b,c]⟩:ByteArray) [(q:Int)] 1 0 0#64 0#64 0 v8 v11 (f+1) 0 c q 0#64 0#64 (by omega) (by omega) rfl rfl hc
 rw [show ((0:Nat):Int)=0 from rfl] at st
 rw [b0]
 simp only [List.length_cons,List.length_nil,Nat.zero_add,show ((1:Nat):Int)=1 from rfl,st]
 have en:=fun v8 v11 x z=>PS_end (⟨#[b,c]⟩:ByteArray) [(q:Int)] 1 0 0#64 0#64 0 v8 v11 f 1 x z (by omega)
 rw [show ((1:Nat):Int)=1 from rfl] at en
 simp only [en]
 unfold on1 sg
 by_cases e:b=45
 ·rw [if_pos ((b45 b).2 e),if_pos e];simp
 ·rw [if_neg (fun h=>e ((b45 b).1 h)),if_neg e];simp
theorem R_letters1 (F:Nat)(hF:10≤F)(N:Int)(q:Nat)(hq:q<64)(b c:UInt8)(hc:isL c=true):Pref13_letters F (⟨#[b,c]⟩:ByteArray) N [(q:Int)]=some ((on1 N q b c).N,(on1 N q b c).X,(on1 N q b c).Z,(on1 N q b c).Ph):=by
 obtain ⟨f,rfl⟩:∃ f,F=f+2:=⟨F-2,by omega⟩
 unfold Pref13_letters
 have b0:bidx (⟨#[b,c]⟩:ByteArray) 0=some (b.toNat:Int):=bidx_nat (i:=0) rfl
 have st:=fun v7 v10=>RS_step (⟨#[b,c]⟩:ByteArray) [(q:Int)] 0 0#64 0#64 0 v7 v10 (f+1) 0 c q 0#64 0#64 (by omega) hq (by simp) rfl rfl hc
 rw [show ((0:Nat):Int)=0 from rfl] at st
 rw [b0]
 simp only [st]
 have en:=fun v7 v10 x z=>RS_end (⟨#[b,c]⟩:ByteArray) [(q:Int)] 0 0#64 0#64 0 v7 v10 f 1 x z (by simp)
 simp only [Nat.zero_add,en]
 unfold on1 sg
 by_cases e:b=45
 ·rw [if_pos ((b45 b).2 e),if_pos e];simp
 ·rw [if_neg (fun h=>e ((b45 b).1 h)),if_neg e];simp
theorem P_spread2 (F:Nat)(hF:10≤F)(N:Int)(q r:Nat)(b c d:UInt8)(hc:isL c=true)(hd:isL d=true):Ppauli_spread F (⟨#[b,c,d]⟩:ByteArray) N [(q:Int),(r:Int)]=some ((on2 N q r b c d).N,(on2 N q r b c d).X,(on2 N q r b c d).Z,(on2 N q r b c d).Ph):=by
 obtain ⟨f,rfl⟩:∃ f,F=f+3:=⟨F-3,by omega⟩
 unfold Ppauli_spread
 have b0:bidx (⟨#[b,c,d]⟩:ByteArray) 0=some (b.toNat:Int):=bidx_nat (i:=0) rfl
 have st:=fun v8 v11=>PS_step (⟨#[b,c,d]⟩:ByteArray) [(q:Int),(r:Int)] 2 0 0#64 0#64 0 v8 v11 (f+2) 0 c q 0#64 0#64 (by omega) (by omega) rfl rfl hc
 have st2:=fun v8 v11 x z=>PS_step (⟨#[b,c,d]⟩:ByteArray) [(q:Int),(r:Int)] 2 0 0#64 0#64 0 v8 v11 (f+1) 1 d r x z (by omega) (by omega) rfl rfl hd
 rw [show ((0:Nat):Int)=0 from rfl] at st
 rw [b0]
 simp only [List.length_cons,List.length_nil,Nat.zero_add,Nat.reduceAdd,show ((2:Nat):Int)=2 from rfl,st]
 simp only [st2]
 have en:=fun v8 v11 x z=>PS_end (⟨#[b,c,d]⟩:ByteArray) [(q:Int),(r:Int)] 2 0 0#64 0#64 0 v8 v11 f 2 x z (by omega)
 rw [show ((2:Nat):Int)=2 from rfl] at en
 simp only [Nat.reduceAdd,show ((2:Nat):Int)=2 from rfl,en]
 unfold on2 sg
 by_cases e:b=45
 ·rw [if_pos ((b45 b).2 e),if_pos e];simp
 ·rw [if_neg (fun h=>e ((b45 b).1 h)),if_neg e];simp
theorem R_letters2 (F:Nat)(hF:10≤F)(N:Int)(q r:Nat)(hq:q<64)(hr:r<64)(b c d:UInt8)(hc:isL c=true)(hd:isL d=true):Pref13_letters F (⟨#[b,c,d]⟩:ByteArray) N [(q:Int),(r:Int)]=some ((on2 N q r b c d).N,(on2 N q r b c d).X,(on2 N q r b c d).Z,(on2 N q r b c d).Ph):=by
 obtain ⟨f,rfl⟩:∃ f,F=f+3:=⟨F-3,by omega⟩
 unfold Pref13_letters
 have b0:bidx (⟨#[b,c,d]⟩:ByteArray) 0=some (b.toNat:Int):=bidx_nat (i:=0) rfl
 have st:=fun v7 v10=>RS_step (⟨#[b,c,d]⟩:ByteArray) [(q:Int),(r:Int)] 0 0#64 0#64 0 v7 v10 (f+2) 0 c q 0#64 0#64 (by omega) hq (by simp) rfl rfl hc
 have st2:=fun v7 v10 x z=>RS_step (⟨#[b,c,d]⟩:ByteArray) [(q:Int),(r:Int)] 0 0#64 0#64 0 v7 v10 (f+1) 1 d r x z (by omega) hr (by simp) rfl rfl hd
 rw [show ((0:Nat):Int)=0 from rfl] at st
 rw [b0]
 simp only [st,Nat.zero_add]
 simp only [st2]
 have en:=fun v7 v10 x z=>RS_end (⟨#[b,c,d]⟩:ByteArray) [(q:Int),(r:Int)] 0 0#64 0#64 0 v7 v10 f 2 x z (by simp)
 simp only [Nat.reduceAdd,en]
 unfold on2 sg
 by_cases e:b=45
 ·rw [if_pos ((b45 b).2 e),if_pos e];simp
 ·rw [if_neg (fun h=>e ((b45 b).1 h)),if_neg e];simp
end Go.Proofs.YtogkkamlmklpkaaDoor.Ab
/- Plain law: what gates may have, and what they carry strings to, the program's and the reference's. No condition: lemmas only. -/
set_option maxRecDepth 100000
set_option linter.unusedVariables false
set_option linter.unusedSimpArgs false
namespace Go.Proofs.YtogkkamlmklpkaaDoor.Ab
open Go
def arA (k:Int):Int:=if k<1 then 0 else if k>20 then 0 else if k≤10 then 1 else if k≤17 then 2 else 3
theorem k20 {k:Int}(h1:¬ k<1)(h2:¬ k>20):k=1∨k=2∨k=3∨k=4∨k=5∨k=6∨k=7∨k=8∨k=9∨k=10∨k=11∨k=12∨k=13∨k=14∨k=15∨k=16∨k=17∨k=18∨k=19∨k=20:=by omega
theorem P_Arity (k:Int):Pgate_Arity k=some (arA k):=by
 by_cases h1:k<1
 ·unfold Pgate_Arity Pgate_of arA
  rw [if_pos h1,if_pos h1]
 ·by_cases h2:k>20
  ·unfold Pgate_Arity Pgate_of arA
   rw [if_neg h1,if_pos h2,if_neg h1,if_pos h2]
  ·rcases k20 h1 h2 with rfl|rfl|rfl|rfl|rfl|rfl|rfl|rfl|rfl|rfl|rfl|rfl|rfl|rfl|rfl|rfl|rfl|rfl|rfl|rfl<;>rfl
theorem R_Arity (k:Int):Pref06_Arity k=arA k:=by
 by_cases h1:k<1
 ·unfold Pref06_Arity Pref06_Is arA
  rw [if_neg (by omega),if_pos h1];rfl
 ·by_cases h2:k>20
  ·unfold Pref06_Arity Pref06_Is arA
   rw [if_pos (by omega),decide_eq_false (by omega),if_neg h1,if_pos h2];rfl
  ·unfold Pref06_Arity Pref06_Is arA
   rw [if_pos (by omega),decide_eq_true (by omega),if_neg h1,if_neg h2];rfl
theorem R_Is (k:Int):Pref06_Is k=decide (¬ arA k=0):=by
 unfold Pref06_Is arA
 by_cases h1:k<1
 ·rw [if_neg (by omega),if_pos h1];rfl
 ·by_cases h2:k>20
  ·rw [if_pos (by omega),decide_eq_false (by omega),if_neg h1,if_pos h2];rfl
  ·rw [if_pos (by omega),decide_eq_true (by omega),if_neg h1,if_neg h2]
   split
   ·rfl
   ·split<;>rfl
theorem RK0 (n:Int)(l:List Int)(hl:l.length<4611686018427387904)(i:Nat)(hi:i<l.length):∀ (f m k:Nat),k+m=i→m<f→
  Pref06_CheckL0 l n (i:Int) f (k:Int)=some (bif decide (l[i]∈(l.take i).drop k) then .inl () else .inr ())
 |0,m,k,_,h=>by omega
 |f+1,m,k,e,h=>by
  unfold Pref06_CheckL0
  cases m with
  |zero=>rw [if_neg (by omega),List.drop_of_length_le (by rw [List.length_take];omega)];simp
  |succ m=>
   have k1:k<l.length:=by omega
   have ih:=RK0 n l hl i hi f m (k+1) (by omega) (by omega)
   rw [show ((k+1:Nat):Int)=(k:Int)+1 by omega] at ih
   rw [if_pos (by omega),idxI hi,idxI k1,mem_drop_take (by omega) (by omega)]
   simp only [wrap_id (n:=(k:Int)+1) ⟨by omega,by omega⟩]
   by_cases q:l[i]=l[k]
   ·rw [if_pos q,decide_eq_true q];rfl
   ·rw [if_neg q,decide_eq_false q,Bool.false_or];exact ih
theorem RK1 (F:Nat)(n:Int)(l:List Int)(hl:l.length<4611686018427387904)(hF:l.length<F):∀ (f m i:Nat),i+m=l.length→m<f→
  Pref06_CheckL1 F l n f (i:Int)=some (bif allFrom (okAt l n) m i then .inr () else .inl ())
 |0,m,i,_,h=>by omega
 |f+1,m,i,e,h=>by
  unfold Pref06_CheckL1
  cases m with
  |zero=>rw [if_neg (by omega)];rfl
  |succ m=>
   have i1:i<l.length:=by omega
   have ih:=RK1 F n l hl hF f m (i+1) (by omega) (by omega)
   rw [show ((i+1:Nat):Int)=(i:Int)+1 by omega] at ih
   have r0:=RK0 n l hl i i1 F i 0 (by omega) (by omega)
   rw [show ((0:Nat):Int)=0 from rfl,List.drop_zero] at r0
   rw [if_pos (by omega),idxI i1,allFrom,okAt_lt i1]
   simp only [r0,wrap_id (n:=(i:Int)+1) ⟨by omega,by omega⟩]
   by_cases h1:l[i]<0
   ·rw [if_pos h1,decide_eq_false (by omega:¬ 0≤l[i])];rfl
   ·rw [if_neg h1,decide_eq_true (by omega:0≤l[i])]
    by_cases h2:l[i]≥n
    ·rw [if_pos h2,decide_eq_false (by omega:¬ l[i]<n)];rfl
    ·rw [if_neg h2,decide_eq_true (by omega:l[i]<n)]
     cases decide (l[i]∈l.take i) with
     |true=>rfl
     |false=>exact ih
def gchk (k:Int)(l:List Int)(n:Int):Int:=if arA k=0 then 60 else if (l.length:Int)=arA k then (if apartB l n=true then 0 else 61) else 61
theorem P_gchk (F:Nat)(k n:Int)(l:List Int)(hl:l.length<4611686018427387904)(hF:l.length<F):Pgate_Check F k l n=some (gchk k l n):=by
 unfold Pgate_Check gchk apartB
 have:=PG0 F n l hl hF F l.length 0 (by omega) hF
 rw [show ((0:Nat):Int)=0 from rfl] at this
 rw [P_Arity]
 simp only [this]
 split
 ·rfl
 ·split
  ·cases allFrom (okAt l n) l.length 0<;>rfl
  ·rfl
theorem R_gchk (F:Nat)(k n:Int)(l:List Int)(hl:l.length<4611686018427387904)(hF:l.length<F):Pref06_Check F k l n=some (gchk k l n):=by
 unfold Pref06_Check gchk apartB
 have:=RK1 F n l hl hF F l.length 0 (by omega) hF
 rw [show ((0:Nat):Int)=0 from rfl] at this
 rw [R_Is,R_Arity,this]
 by_cases h:arA k=0
 ·rw [if_pos h,decide_eq_false (by simp [h])];rfl
 ·rw [if_neg h,decide_eq_true h,cond_true]
  split
  ·cases allFrom (okAt l n) l.length 0<;>rfl
  ·rfl
def bX (p:Pl)(q:Nat):Bool:=p.X.toNat.testBit q
def bZ (p:Pl)(q:Nat):Bool:=p.Z.toNat.testBit q
def turn1 (b:Bool)(a:Pl):Pl:=bif b then ⟨a.N,a.X,a.Z,(a.Ph+1) % 4⟩ else a
def tst (A B:Pl)(x z:Bool)(a:Pl):Pl:=tw B z (tw A x (turn1 (x&&z) a))
theorem tw_ok {N:Int}{s a:Pl}{b:Bool}(hs:s.ok=true∧s.N=N)(ha:a.ok=true∧a.N=N):(tw s b a).ok=true∧(tw s b a).N=N:=by
 unfold tw
 cases b with
 |false=>exact ha
 |true=>
  obtain ⟨m1,m2⟩:=mulP_ok ha.1 hs.1 (ha.2.trans hs.2.symm)
  exact ⟨m1,m2.trans ha.2⟩
theorem turn1_ok {N:Int}{a:Pl}{b:Bool}(ha:a.ok=true∧a.N=N):(turn1 b a).ok=true∧(turn1 b a).N=N:=by
 unfold turn1
 cases b with
 |false=>exact ha
 |true=>
  obtain ⟨h1,h2,h3,h4,h5,h6⟩:=ok_iff.1 ha.1
  refine ⟨ok_iff.2 ⟨h1,h2,?_,?_,h5,h6⟩,ha.2⟩
  ·show 0≤(_:Int) % 4;omega
  ·show (_:Int) % 4≤3;omega
theorem tst_ok {N:Int}{A B a:Pl}{x z:Bool}(hA:A.ok=true∧A.N=N)(hB:B.ok=true∧B.N=N)(ha:a.ok=true∧a.N=N):(tst A B x z a).ok=true∧(tst A B x z a).N=N:=tw_ok hB (tw_ok hA (turn1_ok ha))
theorem P_codeB (p:Pl)(q:Nat):Ppauli_code p.N p.X p.Z p.Ph (q:Int)=some (bif bX p q then (bif bZ p q then 2 else 1) else (bif bZ p q then 3 else 0)):=by
 rw [P_code]
 unfold codeN bX bZ
 rw [Nat.testBit_eq_decide_div_mod_eq,Nat.testBit_eq_decide_div_mod_eq]
 have h1:=Nat.mod_two_eq_zero_or_one (p.X.toNat / 2 ^ q)
 have h2:=Nat.mod_two_eq_zero_or_one (p.Z.toNat / 2 ^ q)
 rcases h1 with h1|h1<;>rcases h2 with h2|h2<;>rw [h1,h2]<;>rfl
theorem PThr_step (F:Nat)(hF:65≤F){N:Int}(p:Pl)(q qs:List Int)(imgs:List ByteArray)(n v9:Int)(v10 v11:BitVec 64)(v12:Int)(f i r:Nat)(a A B:Pl)(sA sB:ByteArray)(hi:i<100)(hn:(i:Int)<n)(hq:idx q (i:Int)=some (r:Int))
  (h1:imgs[2*i]? = some sA) (h2:imgs[2*i+1]? = some sB) (e1:Ppauli_spread F sA p.N qs=some (A.N,A.X,A.Z,A.Ph)) (e2:Ppauli_spread F sB p.N qs=some (B.N,B.X,B.Z,B.Ph))
  (hA:A.ok=true∧A.N=N) (hB:B.ok=true∧B.N=N) (ha:a.ok=true∧a.N=N) :
  Ppauli_ThroughL1 F qs imgs q n p.N p.X p.Z p.Ph v9 v10 v11 v12 (f+1) (i:Int) a.N a.X a.Z a.Ph =
   Ppauli_ThroughL1 F qs imgs q n p.N p.X p.Z p.Ph v9 v10 v11 v12 f ((i+1:Nat):Int) (tst A B (bX p r) (bZ p r) a).N (tst A B (bX p r) (bZ p r) a).X (tst A B (bX p r) (bZ p r) a).Z (tst A B (bX p r) (bZ p r) a).Ph:=by
 obtain ⟨_,_,p0,p3,_,_⟩:=ok_iff.1 ha.1
 rw [Ppauli_ThroughL1,if_pos hn,hq]
 have w1:IntKind.i64.wrap ((i:Int)+1)=((i+1:Nat):Int):=wrap_id (n:=(i:Int)+1) ⟨by omega,by omega⟩
 have w2:IntKind.i64.wrap ((2:Int)*(i:Int))=((2*i:Nat):Int):=wrap_id (n:=(2:Int)*(i:Int)) ⟨by omega,by omega⟩
 have w3:IntKind.i64.wrap (((2*i:Nat):Int)+1)=((2*i+1:Nat):Int):=wrap_id (n:=((2*i:Nat):Int)+1) ⟨by omega,by omega⟩
 have w4:(IntKind.i64.wrap (a.Ph+1)).tmod 4=(a.Ph+1) % 4:=by rw [wrap_id (n:=a.Ph+1) ⟨by omega,by omega⟩,Int.tmod_eq_emod_of_nonneg (by omega)]
 rw [w1,w2,w3,w4,idx_nat,idx_nat,h1,h2]
 simp only [P_codeB,e1,e2]
 have tA:=fun b=>P_times F hF (turn1 b a) A (turn1_ok ha).1 hA.1
 have tB:=fun c:Pl=>fun hc:c.ok=true=>P_times F hF c B hc hB.1
 have t0:=tA false
 have t1:=tA true
 simp only [turn1,cond_true,cond_false] at t0 t1
 have m0:=tB (mulP a A) (mulP_ok ha.1 hA.1 (ha.2.trans hA.2.symm)).1
 have m1:=tB (mulP (turn1 true a) A) (mulP_ok (turn1_ok ha).1 hA.1 ((turn1_ok ha).2.trans hA.2.symm)).1
 simp only [turn1,cond_true] at m1
 have m2:=tB a ha.1
 cases hx:bX p r with
 |true=>
  cases hz:bZ p r with
  |true=>
   simp only [cond_true,tst,tw,turn1,Bool.and_self]
   rw [if_pos trivial,if_neg (by omega)]
   simp only [t1]
   rw [if_pos (by omega)]
   simp only [m1]
  |false=>
   simp only [cond_true,cond_false,tst,tw,turn1,Bool.and_false]
   rw [if_neg (by omega),if_pos trivial]
   simp only [t0]
   rw [if_neg (by omega)]
 |false=>
  cases hz:bZ p r with
  |true=>
   simp only [cond_true,cond_false,tst,tw,turn1,Bool.false_and]
   rw [if_neg (by omega),if_neg (by omega),if_pos (by omega)]
   simp only [m2]
  |false=>
   simp only [cond_false,tst,tw,turn1,Bool.and_false]
   rw [if_neg (by omega),if_neg (by omega),if_neg (by omega)]
theorem R_MulT (F:Nat)(hF:66≤F)(p q:Pl)(hp:p.ok=true)(hq:q.ok=true)(hn:p.N=q.N):Pref13_Mul F p.N p.X p.Z p.Ph q.N q.X q.Z q.Ph=some ((mulP p q).N,(mulP p q).X,(mulP p q).Z,(mulP p q).Ph,0):=by
 have h:=R_times F hF p q hp hq hn
 unfold Pref14_times at h
 unfold Pref13_Mul at h ⊢
 rw [R_right F (by omega) p,R_right F (by omega) q,hp,hq] at h ⊢
 simp only [cond_true] at h ⊢
 rw [if_pos hn] at h ⊢
 split at h
 ·cases h
 ·rename_i a1 a2 a3 a4 a5 e
  split at e
  ·cases e
  ·rename_i y hy
   cases e
   simp only [Option.some.injEq,Prod.mk.injEq] at h
   simp only [Option.some.injEq,Prod.mk.injEq,and_true]
   exact h
theorem turn_mul {a A:Pl}:turn1 true (mulP a A)=mulP (turn1 true a) A:=by
 unfold turn1 mulP
 simp only [cond_true,Pl.mk.injEq,true_and]
 omega
theorem RThr_step (F:Nat)(hF:66≤F){N:Int}(p:Pl)(q:List Int)(imgs:List ByteArray)(v7:Int)(v8 v9:BitVec 64)(v10:Int)(f i r:Nat)(a A B:Pl)(sA sB:ByteArray)(hi:i<100)(hr:r<64)(hn:i<q.length)(hq:idx q (i:Int)=some (r:Int))
  (h1:imgs[2*i]? = some sA) (h2:imgs[2*i+1]? = some sB) (e1:Pref13_letters F sA p.N q=some (A.N,A.X,A.Z,A.Ph)) (e2:Pref13_letters F sB p.N q=some (B.N,B.X,B.Z,B.Ph))
  (hA:A.ok=true∧A.N=N) (hB:B.ok=true∧B.N=N) (ha:a.ok=true∧a.N=N) :
  Pref13_ThroughL1 F q imgs p.N p.X p.Z p.Ph v7 v8 v9 v10 (f+1) (i:Int) a.N a.X a.Z a.Ph =
   Pref13_ThroughL1 F q imgs p.N p.X p.Z p.Ph v7 v8 v9 v10 f ((i+1:Nat):Int) (tst A B (bX p r) (bZ p r) a).N (tst A B (bX p r) (bZ p r) a).X (tst A B (bX p r) (bZ p r) a).Z (tst A B (bX p r) (bZ p r) a).Ph:=by
 rw [Pref13_ThroughL1,if_pos (by omega),hq]
 have w1:IntKind.i64.wrap ((i:Int)+1)=((i+1:Nat):Int):=wrap_id (n:=(i:Int)+1) ⟨by omega,by omega⟩
 have w2:IntKind.i64.wrap ((2:Int)*(i:Int))=((2*i:Nat):Int):=wrap_id (n:=(2:Int)*(i:Int)) ⟨by omega,by omega⟩
 have w3:IntKind.i64.wrap (((2*i:Nat):Int)+1)=((2*i+1:Nat):Int):=wrap_id (n:=((2*i:Nat):Int)+1) ⟨by omega,by omega⟩
 have bt:∀ x:BitVec 64,(Pref13_bit x (r:Int)=1)↔x.toNat.testBit r=true:=fun x=>by
  rw [R_bitN x r hr,Nat.testBit_eq_decide_div_mod_eq,decide_eq_true_eq]
  omega
 rw [w1,w2,w3,idx_nat,idx_nat,h1,h2]
 have mA:=R_MulT F hF a A ha.1 hA.1 (ha.2.trans hA.2.symm)
 have okA:=mulP_ok ha.1 hA.1 (ha.2.trans hA.2.symm)
 have mAB:=R_MulT F hF (mulP a A) B okA.1 hB.1 (okA.2.trans (ha.2.trans hB.2.symm))
 have mB:=R_MulT F hF a B ha.1 hB.1 (ha.2.trans hB.2.symm)
 simp only [e1,e2,mA,mB,mAB]
 have w4:∀ c d:Pl,(IntKind.i64.wrap ((mulP c d).Ph+1)).tmod 4=((mulP c d).Ph+1) % 4:=fun c d=>by
  have:=mulP_ph c d
  rw [wrap_id (n:=(mulP c d).Ph+1) ⟨by omega,by omega⟩,Int.tmod_eq_emod_of_nonneg (by omega)]
 cases hx:bX p r with
 |true=>
  rw [if_pos ((bt p.X).2 hx)]
  cases hz:bZ p r with
  |true=>
   rw [if_pos ((bt p.Z).2 hz),w4]
   have tm:tst A B true true a=turn1 true (mulP (mulP a A) B):=by
    unfold tst tw
    simp only [cond_true,Bool.and_self]
    rw [turn_mul,turn_mul]
   rw [tm]
   rfl
  |false=>
   rw [if_neg (fun h=>by have:=(bt p.Z).1 h;unfold bZ at hz;rw [this] at hz;cases hz)]
   rfl
 |false=>
  rw [if_neg (fun h=>by have:=(bt p.X).1 h;unfold bX at hx;rw [this] at hx;cases hx)]
  cases hz:bZ p r with
  |true=>
   rw [if_pos ((bt p.Z).2 hz)]
   rfl
  |false=>
   rw [if_neg (fun h=>by have:=(bt p.Z).1 h;unfold bZ at hz;rw [this] at hz;cases hz)]
   rfl
end Go.Proofs.YtogkkamlmklpkaaDoor.Ab
/- Plain law: a string carried through a gate, a tableau carried through a gate, the program's and the reference's. No condition: lemmas only. -/
set_option maxRecDepth 100000
set_option linter.unusedVariables false
set_option linter.unusedSimpArgs false
namespace Go.Proofs.YtogkkamlmklpkaaDoor.Ab
open Go
def clq (p:Pl)(q:Nat):Pl:=⟨p.N,p.X &&& ~~~(1#64 <<< q),p.Z &&& ~~~(1#64 <<< q),p.Ph⟩
def im1 (k:Int):UInt8×UInt8×UInt8×UInt8:=
 if k=1 then (43,88,43,90) else if k=2 then (43,88,45,90) else if k=3 then (45,88,45,90) else if k=4 then (45,88,43,90) else if k=5 then (43,89,43,90)
 else if k=6 then (45,89,43,90) else if k=7 then (43,88,45,89) else if k=8 then (43,88,43,89) else if k=9 then (45,90,43,88) else (43,90,45,88)
def im2 (k:Int):(UInt8×UInt8×UInt8)×(UInt8×UInt8×UInt8)×(UInt8×UInt8×UInt8)×(UInt8×UInt8×UInt8):=
 if k=11 then ((43,88,88),(43,90,73),(43,73,88),(43,90,90)) else if k=12 then ((43,88,89),(43,90,73),(43,90,88),(43,90,90))
 else if k=13 then ((43,88,90),(43,90,73),(43,90,88),(43,73,90)) else if k=14 then ((43,73,88),(43,73,90),(43,88,73),(43,90,73))
 else if k=15 then ((43,90,89),(43,73,90),(43,89,90),(43,90,73)) else if k=16 then ((45,90,89),(43,73,90),(45,89,90),(43,90,73))
 else ((43,90,73),(43,88,73),(43,73,90),(43,73,88))
theorem k10 {k:Int}(h1:1≤k)(h2:k≤10):k=1∨k=2∨k=3∨k=4∨k=5∨k=6∨k=7∨k=8∨k=9∨k=10:=by omega
theorem k17 {k:Int}(h1:11≤k)(h2:k≤17):k=11∨k=12∨k=13∨k=14∨k=15∨k=16∨k=17:=by omega
theorem R_im1 {k:Int}(h1:1≤k)(h2:k≤10):Pref13_images k=[(⟨#[(im1 k).1,(im1 k).2.1]⟩:ByteArray),(⟨#[(im1 k).2.2.1,(im1 k).2.2.2]⟩:ByteArray)]∧isL (im1 k).2.1=true∧isL (im1 k).2.2.2=true:=by
 rcases k10 h1 h2 with rfl|rfl|rfl|rfl|rfl|rfl|rfl|rfl|rfl|rfl<;>exact ⟨rfl,rfl,rfl⟩
theorem R_im2 {k:Int}(h1:11≤k)(h2:k≤17):Pref13_images k=[(⟨#[(im2 k).1.1,(im2 k).1.2.1,(im2 k).1.2.2]⟩:ByteArray),(⟨#[(im2 k).2.1.1,(im2 k).2.1.2.1,(im2 k).2.1.2.2]⟩:ByteArray),(⟨#[(im2 k).2.2.1.1,(im2 k).2.2.1.2.1,(im2 k).2.2.1.2.2]⟩:ByteArray),(⟨#[(im2 k).2.2.2.1,(im2 k).2.2.2.2.1,(im2 k).2.2.2.2.2]⟩:ByteArray)]∧
  (isL (im2 k).1.2.1=true∧isL (im2 k).1.2.2=true)∧(isL (im2 k).2.1.2.1=true∧isL (im2 k).2.1.2.2=true)∧(isL (im2 k).2.2.1.2.1=true∧isL (im2 k).2.2.1.2.2=true)∧(isL (im2 k).2.2.2.2.1=true∧isL (im2 k).2.2.2.2.2=true):=by
 rcases k17 h1 h2 with rfl|rfl|rfl|rfl|rfl|rfl|rfl<;>exact ⟨rfl,⟨rfl,rfl⟩,⟨rfl,rfl⟩,⟨rfl,rfl⟩,rfl,rfl⟩
theorem P_im {k:Int}(h1:1≤k)(h2:k≤17):Ppauli_images k=some (Pref13_images k):=by
 have:k=1∨k=2∨k=3∨k=4∨k=5∨k=6∨k=7∨k=8∨k=9∨k=10∨k=11∨k=12∨k=13∨k=14∨k=15∨k=16∨k=17:=by omega
 rcases this with rfl|rfl|rfl|rfl|rfl|rfl|rfl|rfl|rfl|rfl|rfl|rfl|rfl|rfl|rfl|rfl|rfl<;>rfl
def iA1 (k N:Int)(q:Nat):Pl:=on1 N q (im1 k).1 (im1 k).2.1
def iB1 (k N:Int)(q:Nat):Pl:=on1 N q (im1 k).2.2.1 (im1 k).2.2.2
def iA2 (k N:Int)(q r:Nat):Pl:=on2 N q r (im2 k).1.1 (im2 k).1.2.1 (im2 k).1.2.2
def iB2 (k N:Int)(q r:Nat):Pl:=on2 N q r (im2 k).2.1.1 (im2 k).2.1.2.1 (im2 k).2.1.2.2
def iC2 (k N:Int)(q r:Nat):Pl:=on2 N q r (im2 k).2.2.1.1 (im2 k).2.2.1.2.1 (im2 k).2.2.1.2.2
def iD2 (k N:Int)(q r:Nat):Pl:=on2 N q r (im2 k).2.2.2.1 (im2 k).2.2.2.2.1 (im2 k).2.2.2.2.2
def thr1 (k:Int)(q:Nat)(p:Pl):Pl:=tst (iA1 k p.N q) (iB1 k p.N q) (bX p q) (bZ p q) (clq p q)
def thr2 (k:Int)(q r:Nat)(p:Pl):Pl:=tst (iC2 k p.N q r) (iD2 k p.N q r) (bX p r) (bZ p r) (tst (iA2 k p.N q r) (iB2 k p.N q r) (bX p q) (bZ p q) (clq (clq p q) r))
def thr (k:Int)(l:List Int)(p:Pl):Pl:=match l with
 | [q]=>thr1 k q.toNat p
 | [q,r]=>thr2 k q.toNat r.toNat p
 |_=>p
theorem bw_lt {b:Bool}{q n:Nat}(h:q<n)(hn:n≤64):(bw b q).toNat<2 ^ n:=by
 unfold bw
 cases b with
 |false=>exact Nat.two_pow_pos _
 |true=>rw [cond_true,tn_bit (by omega)];exact Nat.pow_lt_pow_right (by omega) h
theorem sg_02 (b:UInt8):sg b=0∨sg b=2:=by unfold sg;split<;>omega
theorem on1_ok {N:Int}{n q:Nat}(hN:N=n)(hn:n≤64)(hq:q<n)(b c:UInt8):(on1 N q b c).ok=true∧(on1 N q b c).N=N:=by
 have:=sg_02 b
 refine ⟨ok_iff.2 ⟨?_,?_,?_,?_,?_,?_⟩,rfl⟩<;>simp only [on1]
 ·omega
 ·omega
 ·omega
 ·omega
 ·rw [hN,Int.toNat_natCast];exact bw_lt hq hn
 ·rw [hN,Int.toNat_natCast];exact bw_lt hq hn
theorem on2_ok {N:Int}{n q r:Nat}(hN:N=n)(hn:n≤64)(hq:q<n)(hr:r<n)(b c d:UInt8):(on2 N q r b c d).ok=true∧(on2 N q r b c d).N=N:=by
 have:=sg_02 b
 refine ⟨ok_iff.2 ⟨?_,?_,?_,?_,?_,?_⟩,rfl⟩<;>simp only [on2]
 ·omega
 ·omega
 ·omega
 ·omega
 ·rw [hN,Int.toNat_natCast,BitVec.toNat_or];exact Nat.or_lt_two_pow (bw_lt hq hn) (bw_lt hr hn)
 ·rw [hN,Int.toNat_natCast,BitVec.toNat_or];exact Nat.or_lt_two_pow (bw_lt hq hn) (bw_lt hr hn)
theorem clq_ok {N:Int}{p:Pl}{q:Nat}(h:p.ok=true∧p.N=N):(clq p q).ok=true∧(clq p q).N=N:=by
 obtain ⟨_,_,c,d,_,_⟩:=ok_iff.1 h.1
 exact ⟨cut_ok (N:=N) (m := ~~~(1#64 <<< q)) h.1 rfl rfl rfl c d,h.2⟩
theorem PT_clr (k:Int)(v1 q:List Int)(n v5:Int)(v6 v7:BitVec 64)(v8 v9:Int)(v10 v11:BitVec 64)(v12 v13 v16:Int)(f i r:Nat)(x z:BitVec 64)(hi:i<100)(hn:(i:Int)<n)(hq:idx q (i:Int)=some (r:Int)) :
  Ppauli_ThroughL0 k v1 q n v5 v6 v7 v8 v9 v10 v11 v12 v13 v16 (f+1) (i:Int) x z=Ppauli_ThroughL0 k v1 q n v5 v6 v7 v8 v9 v10 v11 v12 v13 v16 f ((i+1:Nat):Int) (x &&& ~~~(1#64 <<< r)) (z &&& ~~~(1#64 <<< r)):=by
 rw [Ppauli_ThroughL0,if_pos hn,hq]
 have w1:IntKind.i64.wrap ((i:Int)+1)=((i+1:Nat):Int):=wrap_id (n:=(i:Int)+1) ⟨by omega,by omega⟩
 simp only [w1,Int.toNat_natCast]
 rw [if_neg (by omega)]
theorem PT_clrE (k:Int)(v1 q:List Int)(n v5:Int)(v6 v7:BitVec 64)(v8 v9:Int)(v10 v11:BitVec 64)(v12 v13 v16:Int)(f i:Nat)(x z:BitVec 64)(hn:¬ (i:Int)<n) :
  Ppauli_ThroughL0 k v1 q n v5 v6 v7 v8 v9 v10 v11 v12 v13 v16 (f+1) (i:Int) x z=some (x,z):=by rw [Ppauli_ThroughL0,if_neg hn]
theorem RT_clr (q:List Int)(v1:List ByteArray)(v3:Int)(v4 v5:BitVec 64)(v6 v7:Int)(v8 v9:BitVec 64)(v10 v11 v14:Int)(f i r:Nat)(x z:BitVec 64)(hi:i<100)(hr:r<64)(hn:i<q.length)(hq:idx q (i:Int)=some (r:Int)) :
  Pref13_ThroughL0 q v1 v3 v4 v5 v6 v7 v8 v9 v10 v11 v14 (f+1) (i:Int) x z=Pref13_ThroughL0 q v1 v3 v4 v5 v6 v7 v8 v9 v10 v11 v14 f ((i+1:Nat):Int) (x &&& ~~~(1#64 <<< r)) (z &&& ~~~(1#64 <<< r)):=by
 rw [Pref13_ThroughL0,if_pos (by omega),hq]
 have w1:IntKind.i64.wrap ((i:Int)+1)=((i+1:Nat):Int):=wrap_id (n:=(i:Int)+1) ⟨by omega,by omega⟩
 simp only [w1,ofInt_nat (k:=r) (by omega)]
theorem RT_clrE (q:List Int)(v1:List ByteArray)(v3:Int)(v4 v5:BitVec 64)(v6 v7:Int)(v8 v9:BitVec 64)(v10 v11 v14:Int)(f i:Nat)(x z:BitVec 64)(hn:¬ i<q.length) :
  Pref13_ThroughL0 q v1 v3 v4 v5 v6 v7 v8 v9 v10 v11 v14 (f+1) (i:Int) x z=some (x,z):=by rw [Pref13_ThroughL0,if_neg (by omega)]
theorem PT_E (F:Nat)(qs:List Int)(imgs:List ByteArray)(q:List Int)(n v5:Int)(v6 v7:BitVec 64)(v8 v9:Int)(v10 v11:BitVec 64)(v12:Int)(f i:Nat)(a:Int)(x z:BitVec 64)(b:Int)(hn:¬ (i:Int)<n) :
  Ppauli_ThroughL1 F qs imgs q n v5 v6 v7 v8 v9 v10 v11 v12 (f+1) (i:Int) a x z b=some (a,x,z,b):=by rw [Ppauli_ThroughL1,if_neg hn]
theorem RT_E (F:Nat)(q:List Int)(imgs:List ByteArray)(v3:Int)(v4 v5:BitVec 64)(v6 v7:Int)(v8 v9:BitVec 64)(v10:Int)(f i:Nat)(a:Int)(x z:BitVec 64)(b:Int)(hn:¬ i<q.length) :
  Pref13_ThroughL1 F q imgs v3 v4 v5 v6 v7 v8 v9 v10 (f+1) (i:Int) a x z b=some (a,x,z,b):=by rw [Pref13_ThroughL1,if_neg (by omega)]
theorem gate_qs {k N:Int}{l:List Int}(h1:1≤k)(h2:k≤17)(hg:gchk k l N=0):(k≤10∧∃ q:Nat,l=[(q:Int)]∧(q:Int)<N)∨(11≤k∧∃ q r:Nat,l=[(q:Int),(r:Int)]∧(q:Int)<N∧(r:Int)<N∧q≠r):=by
 unfold gchk at hg
 split at hg
 ·cases hg
 ·split at hg
  ·rename_i hl
   split at hg
   ·rename_i ha
    unfold arA at hl
    rw [if_neg (by omega),if_neg (by omega)] at hl
    by_cases h10:k≤10
    ·rw [if_pos h10] at hl
     obtain ⟨x,rfl⟩:=List.length_eq_one_iff.1 (by omega:l.length=1)
     obtain ⟨a,b,_⟩:=apart_at ha (i:=0) (by simp)
     simp only [List.getElem_cons_zero] at a b
     refine .inl ⟨h10,x.toNat,?_,by omega⟩
     congr 1;omega
    ·rw [if_neg h10,if_pos h2] at hl
     obtain ⟨x,y,rfl⟩:∃ x y,l=[x,y]:=by
      match l,(by omega:l.length=2) with
      | [x,y],_=>exact ⟨x,y,rfl⟩
     obtain ⟨a,b,_⟩:=apart_at ha (i:=0) (by simp)
     obtain ⟨c,d,e⟩:=apart_at ha (i:=1) (by simp)
     simp only [List.getElem_cons_zero,List.getElem_cons_succ] at a b c d e
     simp at e
     refine .inr ⟨by omega,x.toNat,y.toNat,?_,by omega,by omega,fun q=>e (by omega)⟩
     rw [show ((x.toNat:Nat):Int)=x by omega,show ((y.toNat:Nat):Int)=y by omega]
   ·cases hg
  ·cases hg
theorem Through (F:Nat)(hF:66≤F){N:Int}{n:Nat}(hN:N=n)(hn:n≤64){k:Int}{l:List Int}(h1:1≤k)(h2:k≤17)(hg:gchk k l N=0){p:Pl}(hp:p.ok=true)(hpn:p.N=N) :
  Ppauli_Through F p.N p.X p.Z p.Ph k l=some ((thr k l p).N,(thr k l p).X,(thr k l p).Z,(thr k l p).Ph,0)∧Pref13_Through F p.N p.X p.Z p.Ph k l=some ((thr k l p).N,(thr k l p).X,(thr k l p).Z,(thr k l p).Ph,0)∧
   (thr k l p).ok=true∧(thr k l p).N=N:=by
 have cl:Pgate_Clifford k=true:=by unfold Pgate_Clifford;rw [if_pos h1,decide_eq_true h2]
 have hg':gchk k l p.N=0:=by rw [hpn];exact hg
 unfold Ppauli_Through Pref13_Through
 rw [P_right,R_right F (by omega),hp,cl,P_im h1 h2]
 simp only [cond_true]
 rcases gate_qs h1 h2 hg with ⟨h10,q,rfl,hq⟩|⟨h11,q,r,rfl,hq,hr,hne⟩
 ·rw [P_gchk F k p.N _ (by simp) (by simp;omega),R_gchk F k p.N _ (by simp) (by simp;omega),hg']
  obtain ⟨im,iA,iB⟩:=R_im1 h1 h10
  obtain ⟨f,rfl⟩:∃ f,F=f+2:=⟨F-2,by omega⟩
  rw [im]
  have oA:=on1_ok hN hn (by omega:q<n) (im1 k).1 (im1 k).2.1
  have oB:=on1_ok hN hn (by omega:q<n) (im1 k).2.2.1 (im1 k).2.2.2
  rw [← hpn] at oA oB
  have oc:=clq_ok (q:=q) ⟨hp,rfl⟩
  have ot:=tst_ok (x:=bX p q) (z:=bZ p q) oA oB oc
  have c1:=fun v1 v9 v10 v11 v12 v13 v16=>PT_clr k v1 [(q:Int)] 1 p.N p.X p.Z p.Ph v9 v10 v11 v12 v13 v16 (f+1) 0 q p.X p.Z (by omega) (by omega) rfl
  have c2:=fun v1 v9 v10 v11 v12 v13 v16=>PT_clrE k v1 [(q:Int)] 1 p.N p.X p.Z p.Ph v9 v10 v11 v12 v13 v16 f 1 (clq p q).X (clq p q).Z (by omega)
  have c3:=fun v1 v7 v8 v9 v10 v11 v14=>RT_clr [(q:Int)] v1 p.N p.X p.Z p.Ph v7 v8 v9 v10 v11 v14 (f+1) 0 q p.X p.Z (by omega) (by omega) (by simp) rfl
  have c4:=fun v1 v7 v8 v9 v10 v11 v14=>RT_clrE [(q:Int)] v1 p.N p.X p.Z p.Ph v7 v8 v9 v10 v11 v14 f 1 (clq p q).X (clq p q).Z (by simp)
  have s1:=fun v9 v10 v11 v12=>PThr_step (f+2) (by omega) p [(q:Int)] [(q:Int)] [(⟨#[(im1 k).1,(im1 k).2.1]⟩:ByteArray),(⟨#[(im1 k).2.2.1,(im1 k).2.2.2]⟩:ByteArray)] 1 v9 v10 v11 v12 (f+1) 0 q (clq p q) _ _ _ _ (by omega) (by omega) rfl rfl rfl
   (P_spread1 (f+2) (by omega) p.N q _ _ iA) (P_spread1 (f+2) (by omega) p.N q _ _ iB) oA oB oc
  have s2:=fun v7 v8 v9 v10=>RThr_step (f+2) (by omega) p [(q:Int)] [(⟨#[(im1 k).1,(im1 k).2.1]⟩:ByteArray),(⟨#[(im1 k).2.2.1,(im1 k).2.2.2]⟩:ByteArray)] v7 v8 v9 v10 (f+1) 0 q (clq p q) _ _ _ _ (by omega) (by omega) (by simp) rfl rfl rfl
   (R_letters1 (f+2) (by omega) p.N q (by omega) _ _ iA) (R_letters1 (f+2) (by omega) p.N q (by omega) _ _ iB) oA oB oc
  have e1:=fun v9 v10 v11 v12 a x z b=>PT_E (f+2) [(q:Int)] [(⟨#[(im1 k).1,(im1 k).2.1]⟩:ByteArray),(⟨#[(im1 k).2.2.1,(im1 k).2.2.2]⟩:ByteArray)] [(q:Int)] 1 p.N p.X p.Z p.Ph v9 v10 v11 v12 f 1 a x z b (by omega)
  have e2:=fun v7 v8 v9 v10 a x z b=>RT_E (f+2) [(q:Int)] [(⟨#[(im1 k).1,(im1 k).2.1]⟩:ByteArray),(⟨#[(im1 k).2.2.1,(im1 k).2.2.2]⟩:ByteArray)] p.N p.X p.Z p.Ph v7 v8 v9 v10 f 1 a x z b (by simp)
  rw [show ((0:Nat):Int)=0 from rfl,Nat.zero_add] at c1 c3 s1 s2
  rw [show ((1:Nat):Int)=1 from rfl] at c1 c2 c3 c4 s1 s2 e1 e2
  have te:thr k [(q:Int)] p=tst (on1 p.N q (im1 k).1 (im1 k).2.1) (on1 p.N q (im1 k).2.2.1 (im1 k).2.2.2) (bX p q) (bZ p q) (clq p q):=rfl
  rw [te]
  have d1:=fun v1 v9 v10 v11 v12 v13 v16=>(c1 v1 v9 v10 v11 v12 v13 v16).trans (c2 v1 v9 v10 v11 v12 v13 v16)
  have d3:=fun v1 v7 v8 v9 v10 v11 v14=>(c3 v1 v7 v8 v9 v10 v11 v14).trans (c4 v1 v7 v8 v9 v10 v11 v14)
  have g1:=fun v9 v10 v11 v12=>(s1 v9 v10 v11 v12).trans (e1 v9 v10 v11 v12 _ _ _ _)
  have g2:=fun v7 v8 v9 v10=>(s2 v7 v8 v9 v10).trans (e2 v7 v8 v9 v10 _ _ _ _)
  have k1:(clq p q).N=p.N:=rfl
  have k2:(clq p q).Ph=p.Ph:=rfl
  rw [k1,k2] at g1 g2
  simp only [if_true,List.length_cons,List.length_nil,Nat.zero_add,show ((1:Nat):Int)=1 from rfl,d1,d3,g1,g2]
  refine ⟨trivial,?_,ot.1,ot.2.trans hpn⟩
  rw [if_neg (by omega)]
 ·rw [P_gchk F k p.N _ (by simp) (by simp;omega),R_gchk F k p.N _ (by simp) (by simp;omega),hg']
  obtain ⟨im,⟨iA1,iA2⟩,⟨iB1,iB2⟩,⟨iC1,iC2⟩,iD1,iD2⟩:=R_im2 h11 h2
  obtain ⟨f,rfl⟩:∃ f,F=f+3:=⟨F-3,by omega⟩
  rw [im]
  have oA:=on2_ok hN hn (by omega:q<n) (by omega:r<n) (im2 k).1.1 (im2 k).1.2.1 (im2 k).1.2.2
  have oB:=on2_ok hN hn (by omega:q<n) (by omega:r<n) (im2 k).2.1.1 (im2 k).2.1.2.1 (im2 k).2.1.2.2
  have oC:=on2_ok hN hn (by omega:q<n) (by omega:r<n) (im2 k).2.2.1.1 (im2 k).2.2.1.2.1 (im2 k).2.2.1.2.2
  have oD:=on2_ok hN hn (by omega:q<n) (by omega:r<n) (im2 k).2.2.2.1 (im2 k).2.2.2.2.1 (im2 k).2.2.2.2.2
  rw [← hpn] at oA oB oC oD
  have oc:=clq_ok (q:=r) (clq_ok (q:=q) ⟨hp,rfl⟩)
  have ot:=tst_ok (x:=bX p q) (z:=bZ p q) oA oB oc
  have ot2:=tst_ok (x:=bX p r) (z:=bZ p r) oC oD ot
  have c1:=fun v1 v9 v10 v11 v12 v13 v16=>PT_clr k v1 [(q:Int),(r:Int)] 2 p.N p.X p.Z p.Ph v9 v10 v11 v12 v13 v16 (f+2) 0 q p.X p.Z (by omega) (by omega) rfl
  have c1':=fun v1 v9 v10 v11 v12 v13 v16=>PT_clr k v1 [(q:Int),(r:Int)] 2 p.N p.X p.Z p.Ph v9 v10 v11 v12 v13 v16 (f+1) 1 r (clq p q).X (clq p q).Z (by omega) (by omega) rfl
  have c2:=fun v1 v9 v10 v11 v12 v13 v16=>PT_clrE k v1 [(q:Int),(r:Int)] 2 p.N p.X p.Z p.Ph v9 v10 v11 v12 v13 v16 f 2 (clq (clq p q) r).X (clq (clq p q) r).Z (by omega)
  have c3:=fun v1 v7 v8 v9 v10 v11 v14=>RT_clr [(q:Int),(r:Int)] v1 p.N p.X p.Z p.Ph v7 v8 v9 v10 v11 v14 (f+2) 0 q p.X p.Z (by omega) (by omega) (by simp) rfl
  have c3':=fun v1 v7 v8 v9 v10 v11 v14=>RT_clr [(q:Int),(r:Int)] v1 p.N p.X p.Z p.Ph v7 v8 v9 v10 v11 v14 (f+1) 1 r (clq p q).X (clq p q).Z (by omega) (by omega) (by simp) rfl
  have c4:=fun v1 v7 v8 v9 v10 v11 v14=>RT_clrE [(q:Int),(r:Int)] v1 p.N p.X p.Z p.Ph v7 v8 v9 v10 v11 v14 f 2 (clq (clq p q) r).X (clq (clq p q) r).Z (by simp)
  generalize hI:[(⟨#[(im2 k).1.1,(im2 k).1.2.1,(im2 k).1.2.2]⟩:ByteArray),(⟨#[(im2 k).2.1.1,(im2 k).2.1.2.1,(im2 k).2.1.2.2]⟩:ByteArray),(⟨#[(im2 k).2.2.1.1,(im2 k).2.2.1.2.1,(im2 k).2.2.1.2.2]⟩:ByteArray),(⟨#[(im2 k).2.2.2.1,(im2 k).2.2.2.2.1,(im2 k).2.2.2.2.2]⟩:ByteArray)]=I
  have s1:=fun v9 v10 v11 v12=>PThr_step (f+3) (by omega) p [(q:Int),(r:Int)] [(q:Int),(r:Int)] I 2 v9 v10 v11 v12 (f+2) 0 q (clq (clq p q) r) _ _ _ _ (by omega) (by omega) rfl (by rw [← hI];rfl) (by rw [← hI];rfl)
   (P_spread2 (f+3) (by omega) p.N q r _ _ _ iA1 iA2) (P_spread2 (f+3) (by omega) p.N q r _ _ _ iB1 iB2) oA oB oc
  have s1':=fun v9 v10 v11 v12=>PThr_step (f+3) (by omega) p [(q:Int),(r:Int)] [(q:Int),(r:Int)] I 2 v9 v10 v11 v12 (f+1) 1 r _ _ _ _ _ (by omega) (by omega) rfl (by rw [← hI];rfl) (by rw [← hI];rfl)
   (P_spread2 (f+3) (by omega) p.N q r _ _ _ iC1 iC2) (P_spread2 (f+3) (by omega) p.N q r _ _ _ iD1 iD2) oC oD ot
  have s2:=fun v7 v8 v9 v10=>RThr_step (f+3) (by omega) p [(q:Int),(r:Int)] I v7 v8 v9 v10 (f+2) 0 q (clq (clq p q) r) _ _ _ _ (by omega) (by omega) (by simp) rfl (by rw [← hI];rfl) (by rw [← hI];rfl)
   (R_letters2 (f+3) (by omega) p.N q r (by omega) (by omega) _ _ _ iA1 iA2) (R_letters2 (f+3) (by omega) p.N q r (by omega) (by omega) _ _ _ iB1 iB2) oA oB oc
  have s2':=fun v7 v8 v9 v10=>RThr_step (f+3) (by omega) p [(q:Int),(r:Int)] I v7 v8 v9 v10 (f+1) 1 r _ _ _ _ _ (by omega) (by omega) (by simp) rfl (by rw [← hI];rfl) (by rw [← hI];rfl)
   (R_letters2 (f+3) (by omega) p.N q r (by omega) (by omega) _ _ _ iC1 iC2) (R_letters2 (f+3) (by omega) p.N q r (by omega) (by omega) _ _ _ iD1 iD2) oC oD ot
  have e1:=fun v9 v10 v11 v12 a x z b=>PT_E (f+3) [(q:Int),(r:Int)] I [(q:Int),(r:Int)] 2 p.N p.X p.Z p.Ph v9 v10 v11 v12 f 2 a x z b (by omega)
  have e2:=fun v7 v8 v9 v10 a x z b=>RT_E (f+3) [(q:Int),(r:Int)] I p.N p.X p.Z p.Ph v7 v8 v9 v10 f 2 a x z b (by simp)
  rw [show ((0:Nat):Int)=0 from rfl,Nat.zero_add] at c1 c3 s1 s2
  rw [show ((1:Nat):Int)=1 from rfl] at c1 c1' c3 c3' s1 s1' s2 s2'
  rw [show 1+1=2 from rfl,show ((2:Nat):Int)=2 from rfl] at c1' c3' s1' s2'
  rw [show ((2:Nat):Int)=2 from rfl] at c2 c4 e1 e2
  have te:thr k [(q:Int),(r:Int)] p=tst (on2 p.N q r (im2 k).2.2.1.1 (im2 k).2.2.1.2.1 (im2 k).2.2.1.2.2) (on2 p.N q r (im2 k).2.2.2.1 (im2 k).2.2.2.2.1 (im2 k).2.2.2.2.2) (bX p r) (bZ p r)
   (tst (on2 p.N q r (im2 k).1.1 (im2 k).1.2.1 (im2 k).1.2.2) (on2 p.N q r (im2 k).2.1.1 (im2 k).2.1.2.1 (im2 k).2.1.2.2) (bX p q) (bZ p q) (clq (clq p q) r)):=rfl
  rw [te]
  have d1:=fun v1 v9 v10 v11 v12 v13 v16=>((c1 v1 v9 v10 v11 v12 v13 v16).trans (c1' v1 v9 v10 v11 v12 v13 v16)).trans (c2 v1 v9 v10 v11 v12 v13 v16)
  have d3:=fun v1 v7 v8 v9 v10 v11 v14=>((c3 v1 v7 v8 v9 v10 v11 v14).trans (c3' v1 v7 v8 v9 v10 v11 v14)).trans (c4 v1 v7 v8 v9 v10 v11 v14)
  have g1:=fun v9 v10 v11 v12=>((s1 v9 v10 v11 v12).trans (s1' v9 v10 v11 v12)).trans (e1 v9 v10 v11 v12 _ _ _ _)
  have g2:=fun v7 v8 v9 v10=>((s2 v7 v8 v9 v10).trans (s2' v7 v8 v9 v10)).trans (e2 v7 v8 v9 v10 _ _ _ _)
  have k1:(clq (clq p q) r).N=p.N:=rfl
  have k2:(clq (clq p q) r).Ph=p.Ph:=rfl
  rw [k1,k2] at g1 g2
  have lI:((I.length:Nat):Int)=4:=by rw [← hI];rfl
  simp only [if_true,List.length_cons,List.length_nil,Nat.zero_add,Nat.reduceAdd,show ((2:Nat):Int)=2 from rfl,d1,d3,g1,g2,lI]
  refine ⟨trivial,?_,ot2.1,ot2.2.trans hpn⟩
  rw [if_neg (by omega)]
end Go.Proofs.YtogkkamlmklpkaaDoor.Ab
