/- Plain law: a tableau carried through a gate; Settle; the program's and the reference's. No condition: lemmas only. -/
import Derived.Test.YtogkkamlmklpkaaDoorWD
set_option maxRecDepth 100000
set_option linter.unusedVariables false
set_option linter.unusedSimpArgs false
namespace Go.Proofs.YtogkkamlmklpkaaDoor.Ab
open Go
def part2 (f:Pl→Pl)(S:List Pl)(i:Nat):List Pl:=(S.take i).map f++S.drop i
theorem part2_len (f:Pl→Pl){S:List Pl}{i:Nat}(h:i≤S.length):(part2 f S i).length=S.length:=by
 unfold part2
 rw [List.length_append,List.length_map,List.length_take,List.length_drop];omega
theorem part2_0 (f:Pl→Pl)(S:List Pl):part2 f S 0=S:=by unfold part2;simp
theorem part2_all (f:Pl→Pl){S:List Pl}{i:Nat}(h:S.length≤i):part2 f S i=S.map f:=by
 unfold part2
 rw [List.take_of_length_le h,List.drop_of_length_le h,List.append_nil]
theorem part2_at (f:Pl→Pl){S:List Pl}{i:Nat}(h:i<S.length):(part2 f S i)[i]'(by rw [part2_len f (by omega)];exact h)=S[i]:=by
 have ll:((S.take i).map f).length=i:=by rw [List.length_map,List.length_take];omega
 have:(part2 f S i)[i]? = some S[i]:=by
  unfold part2
  rw [List.getElem?_append_right (by omega),ll,Nat.sub_self,List.getElem?_drop,Nat.add_zero,List.getElem?_eq_getElem h]
 rw [List.getElem?_eq_getElem (by rw [part2_len f (by omega)];exact h)] at this
 exact Option.some.inj this
theorem part2_set (f:Pl→Pl){S:List Pl}{i:Nat}(h:i<S.length):(part2 f S i).set i (f S[i])=part2 f S (i+1):=by
 have ll:((S.take i).map f).length=i:=by rw [List.length_map,List.length_take];omega
 unfold part2
 rw [List.set_append_right _ _ (by omega),ll,Nat.sub_self,List.drop_eq_getElem_cons h,List.set_cons_zero,List.take_add_one,List.getElem?_eq_getElem h,List.map_append,List.append_assoc]
 rfl
theorem PGt3 (F:Nat)(hF:66≤F){N:Int}{n:Nat}(hN:N=n)(hn:n≤64){k:Int}{l:List Int}(h1:1≤k)(h2:k≤17)(hg:gchk k l N=0)(v3:List Pl){S:List Pl}(hS:S.length=n)(hr:Rowy N S):∀ (f m i:Nat),i+m=n→m<f→
  Ptb_GateL3 F (n:Int) v3 k l f (i:Int) (part2 (thr k l) S i)=some (S.map (thr k l))
 |0,m,i,_,h=>by omega
 |f+1,m,i,e,h=>by
  unfold Ptb_GateL3
  cases m with
  |zero=>rw [if_neg (by omega),part2_all _ (by omega)]
  |succ m=>
   have i1:i<S.length:=by omega
   have ih:=PGt3 F hF hN hn h1 h2 hg v3 hS hr f m (i+1) (by omega) (by omega)
   rw [show ((i+1:Nat):Int)=(i:Int)+1 by omega] at ih
   rw [if_pos (by omega),idx_lt (l:=part2 (thr k l) S i) (by rw [part2_len _ (by omega)];exact i1),part2_at _ i1]
   obtain ⟨o1,o2⟩:=hr.at i1
   simp only [(Through F hF hN hn h1 h2 hg o1 o2).1,Int.toNat_natCast,wrap_id (n:=(i:Int)+1) ⟨by omega,by omega⟩]
   have:=part2_set (thr k l) i1
   rw [this]
   exact ih
theorem PGt4 (F:Nat)(hF:66≤F){N:Int}{n:Nat}(hN:N=n)(hn:n≤64){k:Int}{l:List Int}(h1:1≤k)(h2:k≤17)(hg:gchk k l N=0)(v3:List Pl){S:List Pl}(hS:S.length=n)(hr:Rowy N S):∀ (f m i:Nat),i+m=n→m<f→
  Ptb_GateL4 F (n:Int) v3 k l f (i:Int) (part2 (thr k l) S i)=some (S.map (thr k l))
 |0,m,i,_,h=>by omega
 |f+1,m,i,e,h=>by
  unfold Ptb_GateL4
  cases m with
  |zero=>rw [if_neg (by omega),part2_all _ (by omega)]
  |succ m=>
   have i1:i<S.length:=by omega
   have ih:=PGt4 F hF hN hn h1 h2 hg v3 hS hr f m (i+1) (by omega) (by omega)
   rw [show ((i+1:Nat):Int)=(i:Int)+1 by omega] at ih
   rw [if_pos (by omega),idx_lt (l:=part2 (thr k l) S i) (by rw [part2_len _ (by omega)];exact i1),part2_at _ i1]
   obtain ⟨o1,o2⟩:=hr.at i1
   simp only [(Through F hF hN hn h1 h2 hg o1 o2).1,Int.toNat_natCast,wrap_id (n:=(i:Int)+1) ⟨by omega,by omega⟩]
   have:=part2_set (thr k l) i1
   rw [this]
   exact ih
theorem RGt3 (F:Nat)(hF:66≤F){N:Int}{n:Nat}(hN:N=n)(hn:n≤64){k:Int}{l:List Int}(h1:1≤k)(h2:k≤17)(hg:gchk k l N=0)(v6 v7:Int){S D:List Pl}(hS:S.length=n)(hD:D.length=n)(hr:Rowy N S)(hrd:Rowy N D):∀ (f m i:Nat),i+m=n→m<f→
  Pref14_GateL3 F k l N S D v6 v7 f (i:Int) (part2 (thr k l) S i) (part2 (thr k l) D i)=some (S.map (thr k l),D.map (thr k l))
 |0,m,i,_,h=>by omega
 |f+1,m,i,e,h=>by
  unfold Pref14_GateL3
  cases m with
  |zero=>rw [if_neg (by omega),part2_all _ (by omega),part2_all _ (by omega)]
  |succ m=>
   have i1:i<S.length:=by omega
   have i2:i<D.length:=by omega
   have ih:=RGt3 F hF hN hn h1 h2 hg v6 v7 hS hD hr hrd f m (i+1) (by omega) (by omega)
   rw [show ((i+1:Nat):Int)=(i:Int)+1 by omega] at ih
   rw [if_pos (by omega),idx_lt i1,idx_lt i2,idx_lt (l:=part2 (thr k l) S i) (by rw [part2_len _ (by omega)];exact i1),idx_lt (l:=part2 (thr k l) D i) (by rw [part2_len _ (by omega)];exact i2)]
   obtain ⟨o1,o2⟩:=hr.at i1
   obtain ⟨o3,o4⟩:=hrd.at i2
   simp only [(Through F hF hN hn h1 h2 hg o1 o2).2.1,(Through F hF hN hn h1 h2 hg o3 o4).2.1,Int.toNat_natCast,wrap_id (n:=(i:Int)+1) ⟨by omega,by omega⟩]
   have a:=part2_set (thr k l) i1
   have b:=part2_set (thr k l) i2
   rw [a,b]
   exact ih
def gateA (N:Int)(S D:List Pl)(k:Int)(l:List Int):Int×List Pl×List Pl×Int:=
 if chk N S D=true then (if gchk k l N=0 then (if 1≤k∧k≤17 then (N,S.map (thr k l),D.map (thr k l),0) else (0,[],[],141)) else (0,[],[],gchk k l N)) else (0,[],[],140)
theorem cliff_iff (k:Int):Pgate_Clifford k=decide (1≤k∧k≤17):=by
 unfold Pgate_Clifford
 by_cases h:k≥1
 ·rw [if_pos h];apply decide_eq_decide.2;omega
 ·rw [if_neg h,decide_eq_false (by omega)]
theorem cliffR_iff (k:Int):Pref06_Clifford k=decide (1≤k∧k≤17):=by
 unfold Pref06_Clifford
 by_cases h:k≥1
 ·rw [if_pos h];apply decide_eq_decide.2;omega
 ·rw [if_neg h,decide_eq_false (by omega)]
theorem gate_ne {k N:Int}{l:List Int}(h1:1≤k)(h2:k≤17)(hg:gchk k l N=0):0<N:=by
 rcases gate_qs h1 h2 hg with ⟨_,q,_,hq⟩|⟨_,q,r,_,hq,_,_⟩<;>omega
theorem P_Gate (F:Nat)(hF:66≤F)(N:Int)(S D:List Pl)(k:Int)(l:List Int)(hl:l.length<4611686018427387904)(hF2:l.length<F):Ptb_Gate F N S D k l=some (gateA N S D k l):=by
 unfold Ptb_Gate gateA
 rw [P_Check F hF,P_gchk F k N l hl hF2,cliff_iff]
 cases hc:chk N S D with
 |false=>rfl
 |true=>
  obtain ⟨n,t⟩:=chk_tab hc
  have hN:=t.eN
  have hle:=t.le
  have hs:=t.ls
  have hd:=t.ld
  simp only [if_true]
  by_cases hg:gchk k l N=0
  ·rw [if_pos hg,if_pos hg]
   by_cases hk:1≤k∧k≤17
   ·have h0:=gate_ne hk.1 hk.2 hg
    have n1:¬ S=[]:=fun e=>by rw [e] at hs;simp at hs;omega
    have n2:¬ D=[]:=fun e=>by rw [e] at hd;simp at hd;omega
    have g3:=PGt3 F hF hN hle hk.1 hk.2 hg D hs t.rS F n 0 (by omega) (by omega)
    have g4:=PGt4 F hF hN hle hk.1 hk.2 hg (S.map (thr k l)) hd t.rD F n 0 (by omega) (by omega)
    rw [show ((0:Nat):Int)=0 from rfl,part2_0] at g3 g4
    rw [if_pos hk,decide_eq_true hk,P_copied (by omega) (by omega)]
    simp only [cond_true]
    rw [if_neg n1,if_neg n2,hs,g3]
    simp only []
    rw [hd,g4]
   ·rw [if_neg hk,decide_eq_false hk];rfl
  ·rw [if_neg hg,if_neg hg]
theorem R_Gate (F:Nat)(hF:66≤F)(N:Int)(S D:List Pl)(k:Int)(l:List Int)(hl:l.length<4611686018427387904)(hF2:l.length<F):Pref14_Gate F N S D k l=some (gateA N S D k l):=by
 unfold Pref14_Gate gateA
 rw [R_Right F hF,R_gchk F k N l hl hF2,cliffR_iff]
 cases hc:chk N S D with
 |false=>rfl
 |true=>
  obtain ⟨n,t⟩:=chk_tab hc
  have hN:=t.eN
  have hle:=t.le
  have hs:=t.ls
  have hd:=t.ld
  simp only [if_true,cond_true]
  by_cases hg:gchk k l N=0
  ·rw [if_pos hg,if_pos hg]
   by_cases hk:1≤k∧k≤17
   ·have h0:=gate_ne hk.1 hk.2 hg
    have n1:¬ S=[]:=fun e=>by rw [e] at hs;simp at hs;omega
    have n2:¬ D=[]:=fun e=>by rw [e] at hd;simp at hd;omega
    have g3:=RGt3 F hF hN hle hk.1 hk.2 hg 0 N hs hd t.rS t.rD F n 0 (by omega) (by omega)
    rw [show ((0:Nat):Int)=0 from rfl,part2_0,part2_0] at g3
    rw [if_pos hk,decide_eq_true hk,R_Copy (by omega) (by omega)]
    simp only [cond_true]
    rw [if_neg n1,if_neg n2,g3]
   ·rw [if_neg hk,decide_eq_false hk];rfl
  ·rw [if_neg hg,if_neg hg]
def setlA (N:Int)(S D:List Pl)(q v:Int):Int×List Pl×List Pl×Int:=
 let r:=projA N S D q v
 if r.2.2.2=0 then (if v=0 then r else gateA r.1 r.2.1 r.2.2.1 2 [q]) else r
theorem proj_v {N:Int}{S D:List Pl}{q v:Int}(h:(projA N S D q v).2.2.2=0):v=0∨v=1:=by
 unfold projA at h
 split at h
 ·split at h
  ·cases h
  ·split at h
   ·cases h
   ·split at h
    ·assumption
    ·cases h
 ·cases h
theorem P_Settle (F:Nat)(hF:66≤F)(N:Int)(S D:List Pl)(q v:Int):Ptb_Settle F N S D q v=some (setlA N S D q v):=by
 unfold Ptb_Settle setlA
 rw [P_Project F hF]
 simp only [P_Gate F hF _ _ _ 2 [q] (by simp) (by simp;omega)]
 split
 ·split<;>rfl
 ·rfl
theorem R_Settle (F:Nat)(hF:66≤F)(N:Int)(S D:List Pl)(q v:Int):Pref14_Settle F N S D q v=some (setlA N S D q v):=by
 unfold Pref14_Settle setlA
 rw [proj_same F hF]
 simp only [R_Gate F hF _ _ _ 2 [q] (by simp) (by simp;omega)]
 split
 ·rename_i h
  have hv:=proj_v h
  by_cases e:v=0
  ·rw [if_pos e,if_neg (by omega)]
  ·rw [if_neg e,if_pos (by omega)]
 ·rfl
end Go.Proofs.YtogkkamlmklpkaaDoor.Ab
/- Plain law: New, the program's and the reference's. No condition: lemmas only. -/
set_option maxRecDepth 100000
set_option linter.unusedVariables false
set_option linter.unusedSimpArgs false
namespace Go.Proofs.YtogkkamlmklpkaaDoor.Ab
open Go
def zS (n:Int)(j:Nat):Pl:=⟨n,0#64,1#64 <<< j,0⟩
def xD (n:Int)(j:Nat):Pl:=⟨n,1#64 <<< j,0#64,0⟩
def rng (g:Nat→Pl)(i:Nat):List Pl:=(List.range i).map g
theorem rng_len (g:Nat→Pl)(i:Nat):(rng g i).length=i:=by unfold rng;simp
theorem rng_succ (g:Nat→Pl)(i:Nat):rng g (i+1)=rng g i++[g i]:=by unfold rng;rw [List.range_succ,List.map_append];rfl
theorem PN0 (N v3 v4:Int)(n:Nat)(hn:n≤64):∀ (f m i:Nat),i+m=n→m<f→
  Ptb_NewL0 f N (n:Int) (i:Int) v3 v4 (rng (zS N) i) (rng (xD N) i)=some (.inr (v3,v4,rng (zS N) n,rng (xD N) n))
 |0,m,i,_,h=>by omega
 |f+1,m,i,e,h=>by
  unfold Ptb_NewL0
  cases m with
  |zero=>rw [if_neg (by omega),show i=n by omega]
  |succ m=>
   have ih:=PN0 N v3 v4 n hn f m (i+1) (by omega) (by omega)
   rw [show ((i+1:Nat):Int)=(i:Int)+1 by omega,rng_succ,rng_succ] at ih
   rw [if_pos (by omega),if_neg (by omega),rng_len,rng_len,if_pos (by omega),if_pos (by omega),wrap_id (n:=(i:Int)+1) ⟨by omega,by omega⟩,Int.toNat_natCast]
   exact ih
theorem RN0 (N v2 v3:Int)(n:Nat)(hN:N=n)(hn:n≤64):∀ (f m i:Nat),i+m=n→m<f→
  Pref14_NewL0 f N (i:Int) v2 v3 (rng (zS N) i) (rng (xD N) i)=some (.inr (v2,v3,rng (zS N) n,rng (xD N) n))
 |0,m,i,_,h=>by omega
 |f+1,m,i,e,h=>by
  unfold Pref14_NewL0
  cases m with
  |zero=>rw [if_neg (by omega),show i=n by omega]
  |succ m=>
   have ih:=RN0 N v2 v3 n hN hn f m (i+1) (by omega) (by omega)
   rw [show ((i+1:Nat):Int)=(i:Int)+1 by omega,rng_succ,rng_succ] at ih
   have lt:Pref14_letter N (i:Int) true=(N,1#64 <<< i,0#64,0):=by unfold Pref14_letter;rw [ofInt_nat (by omega)];rfl
   rw [if_pos (by omega),R_letter N i (by omega),lt]
   simp only [rng_len]
   rw [if_pos (by omega),if_pos (by omega),wrap_id (n:=(i:Int)+1) ⟨by omega,by omega⟩]
   exact ih
def newA (n:Int):Int×List Pl×List Pl×Int:=if n<0 then (0,[],[],2) else if n>64 then (0,[],[],2) else (n,rng (zS n) n.toNat,rng (xD n) n.toNat,0)
theorem P_New (F:Nat)(hF:66≤F)(n:Int):Ptb_New F n=some (newA n):=by
 unfold Ptb_New newA
 by_cases h1:n<0
 ·rw [if_pos h1,if_pos h1]
 ·by_cases h2:n>64
  ·rw [if_neg h1,if_pos h2,if_neg h1,if_pos h2]
  ·rw [if_neg h1,if_neg h2,if_neg h1,if_neg h2]
   obtain ⟨k,rfl⟩:∃ k:Nat,n=(k:Int):=⟨n.toNat,by omega⟩
   obtain ⟨f,rfl⟩:∃ f,F=f+1:=⟨F-1,by omega⟩
   rw [Ptb_NewL1,Int.toNat_natCast]
   by_cases h0:k=0
   ·subst h0;rfl
   ·have h:=PN0 (k:Int) 0 (k:Int) k (by omega) f (k-1) 1 (by omega) (by omega)
    rw [if_pos (by omega),if_neg (by omega),wrap_id (n:=(0:Int)+1) ⟨by omega,by omega⟩]
    have e1:rng (zS (k:Int)) 1=[⟨(k:Int),0#64,1#64 <<< (0:Int).toNat,0⟩]:=rfl
    have e2:rng (xD (k:Int)) 1=[⟨(k:Int),1#64 <<< (0:Int).toNat,0#64,0⟩]:=rfl
    rw [e1,e2] at h
    rw [show (0:Int)+1=((1:Nat):Int) from rfl,h]
theorem R_New (F:Nat)(hF:66≤F)(n:Int):Pref14_New F n=some (newA n):=by
 unfold Pref14_New newA
 by_cases h1:n<0
 ·rw [if_pos h1,if_pos h1]
 ·by_cases h2:n>64
  ·rw [if_neg h1,if_pos h2,if_neg h1,if_pos h2]
  ·rw [if_neg h1,if_neg h2,if_neg h1,if_neg h2]
   obtain ⟨k,rfl⟩:∃ k:Nat,n=(k:Int):=⟨n.toNat,by omega⟩
   obtain ⟨f,rfl⟩:∃ f,F=f+1:=⟨F-1,by omega⟩
   rw [Pref14_NewL1,Int.toNat_natCast]
   by_cases h0:k=0
   ·subst h0;rfl
   ·have h:=RN0 (k:Int) 0 (k:Int) k rfl (by omega) f (k-1) 1 (by omega) (by omega)
    have l0:=R_letter (k:Int) 0 (by omega)
    have l1:Pref14_letter (k:Int) 0 true=((k:Int),1#64 <<< 0,0#64,0):=rfl
    rw [show ((0:Nat):Int)=0 from rfl] at l0
    rw [if_pos (by omega),wrap_id (n:=(0:Int)+1) ⟨by omega,by omega⟩,l0,l1]
    simp only []
    have e1:rng (zS (k:Int)) 1=[⟨(k:Int),0#64,1#64 <<< 0,0⟩]:=rfl
    have e2:rng (xD (k:Int)) 1=[⟨(k:Int),1#64 <<< 0,0#64,0⟩]:=rfl
    rw [e1,e2] at h
    rw [show (0:Int)+1=((1:Nat):Int) from rfl,h]
end Go.Proofs.YtogkkamlmklpkaaDoor.Ab
/- Plain law: Kron, the program's and the reference's. No condition: lemmas only. -/
set_option maxRecDepth 100000
set_option linter.unusedVariables false
set_option linter.unusedSimpArgs false
namespace Go.Proofs.YtogkkamlmklpkaaDoor.Ab
open Go
def mv (n:Int)(k:Nat)(p:Pl):Pl:=⟨n,p.X <<< k,p.Z <<< k,p.Ph⟩
theorem P_moved (p:Pl)(n:Int)(k:Nat):Ptb_moved p.N p.X p.Z p.Ph n (k:Int)=some ((mv n k p).N,(mv n k p).X,(mv n k p).Z,(mv n k p).Ph):=by
 unfold Ptb_moved
 rw [if_neg (by omega),Int.toNat_natCast];rfl
theorem map_step (f:Pl→Pl){S:List Pl}{i:Nat}(h:i<S.length)(A:List Pl):A++(S.take i).map f++[f S[i]]=A++(S.take (i+1)).map f:=by
 rw [List.take_add_one,List.getElem?_eq_getElem h,List.map_append,← List.append_assoc];rfl
theorem PKr0 (v0 v3:Int)(v4 v5:List Pl)(v6 v9 v10:Int)(S D:List Pl)(n:Nat)(hn:n≤64)(hS:S.length=n)(hD:D.length=n):∀ (f m i:Nat),i+m=n→m<f→
  Ptb_KronL0 f v0 (n:Int) (i:Int) v3 v4 v5 v6 S D v9 v10 ((S.take i).map (mv v0 0)) ((D.take i).map (mv v0 0))=some (.inr (v0,v3,v4,v5,v6,S,D,v9,v10,S.map (mv v0 0),D.map (mv v0 0)))
 |0,m,i,_,h=>by omega
 |f+1,m,i,e,h=>by
  rw [Ptb_KronL0]
  cases m with
  |zero=>rw [if_neg (by omega),List.take_of_length_le (by omega),List.take_of_length_le (by omega)]
  |succ m=>
   have i1:i<S.length:=by omega
   have i2:i<D.length:=by omega
   have ih:=PKr0 v0 v3 v4 v5 v6 v9 v10 S D n hn hS hD f m (i+1) (by omega) (by omega)
   have a:=map_step (mv v0 0) i1 []
   have b:=map_step (mv v0 0) i2 []
   simp only [List.nil_append] at a b
   rw [show ((i+1:Nat):Int)=(i:Int)+1 by omega,← a,← b] at ih
   have m1:=P_moved S[i] v0 0
   have m2:=P_moved D[i] v0 0
   rw [show ((0:Nat):Int)=0 from rfl] at m1 m2
   rw [if_pos (by omega),idx_lt i1,idx_lt i2]
   simp only [m1,m2,wrap_id (n:=(i:Int)+1) ⟨by omega,by omega⟩]
   rw [if_pos (by rw [List.length_map,List.length_take];omega),if_pos (by rw [List.length_map,List.length_take];omega)]
   exact ih
theorem PKr1 (F:Nat)(hF:66≤F)(v0 v3:Int)(v4 v5:List Pl)(v6 v9 v10:Int)(S D:List Pl)(n:Nat)(hn:n≤64)(hS:S.length=n)(hD:D.length=n) :
  Ptb_KronL1 F v0 (n:Int) 0 v3 v4 v5 v6 S D v9 v10=some (if n=0 then .inl (v0,v3,v4,v5,v6,S,D,v9,v10) else .inr (v0,v3,v4,v5,v6,S,D,v9,v10,S.map (mv v0 0),D.map (mv v0 0))):=by
 obtain ⟨f,rfl⟩:∃ f,F=f+1:=⟨F-1,by omega⟩
 rw [Ptb_KronL1]
 by_cases h0:n=0
 ·rw [if_neg (by omega),if_pos h0]
 ·have i1:0<S.length:=by omega
  have i2:0<D.length:=by omega
  have h:=PKr0 v0 v3 v4 v5 v6 v9 v10 S D n hn hS hD f (n-1) 1 (by omega) (by omega)
  have a:=map_step (mv v0 0) i1 []
  have b:=map_step (mv v0 0) i2 []
  simp only [List.nil_append,List.take_zero,List.map_nil,Nat.zero_add] at a b
  rw [← a,← b] at h
  have m1:=P_moved S[0] v0 0
  have m2:=P_moved D[0] v0 0
  rw [show ((0:Nat):Int)=0 from rfl] at m1 m2
  rw [if_pos (by omega),if_neg h0,show (0:Int)=((0:Nat):Int) from rfl,idx_lt i1,idx_lt i2]
  simp only [show ((0:Nat):Int)=0 from rfl,m1,m2,wrap_id (n:=(0:Int)+1) ⟨by omega,by omega⟩]
  exact h
theorem PKr2 (v0:Int)(k:Nat)(v3:Int)(v7 v8:List Pl)(v9 v10:Int)(S D A B:List Pl)(n:Nat)(hn:n≤64)(hS:S.length=n)(hD:D.length=n)(hA:A.length≤64)(hB:B.length≤64):∀ (f m i:Nat),i+m=n→m<f→
  Ptb_KronL2 f v0 (n:Int) (i:Int) v3 S D (k:Int) v7 v8 v9 v10 (A++(S.take i).map (mv v0 k)) (B++(D.take i).map (mv v0 k))=some (.inr (v9,v10,A++S.map (mv v0 k),B++D.map (mv v0 k)))
 |0,m,i,_,h=>by omega
 |f+1,m,i,e,h=>by
  rw [Ptb_KronL2]
  cases m with
  |zero=>rw [if_neg (by omega),List.take_of_length_le (by omega),List.take_of_length_le (by omega)]
  |succ m=>
   have i1:i<S.length:=by omega
   have i2:i<D.length:=by omega
   have ih:=PKr2 v0 k v3 v7 v8 v9 v10 S D A B n hn hS hD hA hB f m (i+1) (by omega) (by omega)
   have a:=map_step (mv v0 k) i1 A
   have b:=map_step (mv v0 k) i2 B
   rw [show ((i+1:Nat):Int)=(i:Int)+1 by omega,← a,← b] at ih
   rw [if_pos (by omega),idx_lt i1,idx_lt i2]
   simp only [P_moved,wrap_id (n:=(i:Int)+1) ⟨by omega,by omega⟩]
   rw [if_pos (by rw [List.length_append,List.length_map,List.length_take];omega),if_pos (by rw [List.length_append,List.length_map,List.length_take];omega)]
   exact ih
theorem PKr3 (F:Nat)(hF:66≤F)(v0:Int)(k:Nat)(v3:Int)(v7 v8:List Pl)(v9 v10:Int)(S D:List Pl)(n:Nat)(hn:n≤64)(hS:S.length=n)(hD:D.length=n) :
  Ptb_KronL3 F v0 (n:Int) 0 v3 S D (k:Int) v7 v8 v9 v10=some (if n=0 then .inl (v9,v10) else .inr (v9,v10,S.map (mv v0 k),D.map (mv v0 k))):=by
 obtain ⟨f,rfl⟩:∃ f,F=f+1:=⟨F-1,by omega⟩
 rw [Ptb_KronL3]
 by_cases h0:n=0
 ·rw [if_neg (by omega),if_pos h0]
 ·have i1:0<S.length:=by omega
  have i2:0<D.length:=by omega
  have h:=PKr2 v0 k v3 v7 v8 v9 v10 S D [] [] n hn hS hD (by simp) (by simp) f (n-1) 1 (by omega) (by omega)
  have a:=map_step (mv v0 k) i1 []
  have b:=map_step (mv v0 k) i2 []
  simp only [List.nil_append,List.take_zero,List.map_nil,Nat.zero_add] at a b h
  rw [← a,← b] at h
  rw [if_pos (by omega),if_neg h0,show (0:Int)=((0:Nat):Int) from rfl,idx_lt i1,idx_lt i2]
  simp only [P_moved,show ((0:Nat):Int)=0 from rfl,wrap_id (n:=(0:Int)+1) ⟨by omega,by omega⟩]
  exact h
def kronA (N:Int)(S D:List Pl)(M:Int)(S' D':List Pl):Int×List Pl×List Pl×Int:=
 if chk N S D=true∧chk M S' D'=true then (if N+M>64 then (0,[],[],2) else (N+M,S'.map (mv (N+M) 0)++S.map (mv (N+M) S'.length),D'.map (mv (N+M) 0)++D.map (mv (N+M) S'.length),0)) else (0,[],[],140)
theorem P_Kron (F:Nat)(hF:66≤F)(N:Int)(S D:List Pl)(M:Int)(S' D':List Pl):Ptb_Kron F N S D M S' D'=some (kronA N S D M S' D'):=by
 unfold Ptb_Kron kronA
 rw [P_Check F hF,P_Check F hF]
 cases h1:chk N S D with
 |false=>simp
 |true=>
  cases h2:chk M S' D' with
  |false=>simp
  |true=>
   obtain ⟨n,t⟩:=chk_tab h1
   obtain ⟨m,t'⟩:=chk_tab h2
   have a1:=t.eN;have a2:=t.le;have a3:=t.ls;have a4:=t.ld
   have b1:=t'.eN;have b2:=t'.le;have b3:=t'.ls;have b4:=t'.ld
   simp only [if_true,and_self]
   rw [wrap_id (n:=N+M) ⟨by omega,by omega⟩]
   by_cases hn:N+M>64
   ·rw [if_pos hn,if_pos hn]
   ·rw [if_neg hn,if_neg hn]
    have k1:=PKr1 F hF (N+M) N S D M 0 (N+M) S' D' m b2 b3 b4
    rw [← b1] at k1
    rw [k1]
    by_cases h0:m=0
    ·have k3:=PKr3 F hF (N+M) m N S' D' 0 (N+M) S D n a2 a3 a4
     rw [← a1,← b1] at k3
     have e1:S'=[]:=List.length_eq_zero_iff.1 (by omega)
     have e2:D'=[]:=List.length_eq_zero_iff.1 (by omega)
     rw [if_pos h0]
     simp only [k3]
     by_cases h00:n=0
     ·have e3:S=[]:=List.length_eq_zero_iff.1 (by omega)
      have e4:D=[]:=List.length_eq_zero_iff.1 (by omega)
      rw [if_pos h00,e1,e2,e3,e4];rfl
     ·rw [if_neg h00,b3,e1,e2];rfl
    ·rw [if_neg h0]
     have k2:=PKr2 (N+M) m N S' D' 0 (N+M) S D (S'.map (mv (N+M) 0)) (D'.map (mv (N+M) 0)) n a2 a3 a4 (by rw [List.length_map];omega) (by rw [List.length_map];omega) F n 0 (by omega) (by omega)
     rw [show ((0:Nat):Int)=0 from rfl,List.take_zero,List.map_nil,List.append_nil,List.take_zero,List.map_nil,List.append_nil,← a1,← b1] at k2
     simp only [k2,b3]
theorem RKr0 (v0 v1 v4:Int)(v5 v6:List Pl)(v7:Int)(v8 v9:List Pl)(v10 v11:Int)(w:BitVec 64)(S D:List Pl)(n:Nat)(hn:n≤64)(hS:S.length=n)(hD:D.length=n):∀ (f m i:Nat),i+m=n→m<f→
  Pref14_KronL0 f v0 v1 w (i:Int) v4 v5 v6 v7 v8 v9 v10 v11 (n:Int) S D ((S.take i).map (mv v0 w.toNat)) ((D.take i).map (mv v0 w.toNat))=some (.inr (v0,v1,v4,v5,v6,v7,v8,v9,v10,v11,S.map (mv v0 w.toNat),D.map (mv v0 w.toNat)))
 |0,m,i,_,h=>by omega
 |f+1,m,i,e,h=>by
  rw [Pref14_KronL0]
  cases m with
  |zero=>rw [if_neg (by omega),List.take_of_length_le (by omega),List.take_of_length_le (by omega)]
  |succ m=>
   have i1:i<S.length:=by omega
   have i2:i<D.length:=by omega
   have ih:=RKr0 v0 v1 v4 v5 v6 v7 v8 v9 v10 v11 w S D n hn hS hD f m (i+1) (by omega) (by omega)
   have a:=map_step (mv v0 w.toNat) i1 []
   have b:=map_step (mv v0 w.toNat) i2 []
   simp only [List.nil_append] at a b
   rw [show ((i+1:Nat):Int)=(i:Int)+1 by omega,← a,← b] at ih
   rw [if_pos (by omega),idx_lt i1,idx_lt i2]
   simp only [wrap_id (n:=(i:Int)+1) ⟨by omega,by omega⟩]
   rw [if_pos (by rw [List.length_map,List.length_take];omega),if_pos (by rw [List.length_map,List.length_take];omega)]
   exact ih
theorem RKr1 (F:Nat)(hF:66≤F)(v0 v1 v4:Int)(v5 v6:List Pl)(v7:Int)(v8 v9:List Pl)(v10 v11:Int)(w:BitVec 64)(S D:List Pl)(n:Nat)(hn:n≤64)(hS:S.length=n)(hD:D.length=n) :
  Pref14_KronL1 F v0 v1 w 0 v4 v5 v6 v7 v8 v9 v10 v11 (n:Int) S D=some (if n=0 then .inl (v0,v1,v4,v5,v6,v7,v8,v9,v10,v11) else .inr (v0,v1,v4,v5,v6,v7,v8,v9,v10,v11,S.map (mv v0 w.toNat),D.map (mv v0 w.toNat))):=by
 obtain ⟨f,rfl⟩:∃ f,F=f+1:=⟨F-1,by omega⟩
 rw [Pref14_KronL1]
 by_cases h0:n=0
 ·rw [if_neg (by omega),if_pos h0]
 ·have i1:0<S.length:=by omega
  have i2:0<D.length:=by omega
  have h:=RKr0 v0 v1 v4 v5 v6 v7 v8 v9 v10 v11 w S D n hn hS hD f (n-1) 1 (by omega) (by omega)
  have a:=map_step (mv v0 w.toNat) i1 []
  have b:=map_step (mv v0 w.toNat) i2 []
  simp only [List.nil_append,List.take_zero,List.map_nil,Nat.zero_add] at a b
  rw [← a,← b] at h
  rw [if_pos (by omega),if_neg h0,show (0:Int)=((0:Nat):Int) from rfl,idx_lt i1,idx_lt i2]
  simp only [show ((0:Nat):Int)=0 from rfl,wrap_id (n:=(0:Int)+1) ⟨by omega,by omega⟩]
  exact h
theorem RKr2 (v0 v1 v4:Int)(v5 v6:List Pl)(v7:Int)(v8 v9:List Pl)(v10 v11:Int)(w:BitVec 64)(S D A B:List Pl)(n:Nat)(hn:n≤64)(hS:S.length=n)(hD:D.length=n)(hA:A.length≤64)(hB:B.length≤64):∀ (f m i:Nat),i+m=n→m<f→
  Pref14_KronL2 v0 v1 w v4 v5 v6 v7 v8 v9 v10 v11 (n:Int) S D f (i:Int) (A++(S.take i).map (mv v0 w.toNat)) (B++(D.take i).map (mv v0 w.toNat))=some (A++S.map (mv v0 w.toNat),B++D.map (mv v0 w.toNat))
 |0,m,i,_,h=>by omega
 |f+1,m,i,e,h=>by
  rw [Pref14_KronL2]
  cases m with
  |zero=>rw [if_neg (by omega),List.take_of_length_le (by omega),List.take_of_length_le (by omega)]
  |succ m=>
   have i1:i<S.length:=by omega
   have i2:i<D.length:=by omega
   have ih:=RKr2 v0 v1 v4 v5 v6 v7 v8 v9 v10 v11 w S D A B n hn hS hD hA hB f m (i+1) (by omega) (by omega)
   have a:=map_step (mv v0 w.toNat) i1 A
   have b:=map_step (mv v0 w.toNat) i2 B
   rw [show ((i+1:Nat):Int)=(i:Int)+1 by omega,← a,← b] at ih
   rw [if_pos (by omega),idx_lt i1,idx_lt i2]
   simp only [wrap_id (n:=(i:Int)+1) ⟨by omega,by omega⟩]
   rw [if_pos (by rw [List.length_append,List.length_map,List.length_take];omega),if_pos (by rw [List.length_append,List.length_map,List.length_take];omega)]
   exact ih
theorem R_Kron (F:Nat)(hF:66≤F)(N:Int)(S D:List Pl)(M:Int)(S' D':List Pl):Pref14_Kron F N S D M S' D'=some (kronA N S D M S' D'):=by
 unfold Pref14_Kron kronA
 rw [R_Right F hF,R_Right F hF]
 cases h1:chk N S D with
 |false=>simp
 |true=>
  cases h2:chk M S' D' with
  |false=>simp
  |true=>
   obtain ⟨n,t⟩:=chk_tab h1
   obtain ⟨m,t'⟩:=chk_tab h2
   have a1:=t.eN;have a2:=t.le;have a3:=t.ls;have a4:=t.ld
   have b1:=t'.eN;have b2:=t'.le;have b3:=t'.ls;have b4:=t'.ld
   simp only [if_true,and_self,cond_true]
   rw [wrap_id (n:=N+M) ⟨by omega,by omega⟩]
   by_cases hn:N+M>64
   ·rw [if_pos hn,if_pos hn]
   ·rw [if_neg hn,if_neg hn]
    have wM:(BitVec.ofInt 64 M).toNat=m:=by rw [b1,ofInt_nat (by omega)]
    obtain ⟨f,hf⟩:∃ f,F=f+3:=⟨F-3,by omega⟩
    have k1:=RKr1 F hF (N+M) 0 N S D M S' D' 0 (N+M) 0#64 S' D' m b2 b3 b4
    have k1':=fun v1=>RKr1 F hF (N+M) v1 N S D M S' D' 0 (N+M) (BitVec.ofInt 64 M) S D n a2 a3 a4
    have k2:=fun A B hA hB=>RKr2 (N+M) 1 N S D M S' D' 0 (N+M) (BitVec.ofInt 64 M) S D A B n a2 a3 a4 hA hB F n 0 (by omega) (by omega)
    simp only [show ((0:Nat):Int)=0 from rfl,List.take_zero,List.map_nil,List.append_nil,← a1,← b1,wM,show (0#64).toNat=0 from rfl] at k1 k1' k2
    have l4:∀ G,Pref14_KronL4 F (f+3) (N+M) 0 N S D M S' D' 0 (N+M)=G→Pref14_KronL4 F F (N+M) 0 N S D M S' D' 0 (N+M)=G:=fun G h=>by
     rw [← hf] at h;exact h
    have w1:IntKind.i64.wrap ((0:Int)+1)=1:=wrap_id ⟨by omega,by omega⟩
    have w2:IntKind.i64.wrap ((1:Int)+1)=2:=wrap_id ⟨by omega,by omega⟩
    by_cases h0:m=0
    ·have e1:S'=[]:=List.length_eq_zero_iff.1 (by omega)
     have e2:D'=[]:=List.length_eq_zero_iff.1 (by omega)
     rw [if_pos h0] at k1
     by_cases h00:n=0
     ·have e3:S=[]:=List.length_eq_zero_iff.1 (by omega)
      have e4:D=[]:=List.length_eq_zero_iff.1 (by omega)
      have q:=l4 (some (.inl (0,N+M))) (by
       rw [Pref14_KronL4,if_pos (by omega),if_neg (by omega),k1]
       simp only [w1]
       rw [Pref14_KronL4,if_pos (by omega),if_pos rfl,k1' 1,if_pos h00]
       simp only [w2]
       rw [Pref14_KronL4,if_neg (by omega)])
      rw [q,e1,e2,e3,e4];rfl
     ·have q:=l4 (some (.inr (0,N+M,S.map (mv (N+M) m),D.map (mv (N+M) m)))) (by
       rw [Pref14_KronL4,if_pos (by omega),if_neg (by omega),k1]
       simp only [w1]
       rw [Pref14_KronL4,if_pos (by omega),if_pos rfl,k1' 1,if_neg h00]
       simp only [w2]
       rw [Pref14_KronL3,if_neg (by omega)])
      rw [q,b3,e1,e2];rfl
    ·rw [if_neg h0] at k1
     have q:=l4 (some (.inr (0,N+M,S'.map (mv (N+M) 0)++S.map (mv (N+M) m),D'.map (mv (N+M) 0)++D.map (mv (N+M) m)))) (by
      rw [Pref14_KronL4,if_pos (by omega),if_neg (by omega),k1]
      simp only [w1]
      rw [Pref14_KronL3,if_pos (by omega),if_pos rfl,k2 _ _ (by rw [List.length_map];omega) (by rw [List.length_map];omega)]
      simp only [w2]
      rw [Pref14_KronL3,if_neg (by omega)])
     rw [q,b3]
end Go.Proofs.YtogkkamlmklpkaaDoor.Ab
/- Plain law: Order, the program's and the reference's. No condition: lemmas only. -/
set_option maxRecDepth 100000
set_option linter.unusedVariables false
set_option linter.unusedSimpArgs false
namespace Go.Proofs.YtogkkamlmklpkaaDoor.Ab
open Go
def ordW (x:BitVec 64):List Int→Nat→BitVec 64→BitVec 64
 | [],_,acc=>acc
 |w::l,i,acc=>ordW x l (i+1) (acc ||| (((x >>> i) &&& 1#64) <<< w.toNat))
def ordP (l:List Int)(p:Pl):Pl:=⟨p.N,ordW p.X l 0 0#64,ordW p.Z l 0 0#64,p.Ph⟩
theorem list_set_set {l:List Pl}{i:Nat}{a b:Pl}:(l.set i a).set i b=l.set i b:=List.set_set ..
theorem PO10 (v0:List Int)(v2 v3 v4 v5 v9 v10:Int)(p:Pl)(v16:List Pl)(to:List Int)(n:Int)(ha:apartB to n=true)(hn:n≤64)(ht:to.length≤64)(L:List Pl)(j:Nat)(hj:j<L.length):∀ (f m i:Nat) (x z:BitVec 64),i+m=to.length→m<f→
  Ptb_OrderL10 v0 (j:Int) v2 v3 v4 v5 to (to.length:Int) v9 v10 p.N p.X p.Z p.Ph v16 f (i:Int) (L.set j ⟨p.N,x,z,p.Ph⟩)=some (L.set j ⟨p.N,ordW p.X (to.drop i) i x,ordW p.Z (to.drop i) i z,p.Ph⟩)
 |0,m,i,x,z,_,h=>by omega
 |f+1,m,i,x,z,e,h=>by
  unfold Ptb_OrderL10
  cases m with
  |zero=>rw [if_neg (by omega),List.drop_of_length_le (by omega)];rfl
  |succ m=>
   have i1:i<to.length:=by omega
   obtain ⟨a1,a2,_⟩:=apart_at ha i1
   have ih:=PO10 v0 v2 v3 v4 v5 v9 v10 p v16 to n ha hn ht L j hj f m (i+1) (x ||| (((p.X >>> i) &&& 1#64) <<< to[i].toNat)) (z ||| (((p.Z >>> i) &&& 1#64) <<< to[i].toNat)) (by omega) (by omega)
   rw [show ((i+1:Nat):Int)=(i:Int)+1 by omega] at ih
   rw [if_pos (by omega),idxI i1,idx_lt (l:=L.set j ⟨p.N,x,z,p.Ph⟩) (by rw [List.length_set];exact hj),List.getElem_set_self]
   simp only [Int.toNat_natCast]
   rw [if_neg (by omega),if_neg (by omega),list_set_set,idx_lt (l:=L.set j _) (by rw [List.length_set];exact hj),List.getElem_set_self]
   simp only []
   rw [list_set_set,wrap_id (n:=(i:Int)+1) ⟨by omega,by omega⟩,List.drop_eq_getElem_cons i1,ordW,ordW]
   exact ih
theorem PO12 (v0:List Int)(v2 v3 v4 v5 v9 v10:Int)(p:Pl)(v16:List Pl)(to:List Int)(n:Int)(ha:apartB to n=true)(hn:n≤64)(ht:to.length≤64)(L:List Pl)(j:Nat)(hj:j<L.length):∀ (f m i:Nat) (x z:BitVec 64),i+m=to.length→m<f→
  Ptb_OrderL12 v0 (j:Int) v2 v3 v4 v5 to (to.length:Int) v9 v10 p.N p.X p.Z p.Ph v16 f (i:Int) (L.set j ⟨p.N,x,z,p.Ph⟩)=some (L.set j ⟨p.N,ordW p.X (to.drop i) i x,ordW p.Z (to.drop i) i z,p.Ph⟩)
 |0,m,i,x,z,_,h=>by omega
 |f+1,m,i,x,z,e,h=>by
  unfold Ptb_OrderL12
  cases m with
  |zero=>rw [if_neg (by omega),List.drop_of_length_le (by omega)];rfl
  |succ m=>
   have i1:i<to.length:=by omega
   obtain ⟨a1,a2,_⟩:=apart_at ha i1
   have ih:=PO12 v0 v2 v3 v4 v5 v9 v10 p v16 to n ha hn ht L j hj f m (i+1) (x ||| (((p.X >>> i) &&& 1#64) <<< to[i].toNat)) (z ||| (((p.Z >>> i) &&& 1#64) <<< to[i].toNat)) (by omega) (by omega)
   rw [show ((i+1:Nat):Int)=(i:Int)+1 by omega] at ih
   rw [if_pos (by omega),idxI i1,idx_lt (l:=L.set j ⟨p.N,x,z,p.Ph⟩) (by rw [List.length_set];exact hj),List.getElem_set_self]
   simp only [Int.toNat_natCast]
   rw [if_neg (by omega),if_neg (by omega),list_set_set,idx_lt (l:=L.set j _) (by rw [List.length_set];exact hj),List.getElem_set_self]
   simp only []
   rw [list_set_set,wrap_id (n:=(i:Int)+1) ⟨by omega,by omega⟩,List.drop_eq_getElem_cons i1,ordW,ordW]
   exact ih
theorem PO11 (F:Nat)(hF:66≤F)(v1 v2 v5 v6:Int)(v8:List Pl)(to:List Int)(N:Int)(ha:apartB to N=true)(hN:N≤64)(ht:to.length≤64)(S:List Pl)(n:Nat)(hn:n≤64)(hS:S.length=n):∀ (f m i:Nat),i+m=n→m<f→
  Ptb_OrderL11 F to v1 v2 (n:Int) v5 v6 v8 f (i:Int) (part2 (ordP to) S i)=some (S.map (ordP to))
 |0,m,i,_,h=>by omega
 |f+1,m,i,e,h=>by
  unfold Ptb_OrderL11
  cases m with
  |zero=>rw [if_neg (by omega),part2_all _ (by omega)]
  |succ m=>
   have i1:i<S.length:=by omega
   have l1:i<(part2 (ordP to) S i).length:=by rw [part2_len _ (by omega)];exact i1
   have ih:=PO11 F hF v1 v2 v5 v6 v8 to N ha hN ht S n hn hS f m (i+1) (by omega) (by omega)
   rw [show ((i+1:Nat):Int)=(i:Int)+1 by omega] at ih
   rw [if_pos (by omega),idx_lt l1,part2_at _ i1]
   simp only [Int.toNat_natCast]
   rw [idx_lt (l:=(part2 (ordP to) S i).set i _) (by rw [List.length_set];exact l1),List.getElem_set_self]
   simp only []
   have h10:=PO10 to v1 v2 (n:Int) (i:Int) v5 v6 S[i] v8 to N ha hN ht (part2 (ordP to) S i) i l1 F to.length 0 0#64 0#64 (by omega) (by omega)
   rw [show ((0:Nat):Int)=0 from rfl,List.drop_zero] at h10
   rw [list_set_set,h10]
   simp only []
   have:=part2_set (ordP to) i1
   rw [wrap_id (n:=(i:Int)+1) ⟨by omega,by omega⟩,show (part2 (ordP to) S i).set i ⟨S[i].N,ordW S[i].X to 0 0#64,ordW S[i].Z to 0 0#64,S[i].Ph⟩=part2 (ordP to) S (i+1) from this]
   exact ih
theorem PO13 (F:Nat)(hF:66≤F)(v1 v2 v5 v6:Int)(v8:List Pl)(to:List Int)(N:Int)(ha:apartB to N=true)(hN:N≤64)(ht:to.length≤64)(S:List Pl)(n:Nat)(hn:n≤64)(hS:S.length=n):∀ (f m i:Nat),i+m=n→m<f→
  Ptb_OrderL13 F to v1 v2 (n:Int) v5 v6 v8 f (i:Int) (part2 (ordP to) S i)=some (S.map (ordP to))
 |0,m,i,_,h=>by omega
 |f+1,m,i,e,h=>by
  unfold Ptb_OrderL13
  cases m with
  |zero=>rw [if_neg (by omega),part2_all _ (by omega)]
  |succ m=>
   have i1:i<S.length:=by omega
   have l1:i<(part2 (ordP to) S i).length:=by rw [part2_len _ (by omega)];exact i1
   have ih:=PO13 F hF v1 v2 v5 v6 v8 to N ha hN ht S n hn hS f m (i+1) (by omega) (by omega)
   rw [show ((i+1:Nat):Int)=(i:Int)+1 by omega] at ih
   rw [if_pos (by omega),idx_lt l1,part2_at _ i1]
   simp only [Int.toNat_natCast]
   rw [idx_lt (l:=(part2 (ordP to) S i).set i _) (by rw [List.length_set];exact l1),List.getElem_set_self]
   simp only []
   have h10:=PO12 to v1 v2 (n:Int) (i:Int) v5 v6 S[i] v8 to N ha hN ht (part2 (ordP to) S i) i l1 F to.length 0 0#64 0#64 (by omega) (by omega)
   rw [show ((0:Nat):Int)=0 from rfl,List.drop_zero] at h10
   rw [list_set_set,h10]
   simp only []
   have:=part2_set (ordP to) i1
   rw [wrap_id (n:=(i:Int)+1) ⟨by omega,by omega⟩,show (part2 (ordP to) S i).set i ⟨S[i].N,ordW S[i].X to 0 0#64,ordW S[i].Z to 0 0#64,S[i].Ph⟩=part2 (ordP to) S (i+1) from this]
   exact ih
theorem PO14 (F:Nat)(hF:66≤F)(v3 v4:Int)(to:List Int)(N:Int)(ha:apartB to N=true)(hN:N≤64)(ht:to.length≤64)(S D:List Pl)(n:Nat)(hn:n≤64)(hS:S.length=n)(hD:D.length=n):Ptb_OrderL14 F to 2 v3 v4 F 0 S D=some (S.map (ordP to),D.map (ordP to)):=by
 have h1:=PO11 F hF 2 0 v3 v4 D to N ha hN ht S n hn hS F n 0 (by omega) (by omega)
 have h2:=PO13 F hF 2 1 v3 v4 (S.map (ordP to)) to N ha hN ht D n hn hD F n 0 (by omega) (by omega)
 rw [show ((0:Nat):Int)=0 from rfl,part2_0] at h1 h2
 obtain ⟨f,hf⟩:∃ f,F=f+3:=⟨F-3,by omega⟩
 have w1:IntKind.i64.wrap ((0:Int)+1)=1:=wrap_id ⟨by omega,by omega⟩
 have w2:IntKind.i64.wrap ((1:Int)+1)=2:=wrap_id ⟨by omega,by omega⟩
 have:∀ G,G=F→Ptb_OrderL14 G to 2 v3 v4 (f+3) 0 S D=some (S.map (ordP to),D.map (ordP to)):=fun G hG=>by
  subst hG
  rw [Ptb_OrderL14,if_pos (by omega),if_pos rfl,hS,h1]
  simp only [w1]
  rw [Ptb_OrderL14,if_pos (by omega),if_neg (by omega),if_pos rfl,hD,h2]
  simp only [w2]
  rw [Ptb_OrderL14,if_neg (by omega)]
 have:=this F rfl
 rw [← hf] at this
 exact this
theorem RO0 (v2:Int)(p:Pl)(v5 v6:Int)(v7 v8:BitVec 64)(v9 v10 v13:Int)(to:List Int)(n:Int)(ha:apartB to n=true)(hn:n≤64)(ht:to.length≤64):∀ (f m i:Nat) (x z:BitVec 64),i+m=to.length→m<f→
  Pref14_orderedL0 to v2 p.X p.Z v5 v6 v7 v8 v9 v10 v13 f (i:Int) x z=some (ordW p.X (to.drop i) i x,ordW p.Z (to.drop i) i z)
 |0,m,i,x,z,_,h=>by omega
 |f+1,m,i,x,z,e,h=>by
  unfold Pref14_orderedL0
  cases m with
  |zero=>rw [if_neg (by omega),List.drop_of_length_le (by omega)];rfl
  |succ m=>
   have i1:i<to.length:=by omega
   obtain ⟨a1,a2,_⟩:=apart_at ha i1
   have e1:(BitVec.ofInt 64 to[i]).toNat=to[i].toNat:=by
    obtain ⟨k,hk⟩:∃ k:Nat,to[i]=(k:Int):=⟨to[i].toNat,by omega⟩
    rw [hk,ofInt_nat (by omega),Int.toNat_natCast]
   have ih:=RO0 v2 p v5 v6 v7 v8 v9 v10 v13 to n ha hn ht f m (i+1) (x ||| (((p.X >>> i) &&& 1#64) <<< to[i].toNat)) (z ||| (((p.Z >>> i) &&& 1#64) <<< to[i].toNat)) (by omega) (by omega)
   rw [show ((i+1:Nat):Int)=(i:Int)+1 by omega] at ih
   rw [if_pos (by omega),idxI i1]
   simp only [wrap_id (n:=(i:Int)+1) ⟨by omega,by omega⟩,e1,ofInt_nat (k:=i) (by omega)]
   rw [List.drop_eq_getElem_cons i1,ordW,ordW]
   exact ih
theorem R_ordered (F:Nat)(hF:66≤F)(p:Pl)(to:List Int)(n:Int)(ha:apartB to n=true)(hn:n≤64)(ht:to.length≤64):Pref14_ordered F p.N p.X p.Z p.Ph to=some ((ordP to p).N,(ordP to p).X,(ordP to p).Z,(ordP to p).Ph):=by
 have:=RO0 p.N p p.Ph 0 0#64 0#64 0 p.N p.Ph to n ha hn ht F to.length 0 0#64 0#64 (by omega) (by omega)
 rw [show ((0:Nat):Int)=0 from rfl,List.drop_zero] at this
 unfold Pref14_ordered
 rw [this];rfl
theorem RO3 (F:Nat)(hF:66≤F)(v5 v6:Int)(to:List Int)(N:Int)(ha:apartB to N=true)(hN:N≤64)(ht:to.length≤64)(S D:List Pl)(n:Nat)(hn:n≤64)(hNn:N=n)(hS:S.length=n)(hD:D.length=n):∀ (f m i:Nat),i+m=n→m<f→
  Pref14_OrderL3 F to N S D v5 v6 f (i:Int) (part2 (ordP to) S i) (part2 (ordP to) D i)=some (S.map (ordP to),D.map (ordP to))
 |0,m,i,_,h=>by omega
 |f+1,m,i,e,h=>by
  unfold Pref14_OrderL3
  cases m with
  |zero=>rw [if_neg (by omega),part2_all _ (by omega),part2_all _ (by omega)]
  |succ m=>
   have i1:i<S.length:=by omega
   have i2:i<D.length:=by omega
   have ih:=RO3 F hF v5 v6 to N ha hN ht S D n hn hNn hS hD f m (i+1) (by omega) (by omega)
   rw [show ((i+1:Nat):Int)=(i:Int)+1 by omega] at ih
   rw [if_pos (by omega),idx_lt i1,idx_lt i2,idx_lt (l:=part2 (ordP to) S i) (by rw [part2_len _ (by omega)];exact i1),idx_lt (l:=part2 (ordP to) D i) (by rw [part2_len _ (by omega)];exact i2)]
   simp only [R_ordered F hF S[i] to N ha hN ht,R_ordered F hF D[i] to N ha hN ht,Int.toNat_natCast,wrap_id (n:=(i:Int)+1) ⟨by omega,by omega⟩]
   have a:=part2_set (ordP to) i1
   have b:=part2_set (ordP to) i2
   rw [show (part2 (ordP to) S i).set i ⟨(ordP to S[i]).N,(ordP to S[i]).X,(ordP to S[i]).Z,(ordP to S[i]).Ph⟩=part2 (ordP to) S (i+1) from a,show (part2 (ordP to) D i).set i ⟨(ordP to D[i]).N,(ordP to D[i]).X,(ordP to D[i]).Z,(ordP to D[i]).Ph⟩=part2 (ordP to) D (i+1) from b]
   exact ih
def ordA (N:Int)(S D:List Pl)(to:List Int):Int×List Pl×List Pl×Int:=
 if chk N S D=true then (if (to.length:Int)=N then (if apartB to N=true then (N,S.map (ordP to),D.map (ordP to),0) else (0,[],[],2)) else (0,[],[],2)) else (0,[],[],140)
theorem P_Order (F:Nat)(hF:66≤F)(N:Int)(S D:List Pl)(to:List Int):Ptb_Order F N S D to=some (ordA N S D to):=by
 unfold Ptb_Order ordA
 rw [P_Check F hF]
 cases hc:chk N S D with
 |false=>rfl
 |true=>
  obtain ⟨n,t⟩:=chk_tab hc
  have hN:=t.eN
  have hle:=t.le
  have hs:=t.ls
  have hd:=t.ld
  simp only [if_true]
  by_cases hl:(to.length:Int)=N
  ·rw [if_pos hl,if_pos hl,P_unlike F N to (by omega) (by omega)]
   cases ha:apartB to N with
   |false=>rfl
   |true=>
    simp only [cond_true,if_true]
    rw [P_copied (by omega) (by omega)]
    simp only []
    by_cases h0:n=0
    ·have e1:S=[]:=List.length_eq_zero_iff.1 (by omega)
     have e2:D=[]:=List.length_eq_zero_iff.1 (by omega)
     have e3:to=[]:=List.length_eq_zero_iff.1 (by omega)
     subst e1 e2 e3
     rw [if_pos rfl,if_pos rfl]
     obtain ⟨f,hf⟩:∃ f,F=f+3:=⟨F-3,by omega⟩
     have w1:IntKind.i64.wrap ((0:Int)+1)=1:=wrap_id ⟨by omega,by omega⟩
     have w2:IntKind.i64.wrap ((1:Int)+1)=2:=wrap_id ⟨by omega,by omega⟩
     have l0:∀ a b c d,Ptb_OrderL0 [] [] 2 a [] b 0 c d [] [] [] [] (f+3)=if (0:Int)<b then none else some ():=fun a b c d=>by
      rw [Ptb_OrderL0]
      split
      ·rfl
      ·rfl
     have:Ptb_OrderL1 (f+3) [] 2 0 N [] [] [] [] (f+3) 0=some ():=by
      rw [Ptb_OrderL1,if_pos (by omega),if_pos rfl,l0 _ _ _ _,if_neg (by simp)]
      simp only [w1]
      rw [Ptb_OrderL1,if_pos (by omega),if_neg (by omega),if_pos rfl,l0 _ _ _ _,if_neg (by simp)]
      simp only [w2]
      rw [Ptb_OrderL1,if_neg (by omega)]
     rw [← hf] at this
     rw [this];rfl
    ·have n1:¬ S=[]:=fun e=>by rw [e] at hs;simp at hs;omega
     have n2:¬ D=[]:=fun e=>by rw [e] at hd;simp at hd;omega
     rw [if_neg n1,if_neg n2,PO14 F hF 0 N to N ha (by omega) (by omega) S D n hle hs hd]
  ·rw [if_neg hl,if_neg hl]
theorem R_Order (F:Nat)(hF:66≤F)(N:Int)(S D:List Pl)(to:List Int):Pref14_Order F N S D to=some (ordA N S D to):=by
 unfold Pref14_Order ordA
 rw [R_Right F hF]
 cases hc:chk N S D with
 |false=>rfl
 |true=>
  obtain ⟨n,t⟩:=chk_tab hc
  have hN:=t.eN
  have hle:=t.le
  have hs:=t.ls
  have hd:=t.ld
  simp only [if_true,cond_true]
  by_cases hl:(to.length:Int)=N
  ·rw [if_pos hl,if_pos hl,R_apart F N to (by omega) (by omega)]
   cases ha:apartB to N with
   |false=>rfl
   |true=>
    simp only [cond_true,if_true]
    rw [R_Copy (by omega) (by omega)]
    simp only []
    by_cases h0:n=0
    ·have e1:S=[]:=List.length_eq_zero_iff.1 (by omega)
     have e2:D=[]:=List.length_eq_zero_iff.1 (by omega)
     subst e1 e2
     obtain ⟨f,rfl⟩:∃ f,F=f+1:=⟨F-1,by omega⟩
     rw [if_pos rfl,if_pos rfl,Pref14_OrderL0,if_neg (by omega)];rfl
    ·have n1:¬ S=[]:=fun e=>by rw [e] at hs;simp at hs;omega
     have n2:¬ D=[]:=fun e=>by rw [e] at hd;simp at hd;omega
     have:=RO3 F hF 0 N to N ha (by omega) (by omega) S D n hle hN hs hd F n 0 (by omega) (by omega)
     rw [show ((0:Nat):Int)=0 from rfl,part2_0,part2_0] at this
     rw [if_neg n1,if_neg n2,this]
  ·rw [if_neg hl,if_neg hl]
end Go.Proofs.YtogkkamlmklpkaaDoor.Ab
/- Plain law: an act done, all that is told: the laws of Hands and of Plays. No condition: lemmas only. -/
set_option maxRecDepth 100000
set_option linter.unusedVariables false
set_option linter.unusedSimpArgs false
namespace Go.Proofs.YtogkkamlmklpkaaDoor.Ab
open Go
def memA (N:Int)(S D:List Pl)(z:Pl):Int×Int:=if chk N S D=true then (if one N z=true then (memb N S D z S.length,0) else (0,2)) else (0,140)
theorem P_MemberA (F:Nat)(hF:66≤F)(N:Int)(S D:List Pl)(z:Pl):Ptb_Member F N S D z.N z.X z.Z z.Ph=some (memA N S D z):=by
 unfold memA
 cases hc:chk N S D with
 |false=>
  unfold Ptb_Member
  rw [P_Check F hF,hc];rfl
 |true=>
  obtain ⟨n,t⟩:=chk_tab hc
  rw [P_Member F hF hc t z,if_pos rfl,t.ls]
theorem R_MemberA (F:Nat)(hF:66≤F)(N:Int)(S D:List Pl)(z:Pl):Pref14_Member F N S D z.N z.X z.Z z.Ph=some (memA N S D z):=by
 unfold memA
 cases hc:chk N S D with
 |false=>
  unfold Pref14_Member
  rw [R_Right F hF,hc];rfl
 |true=>
  obtain ⟨n,t⟩:=chk_tab hc
  rw [R_Member F hF hc t z,if_pos rfl,t.ls]
theorem alike_self (F:Nat)(N:Int)(S D:List Pl)(h1:S.length<4611686018427387904)(h2:D.length<4611686018427387904)(k1:S.length<F)(k2:D.length<F):Pref14_Alike F N S D N S D=some true:=R_Alike F N S D h1 h2 k1 k2
def Small (r:Int×List Pl×List Pl×Int):Prop:=r.2.1.length≤64∧r.2.2.1.length≤64
theorem chk_small {N:Int}{S D:List Pl}(h:chk N S D=true):S.length≤64∧D.length≤64:=by
 obtain ⟨n,t⟩:=chk_tab h
 have:=t.le;have:=t.ls;have:=t.ld
 omega
theorem gate_small (N:Int)(S D:List Pl)(k:Int)(l:List Int):Small (gateA N S D k l):=by
 unfold gateA Small
 cases hc:chk N S D with
 |false=>simp
 |true=>
  have:=chk_small hc
  simp only [if_true]
  split
  ·split
   ·simp only [List.length_map];exact this
   ·simp
  ·simp
theorem proj_small (N:Int)(S D:List Pl)(q v:Int):Small (projA N S D q v):=by
 unfold projA Small
 cases hc:chk N S D with
 |false=>simp
 |true=>
  have:=chk_small hc
  simp only [if_true]
  split
  ·simp
  ·split
   ·simp
   ·split
    ·unfold proj
     split
     ·simp
     ·split
      ·exact this
      ·simp only [putS_len,putD_len];exact this
    ·simp
theorem setl_small (N:Int)(S D:List Pl)(q v:Int):Small (setlA N S D q v):=by
 unfold setlA
 simp only []
 split
 ·split
  ·exact proj_small ..
  ·exact gate_small ..
 ·exact proj_small ..
theorem ord_small (N:Int)(S D:List Pl)(to:List Int):Small (ordA N S D to):=by
 unfold ordA Small
 cases hc:chk N S D with
 |false=>simp
 |true=>
  have:=chk_small hc
  simp only [if_true]
  split
  ·split
   ·simp only [List.length_map];exact this
   ·simp
  ·simp
theorem kron_small (N:Int)(S D:List Pl)(M:Int)(S' D':List Pl):Small (kronA N S D M S' D'):=by
 unfold kronA Small
 split
 ·rename_i h
  obtain ⟨n,t⟩:=chk_tab h.1
  obtain ⟨m,t'⟩:=chk_tab h.2
  have a1:=t.eN;have a3:=t.ls;have a4:=t.ld
  have b1:=t'.eN;have b3:=t'.ls;have b4:=t'.ld
  split
  ·simp
  ·simp only [List.length_append,List.length_map];omega
 ·simp
theorem done_same (F:Nat)(hF:200≤F)(N:Int)(S D:List Pl)(K G V:Int)(Q:List Int)(hq:Q.length<4611686018427387904)(hQ:Q.length<F)(h1:S.length<4611686018427387904)(h2:D.length<4611686018427387904)(f1:S.length<F)(f2:D.length<F) :
  ∃ N' S' D',Plaw14_done F N S D N S D K G Q V=some (N',S',D',N',S',D',true)∧(S'.length≤64∨S'.length=S.length)∧(D'.length≤64∨D'.length=D.length):=by
 have stay:∃ N' S' D',some (N,S,D,N,S,D,true)=some (N',S',D',N',S',D',true)∧(S'.length≤64∨S'.length=S.length)∧(D'.length≤64∨D'.length=D.length):=⟨N,S,D,rfl,.inr rfl,.inr rfl⟩
 have fst:∃ q,Plaw14_first Q=some q:=by
  unfold Plaw14_first
  by_cases h:(Q.length:Int)=0
  ·exact ⟨_,by rw [if_pos h]⟩
  ·exact ⟨Q[0]'(by omega),by rw [if_neg h,show (0:Int)=((0:Nat):Int) from rfl,idxI (by omega)]⟩
 have key:∀ r:Int×List Pl×List Pl×Int,Small r→∃ N' S' D',
   (if (Plaw14_num r.2.2.2)=r.2.2.2 then match Pref14_Alike F r.1 r.2.1 r.2.2.1 r.1 r.2.1 r.2.2.1 with
    |none=>none
    |some b=>(bif b then (if (Plaw14_num r.2.2.2)=(0:Int) then some (r.1,r.2.1,r.2.2.1,r.1,r.2.1,r.2.2.1,true) else some (N,S,D,N,S,D,true)) else some (N,S,D,N,S,D,false))
    else some (N,S,D,N,S,D,false))=some (N',S',D',N',S',D',true)∧(S'.length≤64∨S'.length=S.length)∧(D'.length≤64∨D'.length=D.length):=fun r hr=>by
  obtain ⟨s1,s2⟩:=hr
  rw [alike_self F r.1 r.2.1 r.2.2.1 (by omega) (by omega) (by omega) (by omega),if_pos (show Plaw14_num r.2.2.2=r.2.2.2 from rfl)]
  simp only [cond_true]
  by_cases h:Plaw14_num r.2.2.2=0
  ·rw [if_pos h];exact ⟨_,_,_,rfl,.inl s1,.inl s2⟩
  ·rw [if_neg h];exact stay
 obtain ⟨q0,eq0⟩:=fst
 unfold Plaw14_done
 by_cases k1:K=1
 ·rw [if_pos k1,P_Gate F (by omega) N S D G Q hq hQ,R_Gate F (by omega) N S D G Q hq hQ]
  exact key _ (gate_small N S D G Q)
 ·rw [if_neg k1]
  by_cases k2:K=2
  ·rw [if_pos k2,eq0]
   simp only []
   rw [P_Project F (by omega),proj_same F (by omega)]
   exact key _ (proj_small N S D q0 V)
  ·rw [if_neg k2]
   by_cases k3:K=3
   ·rw [if_pos k3,eq0]
    simp only []
    rw [P_Settle F (by omega),R_Settle F (by omega)]
    exact key _ (setl_small N S D q0 V)
   ·rw [if_neg k3]
    by_cases k4:K=4
    ·rw [if_pos k4,P_Order F (by omega),R_Order F (by omega)]
     exact key _ (ord_small N S D Q)
    ·rw [if_neg k4]
     by_cases k5:K=5
     ·rw [if_pos k5,P_New F (by omega),R_New F (by omega)]
      simp only []
      rw [P_Kron F (by omega),R_Kron F (by omega)]
      exact key _ (kron_small ..)
     ·rw [if_neg k5,if_pos (show Plaw14_num 0=0 from rfl),alike_self F N S D h1 h2 f1 f2]
      exact stay
theorem tells0 (F:Nat)(hF:200≤F)(side:List Int)(N:Int)(S D:List Pl)(z:Pl):∀ (f m:Nat) (i:Int),i+m=66→m<f→-1≤i→Plaw14_tellsL0 F side N S D N S D z.N z.X z.Z z.Ph f i=some (.inr ())
 |0,m,i,_,h,_=>by omega
 |f+1,m,i,e,h,h0=>by
  unfold Plaw14_tellsL0
  by_cases hi:i≤(if (65:Int)<N then 65 else N)
  ·have hi':i≤65:=by
    split at hi<;>omega
   obtain ⟨m,rfl⟩:∃ k,m=k+1:=⟨m-1,by omega⟩
   have ih:=tells0 F hF side N S D z f m (i+1) (by omega) (by omega) (by omega)
   rw [if_pos hi,P_Odds F (by omega),R_Odds F (by omega)]
   simp only []
   rw [if_pos trivial]
   rw [if_pos (show Plaw14_num (oddsA N S D i).2=(oddsA N S D i).2 from rfl),wrap_id (n:=i+1) ⟨by omega,by omega⟩]
   exact ih
  ·rw [if_neg hi]
theorem tells2 (v1:Int)(v2 v3:List Pl)(v4:Int)(v5 v6:List Pl):∀ (f m i:Nat) (l:List Pl),i+m=l.length→m<f→l.length≤64→Plaw14_tellsL2 v1 v2 v3 v4 v5 v6 f (i:Int) l=some ()
 |0,m,i,l,_,h,_=>by omega
 |f+1,m,i,l,e,h,hl=>by
  unfold Plaw14_tellsL2
  cases m with
  |zero=>rw [if_neg (by omega)]
  |succ m=>
   have i1:i<l.length:=by omega
   have ih:=tells2 v1 v2 v3 v4 v5 v6 f m (i+1) (l.set i ⟨77,0#64,0#64,0⟩) (by rw [List.length_set];omega) (by omega) (by rw [List.length_set];exact hl)
   rw [show ((i+1:Nat):Int)=(i:Int)+1 by omega] at ih
   rw [if_pos (by omega),idx_lt i1]
   simp only [Int.toNat_natCast,wrap_id (n:=(i:Int)+1) ⟨by omega,by omega⟩]
   exact ih
theorem tells_same (F:Nat)(hF:200≤F)(N:Int)(S D:List Pl)(z:Pl)(side:List Int)(hs:side.length<4611686018427387904)(hS:side.length<F)(h1:S.length<4611686018427387904)(h2:D.length<4611686018427387904)(f1:S.length<F)(f2:D.length<F) :
  Plaw14_tells F N S D N S D z.N z.X z.Z z.Ph side=some true:=by
 have l64:=canA_len N S D
 unfold Plaw14_tells
 rw [tells0 F hF side N S D z F 67 (-1) (by omega) (by omega) (by omega),P_MemberA F (by omega),R_MemberA F (by omega),P_Cut F hF N S D side hs hS,R_Cut F hF N S D side hs hS,P_Canon F hF,R_Canon F hF]
 simp only [Plaw14_num,if_true]
 have t2:=tells2 N S D N S D F (canA N S D).1.length 0 (canA N S D).1 (by omega) (by omega) l64
 rw [show ((0:Nat):Int)=0 from rfl] at t2
 have sr:=R_SameRowsE F (canA N S D).1 (canA N S D).1 (by omega) (by omega) (by omega)
 rw [decide_eq_true rfl] at sr
 have al:=alike_self F N S D h1 h2 f1 f2
 by_cases e:(canA N S D).1=[]
 ·rw [e] at sr
  obtain ⟨f,hf⟩:∃ f,F=f+1:=⟨F-1,by omega⟩
  have t1:Plaw14_tellsL1 [] 0 N S D N S D F=some ():=by
   rw [hf,Plaw14_tellsL1,if_neg (by simp)]
  rw [if_pos e,e]
  simp only [sr,cond_true,t1,al]
 ·rw [if_neg e]
  simp only [sr,cond_true,t2,al]
theorem law_tableauHands (F:Nat)(hF:266≤F)(N:Int)(S D:List Pl)(M:Int)(S' D':List Pl)(K G:Int)(Q:List Int)(V:Int)(z:Pl)(side:List Int)
  (_:S.length*32≤140737488355328) (_:D.length*32≤140737488355328) (_:S'.length*32≤140737488355328) (_:D'.length*32≤140737488355328) (_:Q.length*8≤140737488355328) (_:side.length*8≤140737488355328)
  (_:266+S.length+D.length+S'.length+D'.length+Q.length+side.length≤F):Plaw14_TableauHands F N S D M S' D' K G Q V z.N z.X z.Z z.Ph side=some true:=by
 obtain ⟨N1,S1,D1,e,_⟩:=done_same F (by omega) N S D K G V Q (by omega) (by omega) (by omega) (by omega) (by omega) (by omega)
 have ks:=kron_small N S D M S' D'
 unfold Small at ks
 have ts:=tells_same F (by omega) N S D z side (by omega) (by omega) (by omega) (by omega) (by omega) (by omega)
 unfold Plaw14_TableauHands
 rw [e,P_Kron F (by omega),R_Kron F (by omega),P_Same F (by omega),R_Same F (by omega)]
 simp only [cond_true,Plaw14_num,if_true]
 rw [alike_self F (kronA N S D M S' D').1 (kronA N S D M S' D').2.1 (kronA N S D M S' D').2.2.1 (by omega) (by omega) (by omega) (by omega)]
 simp only [cond_true,ts]
 cases sameA N S D M S' D'<;>rfl
end Go.Proofs.YtogkkamlmklpkaaDoor.Ab
