/- Plain law: a tableau carried through a gate; Settle; the program's and the reference's. No condition: lemmas only. -/
import Derived.Test.YtogkkamlmklpkaaDoorWD
set_option maxRecDepth 100000
set_option linter.unusedVariables false
set_option linter.unusedSimpArgs false
namespace Go.Proofs.YtogkkamlmklpkaaDoor.Ab
open Go
def part2 (f:Pl→Pl)(S:List Pl)(i:Nat):List Pl:=(S.take i).map f++S.drop i
theorem part2_len (f:Pl→Pl){S:List Pl}{i:Nat}(h:i≤S.length):(part2 f S i).length=S.length:=by
 unfold part2
 rw [List.length_append,List.length_map,List.length_take,List.length_drop];omega
theorem part2_0 (f:Pl→Pl)(S:List Pl):part2 f S 0=S:=by unfold part2;simp
theorem part2_all (f:Pl→Pl){S:List Pl}{i:Nat}(h:S.length≤i):part2 f S i=S.map f:=by
 unfold part2
 rw [List.take_of_length_le h,List.drop_of_length_le h,List.append_nil]
theorem part2_at (f:Pl→Pl){S:List Pl}{i:Nat}(h:i<S.length):(part2 f S i)[i]'(by rw [part2_len f (by omega)];exact h)=S[i]:=by
 have ll:((S.take i).map f).length=i:=by rw [List.length_map,List.length_take];omega
 have:(part2 f S i)[i]? = some S[i]:=by
  unfold part2
  rw [List.getElem?_append_right (by omega),ll,Nat.sub_self,List.getElem?_drop,Nat.add_zero,List.getElem?_eq_getElem h]
 rw [List.getElem?_eq_getElem (by rw [part2_len f (by omega)];exact h)] at this
 exact Option.some.inj this
theorem part2_set (f:Pl→Pl){S:List Pl}{i:Nat}(h:i<S.length):(part2 f S i).set i (f S[i])=part2 f S (i+1):=by
 have ll:((S.take i).map f).length=i:=by rw [List.length_map,List.length_take];omega
 unfold part2
 rw [List.set_append_right _ _ (by omega),ll,Nat.sub_self,List.drop_eq_getElem_cons h,List.set_cons_zero,List.take_add_one,List.getElem?_eq_getElem h,List.map_append,List.append_assoc]
 rfl
theorem PGt3 (F:Nat)(hF:66≤F){N:Int}{n:Nat}(hN:N=n)(hn:n≤64){k:Int}{l:List Int}(h1:1≤k)(h2:k≤17)(hg:gchk k l N=0)(v3:List Pl){S:List Pl}(hS:S.length=n)(hr:Rowy N S):∀ (f m i:Nat),i+m=n→m<f→
  Ptb_GateL3 F (n:Int) v3 k l f (i:Int) (part2 (thr k l) S i)=some (S.map (thr k l))
 |0,m,i,_,h=>by omega
 |f+1,m,i,e,h=>by
  unfold Ptb_GateL3
  cases m with
  |zero=>rw [if_neg (by omega),part2_all _ (by omega)]
  |succ m=>
   have i1:i<S.length:=by omega
   have ih:=PGt3 F hF hN hn h1 h2 hg v3 hS hr f m (i+1) (by omega) (by omega)
   rw [show ((i+1:Nat):Int)=(i:Int)+1 by omega] at ih
   rw [if_pos (by omega),idx_lt (l:=part2 (thr k l) S i) (by rw [part2_len _ (by omega)];exact i1),part2_at _ i1]
   obtain ⟨o1,o2⟩:=hr.at i1
   simp only [(Through F hF hN hn h1 h2 hg o1 o2).1,Int.toNat_natCast,wrap_id (n:=(i:Int)+1) ⟨by omega,by omega⟩]
   have:=part2_set (thr k l) i1
   rw [this]
   exact ih
theorem PGt4 (F:Nat)(hF:66≤F){N:Int}{n:Nat}(hN:N=n)(hn:n≤64){k:Int}{l:List Int}(h1:1≤k)(h2:k≤17)(hg:gchk k l N=0)(v3:List Pl){S:List Pl}(hS:S.length=n)(hr:Rowy N S):∀ (f m i:Nat),i+m=n→m<f→
  Ptb_GateL4 F (n:Int) v3 k l f (i:Int) (part2 (thr k l) S i)=some (S.map (thr k l))
 |0,m,i,_,h=>by omega
 |f+1,m,i,e,h=>by
  unfold Ptb_GateL4
  cases m with
  |zero=>rw [if_neg (by omega),part2_all _ (by omega)]
  |succ m=>
   have i1:i<S.length:=by omega
   have ih:=PGt4 F hF hN hn h1 h2 hg v3 hS hr f m (i+1) (by omega) (by omega)
   rw [show ((i+1:Nat):Int)=(i:Int)+1 by omega] at ih
   rw [if_pos (by omega),idx_lt (l:=part2 (thr k l) S i) (by rw [part2_len _ (by omega)];exact i1),part2_at _ i1]
   obtain ⟨o1,o2⟩:=hr.at i1
   simp only [(Through F hF hN hn h1 h2 hg o1 o2).1,Int.toNat_natCast,wrap_id (n:=(i:Int)+1) ⟨by omega,by omega⟩]
   have:=part2_set (thr k l) i1
   rw [this]
   exact ih
def gateA (N:Int)(S D:List Pl)(k:Int)(l:List Int):Int×List Pl×List Pl×Int:=
 if chk N S D=true then (if gchk k l N=0 then (if 1≤k∧k≤17 then (N,S.map (thr k l),D.map (thr k l),0) else (0,[],[],141)) else (0,[],[],gchk k l N)) else (0,[],[],140)
theorem cliff_iff (k:Int):Pgate_Clifford k=decide (1≤k∧k≤17):=by
 unfold Pgate_Clifford
 by_cases h:k≥1
 ·rw [if_pos h];apply decide_eq_decide.2;omega
 ·rw [if_neg h,decide_eq_false (by omega)]
theorem gate_ne {k N:Int}{l:List Int}(h1:1≤k)(h2:k≤17)(hg:gchk k l N=0):0<N:=by
 rcases gate_qs h1 h2 hg with ⟨_,q,_,hq⟩|⟨_,q,r,_,hq,_,_⟩<;>omega
theorem P_Gate (F:Nat)(hF:66≤F)(N:Int)(S D:List Pl)(k:Int)(l:List Int)(hl:l.length<4611686018427387904)(hF2:l.length<F):Ptb_Gate F N S D k l=some (gateA N S D k l):=by
 unfold Ptb_Gate gateA
 rw [P_Check F hF,P_gchk F k N l hl hF2,cliff_iff]
 cases hc:chk N S D with
 |false=>rfl
 |true=>
  obtain ⟨n,t⟩:=chk_tab hc
  have hN:=t.eN
  have hle:=t.le
  have hs:=t.ls
  have hd:=t.ld
  simp only [if_true]
  by_cases hg:gchk k l N=0
  ·rw [if_pos hg,if_pos hg]
   by_cases hk:1≤k∧k≤17
   ·have h0:=gate_ne hk.1 hk.2 hg
    have n1:¬ S=[]:=fun e=>by rw [e] at hs;simp at hs;omega
    have n2:¬ D=[]:=fun e=>by rw [e] at hd;simp at hd;omega
    have g3:=PGt3 F hF hN hle hk.1 hk.2 hg D hs t.rS F n 0 (by omega) (by omega)
    have g4:=PGt4 F hF hN hle hk.1 hk.2 hg (S.map (thr k l)) hd t.rD F n 0 (by omega) (by omega)
    rw [show ((0:Nat):Int)=0 from rfl,part2_0] at g3 g4
    rw [if_pos hk,decide_eq_true hk,P_copied (by omega) (by omega)]
    simp only [cond_true]
    rw [if_neg n1,if_neg n2,hs,g3]
    simp only []
    rw [hd,g4]
   ·rw [if_neg hk,decide_eq_false hk];rfl
  ·rw [if_neg hg,if_neg hg]
end Go.Proofs.YtogkkamlmklpkaaDoor.Ab
/- Plain law: New, the program's and the reference's. No condition: lemmas only. -/
set_option maxRecDepth 100000
set_option linter.unusedVariables false
set_option linter.unusedSimpArgs false
namespace Go.Proofs.YtogkkamlmklpkaaDoor.Ab
open Go
end Go.Proofs.YtogkkamlmklpkaaDoor.Ab
/- Plain law: Kron, the program's and the reference's. No condition: lemmas only. -/
set_option maxRecDepth 100000
set_option linter.unusedVariables false
set_option linter.unusedSimpArgs false
namespace Go.Proofs.YtogkkamlmklpkaaDoor.Ab
open Go
end Go.Proofs.YtogkkamlmklpkaaDoor.Ab
/- Plain law: Order, the program's and the reference's. No condition: lemmas only. -/
set_option maxRecDepth 100000
set_option linter.unusedVariables false
set_option linter.unusedSimpArgs false
namespace Go.Proofs.YtogkkamlmklpkaaDoor.Ab
open Go
end Go.Proofs.YtogkkamlmklpkaaDoor.Ab
/- Plain law: an act done, all that is told: the laws of Hands and of Plays. No condition: lemmas only. -/
set_option maxRecDepth 100000
set_option linter.unusedVariables false
set_option linter.unusedSimpArgs false
namespace Go.Proofs.YtogkkamlmklpkaaDoor.Ab
open Go
end Go.Proofs.YtogkkamlmklpkaaDoor.Ab
/- Plain law: sums over all choices of bits; what a table of bits leaves alone, counted from either side; how many strings are even with all rows. No condition: lemmas only. -/
set_option maxRecDepth 100000
set_option linter.unusedVariables false
set_option linter.unusedSimpArgs false
namespace Go.Proofs.YtogkkamlmklpkaaDoor.Ab
open Go
def xo (f:Nat→Bool):Nat→Bool
 |0=>false
 |k+1=>xo f k ^^ f k
theorem xo_congr {f g:Nat→Bool}:∀ k,(∀ j,j<k→f j=g j)→xo f k=xo g k
 |0,_=>rfl
 |k+1,h=>by unfold xo;rw [xo_congr k (fun j hj=>h j (by omega)),h k (by omega)]
theorem xo_false {f:Nat→Bool}:∀ k,(∀ j,j<k→f j=false)→xo f k=false
 |0,_=>rfl
 |k+1,h=>by unfold xo;rw [xo_false k (fun j hj=>h j (by omega)),h k (by omega)];rfl
theorem xo_xor (f g:Nat→Bool):∀ k,xo (fun j=>f j ^^ g j) k=(xo f k ^^ xo g k)
 |0=>rfl
 |k+1=>by
  unfold xo
  rw [xo_xor f g k]
  cases xo f k<;>cases xo g k<;>cases f k<;>cases g k<;>rfl
theorem xo_and (b:Bool)(f:Nat→Bool):∀ k,xo (fun j=>b&&f j) k=(b&&xo f k)
 |0=>by simp [xo]
 |k+1=>by
  unfold xo
  rw [xo_and b f k]
  cases b<;>simp
theorem xo_one {f:Nat→Bool}{i:Nat}:∀ k,xo (fun j=>f j&&decide (j=i)) k=(decide (i<k)&&f i)
 |0=>by simp [xo]
 |k+1=>by
  unfold xo
  rw [xo_one k]
  by_cases h:k=i
  ·subst h;simp
  ·have:decide (i<k+1)=decide (i<k):=decide_eq_decide.2 (by omega)
   simp [h,this]
theorem xo_swap (g:Nat→Nat→Bool)(m:Nat):∀ k,xo (fun j=>xo (fun i=>g i j) m) k=xo (fun i=>xo (fun j=>g i j) k) m
 |0=>by
  simp only [xo]
  exact (xo_false m fun _ _=>rfl).symm
 |k+1=>by
  simp only [xo]
  rw [xo_swap g m k,xo_xor]
def allz (f:Nat→Bool):Nat→Bool
 |0=>true
 |k+1=>allz f k && !f k
theorem allz_iff {f:Nat→Bool}:∀ k,allz f k=true↔∀ j,j<k→f j=false
 |0=>by simp [allz]
 |k+1=>by
  unfold allz
  rw [Bool.and_eq_true,allz_iff k,Bool.not_eq_true']
  constructor
  ·intro h j hj
   rcases Nat.lt_or_ge j k with q|q
   ·exact h.1 j q
   ·rw [show j=k by omega];exact h.2
  ·intro h
   exact ⟨fun j hj=>h j (by omega),h k (by omega)⟩
theorem allz_congr {f g:Nat→Bool}(k:Nat)(h:(∀ j,j<k→f j=false)↔∀ j,j<k→g j=false):allz f k=allz g k:=by
 rw [Bool.eq_iff_iff,allz_iff,allz_iff];exact h
def ind (b:Bool):Int:=bif b then 1 else 0
def sgB (b:Bool):Int:=bif b then -1 else 1
theorem sgB_xor (a b:Bool):sgB (a ^^ b)=sgB a*sgB b:=by cases a<;>cases b<;>rfl
theorem ind_and (a b:Bool):ind (a&&b)=ind a*ind b:=by cases a<;>cases b<;>rfl
theorem ind_nn (b:Bool):0≤ind b:=by cases b<;>decide
def put (f:Nat→Bool)(k:Nat)(b:Bool):Nat→Bool:=fun j=>if j=k then b else f j
theorem put_at (f:Nat→Bool)(k:Nat)(b:Bool):put f k b k=b:=if_pos rfl
theorem put_ne (f:Nat→Bool){k j:Nat}(b:Bool)(h:j≠k):put f k b j=f j:=if_neg h
def tot:Nat→((Nat→Bool)→Int)→Int
 |0,g=>g fun _=>false
 |k+1,g=>tot k (fun f=>g (put f k false))+tot k (fun f=>g (put f k true))
theorem tot_succ (k:Nat)(g:(Nat→Bool)→Int):tot (k+1) g=tot k (fun f=>g (put f k false))+tot k (fun f=>g (put f k true)):=rfl
theorem tot_add:∀ (k:Nat) (g h:(Nat→Bool)→Int),tot k (fun f=>g f+h f)=tot k g+tot k h
 |0,_,_=>rfl
 |k+1,g,h=>by rw [tot_succ,tot_succ,tot_succ,tot_add k,tot_add k];omega
theorem tot_mul (c:Int):∀ (k:Nat) (g:(Nat→Bool)→Int),tot k (fun f=>c*g f)=c*tot k g
 |0,_=>rfl
 |k+1,g=>by unfold tot;rw [tot_mul c k,tot_mul c k,Int.mul_add]
theorem tot_zero:∀ (k:Nat),tot k (fun _=>0)=0
 |0=>rfl
 |k+1=>by unfold tot;rw [tot_zero k];rfl
theorem tot_one:∀ (k:Nat),tot k (fun _=>1)=2 ^ k
 |0=>rfl
 |k+1=>by unfold tot;rw [tot_one k,Int.pow_succ];omega
theorem tot_swap (m:Nat):∀ (k:Nat) (g:(Nat→Bool)→(Nat→Bool)→Int),tot k (fun f=>tot m (fun u=>g f u))=tot m (fun u=>tot k (fun f=>g f u))
 |0,g=>rfl
 |k+1,g=>by
  rw [tot_succ,tot_swap m k,tot_swap m k,← tot_add]
  rfl
theorem tot_mono:∀ (k:Nat) {g h:(Nat→Bool)→Int},(∀ f,g f≤h f)→tot k g≤tot k h
 |0,_,_,q=>q _
 |k+1,_,_,q=>by unfold tot;have a:=tot_mono k (fun f=>q (put f k false));have b:=tot_mono k (fun f=>q (put f k true));omega
theorem xo_put {f b:Nat→Bool}{k:Nat}{e:Bool}:xo (fun j=>put f k e j&&b j) (k+1)=(xo (fun j=>f j&&b j) k ^^ (e&&b k)):=by
 show (xo (fun j=>put f k e j&&b j) k ^^ (put f k e k&&b k))=_
 rw [put_at,xo_congr k (g:=fun j=>f j&&b j) (fun j hj=>by rw [put_ne _ _ (by omega)])]
theorem tot_sgB (b:Nat→Bool):∀ k,tot k (fun f=>sgB (xo (fun j=>f j&&b j) k))=2 ^ k*ind (allz b k)
 |0=>rfl
 |k+1=>by
  rw [tot_succ]
  simp only [xo_put,sgB_xor]
  have e:∀ e:Bool,tot k (fun f=>sgB (xo (fun j=>f j&&b j) k)*sgB (e&&b k))=sgB (e&&b k)*(2 ^ k*ind (allz b k)):=fun e=>by
   rw [← tot_sgB b k,← tot_mul]
   congr 1;funext f;rw [Int.mul_comm]
  have e0:=e false
  have e1:=e true
  rw [e0,e1,Int.pow_succ]
  show _=2 ^ k*2*ind (allz b k && !b k)
  rw [Int.mul_comm (2 ^ k) 2,Int.mul_assoc]
  cases b k
  ·simp [sgB,Bool.and_true];omega
  ·simp [sgB,ind];omega
theorem tot_point (b:Nat→Bool):∀ k,tot k (fun f=>ind (allz (fun j=>f j ^^ b j) k))=1
 |0=>rfl
 |k+1=>by
  unfold tot
  have e:∀ (f:Nat→Bool) (e:Bool),allz (fun j=>put f k e j ^^ b j) (k+1)=(allz (fun j=>f j ^^ b j) k && !(e ^^ b k)):=fun f e=>by
   show (allz (fun j=>put f k e j ^^ b j) k && !(put f k e k ^^ b k))=_
   rw [put_at,allz_congr k (g:=fun j=>f j ^^ b j)]
   constructor
   ·intro h j hj;have:=h j hj;rwa [put_ne _ _ (by omega)] at this
   ·intro h j hj;rw [put_ne _ _ (by omega)];exact h j hj
  simp only [e,ind_and]
  have m:∀ e:Bool,tot k (fun f=>ind (allz (fun j=>f j ^^ b j) k)*ind (!(e ^^ b k)))=ind (!(e ^^ b k)):=fun e=>by
   have:=tot_mul (ind (!(e ^^ b k))) k (fun f=>ind (allz (fun j=>f j ^^ b j) k))
   rw [tot_point b k,Int.mul_one] at this
   rw [← this]
   congr 1;funext f;rw [Int.mul_comm,this]
  rw [m,m]
  cases b k<;>rfl
theorem tot_le_one {P:(Nat→Bool)→Bool}{k:Nat}(h:∀ f g,P f=true→P g=true→∀ j,j<k→f j=g j):tot k (fun f=>ind (P f))≤1:=by
 by_cases q:∃ g,P g=true
 ·obtain ⟨g,hg⟩:=q
  rw [← tot_point g k]
  refine tot_mono k fun f=>?_
  cases hf:P f with
  |false=>exact ind_nn _
  |true=>
   have:allz (fun j=>f j ^^ g j) k=true:=(allz_iff k).2 fun j hj=>by rw [h f g hf hg j hj];simp
   rw [this];exact Int.le_refl _
 ·have e:(fun f=>ind (P f))=fun _=>0:=by
   funext f
   cases hf:P f with
   |false=>rfl
   |true=>exact absurd ⟨f,hf⟩ q
  rw [e,tot_zero];decide
theorem count_both (B:Nat→Nat→Bool)(M k:Nat) :
  2 ^ M*tot k (fun c=>ind (allz (fun i=>xo (fun j=>c j&&B i j) k) M))=2 ^ k*tot M (fun u=>ind (allz (fun j=>xo (fun i=>u i&&B i j) M) k)):=by
 rw [← tot_mul,← tot_mul]
 have e1:(fun c:Nat→Bool=>(2:Int) ^ M*ind (allz (fun i=>xo (fun j=>c j&&B i j) k) M))=fun c=>tot M (fun u=>sgB (xo (fun i=>u i&&xo (fun j=>c j&&B i j) k) M)):=by
  funext c;exact (tot_sgB _ M).symm
 have e2:(fun u:Nat→Bool=>(2:Int) ^ k*ind (allz (fun j=>xo (fun i=>u i&&B i j) M) k))=fun u=>tot k (fun c=>sgB (xo (fun j=>c j&&xo (fun i=>u i&&B i j) M) k)):=by
  funext u;exact (tot_sgB _ k).symm
 rw [e1,e2,tot_swap M k]
 congr 1;funext u
 congr 1;funext c
 congr 1
 have a:xo (fun i=>u i&&xo (fun j=>c j&&B i j) k) M=xo (fun i=>xo (fun j=>u i&&(c j&&B i j)) k) M:=xo_congr M fun i _=>(xo_and _ _ k).symm
 have b:xo (fun j=>c j&&xo (fun i=>u i&&B i j) M) k=xo (fun j=>xo (fun i=>c j&&(u i&&B i j)) M) k:=xo_congr k fun j _=>(xo_and _ _ M).symm
 rw [a,b]
 refine Eq.trans ?_ (xo_swap (fun i j=>c j&&(u i&&B i j)) M k).symm
 refine xo_congr M fun i _=>xo_congr k fun j _=>?_
 cases u i<;>cases c j<;>cases B i j<;>rfl
def pr (n:Nat)(u:Nat→Bool)(p:Pl):Bool:=xo (fun d=>u d&&colb p n d) (2*n)
theorem pr_mul (n:Nat)(u:Nat→Bool)(p q:Pl):pr n u (mulP p q)=(pr n u p ^^ pr n u q):=by
 unfold pr
 rw [← xo_xor]
 refine xo_congr _ fun d _=>?_
 rw [colb_mul]
 cases u d<;>simp
def Even (n:Nat)(u:Nat→Bool)(l:List Pl):Prop:=∀ k (h:k<l.length),pr n u l[k]=false
theorem Even.swap {n:Nat}{u:Nat→Bool}{l:List Pl}{r j:Nat}(hr:r<l.length)(hj:j<l.length):Even n u (swap l r j)↔Even n u l:=by
 have key:∀ k (hk:k<l.length),(Ab.swap l r j)[k]'(by rw [swap_len];exact hk)=if k=j then l[r] else if k=r then l[j] else l[k]:=fun k hk=>swap_row hr hj hk
 constructor
 ·intro h k hk
  have hk':k<(Ab.swap l r j).length:=by rw [swap_len];exact hk
  by_cases e1:k=j
  ·have:=h r (by rw [swap_len];exact hr)
   rw [key r hr] at this
   by_cases e2:r=j
   ·rw [if_pos e2] at this;subst e1;subst e2;exact this
   ·rw [if_neg e2,if_pos rfl] at this;subst e1;exact this
  ·by_cases e2:k=r
   ·have:=h j (by rw [swap_len];exact hj)
    rw [key j hj,if_pos rfl] at this
    subst e2;exact this
   ·have:=h k hk'
    rw [key k hk,if_neg e1,if_neg e2] at this
    exact this
 ·intro h k hk
  rw [swap_len] at hk
  rw [key k hk]
  split
  ·exact h r hr
  ·split
   ·exact h j hj
   ·exact h k hk
theorem Even.elim {n:Nat}{u:Nat→Bool}{l:List Pl}{r c:Nat}(hr:r<l.length):Even n u (elim n r c l.length 0 l)↔Even n u l:=by
 have key:∀ k (hk:k<l.length),(Ab.elim n r c l.length 0 l)[k]'(by rw [elim_len];exact hk)=if k=r then l[k] else bif colb l[k] n c then mulP l[k] l[r] else l[k]:=fun k hk=>elim_row rfl hr hk
 constructor
 ·intro h
  have h0:pr n u l[r]=false:=by
   have:=h r (by rw [elim_len];exact hr)
   rwa [key r hr,if_pos rfl] at this
  intro k hk
  have:=h k (by rw [elim_len];exact hk)
  rw [key k hk] at this
  by_cases e:k=r
  ·rwa [if_pos e] at this
  ·rw [if_neg e] at this
   cases hc:colb l[k] n c with
   |false=>rwa [hc,cond_false] at this
   |true=>rw [hc,cond_true,pr_mul,h0,Bool.xor_false] at this;exact this
 ·intro h k hk
  rw [elim_len] at hk
  rw [key k hk]
  split
  ·exact h k hk
  ·cases colb l[k] n c with
   |false=>exact h k hk
   |true=>rw [cond_true,pr_mul,h k hk,h r hr];rfl
theorem Even.ech {n:Nat}{u:Nat→Bool}:∀ (m row c:Nat) (l:List Pl),row≤l.length→(Even n u (ech n m row c l).2↔Even n u l)
 |0,_,_,_,_=>Iff.rfl
 |m+1,row,c,l,hl=>by
  unfold Ab.ech
  cases hf:findRow l n c (l.length-row) row with
  |none=>exact Even.ech m row (c+1) l hl
  |some j=>
   obtain ⟨h1,h2,h3,_⟩:=findRow_some hf
   have hr:row<l.length:=by omega
   have hs:(Ab.swap l row j).length=l.length:=swap_len
   have e1:=Even.elim (n:=n) (u:=u) (l:=Ab.swap l row j) (r:=row) (c:=c) (by rw [hs];exact hr)
   rw [hs] at e1
   rw [Even.ech m (row+1) (c+1) _ (by rw [elim_len,hs];exact hr),e1,Even.swap hr h3]
def rowAt (l:List Pl)(j:Nat):Pl:=(l[j]?).getD ⟨0,0#64,0#64,0⟩
theorem rowAt_lt {l:List Pl}{j:Nat}(h:j<l.length):rowAt l j=l[j]:=by unfold rowAt;rw [List.getElem?_eq_getElem h];rfl
def evenB (n:Nat)(l:List Pl)(u:Nat→Bool):Bool:=allz (fun j=>pr n u (rowAt l j)) l.length
theorem evenB_iff {n:Nat}{l:List Pl}{u:Nat→Bool}:evenB n l u=true↔Even n u l:=by
 unfold evenB Even
 rw [allz_iff]
 constructor
 ·intro h k hk;have:=h k hk;rwa [rowAt_lt hk] at this
 ·intro h k hk;rw [rowAt_lt hk];exact h k hk
theorem count_rank {n:Nat}{l:List Pl}:2 ^ (form n l).1*tot (2*n) (fun u=>ind (evenB n l u))=2 ^ (2*n):=by
 obtain ⟨piv,e⟩:=form_ech n l
 have hE:∀ u,evenB n l u=allz (fun j=>xo (fun d=>u d&&colb (rowAt (form n l).2 j) n d) (2*n)) (form n l).1:=fun u=>by
  rw [Bool.eq_iff_iff,evenB_iff,allz_iff,← Even.ech (2*n) 0 0 l (Nat.zero_le _)]
  constructor
  ·intro h j hj
   have hj':j<(form n l).2.length:=Nat.lt_of_lt_of_le hj e.le
   have:=h j hj'
   rw [rowAt_lt hj'];exact this
  ·intro h k hk
   by_cases q:k<(form n l).1
   ·have:=h k q
    have e3:rowAt (form n l).2 k=(form n l).2[k]'hk:=rowAt_lt hk
    rw [e3] at this;exact this
   ·exact xo_false _ fun d hd=>by
     have:=e.low k hk (by omega) d hd
     show (u d&&colb (form n l).2[k] n d)=false
     rw [this,Bool.and_false]
 simp only [hE]
 rw [← count_both (fun d j=>colb (rowAt (form n l).2 j) n d) (2*n) (form n l).1]
 have hz:∀ c:Nat→Bool,allz (fun i=>xo (fun j=>c j&&colb (rowAt (form n l).2 j) n i) (form n l).1) (2*n)=allz (fun j=>c j ^^ false) (form n l).1:=fun c=>by
  rw [Bool.eq_iff_iff,allz_iff,allz_iff]
  constructor
  ·intro h i hi
   have:=h (piv i) (e.lt i hi)
   rw [xo_congr (g:=fun j=>c j&&decide (j=i)) _ (fun j hj=>by
    have hj':j<(form n l).2.length:=Nat.lt_of_lt_of_le hj e.le
    rw [rowAt_lt hj',e.one i j hj' hi]),xo_one,decide_eq_true hi,Bool.true_and] at this
   rw [this];rfl
  ·intro h d hd
   refine xo_false _ fun j hj=>?_
   have:=h j hj
   rw [Bool.xor_false] at this
   rw [this,Bool.false_and]
 simp only [hz]
 rw [tot_point]
 omega
end Go.Proofs.YtogkkamlmklpkaaDoor.Ab
/- Plain law: the rank of a side's strings, and the rank of the other side's. No condition: lemmas only. -/
set_option maxRecDepth 100000
set_option linter.unusedVariables false
set_option linter.unusedSimpArgs false
namespace Go.Proofs.YtogkkamlmklpkaaDoor.Ab
open Go
theorem popN_pow:∀ d,popN (2 ^ d)=1
 |0=>by rw [Nat.pow_zero];simp [popN]
 |d+1=>by
  rw [Nat.pow_succ]
  unfold popN
  split
  ·rename_i h;have:=Nat.two_pow_pos d;omega
  ·rename_i m h
   have h':m+1=2 ^ d*2:=h.symm
   rw [h',show 2 ^ d*2 % 2=0 by omega,show 2 ^ d*2 / 2=2 ^ d by omega,popN_pow d]
theorem and_pow (Y n:Nat):Y &&& 2 ^ n=bif Y.testBit n then 2 ^ n else 0:=by
 apply Nat.eq_of_testBit_eq
 intro i
 rw [Nat.testBit_and]
 by_cases h:i=n
 ·subst h;cases hY:Y.testBit i<;>simp
 ·rw [Nat.testBit_two_pow_of_ne (Ne.symm h),Bool.and_false]
  cases Y.testBit n
  ·simp
  ·rw [cond_true,Nat.testBit_two_pow_of_ne (Ne.symm h)]
def par (x:Nat):Bool:=decide (popN x % 2=1)
theorem par_xor (a b:Nat):par (a ^^^ b)=(par a ^^ par b):=by
 unfold par
 have h:=pop_xor' a b
 rw [h]
 generalize popN a=u
 generalize popN b=w
 rw [Bool.eq_iff_iff]
 simp only [decide_eq_true_eq,bne_iff_ne,ne_eq,decide_eq_decide]
 omega
theorem om_par (x z a b:Nat):om x z a b=(par (x &&& b) ^^ par (z &&& a)):=by
 show par _=_
 rw [par_xor]
def num2 (f:Nat→Bool)(n:Nat):Nat:=comb (fun j=>2 ^ j) f n
theorem num2_lt (f:Nat→Bool)(n:Nat):num2 f n<2 ^ n:=comb_lt n (Nat.le_refl _) fun j hj=>Nat.pow_lt_pow_right (by omega) hj
theorem num2_bit (f:Nat→Bool)(d:Nat):∀ n,(num2 f n).testBit d=(decide (d<n)&&f d)
 |0=>by simp [num2,comb]
 |n+1=>by
  unfold num2 comb
  rw [Nat.testBit_xor]
  have:=num2_bit f d n
  unfold num2 at this
  rw [this]
  by_cases h:d=n
  ·subst h
   cases f d<;>simp
  ·have e:decide (d<n+1)=decide (d<n):=decide_eq_decide.2 (by omega)
   rw [e]
   cases f n
   ·simp
   ·rw [cond_true,Nat.testBit_two_pow_of_ne (Ne.symm h),Bool.xor_false]
theorem par_num2 (f:Nat→Bool)(Y:Nat):∀ n,par (num2 f n &&& Y)=xo (fun d=>f d&&Y.testBit d) n
 |0=>by simp [num2,comb,par,popN,xo]
 |n+1=>by
  have e:num2 f (n+1)=num2 f n ^^^ (bif f n then 2 ^ n else 0):=rfl
  rw [e,Nat.and_comm,and_xor_l,par_xor,Nat.and_comm Y (num2 f n),par_num2 f Y n]
  show _=(xo (fun d=>f d&&Y.testBit d) n ^^ (f n&&Y.testBit n))
  congr 1
  cases f n
  ·simp [par,popN]
  ·rw [cond_true,and_pow,Bool.true_and]
   cases Y.testBit n
   ·simp [par,popN]
   ·rw [cond_true];unfold par;rw [popN_pow];rfl
theorem xo_split (f:Nat→Bool)(k:Nat):∀ m,xo f (k+m)=(xo f k ^^ xo (fun j=>f (k+j)) m)
 |0=>by simp [xo]
 |m+1=>by
  show (xo f (k+m) ^^ f (k+m))=(xo f k ^^ (xo (fun j=>f (k+j)) m ^^ f (k+m)))
  rw [xo_split f k m,Bool.xor_assoc]
def vecOf (n:Nat)(f:Nat→Bool):Nat×Nat:=(num2 (fun d=>f (n+d)) n,num2 f n)
theorem pr_omv (n:Nat)(f:Nat→Bool)(p:Pl):pr n f p=omv (vecOf n f) (vec p):=by
 unfold pr omv vecOf vec
 rw [om_par,par_num2,par_num2,show 2*n=n+n by omega,xo_split,Bool.xor_comm]
 congr 1
 ·refine xo_congr n fun j hj=>?_
  unfold colb
  rw [if_neg (by omega),show n+j-n=j by omega]
 ·refine xo_congr n fun j hj=>?_
  unfold colb
  rw [if_pos hj]
def cv (r:Nat→Nat×Nat)(c:Nat→Bool)(k:Nat):Nat×Nat:=(comb (fun j=>(r j).1) c k,comb (fun j=>(r j).2) c k)
theorem omv_cv (r:Nat→Nat×Nat)(c:Nat→Bool)(w:Nat×Nat):∀ k,omv (cv r c k) w=xo (fun j=>c j&&omv (r j) w) k
 |0=>by show om 0 0 w.1 w.2=false;rw [om_comm,om_zero]
 |k+1=>by
  show om (comb (fun j=>(r j).1) c k ^^^ (bif c k then (r k).1 else 0)) (comb (fun j=>(r j).2) c k ^^^ (bif c k then (r k).2 else 0)) w.1 w.2=(xo (fun j=>c j&&omv (r j) w) k ^^ (c k&&omv (r k) w))
  rw [om_comm,om_xor,om_comm,← omv_cv r c w k]
  congr 1
  cases c k
  ·exact om_zero _ _
  ·rw [cond_true,cond_true,om_comm];rfl
theorem comb_bit (r:Nat→Nat)(c:Nat→Bool)(d:Nat):∀ k,(comb r c k).testBit d=xo (fun j=>c j&&(r j).testBit d) k
 |0=>by simp [comb,xo]
 |k+1=>by
  show (comb r c k ^^^ (bif c k then r k else 0)).testBit d=(xo (fun j=>c j&&(r j).testBit d) k ^^ (c k&&(r k).testBit d))
  rw [Nat.testBit_xor,comb_bit r c d k]
  congr 1
  cases c k<;>simp
def free (mk:Nat→Bool):Nat→Nat
 |0=>0
 |k+1=>free mk k+(bif mk k then 0 else 1)
theorem tot_mask (mk wb:Nat→Bool):∀ M,tot M (fun u=>ind (allz (fun d=>(u d&&mk d) ^^ wb d) M))=2 ^ free mk M*ind (allz (fun d=>!mk d&&wb d) M)
 |0=>rfl
 |M+1=>by
  rw [tot_succ]
  have e:∀ (f:Nat→Bool) (b:Bool),allz (fun d=>(put f M b d&&mk d) ^^ wb d) (M+1)=(allz (fun d=>(f d&&mk d) ^^ wb d) M && !((b&&mk M) ^^ wb M)):=fun f b=>by
   show (allz (fun d=>(put f M b d&&mk d) ^^ wb d) M && !((put f M b M&&mk M) ^^ wb M))=_
   rw [put_at,allz_congr M (g:=fun d=>(f d&&mk d) ^^ wb d)]
   constructor
   ·intro h j hj;have:=h j hj;rwa [put_ne _ _ (by omega)] at this
   ·intro h j hj;rw [put_ne _ _ (by omega)];exact h j hj
  simp only [e,ind_and]
  have m:∀ b:Bool,tot M (fun f=>ind (allz (fun d=>(f d&&mk d) ^^ wb d) M)*ind (!((b&&mk M) ^^ wb M)))=ind (!((b&&mk M) ^^ wb M))*(2 ^ free mk M*ind (allz (fun d=>!mk d&&wb d) M)):=fun b=>by
   rw [← tot_mask mk wb M,← tot_mul]
   congr 1;funext f;rw [Int.mul_comm]
  have m0:=m false
  have m1:=m true
  rw [m0,m1]
  show _=2 ^ (free mk M+(bif mk M then 0 else 1))*ind (allz (fun d=>!mk d&&wb d) M && !(!mk M&&wb M))
  generalize allz (fun d=>!mk d&&wb d) M=A
  generalize free mk M=k
  cases mk M<;>cases wb M<;>cases A<;>simp [ind,Int.pow_succ]<;>omega
end Go.Proofs.YtogkkamlmklpkaaDoor.Ab
