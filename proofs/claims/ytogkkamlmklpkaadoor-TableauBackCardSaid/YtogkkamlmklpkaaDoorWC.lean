/- Plain law: what is projected is surely that then, and the group keeps what commutes with it: the law of Measures. No condition: lemmas only. -/
import Derived.Test.YtogkkamlmklpkaaDoorWB
set_option maxRecDepth 100000
set_option linter.unusedVariables false
set_option linter.unusedSimpArgs false
namespace Go.Proofs.YtogkkamlmklpkaaDoor.Ab
open Go
end Go.Proofs.YtogkkamlmklpkaaDoor.Ab
/- Plain law: Project of the reference; Settle as it hangs on Gate. No condition: lemmas only. -/
set_option maxRecDepth 100000
set_option linter.unusedVariables false
set_option linter.unusedSimpArgs false
namespace Go.Proofs.YtogkkamlmklpkaaDoor.Ab
open Go
end Go.Proofs.YtogkkamlmklpkaaDoor.Ab
/- Plain law: strings made echelon, the program's and the reference's. No condition: lemmas only. -/
set_option maxRecDepth 100000
set_option linter.unusedVariables false
set_option linter.unusedSimpArgs false
namespace Go.Proofs.YtogkkamlmklpkaaDoor.Ab
open Go
def colb (p:Pl)(n c:Nat):Bool:=if c<n then p.X.toNat.testBit c else p.Z.toNat.testBit (c-n)
theorem P_column {p:Pl}{n c:Nat}(hN:p.N=n)(hn:n≤64)(hc:c<2*n):∃ r,Ptb_column p.N p.X p.Z p.Ph (c:Int)=some r∧((r=1#64)↔colb p n c=true):=by
 unfold Ptb_column colb
 rw [hN]
 by_cases h:c<n
 ·rw [if_pos (by omega),if_neg (by omega),if_pos h,Int.toNat_natCast,← bit_dec]
  exact ⟨_,rfl,by rw [decide_eq_true_eq]⟩
 ·rw [if_neg (by omega),wrap_id (n:=(c:Int)-n) ⟨by omega,by omega⟩,if_neg (by omega),if_neg h,show ((c:Int)-n).toNat=c-n by omega,← bit_dec]
  exact ⟨_,rfl,by rw [decide_eq_true_eq]⟩
theorem ofInt_nat {k:Nat}(h:k<18446744073709551616):(BitVec.ofInt 64 (k:Int)).toNat=k:=by
 rw [BitVec.ofInt_natCast,BitVec.toNat_ofNat,Nat.mod_eq_of_lt (by simpa using h)]
def findRow (l:List Pl)(n c:Nat):Nat→Nat→Option Nat
 |0,_=>none
 |m+1,i=>match l[i]? with
  |some p=>bif colb p n c then some i else findRow l n c m (i+1)
  |none=>none
theorem findRow_at {l:List Pl}{n c m i:Nat}(h:i<l.length):findRow l n c (m+1) i=bif colb l[i] n c then some i else findRow l n c m (i+1):=by
 rw [findRow,List.getElem?_eq_getElem h]
theorem findRow_some {l:List Pl}{n c:Nat}:∀ {m i j:Nat},findRow l n c m i=some j→i≤j∧j<i+m∧∃ h:j<l.length,colb l[j] n c=true
 |0,i,j,h=>by cases h
 |m+1,i,j,h=>by
  unfold findRow at h
  cases e:l[i]? with
  |none=>rw [e] at h;cases h
  |some s=>
   rw [e] at h
   simp only [] at h
   obtain ⟨hl,hs⟩:=List.getElem?_eq_some_iff.1 e
   cases hp:colb s n c with
   |true=>rw [hp] at h;cases h;exact ⟨by omega,by omega,hl,by rw [hs];exact hp⟩
   |false=>
    rw [hp] at h
    obtain ⟨a,b,d⟩:=findRow_some h
    exact ⟨by omega,by omega,d⟩
theorem findRow_none {l:List Pl}{n c:Nat}:∀ {m i:Nat},i+m≤l.length→findRow l n c m i=none→∀ j (h:j<l.length),i≤j→j<i+m→colb l[j] n c=false
 |0,i,_,_,j,_,_,_=>by omega
 |m+1,i,hl,h,j,hj,h1,h2=>by
  have i1:i<l.length:=by omega
  rw [findRow_at i1] at h
  cases hp:colb l[i] n c with
  |true=>rw [hp] at h;cases h
  |false=>
   rw [hp] at h
   by_cases e:j=i
   ·subst e;exact hp
   ·exact findRow_none (by omega) h j hj (by omega) (by omega)
def elimAt (n r c i:Nat)(l:List Pl):List Pl:=if i=r then l else match l[i]?,l[r]? with
 |some p,some q=>bif colb p n c then l.set i (mulP p q) else l
 |_,_=>l
def elim (n r c:Nat):Nat→Nat→List Pl→List Pl
 |0,_,l=>l
 |m+1,i,l=>elim n r c m (i+1) (elimAt n r c i l)
def swap (l:List Pl)(r j:Nat):List Pl:=match l[j]?,l[r]? with
 |some a,some b=>(l.set r a).set j b
 |_,_=>l
def ech (n:Nat):Nat→Nat→Nat→List Pl→Nat×List Pl
 |0,row,_,l=>(row,l)
 |m+1,row,c,l=>match findRow l n c (l.length-row) row with
  |none=>ech n m row (c+1) l
  |some j=>ech n m (row+1) (c+1) (elim n row c l.length 0 (swap l row j))
theorem elimAt_len {n r c i:Nat}{l:List Pl}:(elimAt n r c i l).length=l.length:=by
 unfold elimAt
 split
 ·rfl
 ·split
  ·rename_i p q _ _;cases colb p n c<;>simp
  ·rfl
theorem elim_len {n r c:Nat}:∀ {m i:Nat}{l:List Pl},(elim n r c m i l).length=l.length
 |0,_,_=>rfl
 |m+1,i,l=>by rw [elim,elim_len,elimAt_len]
theorem swap_len {l:List Pl}{r j:Nat}:(swap l r j).length=l.length:=by
 unfold swap
 split<;>simp
theorem elimAt_at {n r c i:Nat}{l:List Pl}(h:i≠r)(hi:i<l.length)(hr:r<l.length):elimAt n r c i l=bif colb l[i] n c then l.set i (mulP l[i] l[r]) else l:=by
 unfold elimAt
 rw [if_neg h,List.getElem?_eq_getElem hi,List.getElem?_eq_getElem hr]
theorem elimAt_r {n r c:Nat}{l:List Pl}:elimAt n r c r l=l:=by unfold elimAt;rw [if_pos rfl]
theorem swap_at {l:List Pl}{r j:Nat}(hr:r<l.length)(hj:j<l.length):swap l r j=(l.set r l[j]).set j l[r]:=by
 unfold swap
 rw [List.getElem?_eq_getElem hr,List.getElem?_eq_getElem hj]
theorem Rowy.at {N:Int}{l:List Pl}(h:Rowy N l){i:Nat}(hi:i<l.length):l[i].ok=true∧l[i].N=N:=h i _ (List.getElem?_eq_getElem hi)
theorem Rowy.set {N:Int}{l:List Pl}(h:Rowy N l){i:Nat}{p:Pl}(hp:p.ok=true∧p.N=N):Rowy N (l.set i p):=by
 intro k v hv
 by_cases e:i=k
 ·subst e
  have hk:i<l.length:=by
   have:=(List.getElem?_eq_some_iff.1 hv).1
   rwa [List.length_set] at this
  rw [List.getElem?_set_self hk] at hv
  cases hv;exact hp
 ·rw [List.getElem?_set_ne e] at hv;exact h k v hv
theorem Rowy.elimAt {N:Int}{l:List Pl}(h:Rowy N l){n r c i:Nat}:Rowy N (elimAt n r c i l):=by
 unfold Ab.elimAt
 split
 ·exact h
 ·split
  ·rename_i p q e1 e2
   cases colb p n c with
   |false=>exact h
   |true=>
    obtain ⟨a1,a2⟩:=h _ _ e1
    obtain ⟨b1,b2⟩:=h _ _ e2
    obtain ⟨m1,m2⟩:=mulP_ok a1 b1 (a2.trans b2.symm)
    exact h.set ⟨m1,m2.trans a2⟩
  ·exact h
theorem Rowy.elim {N:Int}{n r c:Nat}:∀ {m i:Nat}{l:List Pl},Rowy N l→Rowy N (elim n r c m i l)
 |0,_,_,h=>h
 |m+1,i,l,h=>Rowy.elim (m:=m) h.elimAt
theorem Rowy.swap {N:Int}{l:List Pl}(h:Rowy N l){r j:Nat}:Rowy N (swap l r j):=by
 unfold Ab.swap
 split
 ·rename_i a b e1 e2
  exact (h.set (h _ _ e1)).set (h _ _ e2)
 ·exact h
theorem PE2 {N:Int}{n:Nat}(hN:N=n)(hn:n≤64)(v0 v4 v5:Int){l:List Pl}(hr:Rowy N l)(hl:l.length≤64)(c:Nat)(hc:c<2*n):∀ (f m i:Nat),i+m=l.length→m<f→
  Ptb_echelonL2 v0 (c:Int) v4 v5 l f (-1) (i:Int)=some (match findRow l n c m i with|some j=>(j:Int)|none=>-1)
 |0,m,i,_,h=>by omega
 |f+1,m,i,e,h=>by
  unfold Ptb_echelonL2
  cases m with
  |zero=>rw [if_neg (by omega)];rfl
  |succ m=>
   have i1:i<l.length:=by omega
   have ih:=PE2 hN hn v0 v4 v5 hr hl c hc f m (i+1) (by omega) (by omega)
   rw [show ((i+1:Nat):Int)=(i:Int)+1 by omega] at ih
   obtain ⟨r,e1,e2⟩:=P_column (p:=l[i]) ((hr.at i1).2.trans hN) hn hc
   rw [if_pos (by omega),if_pos (by omega),idx_lt i1]
   simp only [e1,wrap_id (n:=(i:Int)+1) ⟨by omega,by omega⟩]
   rw [findRow_at i1]
   cases hb:colb l[i] n c with
   |true=>
    rw [if_pos (e2.2 hb)]
    cases f with
    |zero=>omega
    |succ f=>
     unfold Ptb_echelonL2
     by_cases q:(i:Int)+1<((l.length:Nat):Int)
     ·rw [if_pos q,if_neg (by omega)];rfl
     ·rw [if_neg q];rfl
   |false=>
    rw [if_neg (fun q=>by rw [e2.1 q] at hb;cases hb)]
    exact ih
theorem PE3 (F:Nat)(hF:65≤F){N:Int}{n:Nat}(hN:N=n)(hn:n≤64)(v2 v3:Int)(r c:Nat)(hc:c<2*n)(k:Nat)(hk:k≤64)(hrk:r<k):∀ (f m i:Nat) (l:List Pl),i+m=k→m<f→l.length=k→Rowy N l→
  Ptb_echelonL3 F (r:Int) (c:Int) v2 v3 (k:Int) f (i:Int) l=some (elim n r c m i l)
 |0,m,i,l,_,h,_,_=>by omega
 |f+1,m,i,l,e,h,hl,hr=>by
  unfold Ptb_echelonL3
  cases m with
  |zero=>rw [if_neg (by omega)];rfl
  |succ m=>
   have i1:i<l.length:=by omega
   have r1:r<l.length:=by omega
   have ih:=PE3 F hF hN hn v2 v3 r c hc k hk hrk f m (i+1) (elimAt n r c i l) (by omega) (by omega) (by rw [elimAt_len];exact hl) hr.elimAt
   rw [show ((i+1:Nat):Int)=(i:Int)+1 by omega] at ih
   rw [if_pos (by omega),elim]
   by_cases hir:i=r
   ·subst hir
    rw [if_pos rfl,wrap_id (n:=(i:Int)+1) ⟨by omega,by omega⟩]
    rw [elimAt_r] at ih ⊢
    exact ih
   ·obtain ⟨rr,e1,e2⟩:=P_column (p:=l[i]) ((hr.at i1).2.trans hN) hn hc
    rw [if_neg (by omega),idx_lt i1]
    simp only [e1,wrap_id (n:=(i:Int)+1) ⟨by omega,by omega⟩,idx_lt r1,P_mul F hF l[i] l[r] (hr.at i1).1 (hr.at r1).1 ((hr.at i1).2.trans (hr.at r1).2.symm),Int.toNat_natCast]
    rw [elimAt_at hir i1 r1] at ih ⊢
    cases hb:colb l[i] n c with
    |true=>
     rw [hb] at ih
     rw [if_pos (e2.2 hb)]
     exact ih
    |false=>
     rw [hb] at ih
     rw [if_neg (fun q=>by rw [e2.1 q] at hb;cases hb)]
     exact ih
theorem idx_set {l:List Pl}{i j:Nat}{x:Pl}(h:j<l.length):∃ y,idx (l.set i x) (j:Int)=some y:=⟨_,idx_lt (by rw [List.length_set];exact h)⟩
theorem PE4 (F:Nat)(hF:66≤F){N:Int}{n:Nat}(hN:N=n)(hn:n≤64):∀ (f m row c:Nat) (l:List Pl),c+m=2*n→m<f→row≤l.length→l.length≤64→Rowy N l→
  Ptb_echelonL4 F (2*(n:Int)) f (row:Int) (c:Int) l=some (ech n m row c l).2
 |0,m,row,c,l,_,h,_,_,_=>by omega
 |f+1,m,row,c,l,e,h,h1,hl,hr=>by
  unfold Ptb_echelonL4
  cases m with
  |zero=>rw [if_neg (by omega)];rfl
  |succ m=>
   have hc:c<2*n:=by omega
   have p2:=PE2 hN hn (row:Int) (2*(n:Int)) (c:Int) hr hl c hc F (l.length-row) row (by omega) (by omega)
   rw [if_pos (by omega),p2,ech]
   cases ef:findRow l n c (l.length-row) row with
   |none=>
    have ih:=PE4 F hF hN hn f m row (c+1) l (by omega) (by omega) h1 hl hr
    rw [show ((c+1:Nat):Int)=(c:Int)+1 by omega] at ih
    simp only []
    rw [if_pos (by omega),wrap_id (n:=(c:Int)+1) ⟨by omega,by omega⟩]
    exact ih
   |some j=>
    obtain ⟨j1,j2,j3,_⟩:=findRow_some ef
    have r1:row<l.length:=by omega
    have ih:=PE4 F hF hN hn f m (row+1) (c+1) (elim n row c l.length 0 (swap l row j)) (by omega) (by omega) (by rw [elim_len,swap_len];omega) (by rw [elim_len,swap_len];exact hl) hr.swap.elim
    rw [show ((c+1:Nat):Int)=(c:Int)+1 by omega,show ((row+1:Nat):Int)=(row:Int)+1 by omega] at ih
    have p3:=PE3 F (by omega) hN hn (2*(n:Int)) (c:Int) row c hc l.length hl r1 F l.length 0 (swap l row j) (by omega) (by omega) swap_len hr.swap
    rw [show ((0:Nat):Int)=0 from rfl,swap_at r1 j3] at p3
    obtain ⟨y,ey⟩:=idx_set (l:=l) (i:=row) (x:=l[j]) j3
    simp only []
    rw [if_neg (by omega),idx_lt j3,idx_lt r1]
    simp only [Int.toNat_natCast,ey,p3]
    rw [wrap_id (n:=(c:Int)+1) ⟨by omega,by omega⟩,wrap_id (n:=(row:Int)+1) ⟨by omega,by omega⟩,← swap_at r1 j3]
    exact ih
theorem ech_full (n:Nat):∀ (m c:Nat) (l:List Pl),ech n m l.length c l=(l.length,l)
 |0,_,_=>rfl
 |m+1,c,l=>by rw [ech,Nat.sub_self,findRow];exact ech_full n m (c+1) l
def form (n:Nat)(l:List Pl):Nat×List Pl:=ech n (2*n) 0 0 l
theorem ech_nil (n:Nat):∀ (m c:Nat),ech n m 0 c []=(0,[]):=fun m c=>ech_full n m c []
theorem PE1 (F:Nat)(hF:66≤F){n:Nat}(hn:n≤64):∀ (f m c:Nat),c+m=2*n→m<f→Ptb_echelonL1 F [] 0 (2*(n:Int)) f (c:Int)=some ()
 |0,m,c,_,h=>by omega
 |f+1,m,c,e,h=>by
  unfold Ptb_echelonL1
  cases m with
  |zero=>rw [if_neg (by omega)]
  |succ m=>
   have ih:=PE1 F hF hn f m (c+1) (by omega) (by omega)
   rw [show ((c+1:Nat):Int)=(c:Int)+1 by omega] at ih
   obtain ⟨G,rfl⟩:∃ G,F=G+1:=⟨F-1,by omega⟩
   rw [if_pos (by omega),Ptb_echelonL0,if_neg (by simp)]
   simp only []
   rw [if_pos (by omega),wrap_id (n:=(c:Int)+1) ⟨by omega,by omega⟩]
   exact ih
theorem P_echelon (F:Nat)(hF:200≤F){N:Int}{n:Nat}(hN:N=n)(hn:n≤64){l:List Pl}(hl:l.length≤64)(hr:Rowy N l):Ptb_echelon F l N=some (form n l).2:=by
 unfold Ptb_echelon form
 rw [if_pos (by omega),hN,wrap_id (n:=2*(n:Int)) ⟨by omega,by omega⟩]
 by_cases e:l=[]
 ·subst e
  have:=PE1 F (by omega) hn F (2*n) 0 (by omega) (by omega)
  rw [show ((0:Nat):Int)=0 from rfl] at this
  rw [if_pos rfl,this,ech_nil]
 ·have:=PE4 F (by omega) hN hn F (2*n) 0 0 l (by omega) (by omega) (by omega) hl hr
  rw [show ((0:Nat):Int)=0 from rfl] at this
  rw [if_neg e,this]
theorem ech_row (n:Nat):∀ (m row c:Nat) (l:List Pl),row≤l.length→(ech n m row c l).1≤l.length∧(ech n m row c l).2.length=l.length
 |0,row,c,l,h=>⟨h,rfl⟩
 |m+1,row,c,l,h=>by
  rw [ech]
  cases ef:findRow l n c (l.length-row) row with
  |none=>exact ech_row n m row (c+1) l h
  |some j=>
   obtain ⟨j1,j2,j3,_⟩:=findRow_some ef
   have:=ech_row n m (row+1) (c+1) (elim n row c l.length 0 (swap l row j)) (by rw [elim_len,swap_len];omega)
   rw [elim_len,swap_len] at this
   exact this
end Go.Proofs.YtogkkamlmklpkaaDoor.Ab
/- Plain law: what the echelon form is: bits at its leading places, rows of noughts behind. No condition: lemmas only. -/
set_option maxRecDepth 100000
set_option linter.unusedVariables false
set_option linter.unusedSimpArgs false
namespace Go.Proofs.YtogkkamlmklpkaaDoor.Ab
open Go
theorem colb_mul (p q:Pl)(n c:Nat):colb (mulP p q) n c=(colb p n c ^^ colb q n c):=by
 unfold colb mulP
 split
 ·rw [BitVec.toNat_xor,Nat.testBit_xor]
 ·rw [BitVec.toNat_xor,Nat.testBit_xor]
theorem elim_get {n r c:Nat}:∀ {m i:Nat}{l:List Pl}{k:Nat},r<l.length→(elim n r c m i l)[k]? = if i≤k∧k<i+m then (elimAt n r c k l)[k]? else l[k]?
 |0,i,l,k,_=>by rw [if_neg (by omega)];rfl
 |m+1,i,l,k,hr=>by
  rw [elim,elim_get (by rw [elimAt_len];exact hr)]
  have other:∀ j,j≠i→(elimAt n r c i l)[j]? = l[j]?:=fun j hj=>by
   unfold elimAt
   split
   ·rfl
   ·split
    ·rename_i p q _ _
     cases colb p n c with
     |false=>rfl
     |true=>rw [cond_true,List.getElem?_set_ne (Ne.symm hj)]
    ·rfl
  have rsame:(elimAt n r c i l)[r]? = l[r]?:=by
   by_cases e:r=i
   ·subst e;rw [elimAt_r]
   ·exact other r e
  by_cases h1:i+1≤k∧k<i+1+m
  ·rw [if_pos h1,if_pos (by omega)]
   have hk:=other k (by omega)
   generalize elimAt n r c i l=L at hk rsame ⊢
   unfold elimAt
   by_cases e:k=r
   ·rw [if_pos e,if_pos e];exact hk
   ·rw [if_neg e,if_neg e]
    rw [hk,rsame]
    cases e1:l[k]? with
    |none=>simp only [];rw [hk,e1]
    |some p=>
     cases e2:l[r]? with
     |none=>simp only [];rw [hk,e1]
     |some q=>
      simp only []
      obtain ⟨a,_⟩:=List.getElem?_eq_some_iff.1 e1
      obtain ⟨b,_⟩:=List.getElem?_eq_some_iff.1 (hk.trans e1)
      cases colb p n c with
      |false=>simp only [cond_false];rw [hk,e1]
      |true=>simp only [cond_true];rw [List.getElem?_set_self a,List.getElem?_set_self b]
  ·rw [if_neg h1]
   by_cases h2:k=i
   ·subst h2;rw [if_pos (by omega)]
   ·rw [if_neg (by omega),other k h2]
theorem elim_row {n r c m:Nat}{l:List Pl}(hm:m=l.length)(hr:r<l.length){k:Nat}(hk:k<l.length):(elim n r c m 0 l)[k]'(by rw [elim_len];exact hk)=if k=r then l[k] else bif colb l[k] n c then mulP l[k] l[r] else l[k]:=by
 subst hm
 have h:=elim_get (n:=n) (c:=c) (m:=l.length) (i:=0) (k:=k) hr
 rw [if_pos (by omega),List.getElem?_eq_getElem (by rw [elim_len];exact hk)] at h
 by_cases e:k=r
 ·subst e
  rw [elimAt_r,List.getElem?_eq_getElem hk] at h
  rw [if_pos rfl];exact Option.some.inj h
 ·rw [elimAt_at e hk hr] at h
  rw [if_neg e]
  cases hb:colb l[k] n c with
  |false=>rw [hb,cond_false,List.getElem?_eq_getElem hk] at h;exact Option.some.inj h
  |true=>rw [hb,cond_true,List.getElem?_set_self hk] at h;exact Option.some.inj h
theorem swap_row {l:List Pl}{r j:Nat}(hr:r<l.length)(hj:j<l.length){k:Nat}(hk:k<l.length):(swap l r j)[k]'(by rw [swap_len];exact hk)=if k=j then l[r] else if k=r then l[j] else l[k]:=by
 have h:(swap l r j)[k]? = some (if k=j then l[r] else if k=r then l[j] else l[k]):=by
  rw [swap_at hr hj]
  by_cases e:k=j
  ·subst e;rw [if_pos rfl,List.getElem?_set_self (by rw [List.length_set];exact hk)]
  ·rw [if_neg e,List.getElem?_set_ne (Ne.symm e)]
   by_cases e2:k=r
   ·subst e2;rw [if_pos rfl,List.getElem?_set_self hk]
   ·rw [if_neg e2,List.getElem?_set_ne (Ne.symm e2),List.getElem?_eq_getElem hk]
 rw [List.getElem?_eq_getElem (by rw [swap_len];exact hk)] at h
 exact Option.some.inj h
structure Ech (n row c:Nat) (l:List Pl) (piv:Nat→Nat):Prop where
 le:row≤l.length
 inc:∀ i j,i<j→j<row→piv i<piv j
 lt:∀ i,i<row→piv i<c
 one:∀ i k (h:k<l.length),i<row→colb l[k] n (piv i)=decide (k=i)
 lead:∀ i (h:i<l.length),i<row→∀ d,d<piv i→colb l[i] n d=false
 low:∀ k (h:k<l.length),row≤k→∀ d,d<c→colb l[k] n d=false
theorem Ech.skip {n row c:Nat}{l:List Pl}{piv:Nat→Nat}(e:Ech n row c l piv)(h:findRow l n c (l.length-row) row=none):Ech n row (c+1) l piv:=by
 have hle:=e.le
 refine ⟨e.le,e.inc,fun i hi=>by have:=e.lt i hi;omega,e.one,e.lead,fun k hk h1 d hd=>?_⟩
 by_cases q:d=c
 ·subst q;exact findRow_none (by omega) h k hk h1 (by omega)
 ·exact e.low k hk h1 d (by omega)
theorem Ech.step {n row c:Nat}{l:List Pl}{piv:Nat→Nat}(e:Ech n row c l piv){j:Nat}(h:findRow l n c (l.length-row) row=some j) :
  Ech n (row+1) (c+1) (elim n row c l.length 0 (swap l row j)) (fun i=>if i=row then c else piv i):=by
 obtain ⟨j1,_,j3,j4⟩:=findRow_some h
 have r1:row<l.length:=by omega
 have sl:(swap l row j).length=l.length:=swap_len
 have sw:=fun k (hk:k<l.length)=>swap_row (l:=l) r1 j3 hk
 have srow:(swap l row j)[row]'(by omega)=l[j]:=by
  rw [sw row r1]
  by_cases q:row=j
  ·subst q;rw [if_pos rfl]
  ·rw [if_neg q,if_pos rfl]
 have el:=fun k (hk:k<l.length)=>elim_row (n:=n) (c:=c) (l:=swap l row j) (r:=row) sl.symm (by omega) (k:=k) (by omega)
 have bit:∀ k (hk:k<l.length) d,colb ((elim n row c l.length 0 (swap l row j))[k]'(by rw [elim_len];omega)) n d=(colb ((swap l row j)[k]'(by omega)) n d ^^ (!decide (k=row)&&(colb ((swap l row j)[k]'(by omega)) n c&&colb l[j] n d))):=fun k hk d=>by
  rw [el k hk]
  by_cases q:k=row
  ·rw [if_pos q,decide_eq_true q];simp
  ·rw [if_neg q,decide_eq_false q]
   cases hb:colb ((swap l row j)[k]'(by omega)) n c with
   |false=>rw [cond_false];simp
   |true=>rw [cond_true,colb_mul,srow];simp
 have slow:∀ k (hk:k<l.length),row≤k→∀ d,d<c→colb ((swap l row j)[k]'(by omega)) n d=false:=fun k hk h1 d hd=>by
  rw [sw k hk]
  by_cases q:k=j
  ·rw [if_pos q];exact e.low row r1 (by omega) d hd
  ·rw [if_neg q]
   by_cases q2:k=row
   ·rw [if_pos q2];exact e.low j j3 j1 d hd
   ·rw [if_neg q2];exact e.low k hk h1 d hd
 have jlow:∀ d,d<c→colb l[j] n d=false:=fun d hd=>e.low j j3 j1 d hd
 have sup:∀ k (hk:k<l.length),k<row→(swap l row j)[k]'(by omega)=l[k]:=fun k hk h1=>by
  rw [sw k hk,if_neg (by omega),if_neg (by omega)]
 refine ⟨by rw [elim_len,sl];omega,fun i k h1 h2=>?_,fun i hi=>?_,fun i k hk hi=>?_,fun i hk hi d hd=>?_,fun k hk h1 d hd=>?_⟩
 ·by_cases q:k=row
  ·rw [if_neg (by omega),if_pos q];exact e.lt i (by omega)
  ·rw [if_neg (by omega),if_neg q];exact e.inc i k h1 (by omega)
 ·by_cases q:i=row
  ·simp only [if_pos q];omega
  ·simp only [if_neg q];have:=e.lt i (by omega);omega
 ·have hk':k<l.length:=by rw [elim_len,sl] at hk;exact hk
  rw [bit k hk']
  by_cases q:i=row
  ·simp only [if_pos q]
   subst q
   by_cases q2:k=i
   ·subst q2
    rw [decide_eq_true rfl,srow,j4];rfl
   ·rw [decide_eq_false q2,j4]
    cases colb ((swap l i j)[k]'(by omega)) n c<;>rfl
  ·simp only [if_neg q]
   have hi':i<row:=by omega
   rw [jlow _ (e.lt i hi'),Bool.and_false,Bool.and_false,Bool.xor_false]
   by_cases h1:k<row
   ·rw [sup k hk' h1];exact e.one i k hk' hi'
   ·rw [slow k hk' (by omega) _ (e.lt i hi'),decide_eq_false (by omega)]
 ·have hk':i<l.length:=by rw [elim_len,sl] at hk;exact hk
  rw [bit i hk']
  by_cases q:i=row
  ·simp only [if_pos q] at hd
   subst q
   rw [decide_eq_true rfl,srow,jlow d hd];rfl
  ·simp only [if_neg q] at hd
   have hi':i<row:=by omega
   rw [jlow d (by have:=e.lt i hi';omega),Bool.and_false,Bool.and_false,Bool.xor_false,sup i hk' hi']
   exact e.lead i hk' hi' d hd
 ·have hk':k<l.length:=by rw [elim_len,sl] at hk;exact hk
  rw [bit k hk',decide_eq_false (by omega:¬ k=row)]
  by_cases q:d=c
  ·subst q
   rw [j4]
   cases colb ((swap l row j)[k]'(by omega)) n d<;>rfl
  ·rw [slow k hk' (by omega) d (by omega),jlow d (by omega)];simp
theorem ech_ech (n:Nat):∀ (m row c:Nat) (l:List Pl) (piv:Nat→Nat),Ech n row c l piv→∃ piv',Ech n (ech n m row c l).1 (c+m) (ech n m row c l).2 piv'
 |0,row,c,l,piv,h=>⟨piv,h⟩
 |m+1,row,c,l,piv,h=>by
  rw [ech,show c+(m+1)=c+1+m by omega]
  cases ef:findRow l n c (l.length-row) row with
  |none=>exact ech_ech n m row (c+1) l piv (h.skip ef)
  |some j=>exact ech_ech n m (row+1) (c+1) _ _ (h.step ef)
theorem form_ech (n:Nat)(l:List Pl):∃ piv,Ech n (form n l).1 (2*n) (form n l).2 piv:=by
 have:=ech_ech n (2*n) 0 0 l (fun _=>0) ⟨by omega,fun _ _ _ h=>by omega,fun _ h=>by omega,fun _ _ _ h=>by omega,fun _ _ h=>by omega,fun _ _ _ _ h=>by omega⟩
 rwa [Nat.zero_add] at this
theorem colb_zero {p:Pl}{n:Nat}(hp:p.ok=true)(hN:p.N=n)(h:∀ d,d<2*n→colb p n d=false):p.X=0#64∧p.Z=0#64:=by
 obtain ⟨_,_,_,_,hx,hz⟩:=ok_iff.1 hp
 rw [hN,Int.toNat_natCast] at hx hz
 constructor
 ·apply BitVec.eq_of_toNat_eq
  apply Nat.eq_of_testBit_eq
  intro i
  by_cases hi:i<n
  ·have:=h i (by omega)
   unfold colb at this
   rw [if_pos hi] at this
   rw [this];simp
  ·rw [Nat.testBit_lt_two_pow (Nat.lt_of_lt_of_le hx (Nat.pow_le_pow_right (by omega) (by omega)))];simp
 ·apply BitVec.eq_of_toNat_eq
  apply Nat.eq_of_testBit_eq
  intro i
  by_cases hi:i<n
  ·have:=h (n+i) (by omega)
   unfold colb at this
   rw [if_neg (by omega),Nat.add_sub_cancel_left] at this
   rw [this];simp
  ·rw [Nat.testBit_lt_two_pow (Nat.lt_of_lt_of_le hz (Nat.pow_le_pow_right (by omega) (by omega)))];simp
theorem colb_nought {p:Pl}{n d:Nat}(h:p.X=0#64∧p.Z=0#64):colb p n d=false:=by
 unfold colb
 rw [h.1,h.2]
 simp
theorem ech_rowy {N:Int}(n:Nat):∀ (m row c:Nat) (l:List Pl),Rowy N l→Rowy N (ech n m row c l).2
 |0,_,_,_,h=>h
 |m+1,row,c,l,h=>by
  rw [ech]
  cases findRow l n c (l.length-row) row with
  |none=>exact ech_rowy n m row (c+1) l h
  |some j=>exact ech_rowy n m (row+1) (c+1) _ h.swap.elim
def Twin (l l':List Pl):Prop:=l.length=l'.length∧∀ k (h:k<l.length) (h':k<l'.length),l[k].X=l'[k].X∧l[k].Z=l'[k].Z
theorem colb_twin {p q:Pl}(h:p.X=q.X∧p.Z=q.Z)(n d:Nat):colb p n d=colb q n d:=by unfold colb;rw [h.1,h.2]
theorem findRow_twin {l l':List Pl}(t:Twin l l'){n c:Nat}:∀ {m i:Nat},findRow l n c m i=findRow l' n c m i
 |0,_=>rfl
 |m+1,i=>by
  by_cases h:i<l.length
  ·have h':i<l'.length:=by rw [← t.1];exact h
   rw [findRow_at h,findRow_at h',colb_twin (t.2 i h h'),findRow_twin t]
  ·rw [findRow,findRow,List.getElem?_eq_none (by omega),List.getElem?_eq_none (by have:=t.1;omega)]
theorem twin_mul {p q p' q':Pl}(h1:p.X=p'.X∧p.Z=p'.Z)(h2:q.X=q'.X∧q.Z=q'.Z):(mulP p q).X=(mulP p' q').X∧(mulP p q).Z=(mulP p' q').Z:=by
 unfold mulP
 simp only [h1.1,h1.2,h2.1,h2.2,and_self]
theorem swap_twin {l l':List Pl}(t:Twin l l'){r j:Nat}(hr:r<l.length)(hj:j<l.length):Twin (swap l r j) (swap l' r j):=by
 have hl:=t.1
 refine ⟨by rw [swap_len,swap_len];exact t.1,fun k h h'=>?_⟩
 rw [swap_len] at h h'
 rw [swap_row hr hj h,swap_row (by omega) (by omega) h']
 by_cases e:k=j
 ·rw [if_pos e,if_pos e];exact t.2 ..
 ·rw [if_neg e,if_neg e]
  by_cases e2:k=r
  ·rw [if_pos e2,if_pos e2];exact t.2 ..
  ·rw [if_neg e2,if_neg e2];exact t.2 ..
theorem elim_twin {l l':List Pl}(t:Twin l l'){n r c:Nat}(hr:r<l.length):Twin (elim n r c l.length 0 l) (elim n r c l'.length 0 l'):=by
 have hl:=t.1
 refine ⟨by rw [elim_len,elim_len];exact t.1,fun k h h'=>?_⟩
 rw [elim_len] at h h'
 rw [elim_row rfl hr h,elim_row rfl (by omega) h']
 by_cases e:k=r
 ·rw [if_pos e,if_pos e];exact t.2 ..
 ·rw [if_neg e,if_neg e,colb_twin (t.2 k h h')]
  cases colb l'[k] n c with
  |false=>exact t.2 ..
  |true=>exact twin_mul (t.2 ..) (t.2 ..)
theorem ech_twin (n:Nat):∀ (m row c:Nat) (l l':List Pl),row≤l.length→Twin l l'→(ech n m row c l).1=(ech n m row c l').1∧Twin (ech n m row c l).2 (ech n m row c l').2
 |0,row,c,l,l',_,t=>⟨rfl,t⟩
 |m+1,row,c,l,l',h,t=>by
  rw [ech,ech,findRow_twin t,← t.1]
  cases ef:findRow l' n c (l.length-row) row with
  |none=>exact ech_twin n m row (c+1) l l' h t
  |some j=>
   obtain ⟨j1,j2,j3,_⟩:=findRow_some ef
   have hl:=t.1
   have s:=swap_twin t (r:=row) (j:=j) (by omega) (by omega)
   have e:=elim_twin s (n:=n) (r:=row) (c:=c) (by rw [swap_len];omega)
   rw [swap_len,swap_len,← t.1] at e
   exact ech_twin n m (row+1) (c+1) _ _ (by rw [elim_len,swap_len];omega) e
end Go.Proofs.YtogkkamlmklpkaaDoor.Ab
/- Plain law: numbers unlike; Cut, the program's and the reference's. No condition: lemmas only. -/
set_option maxRecDepth 100000
set_option linter.unusedVariables false
set_option linter.unusedSimpArgs false
namespace Go.Proofs.YtogkkamlmklpkaaDoor.Ab
open Go
theorem idxI {l:List Int}{i:Nat}(h:i<l.length):idx l (i:Int)=some l[i]:=by rw [idx_nat,List.getElem?_eq_getElem h]
def findI (x:Int):List Int→Nat→Option Nat
 | [],_=>none
 |y::l,i=>if x=y then some i else findI x l (i+1)
theorem findI_mem (x:Int):∀ (l:List Int) (i:Nat),(findI x l i).isSome=decide (x∈l)
 | [],_=>by simp [findI]
 |y::l,i=>by
  unfold findI
  by_cases e:x=y
  ·rw [if_pos e];simp [e]
  ·rw [if_neg e,findI_mem x l (i+1)];simp [e]
theorem PX0 (x:Int)(l:List Int)(hl:l.length<4611686018427387904):∀ (f m i:Nat),i+m=l.length→m<f→
  Pslices_Index_intL0 l x (l.length:Int) f (i:Int)=some (match findI x (l.drop i) i with|some j=>.inl (j:Int)|none=>.inr ())
 |0,m,i,_,h=>by omega
 |f+1,m,i,e,h=>by
  unfold Pslices_Index_intL0
  cases m with
  |zero=>rw [if_neg (by omega),List.drop_of_length_le (by omega)];rfl
  |succ m=>
   have i1:i<l.length:=by omega
   have ih:=PX0 x l hl f m (i+1) (by omega) (by omega)
   rw [show ((i+1:Nat):Int)=(i:Int)+1 by omega] at ih
   rw [if_pos (by omega),idxI i1,List.drop_eq_getElem_cons i1,findI]
   simp only [wrap_id (n:=(i:Int)+1) ⟨by omega,by omega⟩]
   by_cases q:x=l[i]
   ·rw [if_pos q,if_pos q]
   ·rw [if_neg q,if_neg q];exact ih
theorem P_contains (F:Nat)(x:Int)(l:List Int)(hl:l.length<4611686018427387904)(hF:l.length<F):Pslices_Contains_int F l x=some (decide (x∈l)):=by
 unfold Pslices_Contains_int Pslices_Index_int
 have:=PX0 x l hl F l.length 0 (by omega) hF
 rw [show ((0:Nat):Int)=0 from rfl,List.drop_zero] at this
 rw [this,← findI_mem x l 0]
 cases findI x l 0 with
 |none=>rfl
 |some j=>simp only [Option.isSome_some];rw [decide_eq_true (by omega)]
def okAt (l:List Int)(n:Int)(i:Nat):Bool:=match l[i]? with
 |some x=>decide (0≤x)&&(decide (x<n) && !decide (x∈l.take i))
 |none=>false
def apartB (l:List Int)(n:Int):Bool:=allFrom (okAt l n) l.length 0
theorem okAt_lt {l:List Int}{n:Int}{i:Nat}(h:i<l.length):okAt l n i=(decide (0≤l[i])&&(decide (l[i]<n) && !decide (l[i]∈l.take i))):=by unfold okAt;rw [List.getElem?_eq_getElem h]
theorem PU0 (F:Nat)(n:Int)(l:List Int)(hl:l.length<4611686018427387904)(hF:l.length<F):∀ (f m i:Nat),i+m=l.length→m<f→
  Ptb_unlikeL0 F l n l (l.length:Int) f (i:Int)=some (bif allFrom (okAt l n) m i then .inr () else .inl ())
 |0,m,i,_,h=>by omega
 |f+1,m,i,e,h=>by
  unfold Ptb_unlikeL0
  cases m with
  |zero=>rw [if_neg (by omega)];rfl
  |succ m=>
   have i1:i<l.length:=by omega
   have ih:=PU0 F n l hl hF f m (i+1) (by omega) (by omega)
   rw [show ((i+1:Nat):Int)=(i:Int)+1 by omega] at ih
   rw [if_pos (by omega),idxI i1,allFrom,okAt_lt i1]
   simp only [Int.toNat_natCast]
   rw [P_contains F l[i] (l.take i) (by rw [List.length_take];omega) (by rw [List.length_take];omega)]
   simp only [wrap_id (n:=(i:Int)+1) ⟨by omega,by omega⟩]
   by_cases h1:l[i]<0
   ·rw [if_pos h1,decide_eq_false (by omega:¬ 0≤l[i])];rfl
   ·rw [if_neg h1,decide_eq_true (by omega:0≤l[i])]
    by_cases h2:l[i]≥n
    ·rw [if_pos h2,decide_eq_false (by omega:¬ l[i]<n)];rfl
    ·rw [if_neg h2,decide_eq_true (by omega:l[i]<n),if_pos (by omega)]
     cases decide (l[i]∈l.take i) with
     |true=>rfl
     |false=>exact ih
theorem P_unlike (F:Nat)(n:Int)(l:List Int)(hl:l.length<4611686018427387904)(hF:l.length<F):Ptb_unlike F l n=some (apartB l n):=by
 unfold Ptb_unlike apartB
 have:=PU0 F n l hl hF F l.length 0 (by omega) hF
 rw [show ((0:Nat):Int)=0 from rfl] at this
 rw [this]
 cases allFrom (okAt l n) l.length 0<;>rfl
theorem PG0 (F:Nat)(n:Int)(l:List Int)(hl:l.length<4611686018427387904)(hF:l.length<F):∀ (f m i:Nat),i+m=l.length→m<f→
  Pgate_CheckL0 F l n l (l.length:Int) f (i:Int)=some (bif allFrom (okAt l n) m i then .inr () else .inl ())
 |0,m,i,_,h=>by omega
 |f+1,m,i,e,h=>by
  unfold Pgate_CheckL0
  cases m with
  |zero=>rw [if_neg (by omega)];rfl
  |succ m=>
   have i1:i<l.length:=by omega
   have ih:=PG0 F n l hl hF f m (i+1) (by omega) (by omega)
   rw [show ((i+1:Nat):Int)=(i:Int)+1 by omega] at ih
   rw [if_pos (by omega),idxI i1,allFrom,okAt_lt i1]
   simp only [Int.toNat_natCast]
   rw [P_contains F l[i] (l.take i) (by rw [List.length_take];omega) (by rw [List.length_take];omega)]
   simp only [wrap_id (n:=(i:Int)+1) ⟨by omega,by omega⟩]
   by_cases h1:l[i]<0
   ·rw [if_pos h1,decide_eq_false (by omega:¬ 0≤l[i])];rfl
   ·rw [if_neg h1,decide_eq_true (by omega:0≤l[i])]
    by_cases h2:l[i]≥n
    ·rw [if_pos h2,decide_eq_false (by omega:¬ l[i]<n)];rfl
    ·rw [if_neg h2,decide_eq_true (by omega:l[i]<n),if_pos (by omega)]
     cases decide (l[i]∈l.take i) with
     |true=>rfl
     |false=>exact ih
theorem mem_drop_take {l:List Int}{x:Int}{i k:Nat}(hk:k<i)(hi:i≤l.length):decide (x∈(l.take i).drop k)=(decide (x=l[k]'(by omega))||decide (x∈(l.take i).drop (k+1))):=by
 rw [List.drop_eq_getElem_cons (by rw [List.length_take];omega),List.getElem_take]
 simp
theorem apart_at {l:List Int}{n:Int}(h:apartB l n=true){i:Nat}(hi:i<l.length):0≤l[i]∧l[i]<n∧¬ l[i]∈l.take i:=by
 have:=allFrom_iff.1 h i (by omega) (by omega)
 rw [okAt_lt hi] at this
 simpa [Bool.and_eq_true] using this
def maskOf:List Int→BitVec 64→BitVec 64
 | [],m=>m
 |x::l,m=>maskOf l (m ||| (1#64 <<< x.toNat))
theorem PC0' (n:Int)(hn:n≤64)(N:Int)(S D:List Pl)(l:List Int)(hl:l.length<4611686018427387904)(ha:apartB l n=true):∀ (f k i:Nat) (m:BitVec 64),i+k=l.length→k<f→
  Ptb_CutL0 l l (l.length:Int) N S D f m (i:Int)=some (maskOf (l.drop i) m)
 |0,k,i,m,_,h=>by omega
 |f+1,k,i,m,e,h=>by
  unfold Ptb_CutL0
  cases k with
  |zero=>rw [if_neg (by omega),List.drop_of_length_le (by omega)];rfl
  |succ k=>
   have i1:i<l.length:=by omega
   obtain ⟨a1,a2,_⟩:=apart_at ha i1
   have ih:=PC0' n hn N S D l hl ha f k (i+1) (m ||| (1#64 <<< l[i].toNat)) (by omega) (by omega)
   rw [show ((i+1:Nat):Int)=(i:Int)+1 by omega] at ih
   rw [if_pos (by omega),idxI i1,List.drop_eq_getElem_cons i1,maskOf]
   simp only [wrap_id (n:=(i:Int)+1) ⟨by omega,by omega⟩]
   rw [if_neg (by omega)]
   exact ih
def cutP (m:BitVec 64)(p:Pl):Pl:=⟨p.N,p.X &&& m,p.Z &&& m,p.Ph⟩
def cutR (N:Int)(m:BitVec 64)(p:Pl):Pl:=⟨N,p.X &&& m,p.Z &&& m,0⟩
theorem PC3' (a:List Int)(m:BitVec 64)(N:Int)(S D:List Pl)(n:Nat)(hn:n≤64)(hS:S.length=n):∀ (f k i:Nat) (l:List Pl),i+k=n→k<f→l=(S.take i).map (cutP m)++S.drop i→
  Ptb_CutL3 a m (n:Int) N S D f (i:Int) l=some (S.map (cutP m))
 |0,k,i,l,_,h,_=>by omega
 |f+1,k,i,l,e,h,hl=>by
  unfold Ptb_CutL3
  cases k with
  |zero=>
   rw [if_neg (by omega),hl,List.take_of_length_le (by omega),List.drop_of_length_le (by omega),List.append_nil]
  |succ k=>
   have i1:i<S.length:=by omega
   have ll:((S.take i).map (cutP m)).length=i:=by rw [List.length_map,List.length_take];omega
   have l1:i<l.length:=by rw [hl,List.length_append,ll,List.length_drop];omega
   have lg:l[i]=S[i]:=by
    have:l[i]? = some S[i]:=by rw [hl,List.getElem?_append_right (by omega),ll,Nat.sub_self,List.getElem?_drop,Nat.add_zero,List.getElem?_eq_getElem i1]
    rw [List.getElem?_eq_getElem l1] at this
    exact Option.some.inj this
   have ih:=PC3' a m N S D n hn hS f k (i+1) ((l.set i ⟨S[i].N,S[i].X &&& m,S[i].Z,S[i].Ph⟩).set i (cutP m S[i])) (by omega) (by omega) (by
    rw [List.set_set,hl,List.set_append_right _ _ (by omega),ll,Nat.sub_self,List.drop_eq_getElem_cons i1,List.set_cons_zero,List.take_add_one,List.getElem?_eq_getElem i1,List.map_append,List.append_assoc]
    rfl)
   rw [show ((i+1:Nat):Int)=(i:Int)+1 by omega] at ih
   rw [if_pos (by omega),idx_lt l1,lg]
   simp only [Int.toNat_natCast,wrap_id (n:=(i:Int)+1) ⟨by omega,by omega⟩]
   rw [idx_lt (l:=l.set i ⟨S[i].N,S[i].X &&& m,S[i].Z,S[i].Ph⟩) (by rw [List.length_set];exact l1),List.getElem_set_self]
   exact ih
theorem cut_ok {N:Int}{p q:Pl}{m:BitVec 64}(hp:p.ok=true)(hq:q.N=p.N)(h1:q.X=p.X &&& m)(h2:q.Z=p.Z &&& m)(h3:0≤q.Ph)(h4:q.Ph≤3):q.ok=true:=by
 obtain ⟨a,b,c,d,e,f⟩:=ok_iff.1 hp
 refine ok_iff.2 ⟨by omega,by omega,h3,h4,?_,?_⟩
 ·rw [h1,hq,BitVec.toNat_and];exact Nat.lt_of_le_of_lt Nat.and_le_left e
 ·rw [h2,hq,BitVec.toNat_and];exact Nat.lt_of_le_of_lt Nat.and_le_left f
theorem cutP_rowy {N:Int}{S:List Pl}(m:BitVec 64)(h:Rowy N S):Rowy N (S.map (cutP m)):=by
 intro k v hv
 rw [List.getElem?_map] at hv
 obtain ⟨s,hs,rfl⟩:=Option.map_eq_some_iff.1 hv
 obtain ⟨h1,h2⟩:=h k s hs
 obtain ⟨_,_,a,b,_,_⟩:=ok_iff.1 h1
 exact ⟨cut_ok (N:=N) h1 rfl rfl rfl a b,h2⟩
theorem cut_twin {N:Int}{S:List Pl}(m:BitVec 64):Twin (S.map (cutP m)) (S.map (cutR N m)):=by
 refine ⟨by rw [List.length_map,List.length_map],fun k h h'=>?_⟩
 rw [List.getElem_map,List.getElem_map]
 exact ⟨rfl,rfl⟩
theorem PC2' (a:List Int)(G:Int){N:Int}{n row:Nat}(hN:N=n){l:List Pl}{piv:Nat→Nat}(hl:l.length≤64)(e:Ech n row (2*n) l piv)(hr:Rowy N l):∀ (f m i:Nat) (c:Int),i+m=l.length→m<f→c=(min i row:Nat)→
  Ptb_CutL2 a l (l.length:Int) f c (i:Int)=some (row:Int)
 |0,m,i,c,_,h,_=>by omega
 |f+1,m,i,c,e1,h,hc=>by
  have hle:=e.le
  unfold Ptb_CutL2
  cases m with
  |zero=>rw [if_neg (by omega)];congr 1;omega
  |succ m=>
   have i1:i<l.length:=by omega
   have ih:=PC2' a G hN hl e hr f m (i+1) (min (i+1) row:Nat) (by omega) (by omega) rfl
   rw [show ((i+1:Nat):Int)=(i:Int)+1 by omega] at ih
   rw [if_pos (by omega),idx_lt i1]
   simp only [wrap_id (n:=(i:Int)+1) ⟨by omega,by omega⟩]
   by_cases h1:i<row
   ·have hb:=e.one i i i1 h1
    rw [decide_eq_true rfl] at hb
    rw [if_neg (fun q=>?_),wrap_id (n:=c+1) ⟨by omega,by omega⟩,show c+1=(min (i+1) row:Nat) by omega]
    ·exact ih
    ·have q1:l[i].X=0#64∧l[i].Z=0#64:=by
      have hx:(l[i].X ||| l[i].Z).toNat=0:=by rw [q];rfl
      rw [BitVec.toNat_or] at hx
      have h2:=Nat.or_eq_zero_iff.1 hx
      exact ⟨BitVec.eq_of_toNat_eq h2.1,BitVec.eq_of_toNat_eq h2.2⟩
     rw [colb_nought q1] at hb
     cases hb
   ·obtain ⟨z1,z2⟩:=colb_zero (hr.at i1).1 ((hr.at i1).2.trans hN) (fun d hd=>e.low i i1 (by omega) d hd)
    rw [z1,z2,if_pos (by decide),show c=(min (i+1) row:Nat) by omega]
    exact ih
def cutF (N:Int)(S:List Pl)(l:List Int)(n:Nat):Int:=((form n (S.map (cutR N (maskOf l 0#64)))).1:Int)-l.length
def cutA (N:Int)(S D:List Pl)(l:List Int):Int×Int:=if chk N S D=true then (if apartB l N=true then (cutF N S l S.length,0) else (0,2)) else (0,140)
theorem P_Cut (F:Nat)(hF:200≤F)(N:Int)(S D:List Pl)(l:List Int)(hl:l.length<4611686018427387904)(hF2:l.length<F):Ptb_Cut F N S D l=some (cutA N S D l):=by
 unfold Ptb_Cut cutA
 rw [P_Check F (by omega)]
 cases hc:chk N S D with
 |false=>rfl
 |true=>
  obtain ⟨n,t⟩:=chk_tab hc
  have hN:=t.eN
  have hle:=t.le
  have hs:=t.ls
  simp only [if_true]
  rw [P_unlike F N l hl hF2]
  cases ha:apartB l N with
  |false=>rfl
  |true=>
   have c0:=PC0' N (by omega) N S D l hl ha F l.length 0 0#64 (by omega) hF2
   rw [show ((0:Nat):Int)=0 from rfl,List.drop_zero] at c0
   simp only [if_true,cond_true,c0]
   rw [if_pos (by omega)]
   have tw:=ech_twin n (2*n) 0 0 _ _ (by omega) (cut_twin (N:=N) (S:=S) (maskOf l 0#64))
   have fin:∀ r:List Pl,r=(form n (S.map (cutP (maskOf l 0#64)))).2→Ptb_CutL2 l r (r.length:Int) F 0 0=some ((form n (S.map (cutR N (maskOf l 0#64)))).1:Int):=fun r hr=>by
    obtain ⟨piv,e⟩:=form_ech n (S.map (cutP (maskOf l 0#64)))
    rw [← hr] at e
    have lr:r.length≤64:=by
     have:=(ech_row n (2*n) 0 0 (S.map (cutP (maskOf l 0#64))) (by omega)).2
     rw [hr];unfold form;rw [this,List.length_map];omega
    have:=PC2' l 0 hN lr e (by rw [hr];exact ech_rowy n _ _ _ _ (cutP_rowy _ t.rS)) F r.length 0 0 (by omega) (by omega) (by simp)
    rw [show ((0:Nat):Int)=0 from rfl] at this
    rw [this]
    unfold form
    rw [tw.1]
   have hb:-4611686018427387904<((form n (S.map (cutR N (maskOf l 0#64)))).1:Int)-l.length∧((form n (S.map (cutR N (maskOf l 0#64)))).1:Int)-l.length<100:=by
    have:=(ech_row n (2*n) 0 0 (S.map (cutR N (maskOf l 0#64))) (by omega)).1
    rw [List.length_map] at this
    unfold form
    omega
   have ec:=P_echelon F hF hN hle (l:=S.map (cutP (maskOf l 0#64))) (by rw [List.length_map];omega) (cutP_rowy _ t.rS)
   have wr:IntKind.i64.wrap (((form n (S.map (cutR N (maskOf l 0#64)))).1:Int)-(l.length:Int))=cutF N S l n:=wrap_id ⟨by omega,by omega⟩
   rw [hs]
   by_cases e0:S=[]
   ·rw [if_pos e0]
    obtain ⟨f,rfl⟩:∃ f,F=f+1:=⟨F-1,by omega⟩
    unfold Ptb_CutL1
    rw [if_neg (by omega)]
    rw [e0,List.map_nil] at ec
    simp only [ec]
    rw [fin _ (by rw [e0,List.map_nil])]
    simp only [wr]
   ·rw [if_neg e0]
    have c3:=PC3' l (maskOf l 0#64) N S D n hle hs F n 0 S (by omega) (by omega) (by simp)
    rw [show ((0:Nat):Int)=0 from rfl] at c3
    simp only [c3,ec]
    rw [fin _ rfl]
    simp only [wr]
end Go.Proofs.YtogkkamlmklpkaaDoor.Ab
