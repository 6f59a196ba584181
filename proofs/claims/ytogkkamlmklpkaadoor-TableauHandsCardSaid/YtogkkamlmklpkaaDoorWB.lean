/- Plain law: what a string is to a tableau (Member), the program's word and the reference's. No condition: lemmas only. -/
import Derived.Test.YtogkkamlmklpkaaDoorWA
set_option maxRecDepth 100000
set_option linter.unusedVariables false
set_option linter.unusedSimpArgs false
namespace Go.Proofs.YtogkkamlmklpkaaDoor.Ab
open Go
structure Tab (N:Int) (S D:List Pl) (n:Nat):Prop where
 eN:N=n
 le:n≤64
 ls:S.length=n
 ld:D.length=n
 oS:∀ i (h:i<S.length),one N S[i]=true
 oD:∀ i (h:i<D.length),one N D[i]=true
 ss:∀ i j (h:i<S.length) (k:j<S.length),part S[i] S[j]=false
 dd:∀ i j (h:i<D.length) (k:j<D.length),part D[i] D[j]=false
 ds:∀ i j (h:i<D.length) (k:j<S.length),part D[i] S[j]=decide (i=j)
theorem chk_tab {N:Int}{S D:List Pl}(h:chk N S D=true):∃ n,Tab N S D n:=by
 unfold chk at h
 simp only [Bool.and_eq_true,decide_eq_true_eq] at h
 obtain ⟨⟨⟨⟨h1,h2⟩,h3⟩,h4⟩,h5,h6⟩:=h
 obtain ⟨n,rfl⟩:∃ n:Nat,N=(n:Int):=⟨N.toNat,by omega⟩
 rw [Int.toNat_natCast] at h5 h6
 have g1:=allFrom_iff.1 h5
 have g2:=fun i a b j c d=>allFrom_iff.1 (allFrom_iff.1 h6 i a b) j c d
 have k1:∀ i (a:i<S.length) (b:i<D.length),one n S[i]=true∧one n D[i]=true:=fun i a b=>by
  have:=g1 i (by omega) (by omega)
  unfold oneAt at this
  rw [List.getElem?_eq_getElem a,List.getElem?_eq_getElem b] at this
  simpa using this
 have k2:∀ i j (a:i<S.length) (b:i<D.length) (c:j<S.length) (d:j<D.length),part S[i] S[j]=false∧part D[i] D[j]=false∧part D[i] S[j]=decide (i=j):=fun i j a b c d=>by
  have:=g2 i (by omega) (by omega) j (by omega) (by omega)
  unfold two at this
  rw [List.getElem?_eq_getElem a,List.getElem?_eq_getElem b,List.getElem?_eq_getElem c,List.getElem?_eq_getElem d] at this
  simp only [Bool.and_eq_true,Bool.not_eq_true',beq_iff_eq] at this
  exact ⟨this.1.1,this.1.2,this.2⟩
 exact ⟨n,rfl,by omega,by omega,by omega,fun i a=>(k1 i a (by omega)).1,fun i a=>(k1 i (by omega) a).2,fun i j a b=>(k2 i j a (by omega) b (by omega)).1,fun i j a b=>(k2 i j (by omega) a (by omega) b).2.1,fun i j a b=>(k2 i j (by omega) a b (by omega)).2.2⟩
theorem one_iff {N:Int}{p:Pl}:one N p=true↔p.N=N∧p.ok=true∧p.Ph % 2=0:=by
 unfold one Pl.herm
 simp only [Bool.and_eq_true,decide_eq_true_eq]
theorem ok_iff {p:Pl}:p.ok=true↔0≤p.N∧p.N≤64∧0≤p.Ph∧p.Ph≤3∧p.X.toNat<2 ^ p.N.toNat∧p.Z.toNat<2 ^ p.N.toNat:=by
 refine ⟨fun h=>?_,fun ⟨h1,h2,h3,h4,h5,h6⟩=>?_⟩
 ·obtain ⟨a,b,c,d⟩:=Pl.ok_ph h
  obtain ⟨e,f⟩:=Pl.ok_lt h
  exact ⟨a,b,c,d,e,f⟩
 ·unfold Pl.ok
  simp only [Bool.and_eq_true,decide_eq_true_eq,Bool.or_eq_true]
  refine ⟨⟨⟨⟨h1,h2⟩,h3⟩,h4⟩,.inr ?_⟩
  apply BitVec.eq_of_toNat_eq
  rw [tn_shr,BitVec.toNat_or,Nat.div_eq_of_lt (Nat.or_lt_two_pow h5 h6)]
  rfl
theorem mulP_ok {p q:Pl}(hp:p.ok=true)(hq:q.ok=true)(hn:p.N=q.N):(mulP p q).ok=true∧(mulP p q).N=p.N:=by
 obtain ⟨a,b,c,d,e,f⟩:=ok_iff.1 hp
 obtain ⟨_,_,c',d',e',f'⟩:=ok_iff.1 hq
 rw [← hn] at e' f'
 refine ⟨ok_iff.2 ⟨a,b,?_,?_,?_,?_⟩,rfl⟩
 ·show 0≤(_:Int) % 4;omega
 ·show (_:Int) % 4≤3;omega
 ·show (p.X ^^^ q.X).toNat<_;rw [BitVec.toNat_xor];exact Nat.xor_lt_two_pow e e'
 ·show (p.Z ^^^ q.Z).toNat<_;rw [BitVec.toNat_xor];exact Nat.xor_lt_two_pow f f'
def stepS (S D:List Pl)(z:Pl)(i:Nat)(a:Pl):Pl:=match S[i]?,D[i]? with
 |some s,some d=>bif part d z then mulP a s else a
 |_,_=>a
def walkS (S D:List Pl)(z:Pl):Nat→Nat→Pl→Pl
 |0,_,a=>a
 |m+1,i,a=>walkS S D z m (i+1) (stepS S D z i a)
theorem stepS_at {S D:List Pl}{z a:Pl}{i:Nat}(h1:i<S.length)(h2:i<D.length):stepS S D z i a=bif part D[i] z then mulP a S[i] else a:=by
 unfold stepS;rw [List.getElem?_eq_getElem h1,List.getElem?_eq_getElem h2]
theorem stepS_ok {N:Int}{S D:List Pl}{n:Nat}(t:Tab N S D n){z a:Pl}{i:Nat}(hi:i<n)(ha:a.ok=true)(hn:a.N=N):(stepS S D z i a).ok=true∧(stepS S D z i a).N=N:=by
 rw [stepS_at (by rw [t.ls];exact hi) (by rw [t.ld];exact hi)]
 obtain ⟨o1,o2,_⟩:=one_iff.1 (t.oS i (by rw [t.ls];exact hi))
 cases part (D[i]'(by rw [t.ld];exact hi)) z with
 |false=>exact ⟨ha,hn⟩
 |true=>
  obtain ⟨q1,q2⟩:=mulP_ok ha o2 (hn.trans o1.symm)
  exact ⟨q1,q2.trans hn⟩
theorem PS0 (F:Nat)(hF:65≤F){N:Int}{S D:List Pl}{n:Nat}(t:Tab N S D n)(z r:Pl):∀ (f m i:Nat) (a:Pl),i+m=n→m<f→a.ok=true→a.N=N→
  Ptb_sureL0 F D n N S D z.N z.X z.Z z.Ph r.N r.X r.Z r.Ph f (i:Int) a.N a.X a.Z a.Ph=some ((walkS S D z m i a).N,(walkS S D z m i a).X,(walkS S D z m i a).Z,(walkS S D z m i a).Ph)
 |0,m,i,a,_,h,_,_=>by omega
 |f+1,m,i,a,e,h,ha,hn=>by
  have hle:=t.le
  unfold Ptb_sureL0
  cases m with
  |zero=>rw [if_neg (by omega)];rfl
  |succ m=>
   have i1:i<S.length:=by rw [t.ls];omega
   have i2:i<D.length:=by rw [t.ld];omega
   obtain ⟨o1,o2,_⟩:=one_iff.1 (t.oS i i1)
   have so:=stepS_ok t (z:=z) (i:=i) (by omega) ha hn
   have ih:=PS0 F hF t z r f m (i+1) (stepS S D z i a) (by omega) (by omega) so.1 so.2
   rw [show ((i+1:Nat):Int)=(i:Int)+1 by omega] at ih
   rw [if_pos (by omega),idx_lt i1,idx_lt i2]
   simp only [P_commute,wrap_id (n:=(i:Int)+1) ⟨by omega,by omega⟩,P_mul F hF a S[i] ha o2 (hn.trans o1.symm)]
   rw [walkS]
   rw [stepS_at i1 i2] at ih ⊢
   cases hc:part D[i] z with
   |false=>rw [hc] at ih;exact ih
   |true=>rw [hc] at ih;exact ih
def unit (N:Int):Pl:=⟨N,0#64,0#64,0⟩
theorem unit_ok {N:Int}{S D:List Pl}{n:Nat}(t:Tab N S D n):(unit N).ok=true∧(unit N).N=N:=by
 have h1:=t.eN
 have h2:=t.le
 exact ⟨ok_iff.2 ⟨by show 0≤N;omega,by show N≤64;omega,Int.le_refl _,by show (0:Int)≤3;omega,Nat.two_pow_pos _,Nat.two_pow_pos _⟩,rfl⟩
theorem P_sure (F:Nat)(hF:65≤F){N:Int}{S D:List Pl}{n:Nat}(t:Tab N S D n)(z:Pl):Ptb_sure F N S D z.N z.X z.Z z.Ph=some ((walkS S D z n 0 (unit N)).N,(walkS S D z n 0 (unit N)).X,(walkS S D z n 0 (unit N)).Z,(walkS S D z n 0 (unit N)).Ph):=by
 have hle:=t.le
 obtain ⟨u1,u2⟩:=unit_ok t
 have:=PS0 F hF t z ⟨0,0#64,0#64,0⟩ F n 0 (unit N) (by omega) (by omega) u1 u2
 unfold Ptb_sure
 rw [show ((D.length:Nat):Int)=(n:Int) by rw [t.ld]]
 exact (congrArg (fun x=>match x with|none=>none|some (y1,y2,y3,y4)=>some (y1,y2,y3,y4)) this)
theorem RS0 (F:Nat)(hF:66≤F){N:Int}{S D:List Pl}{n:Nat}(t:Tab N S D n)(z:Pl):∀ (f m i:Nat) (a:Pl),i+m=n→m<f→a.ok=true→a.N=N→
  Pref14_signL0 F N S D z.N z.X z.Z z.Ph f (i:Int) a.N a.X a.Z a.Ph=some ((walkS S D z m i a).N,(walkS S D z m i a).X,(walkS S D z m i a).Z,(walkS S D z m i a).Ph)
 |0,m,i,a,_,h,_,_=>by omega
 |f+1,m,i,a,e,h,ha,hn=>by
  have hle:=t.le
  have hN:=t.eN
  unfold Pref14_signL0
  cases m with
  |zero=>rw [if_neg (by omega)];rfl
  |succ m=>
   have i1:i<S.length:=by rw [t.ls];omega
   have i2:i<D.length:=by rw [t.ld];omega
   obtain ⟨o1,o2,_⟩:=one_iff.1 (t.oS i i1)
   have so:=stepS_ok t (z:=z) (i:=i) (by omega) ha hn
   have ih:=RS0 F hF t z f m (i+1) (stepS S D z i a) (by omega) (by omega) so.1 so.2
   rw [show ((i+1:Nat):Int)=(i:Int)+1 by omega] at ih
   rw [if_pos (by omega),idx_lt i1,idx_lt i2]
   simp only [R_commute F (by omega:65≤F),wrap_id (n:=(i:Int)+1) ⟨by omega,by omega⟩,R_times F hF a S[i] ha o2 (hn.trans o1.symm)]
   rw [walkS]
   rw [stepS_at i1 i2] at ih ⊢
   cases hc:part D[i] z with
   |false=>rw [hc] at ih;exact ih
   |true=>rw [hc] at ih;exact ih
theorem R_sign (F:Nat)(hF:66≤F){N:Int}{S D:List Pl}{n:Nat}(t:Tab N S D n)(z:Pl):Pref14_sign F N S D z.N z.X z.Z z.Ph=some (if (walkS S D z n 0 (unit N)).Ph=z.Ph then 1 else -1):=by
 have hle:=t.le
 obtain ⟨u1,u2⟩:=unit_ok t
 have:=RS0 F hF t z F n 0 (unit N) (by omega) (by omega) u1 u2
 unfold Pref14_sign
 refine (congrArg (fun x=>match x with|none=>none|some (y1,y2,y3,y4)=>if y4=z.Ph then some (1:Int) else some (-1)) this).trans ?_
 simp only []
 split<;>rfl
end Go.Proofs.YtogkkamlmklpkaaDoor.Ab
/- Plain law: a string that parts with no stabilizer is their product (but for its sign): Member. No condition: lemmas only. -/
set_option maxRecDepth 100000
set_option linter.unusedVariables false
set_option linter.unusedSimpArgs false
namespace Go.Proofs.YtogkkamlmklpkaaDoor.Ab
open Go
def firstPart (S:List Pl)(z:Pl):Nat→Nat→Option Nat
 |0,_=>none
 |m+1,i=>match S[i]? with
  |some s=>bif part s z then some i else firstPart S z m (i+1)
  |none=>none
theorem firstPart_some {S:List Pl}{z:Pl}:∀ {m i j:Nat},firstPart S z m i=some j→i≤j∧j<i+m∧∃ h:j<S.length,part S[j] z=true
 |0,i,j,h=>by cases h
 |m+1,i,j,h=>by
  unfold firstPart at h
  cases e:S[i]? with
  |none=>rw [e] at h;cases h
  |some s=>
   rw [e] at h
   simp only [] at h
   obtain ⟨hl,hs⟩:=List.getElem?_eq_some_iff.1 e
   cases hp:part s z with
   |true=>rw [hp] at h;cases h;exact ⟨by omega,by omega,hl,by rw [hs];exact hp⟩
   |false=>
    rw [hp] at h
    obtain ⟨a,b,c⟩:=firstPart_some h
    exact ⟨by omega,by omega,c⟩
theorem firstPart_none {S:List Pl}{z:Pl}:∀ {m i:Nat},i+m≤S.length→firstPart S z m i=none→∀ j (h:j<S.length),i≤j→j<i+m→part S[j] z=false
 |0,i,_,_,j,_,_,_=>by omega
 |m+1,i,hl,h,j,hj,h1,h2=>by
  unfold firstPart at h
  have i1:i<S.length:=by omega
  rw [List.getElem?_eq_getElem i1] at h
  simp only [] at h
  cases hp:part S[i] z with
  |true=>rw [hp] at h;cases h
  |false=>
   rw [hp] at h
   by_cases e:j=i
   ·subst e;exact hp
   ·exact firstPart_none (by omega) h j hj (by omega) (by omega)
theorem firstPart_at {S:List Pl}{z:Pl}{m i:Nat}(h:i<S.length):firstPart S z (m+1) i=bif part S[i] z then some i else firstPart S z m (i+1):=by rw [firstPart,List.getElem?_eq_getElem h]
theorem RL0 (F:Nat)(hF:65≤F){N:Int}{S D:List Pl}{n:Nat}(t:Tab N S D n)(z:Pl):∀ (f m i:Nat),i+m=n→m<f→
  Pref14_looseL0 F N S D z.N z.X z.Z z.Ph f (i:Int)=some (match firstPart S z m i with|some j=>.inl (j:Int)|none=>.inr ())
 |0,m,i,_,h=>by omega
 |f+1,m,i,e,h=>by
  have hle:=t.le
  have hN:=t.eN
  unfold Pref14_looseL0
  cases m with
  |zero=>rw [if_neg (by omega)];rfl
  |succ m=>
   have i1:i<S.length:=by rw [t.ls];omega
   have ih:=RL0 F hF t z f m (i+1) (by omega) (by omega)
   rw [show ((i+1:Nat):Int)=(i:Int)+1 by omega] at ih
   rw [if_pos (by omega),idx_lt i1]
   simp only [R_commute F hF,wrap_id (n:=(i:Int)+1) ⟨by omega,by omega⟩]
   rw [firstPart_at i1]
   cases hc:part S[i] z with
   |false=>exact ih
   |true=>rfl
theorem R_loose (F:Nat)(hF:66≤F){N:Int}{S D:List Pl}{n:Nat}(t:Tab N S D n)(z:Pl):Pref14_loose F N S D z.N z.X z.Z z.Ph=some (match firstPart S z n 0 with|some j=>(j:Int)|none=>-1):=by
 have hle:=t.le
 have:=RL0 F (by omega) t z F n 0 (by omega) (by omega)
 rw [show ((0:Nat):Int)=0 from rfl] at this
 unfold Pref14_loose
 rw [this]
 cases firstPart S z n 0<;>rfl
theorem part_mul (p a s:Pl):part p (mulP a s)=(part p a ^^ part p s):=by
 unfold part mulP
 simp only [BitVec.toNat_xor]
 exact om_xor ..
theorem part_unit (p:Pl)(N:Int):part p (unit N)=false:=om_zero ..
theorem part_walk {N:Int}{S D:List Pl}{n:Nat}(t:Tab N S D n)(z p:Pl)(hp:∀ j (h:j<S.length),part p S[j]=false):∀ (m i:Nat) (a:Pl),i+m≤n→part p a=false→part p (walkS S D z m i a)=false
 |0,i,a,_,h=>h
 |m+1,i,a,e,h=>by
  have i1:i<S.length:=by rw [t.ls];omega
  have i2:i<D.length:=by rw [t.ld];omega
  rw [walkS]
  refine part_walk t z p hp m (i+1) _ (by omega) ?_
  rw [stepS_at i1 i2]
  cases part D[i] z with
  |false=>exact h
  |true=>rw [cond_true,part_mul,h,hp i i1];rfl
def colX (S:List Pl)(i:Nat):Nat:=match S[i]? with|some s=>s.X.toNat|none=>0
def colZ (S:List Pl)(i:Nat):Nat:=match S[i]? with|some s=>s.Z.toNat|none=>0
theorem colX_at {S:List Pl}{i:Nat}(h:i<S.length):colX S i=S[i].X.toNat:=by unfold colX;rw [List.getElem?_eq_getElem h]
theorem colZ_at {S:List Pl}{i:Nat}(h:i<S.length):colZ S i=S[i].Z.toNat:=by unfold colZ;rw [List.getElem?_eq_getElem h]
theorem walk_comb {N:Int}{S D:List Pl}{n:Nat}(t:Tab N S D n)(z:Pl):∀ (m i:Nat) (a:Pl),i+m≤n→
  a.X.toNat=comb (colX S) (fun j=>om (colX D j) (colZ D j) z.X.toNat z.Z.toNat) i→a.Z.toNat=comb (colZ S) (fun j=>om (colX D j) (colZ D j) z.X.toNat z.Z.toNat) i→
  (walkS S D z m i a).X.toNat=comb (colX S) (fun j=>om (colX D j) (colZ D j) z.X.toNat z.Z.toNat) (i+m)∧(walkS S D z m i a).Z.toNat=comb (colZ S) (fun j=>om (colX D j) (colZ D j) z.X.toNat z.Z.toNat) (i+m)
 |0,i,a,_,h1,h2=>⟨h1,h2⟩
 |m+1,i,a,e,h1,h2=>by
  have i1:i<S.length:=by rw [t.ls];omega
  have i2:i<D.length:=by rw [t.ld];omega
  rw [walkS,show i+(m+1)=i+1+m by omega]
  refine walk_comb t z m (i+1) _ (by omega) ?_ ?_
  ·rw [stepS_at i1 i2,comb,← h1,colX_at i2,colZ_at i2,colX_at i1]
   show _=_
   unfold part
   cases om D[i].X.toNat D[i].Z.toNat z.X.toNat z.Z.toNat<;>simp [mulP,BitVec.toNat_xor]
  ·rw [stepS_at i1 i2,comb,← h2,colX_at i2,colZ_at i2,colZ_at i1]
   unfold part
   cases om D[i].X.toNat D[i].Z.toNat z.X.toNat z.Z.toNat<;>simp [mulP,BitVec.toNat_xor]
theorem first_walk {N:Int}{S D:List Pl}{n:Nat}(t:Tab N S D n){z:Pl}(hz:one N z=true):firstPart S z n 0=none↔(walkS S D z n 0 (unit N)).X=z.X∧(walkS S D z n 0 (unit N)).Z=z.Z:=by
 obtain ⟨z1,z2,_⟩:=one_iff.1 hz
 obtain ⟨_,_,_,_,zx,zz⟩:=ok_iff.1 z2
 have hN:=t.eN
 rw [z1,hN,Int.toNat_natCast] at zx zz
 have oS:=fun i (h:i<S.length)=>(one_iff.1 (t.oS i h))
 have oD:=fun i (h:i<D.length)=>(one_iff.1 (t.oD i h))
 have lS:∀ i (h:i<S.length),S[i].X.toNat<2 ^ n∧S[i].Z.toNat<2 ^ n:=fun i h=>by
  obtain ⟨a,b,_⟩:=oS i h
  obtain ⟨_,_,_,_,x,y⟩:=ok_iff.1 b
  rw [a,hN,Int.toNat_natCast] at x y
  exact ⟨x,y⟩
 have lD:∀ i (h:i<D.length),D[i].X.toNat<2 ^ n∧D[i].Z.toNat<2 ^ n:=fun i h=>by
  obtain ⟨a,b,_⟩:=oD i h
  obtain ⟨_,_,_,_,x,y⟩:=ok_iff.1 b
  rw [a,hN,Int.toNat_natCast] at x y
  exact ⟨x,y⟩
 have hs:=t.ls
 have hd:=t.ld
 constructor
 ·intro h
  have hc:=firstPart_none (by omega) h
  have key:=span_stab (n:=n) (sx:=colX S) (sz:=colZ S) (dx:=colX D) (dz:=colZ D) (x:=z.X.toNat) (z:=z.Z.toNat)
   (fun i hi=>by rw [colX_at (by omega)];exact (lS i (by omega)).1) (fun i hi=>by rw [colZ_at (by omega)];exact (lS i (by omega)).2)
   (fun i hi=>by rw [colX_at (by omega)];exact (lD i (by omega)).1) (fun i hi=>by rw [colZ_at (by omega)];exact (lD i (by omega)).2)
   (fun i j hi hj=>by rw [colX_at (by omega),colZ_at (by omega),colX_at (by omega),colZ_at (by omega)];exact t.ss i j (by omega) (by omega))
   (fun i j hi hj=>by rw [colX_at (by omega),colZ_at (by omega),colX_at (by omega),colZ_at (by omega)];exact t.dd i j (by omega) (by omega))
   (fun i j hi hj=>by rw [colX_at (by omega),colZ_at (by omega),colX_at (by omega),colZ_at (by omega)];exact t.ds i j (by omega) (by omega))
   zx zz (fun i hi=>by rw [colX_at (by omega),colZ_at (by omega)];exact hc i (by omega) (by omega) (by omega))
  obtain ⟨w1,w2⟩:=walk_comb t z n 0 (unit N) (by omega) rfl rfl
  rw [Nat.zero_add] at w1 w2
  exact ⟨BitVec.eq_of_toNat_eq (w1.trans key.1),BitVec.eq_of_toNat_eq (w2.trans key.2)⟩
 ·intro ⟨h1,h2⟩
  cases e:firstPart S z n 0 with
  |none=>rfl
  |some j=>
   obtain ⟨_,_,hj,hp⟩:=firstPart_some e
   have:=part_walk t z S[j] (fun k hk=>t.ss j k hj hk) n 0 (unit N) (by omega) (part_unit _ _)
   unfold part at this hp
   rw [h1,h2] at this
   rw [this] at hp
   cases hp
def memb (N:Int)(S D:List Pl)(z:Pl)(n:Nat):Int:=match firstPart S z n 0 with
 |some _=>0
 |none=>if (walkS S D z n 0 (unit N)).Ph=z.Ph then 1 else -1
theorem P_Member (F:Nat)(hF:66≤F){N:Int}{S D:List Pl}{n:Nat}(hc:chk N S D=true)(t:Tab N S D n)(z:Pl):Ptb_Member F N S D z.N z.X z.Z z.Ph=some (if one N z=true then (memb N S D z n,0) else (0,2)):=by
 unfold Ptb_Member
 rw [P_Check F hF,if_pos hc]
 simp only [P_sure F (by omega:65≤F) t z,P_herm]
 rw [if_pos trivial]
 by_cases h1:z.N=N
 ·rw [if_pos h1]
  cases h2:z.herm with
  |false=>
   have:¬ one N z=true:=by unfold one;rw [h2];simp
   rw [if_neg this];rfl
  |true=>
   have ho:one N z=true:=by unfold one;rw [h2,decide_eq_true h1];rfl
   have fw:=first_walk t ho
   rw [if_pos ho,cond_true]
   unfold memb
   cases e:firstPart S z n 0 with
   |none=>
    obtain ⟨w1,w2⟩:=fw.1 e
    rw [if_pos w1,if_pos w2]
    simp only []
    split<;>rfl
   |some j=>
    simp only []
    by_cases g1:(walkS S D z n 0 (unit N)).X=z.X
    ·rw [if_pos g1,if_neg (fun g2=>by rw [fw.2 ⟨g1,g2⟩] at e;cases e)]
    ·rw [if_neg g1]
 ·have:¬ one N z=true:=by unfold one;rw [decide_eq_false h1];simp
  rw [if_neg h1,if_neg this]
theorem R_Member (F:Nat)(hF:66≤F){N:Int}{S D:List Pl}{n:Nat}(hc:chk N S D=true)(t:Tab N S D n)(z:Pl):Pref14_Member F N S D z.N z.X z.Z z.Ph=some (if one N z=true then (memb N S D z n,0) else (0,2)):=by
 unfold Pref14_Member
 rw [R_Right F hF,hc]
 simp only [R_right F (by omega:65≤F) z,R_loose F hF t z,R_sign F hF t z,cond_true]
 have ho:=one_R N z
 cases h2:z.ok with
 |false=>
  rw [h2] at ho
  rw [ho];rfl
 |true=>
  rw [h2] at ho
  rw [cond_true]
  by_cases h1:z.N=N
  ·rw [if_pos h1]
   by_cases h3:z.Ph.tmod 2=1
   ·rw [if_pos h3]
    rw [ho,decide_eq_true h1,decide_eq_true h3];rfl
   ·rw [if_neg h3]
    rw [ho,decide_eq_true h1,decide_eq_false h3]
    unfold memb
    cases firstPart S z n 0 with
    |some j=>simp only [];rw [if_pos (by omega)];rfl
    |none=>simp only [];rw [if_neg (by omega)];rfl
  ·rw [if_neg h1,ho,decide_eq_false h1];rfl
end Go.Proofs.YtogkkamlmklpkaaDoor.Ab
/- Plain law: a string put into a tableau (replaced, Force). No condition: lemmas only. -/
set_option maxRecDepth 100000
set_option linter.unusedVariables false
set_option linter.unusedSimpArgs false
namespace Go.Proofs.YtogkkamlmklpkaaDoor.Ab
open Go
def turnAt (s z:Pl)(p i:Nat)(l:List Pl):List Pl:=if i=p then l else match l[i]? with
 |some v=>bif part v z then l.set i (mulP v s) else l
 |none=>l
def turnFrom (s z:Pl)(p:Nat):Nat→Nat→List Pl→List Pl
 |0,_,l=>l
 |m+1,i,l=>turnFrom s z p m (i+1) (turnAt s z p i l)
theorem turnAt_len {s z:Pl}{p i:Nat}{l:List Pl}:(turnAt s z p i l).length=l.length:=by
 unfold turnAt
 split
 ·rfl
 ·split
  ·rename_i v _;cases part v z<;>simp
  ·rfl
theorem turnAt_p {s z:Pl}{p:Nat}{l:List Pl}:turnAt s z p p l=l:=by unfold turnAt;rw [if_pos rfl]
theorem turnAt_i {s z:Pl}{p i:Nat}{l:List Pl}(h:i≠p)(hi:i<l.length):turnAt s z p i l=bif part l[i] z then l.set i (mulP l[i] s) else l:=by
 unfold turnAt;rw [if_neg h,List.getElem?_eq_getElem hi]
theorem turnAt_get {s z:Pl}{p i k:Nat}{l:List Pl}(h:k≠i):(turnAt s z p i l)[k]? = l[k]?:=by
 unfold turnAt
 split
 ·rfl
 ·split
  ·rename_i v _
   cases part v z
   ·rfl
   ·rw [cond_true,List.getElem?_set_ne (Ne.symm h)]
  ·rfl
theorem turnFrom_len {s z:Pl}{p:Nat}:∀ {m i:Nat}{l:List Pl},(turnFrom s z p m i l).length=l.length
 |0,_,_=>rfl
 |m+1,i,l=>by rw [turnFrom,turnFrom_len,turnAt_len]
def Rowy (N:Int)(l:List Pl):Prop:=∀ (k:Nat) (v:Pl),l[k]? = some v→v.ok=true∧v.N=N
theorem Rowy.turn {N:Int}{s z:Pl}{p i:Nat}{l:List Pl}(h:Rowy N l)(hs:s.ok=true)(hn:s.N=N):Rowy N (turnAt s z p i l):=by
 intro k v hv
 by_cases e:k=i
 ·subst e
  by_cases e2:k=p
  ·subst e2;rw [turnAt_p] at hv;exact h k v hv
  ·have hk:k<l.length:=by
    have:=(List.getElem?_eq_some_iff.1 hv).1
    rwa [turnAt_len] at this
   obtain ⟨q1,q2⟩:=h k l[k] (List.getElem?_eq_getElem hk)
   rw [turnAt_i e2 hk] at hv
   cases hp:part l[k] z with
   |false=>rw [hp] at hv;exact h k v hv
   |true=>
    rw [hp,cond_true,List.getElem?_set_self hk] at hv
    cases hv
    obtain ⟨r1,r2⟩:=mulP_ok q1 hs (q2.trans hn.symm)
    exact ⟨r1,r2.trans q2⟩
 ·rw [turnAt_get e] at hv;exact h k v hv
theorem PR3 (F:Nat)(hF:65≤F){N:Int}(z s:Pl)(p:Nat)(n:Nat)(hn:n≤64)(hN:N=n)(S D X:List Pl)(hp:p<S.length)(hs:S[p]=s)(o1:s.ok=true)(o2:s.N=N):∀ (f m i:Nat) (l:List Pl),i+m=n→m<f→l.length=n→Rowy N l→
  Ptb_replacedL3 F n X z.N z.X z.Z z.Ph p N S D f (i:Int) l=some (turnFrom s z p m i l)
 |0,m,i,l,_,h,_,_=>by omega
 |f+1,m,i,l,e,h,hl,hr=>by
  unfold Ptb_replacedL3
  cases m with
  |zero=>rw [if_neg (by omega)];rfl
  |succ m=>
   have i1:i<l.length:=by omega
   obtain ⟨q1,q2⟩:=hr i l[i] (List.getElem?_eq_getElem i1)
   have ih:=PR3 F hF z s p n hn hN S D X hp hs o1 o2 f m (i+1) (turnAt s z p i l) (by omega) (by omega) (by rw [turnAt_len];exact hl) (hr.turn o1 o2)
   rw [show ((i+1:Nat):Int)=(i:Int)+1 by omega] at ih
   rw [if_pos (by omega),idx_lt i1,idx_lt hp,hs,turnFrom]
   simp only [P_commute,wrap_id (n:=(i:Int)+1) ⟨by omega,by omega⟩,P_mul F hF l[i] s q1 o1 (q2.trans o2.symm)]
   by_cases hip:i=p
   ·rw [if_pos (by omega:(i:Int)=(p:Int))]
    subst hip
    rw [turnAt_p] at ih ⊢
    exact ih
   ·rw [if_neg (by omega:¬ (i:Int)=(p:Int))]
    rw [turnAt_i hip i1] at ih ⊢
    cases hc:part l[i] z with
    |false=>rw [hc] at ih;exact ih
    |true=>rw [hc] at ih;exact ih
theorem PR4 (F:Nat)(hF:65≤F){N:Int}(z s:Pl)(p:Nat)(n:Nat)(hn:n≤64)(hN:N=n)(S D X:List Pl)(hp:p<S.length)(hs:S[p]=s)(o1:s.ok=true)(o2:s.N=N):∀ (f m i:Nat) (l:List Pl),i+m=n→m<f→l.length=n→Rowy N l→
  Ptb_replacedL4 F n X z.N z.X z.Z z.Ph p N S D f (i:Int) l=some (turnFrom s z p m i l)
 |0,m,i,l,_,h,_,_=>by omega
 |f+1,m,i,l,e,h,hl,hr=>by
  unfold Ptb_replacedL4
  cases m with
  |zero=>rw [if_neg (by omega)];rfl
  |succ m=>
   have i1:i<l.length:=by omega
   obtain ⟨q1,q2⟩:=hr i l[i] (List.getElem?_eq_getElem i1)
   have ih:=PR4 F hF z s p n hn hN S D X hp hs o1 o2 f m (i+1) (turnAt s z p i l) (by omega) (by omega) (by rw [turnAt_len];exact hl) (hr.turn o1 o2)
   rw [show ((i+1:Nat):Int)=(i:Int)+1 by omega] at ih
   rw [if_pos (by omega),idx_lt i1,idx_lt hp,hs,turnFrom]
   simp only [P_commute,wrap_id (n:=(i:Int)+1) ⟨by omega,by omega⟩,P_mul F hF l[i] s q1 o1 (q2.trans o2.symm)]
   by_cases hip:i=p
   ·rw [if_pos (by omega:(i:Int)=(p:Int))]
    subst hip
    rw [turnAt_p] at ih ⊢
    exact ih
   ·rw [if_neg (by omega:¬ (i:Int)=(p:Int))]
    rw [turnAt_i hip i1] at ih ⊢
    cases hc:part l[i] z with
    |false=>rw [hc] at ih;exact ih
    |true=>rw [hc] at ih;exact ih
def putS (S:List Pl)(z:Pl)(n p:Nat):List Pl:=match S[p]? with|some s=>(turnFrom s z p n 0 S).set p z|none=>S
def putD (S D:List Pl)(z:Pl)(n p:Nat):List Pl:=match S[p]? with|some s=>(turnFrom s z p n 0 D).set p s|none=>D
theorem Tab.rS {N:Int}{S D:List Pl}{n:Nat}(t:Tab N S D n):Rowy N S:=fun k v hv=>by
 obtain ⟨h1,h2⟩:=List.getElem?_eq_some_iff.1 hv
 obtain ⟨a,b,_⟩:=one_iff.1 (t.oS k h1)
 rw [← h2];exact ⟨b,a⟩
theorem Tab.rD {N:Int}{S D:List Pl}{n:Nat}(t:Tab N S D n):Rowy N D:=fun k v hv=>by
 obtain ⟨h1,h2⟩:=List.getElem?_eq_some_iff.1 hv
 obtain ⟨a,b,_⟩:=one_iff.1 (t.oD k h1)
 rw [← h2];exact ⟨b,a⟩
theorem P_copied {N:Int}{S D:List Pl}(h1:S.length*32≤140737488355328)(h2:D.length*32≤140737488355328):Ptb_copied N S D=some (N,S,D):=by
 unfold Ptb_copied
 simp only [h1,h2,if_true]
 by_cases a:S=[]<;>by_cases b:D=[]<;>simp [a,b]
theorem R_Copy {N:Int}{S D:List Pl}(h1:S.length*32≤140737488355328)(h2:D.length*32≤140737488355328):Pref14_Copy N S D=some (N,S,D):=by
 unfold Pref14_Copy
 simp only [h1,h2,if_true]
 by_cases a:S=[]<;>by_cases b:D=[]<;>simp [a,b]
theorem P_replaced (F:Nat)(hF:66≤F){N:Int}{S D:List Pl}{n:Nat}(t:Tab N S D n)(z:Pl)(p:Nat)(hp:p<n):Ptb_replaced F N S D p z.N z.X z.Z z.Ph=some (N,putS S z n p,putD S D z n p):=by
 have hle:=t.le
 have hs:=t.ls
 have hd:=t.ld
 have n1:¬ S=[]:=fun e=>by rw [e] at hs;simp at hs;omega
 have n2:¬ D=[]:=fun e=>by rw [e] at hd;simp at hd;omega
 have p1:p<S.length:=by omega
 obtain ⟨o2,o1,_⟩:=one_iff.1 (t.oS p p1)
 have a1:=PR3 F (by omega) z S[p] p n hle t.eN S D D p1 rfl o1 o2 F n 0 S (by omega) (by omega) hs t.rS
 have a2:=PR4 F (by omega) z S[p] p n hle t.eN S D (turnFrom S[p] z p n 0 S) p1 rfl o1 o2 F n 0 D (by omega) (by omega) hd t.rD
 rw [show ((0:Nat):Int)=0 from rfl] at a1 a2
 unfold Ptb_replaced putS putD
 rw [P_copied (by omega) (by omega)]
 simp only []
 rw [if_neg n1,if_neg n2,show ((S.length:Nat):Int)=n by rw [hs],show ((D.length:Nat):Int)=n by rw [hd],a1]
 simp only []
 rw [a2]
 simp only []
 rw [idx_lt p1,idx_lt (l:=turnFrom S[p] z p n 0 D) (by rw [turnFrom_len];omega),idx_lt (l:=turnFrom S[p] z p n 0 S) (by rw [turnFrom_len];omega),List.getElem?_eq_getElem p1]
 simp only [Int.toNat_natCast]
end Go.Proofs.YtogkkamlmklpkaaDoor.Ab
/- Plain law: Force, the program's and the reference's. No condition: lemmas only. -/
set_option maxRecDepth 100000
set_option linter.unusedVariables false
set_option linter.unusedSimpArgs false
namespace Go.Proofs.YtogkkamlmklpkaaDoor.Ab
open Go
theorem putS_len {S:List Pl}{z:Pl}{n p:Nat}:(putS S z n p).length=S.length:=by
 unfold putS;split
 ·rw [List.length_set,turnFrom_len]
 ·rfl
theorem putD_len {S D:List Pl}{z:Pl}{n p:Nat}:(putD S D z n p).length=D.length:=by
 unfold putD;split
 ·rw [List.length_set,turnFrom_len]
 ·rfl
end Go.Proofs.YtogkkamlmklpkaaDoor.Ab
/- Plain law: a tableau with a string put in is in order again; Overlap; the law of Force. No condition: lemmas only. -/
set_option maxRecDepth 100000
set_option linter.unusedVariables false
set_option linter.unusedSimpArgs false
namespace Go.Proofs.YtogkkamlmklpkaaDoor.Ab
open Go
theorem mul_even {p q:Pl}(hp:p.ok=true)(hq:q.ok=true)(h1:p.Ph % 2=0)(h2:q.Ph % 2=0)(hc:part p q=false):(mulP p q).Ph % 2=0:=by
 obtain ⟨_,_,p1,p2,_,_⟩:=ok_iff.1 hp
 obtain ⟨_,_,q1,q2,_,_⟩:=ok_iff.1 hq
 have ho:=ps_odd 64 p.X.toNat p.Z.toNat q.X.toNat q.Z.toNat p.X.isLt p.Z.isLt q.X.isLt q.Z.isLt
 unfold part om at hc
 rw [decide_eq_false_iff_not] at hc
 show (p.Ph+q.Ph+(ps 64 p.X.toNat p.Z.toNat q.X.toNat q.Z.toNat:Nat)) % 4 % 2=0
 generalize ps 64 p.X.toNat p.Z.toNat q.X.toNat q.Z.toNat=a at *
 generalize popN ((p.X.toNat &&& q.Z.toNat) ^^^ (p.Z.toNat &&& q.X.toNat))=b at *
 omega
def vec (p:Pl):Nat×Nat:=(p.X.toNat,p.Z.toNat)
theorem part_vec (p q:Pl):part p q=omv (vec p) (vec q):=rfl
theorem vec_mul (p q:Pl):vec (mulP p q)=vx (vec p) (vec q):=by unfold vec vx mulP;simp only [BitVec.toNat_xor]
def vecs (l:List Pl)(i:Nat):Nat×Nat:=match l[i]? with|some p=>vec p|none=>(0,0)
theorem vecs_at {l:List Pl}{i:Nat}(h:i<l.length):vecs l i=vec l[i]:=by unfold vecs;rw [List.getElem?_eq_getElem h]
end Go.Proofs.YtogkkamlmklpkaaDoor.Ab
/- Plain law: Overlap; the law of Force comes to true. No condition: lemmas only. -/
set_option maxRecDepth 100000
set_option linter.unusedVariables false
set_option linter.unusedSimpArgs false
namespace Go.Proofs.YtogkkamlmklpkaaDoor.Ab
open Go
theorem same_rows (l:List Pl)(hl:l.length<4611686018427387904):∀ (f m i:Nat),i+m=l.length→m<f→Pref14_SameRowsL0 l l f (i:Int)=some (.inr ())
 |0,m,i,_,h=>by omega
 |f+1,m,i,e,h=>by
  unfold Pref14_SameRowsL0
  cases m with
  |zero=>rw [if_neg (by omega)]
  |succ m=>
   have ih:=same_rows l hl f m (i+1) (by omega) (by omega)
   rw [show ((i+1:Nat):Int)=(i:Int)+1 by omega] at ih
   rw [if_pos (by omega),idx_lt (by omega:i<l.length)]
   simp only [decide_true,Bool.and_self,cond_true,wrap_id (n:=(i:Int)+1) ⟨by omega,by omega⟩]
   exact ih
theorem R_SameRows (F:Nat)(l:List Pl)(hl:l.length<4611686018427387904)(hF:l.length<F):Pref14_SameRows F l l=some true:=by
 have:=same_rows l hl F l.length 0 (by omega) hF
 rw [show ((0:Nat):Int)=0 from rfl] at this
 unfold Pref14_SameRows
 rw [if_pos rfl,this]
theorem R_Alike (F:Nat)(N:Int)(S D:List Pl)(h1:S.length<4611686018427387904)(h2:D.length<4611686018427387904)(k1:S.length<F)(k2:D.length<F):Pref14_Alike F N S D N S D=some true:=by
 unfold Pref14_Alike
 rw [if_pos rfl,R_SameRows F S h1 k1,R_SameRows F D h2 k2]
 rfl
end Go.Proofs.YtogkkamlmklpkaaDoor.Ab
/- Plain law: the strings multiply as a group does: associative, commuting strings commute, an even string's square is nothing. No condition: lemmas only. -/
set_option maxRecDepth 100000
set_option linter.unusedVariables false
set_option linter.unusedSimpArgs false
namespace Go.Proofs.YtogkkamlmklpkaaDoor.Ab
open Go
end Go.Proofs.YtogkkamlmklpkaaDoor.Ab
/- Plain law: products of stabilizers, over a tableau and over the one after a string was put in. No condition: lemmas only. -/
set_option maxRecDepth 100000
set_option linter.unusedVariables false
set_option linter.unusedSimpArgs false
namespace Go.Proofs.YtogkkamlmklpkaaDoor.Ab
open Go
def tw (s:Pl)(b:Bool)(a:Pl):Pl:=bif b then mulP a s else a
theorem mulP_ph (p q:Pl):0≤(mulP p q).Ph∧(mulP p q).Ph≤3:=by
 constructor
 ·show 0≤(_:Int) % 4;omega
 ·show (_:Int) % 4≤3;omega
end Go.Proofs.YtogkkamlmklpkaaDoor.Ab
/- Plain law: what a measurement may give (Odds) and what comes of it (Project), the program's and the reference's. No condition: lemmas only. -/
set_option maxRecDepth 100000
set_option linter.unusedVariables false
set_option linter.unusedSimpArgs false
namespace Go.Proofs.YtogkkamlmklpkaaDoor.Ab
open Go
def zq (N:Int)(q:Nat)(v:Int):Pl:=⟨N,0#64,1#64 <<< q,v⟩
theorem tn_bit {q:Nat}(h:q<64):(1#64 <<< q).toNat=2 ^ q:=by
 rw [BitVec.toNat_shiftLeft,Nat.shiftLeft_eq,show (1#64).toNat=1 from rfl,Nat.one_mul,Nat.mod_eq_of_lt (Nat.pow_lt_pow_right (by omega) h)]
theorem popN_bit:∀ (q:Nat) (b:Bool),popN (b.toNat*2 ^ q)=b.toNat
 |0,b=>by cases b<;>simp [popN]
 |q+1,b=>by
  rw [popN_eq]
  have e1:b.toNat*2 ^ (q+1) % 2=0:=by rw [Nat.pow_succ,← Nat.mul_assoc];exact Nat.mul_mod_left ..
  have e2:b.toNat*2 ^ (q+1) / 2=b.toNat*2 ^ q:=by rw [Nat.pow_succ,← Nat.mul_assoc];exact Nat.mul_div_cancel _ (by omega)
  rw [e1,e2,popN_bit q b,Nat.zero_add]
theorem and_bit (x q:Nat):x &&& 2 ^ q=(x.testBit q).toNat*2 ^ q:=by
 apply Nat.eq_of_testBit_eq
 intro i
 rw [Nat.testBit_and,Nat.testBit_two_pow]
 cases h:x.testBit q with
 |false=>
  rw [show (false:Bool).toNat*2 ^ q=0 by simp,Nat.zero_testBit]
  by_cases e:q=i
  ·subst e;rw [h];rfl
  ·rw [decide_eq_false e,Bool.and_false]
 |true=>
  rw [show (true:Bool).toNat*2 ^ q=2 ^ q by simp,Nat.testBit_two_pow]
  by_cases e:q=i
  ·subst e;rw [h];rfl
  ·rw [decide_eq_false e,Bool.and_false]
theorem bit_dec (x:BitVec 64)(q:Nat):decide (((x >>> q) &&& 1#64)=1#64)=x.toNat.testBit q:=by
 have h1:((x >>> q) &&& 1#64).toNat=x.toNat / 2 ^ q % 2:=by
  rw [BitVec.toNat_and,tn_shr]
  exact Nat.and_one_is_mod _
 rw [Nat.testBit_eq_decide_div_mod_eq]
 apply decide_eq_decide.2
 constructor
 ·intro h;rw [h] at h1;exact h1.symm
 ·intro h;exact BitVec.eq_of_toNat_eq (by rw [h1,h];rfl)
theorem part_zq {N:Int}{q:Nat}{v:Int}(hq:q<64)(p:Pl):part p (zq N q v)=decide (((p.X >>> q) &&& 1#64)=1#64):=by
 rw [bit_dec]
 unfold part zq om
 simp only []
 rw [tn_bit hq,show (0#64).toNat=0 from rfl,Nat.and_zero,Nat.xor_zero,and_bit,popN_bit]
 cases p.X.toNat.testBit q<;>rfl
theorem walk_even {N:Int}{S D:List Pl}{n:Nat}(t:Tab N S D n)(z:Pl):∀ (m i:Nat) (a:Pl),i+m≤n→a.ok=true→a.N=N→a.Ph % 2=0→(∀ j (h:j<S.length),part S[j] a=false)→(walkS S D z m i a).Ph % 2=0∧(walkS S D z m i a).ok=true∧(walkS S D z m i a).N=N
 |0,i,a,_,h1,h2,h3,_=>⟨h3,h1,h2⟩
 |m+1,i,a,e,h1,h2,h3,h4=>by
  have hs:=t.ls
  have hd:=t.ld
  have i1:i<S.length:=by omega
  have i2:i<D.length:=by omega
  have hk:=stepS_ok t (z:=z) (a:=a) (i:=i) (by omega) h1 h2
  rw [walkS]
  refine walk_even t z m (i+1) _ (by omega) hk.1 hk.2 ?_ ?_
  ·rw [stepS_at i1 i2]
   cases part D[i] z with
   |false=>exact h3
   |true=>
    obtain ⟨_,o2,o3⟩:=one_iff.1 (t.oS i i1)
    exact mul_even h1 o2 h3 o3 (by rw [part_vec,omv_comm,← part_vec];exact h4 i i1)
  ·intro j hj
   rw [stepS_at i1 i2]
   cases part D[i] z with
   |false=>exact h4 j hj
   |true=>rw [cond_true,part_mul,h4 j hj,t.ss j i hj i1];rfl
theorem walk_even0 {N:Int}{S D:List Pl}{n:Nat}(t:Tab N S D n)(z:Pl):(walkS S D z n 0 (unit N)).Ph % 2=0∧(walkS S D z n 0 (unit N)).ok=true∧(walkS S D z n 0 (unit N)).N=N:=by
 obtain ⟨u1,u2⟩:=unit_ok t
 exact walk_even t z n 0 (unit N) (by omega) u1 u2 rfl (fun j hj=>part_unit _ _)
def odds (N:Int)(S D:List Pl)(q n:Nat):Int:=match firstPart S (zq N q 0) n 0 with
 |some _=>2
 |none=>if (walkS S D (zq N q 0) n 0 (unit N)).Ph=0 then 0 else 1
theorem PO0 {N:Int}{S D:List Pl}{n:Nat}(t:Tab N S D n)(q:Nat)(hq:q<64):∀ (f m i:Nat),i+m=n→m<f→
  Ptb_openL0 S (q:Int) (n:Int) f (i:Int)=some (match firstPart S (zq N q 0) m i with|some j=>.inl (j:Int)|none=>.inr ())
 |0,m,i,_,h=>by omega
 |f+1,m,i,e,h=>by
  have hle:=t.le
  unfold Ptb_openL0
  cases m with
  |zero=>rw [if_neg (by omega)];rfl
  |succ m=>
   have i1:i<S.length:=by rw [t.ls];omega
   have ih:=PO0 t q hq f m (i+1) (by omega) (by omega)
   rw [show ((i+1:Nat):Int)=(i:Int)+1 by omega] at ih
   rw [if_pos (by omega),idx_lt i1]
   simp only [Int.toNat_natCast,wrap_id (n:=(i:Int)+1) ⟨by omega,by omega⟩]
   rw [if_neg (by omega),firstPart_at i1,part_zq hq]
   by_cases hb:((S[i].X >>> q) &&& 1#64)=1#64
   ·rw [if_pos hb,decide_eq_true hb];rfl
   ·rw [if_neg hb,decide_eq_false hb];exact ih
theorem P_open (F:Nat)(hF:66≤F){N:Int}{S D:List Pl}{n:Nat}(t:Tab N S D n)(q:Nat)(hq:q<64):Ptb_open F N S D (q:Int)=some (match firstPart S (zq N q 0) n 0 with|some j=>(j:Int)|none=>-1):=by
 have hle:=t.le
 have:=PO0 t q hq F n 0 (by omega) (by omega)
 rw [show ((0:Nat):Int)=0 from rfl] at this
 unfold Ptb_open
 rw [show ((S.length:Nat):Int)=n by rw [t.ls],this]
 cases firstPart S (zq N q 0) n 0<;>rfl
theorem P_asked (F:Nat)(hF:66≤F)(N:Int)(S D:List Pl)(q:Int):Ptb_asked F N S D q=some (if chk N S D=true then (if q<0 then 2 else if q≥N then 2 else 0) else 140):=by
 unfold Ptb_asked
 rw [P_Check F hF]
 cases chk N S D with
 |false=>rfl
 |true=>
  simp only [if_true]
  by_cases h1:q<0
  ·rw [if_pos h1,if_pos h1]
  ·rw [if_neg h1,if_neg h1]
   by_cases h2:q≥N
   ·rw [if_pos h2,if_pos h2]
   ·rw [if_neg h2,if_neg h2]
def oddsA (N:Int)(S D:List Pl)(q:Int):Int×Int:=if chk N S D=true then (if q<0 then (0,2) else if q≥N then (0,2) else (odds N S D q.toNat S.length,0)) else (0,140)
theorem P_Odds (F:Nat)(hF:66≤F)(N:Int)(S D:List Pl)(q:Int):Ptb_Odds F N S D q=some (oddsA N S D q):=by
 unfold Ptb_Odds oddsA
 rw [P_asked F hF]
 cases hc:chk N S D with
 |false=>rfl
 |true=>
  obtain ⟨n,t⟩:=chk_tab hc
  have hN:=t.eN
  have hle:=t.le
  simp only [if_true]
  by_cases h1:q<0
  ·simp only [if_pos h1];rfl
  ·by_cases h2:q≥N
   ·simp only [if_neg h1,if_pos h2];rfl
   ·simp only [if_neg h1,if_neg h2,if_true]
    obtain ⟨k,rfl⟩:∃ k:Nat,q=(k:Int):=⟨q.toNat,by omega⟩
    rw [P_open F hF t k (by omega),Int.toNat_natCast,t.ls]
    have ps:=P_sure F (by omega:65≤F) t (zq N k 0)
    unfold odds
    cases e:firstPart S (zq N k 0) n 0 with
    |some j=>simp only [];rw [if_pos (by omega)]
    |none=>
     simp only []
     rw [if_neg (by omega)]
     have ps':Ptb_sure F N S D N 0#64 (1#64 <<< k) 0=_:=ps
     rw [ps']
     obtain ⟨w1,w2,_⟩:=walk_even0 t (zq N k 0)
     obtain ⟨_,_,w3,w4,_,_⟩:=ok_iff.1 w2
     simp only []
     generalize (walkS S D (zq N k 0) n 0 (unit N)).Ph=ph at *
     have:ph=0∨ph=2:=by omega
     rcases this with rfl|rfl<;>rfl
theorem R_letter (N:Int)(q:Nat)(hq:q<64):Pref14_letter N (q:Int) false=(N,0#64,1#64 <<< q,0):=by
 unfold Pref14_letter
 have:(BitVec.ofInt 64 (q:Int)).toNat=q:=by rw [BitVec.ofInt_natCast,BitVec.toNat_ofNat,Nat.mod_eq_of_lt (by omega)]
 rw [this];rfl
theorem R_Odds (F:Nat)(hF:66≤F)(N:Int)(S D:List Pl)(q:Int):Pref14_Odds F N S D q=some (oddsA N S D q):=by
 unfold Pref14_Odds oddsA
 rw [R_Right F hF]
 cases hc:chk N S D with
 |false=>rfl
 |true=>
  obtain ⟨n,t⟩:=chk_tab hc
  have hN:=t.eN
  have hle:=t.le
  simp only [if_true,cond_true]
  by_cases h1:q<0
  ·rw [if_pos h1,if_pos h1]
  ·by_cases h2:q≥N
   ·rw [if_neg h1,if_pos h2,if_neg h1,if_pos h2]
   ·rw [if_neg h1,if_neg h2,if_neg h1,if_neg h2]
    obtain ⟨k,rfl⟩:∃ k:Nat,q=(k:Int):=⟨q.toNat,by omega⟩
    rw [R_letter N k (by omega),Int.toNat_natCast,t.ls]
    have l1:Pref14_loose F N S D N 0#64 (1#64 <<< k) 0=_:=R_loose F hF t (zq N k 0)
    have l2:Pref14_sign F N S D N 0#64 (1#64 <<< k) 0=_:=R_sign F hF t (zq N k 0)
    simp only [l1,l2]
    unfold odds
    cases e:firstPart S (zq N k 0) n 0 with
    |some j=>simp only [];rw [if_pos (by omega)]
    |none=>
     simp only []
     rw [if_neg (by omega)]
     by_cases hp:(walkS S D (zq N k 0) n 0 (unit N)).Ph=0
     ·rw [if_pos hp,if_pos (show _=(zq N k 0).Ph from hp),if_neg (by omega)]
     ·rw [if_neg hp,if_neg (show ¬ _=(zq N k 0).Ph from hp),if_pos (by omega)]
def proj (N:Int)(S D:List Pl)(q n:Nat)(v:Int):Int×List Pl×List Pl×Int:=
 if odds N S D q n=1-v then (0,[],[],142)
 else match firstPart S (zq N q 0) n 0 with
  |none=>(N,S,D,0)
  |some p=>(N,putS S (zq N q (2*v)) n p,putD S D (zq N q (2*v)) n p,0)
def projA (N:Int)(S D:List Pl)(q v:Int):Int×List Pl×List Pl×Int:=
 if chk N S D=true then (if q<0 then (0,[],[],2) else if q≥N then (0,[],[],2) else if v=0∨v=1 then proj N S D q.toNat S.length v else (0,[],[],2)) else (0,[],[],140)
theorem odds_cases {N:Int}{S D:List Pl}{q n:Nat}:(odds N S D q n=2∧∃ p,firstPart S (zq N q 0) n 0=some p)∨((odds N S D q n=0∨odds N S D q n=1)∧firstPart S (zq N q 0) n 0=none):=by
 unfold odds
 cases firstPart S (zq N q 0) n 0 with
 |some p=>exact .inl ⟨rfl,p,rfl⟩
 |none=>
  refine .inr ⟨?_,rfl⟩
  simp only []
  split
  ·exact .inl rfl
  ·exact .inr rfl
theorem P_Project (F:Nat)(hF:66≤F)(N:Int)(S D:List Pl)(q v:Int):Ptb_Project F N S D q v=some (projA N S D q v):=by
 unfold Ptb_Project projA
 rw [P_Odds F hF]
 unfold oddsA
 cases hc:chk N S D with
 |false=>rfl
 |true=>
  obtain ⟨n,t⟩:=chk_tab hc
  have hN:=t.eN
  have hle:=t.le
  have hs:=t.ls
  have hd:=t.ld
  simp only [if_true]
  by_cases h1:q<0
  ·rw [if_pos h1,if_pos h1];rfl
  ·by_cases h2:q≥N
   ·rw [if_neg h1,if_pos h2,if_neg h1,if_pos h2];rfl
   ·rw [if_neg h1,if_neg h2,if_neg h1,if_neg h2]
    obtain ⟨k,rfl⟩:∃ k:Nat,q=(k:Int):=⟨q.toNat,by omega⟩
    rw [Int.toNat_natCast,hs]
    simp only [if_true]
    have op:=P_open F hF t k (by omega)
    have cp:=P_copied (N:=N) (S:=S) (D:=D) (by omega) (by omega)
    have rp:∀ (p:Nat) (hp:p<n) (w:Int),Ptb_replaced F N S D p N 0#64 (1#64 <<< k) w=some (N,putS S (zq N k w) n p,putD S D (zq N k w) n p):=fun p hp w=>P_replaced F hF t (zq N k w) p hp
    have key:∀ w:Int,w=0∨w=1→(if odds N S D k n=IntKind.i64.wrap (1-w) then some ((0:Int),([]:List Pl),([]:List Pl),(142:Int))
      else if odds N S D k n=w then match Ptb_copied N S D with
       |none=>none
       |some (r3,r4,r5)=>some (r3,r4,r5,(0:Int))
      else match Ptb_open F N S D (k:Int) with
       |none=>none
       |some r6=>(if (k:Int)<(0:Int) then none
        else match Ptb_replaced F N S D r6 N 0#64 (1#64 <<< (k:Int).toNat) (IntKind.i64.wrap ((2:Int)*w)) with
        |none=>none
        |some (r7,r8,r9)=>some (r7,r8,r9,(0:Int))))=some (proj N S D k n w):=fun w hw=>by
     rw [wrap_id (n:=1-w) ⟨by omega,by omega⟩,wrap_id (n:=2*w) ⟨by omega,by omega⟩,Int.toNat_natCast]
     unfold proj
     by_cases g1:odds N S D k n=1-w
     ·rw [if_pos g1,if_pos g1]
     ·rw [if_neg g1,if_neg g1,op,cp]
      rcases odds_cases (N:=N) (S:=S) (D:=D) (q:=k) (n:=n) with ⟨o1,p,o2⟩|⟨o1,o2⟩
      ·rw [o2]
       obtain ⟨_,hp,_⟩:=firstPart_some o2
       rw [if_neg (by omega)]
       simp only []
       rw [if_neg (by omega),rp p (by omega)]
      ·rw [o2,if_pos (by omega)]
    by_cases e0:v=0
    ·subst e0
     rw [if_pos (rfl:(0:Int)=0),if_pos (show (0:Int)=0∨(0:Int)=1 from .inl rfl)]
     exact key 0 (.inl rfl)
    ·rw [if_neg e0]
     by_cases e1:v=1
     ·subst e1
      rw [if_pos (rfl:(1:Int)=1),if_pos (show (1:Int)=0∨(1:Int)=1 from .inr rfl)]
      exact key 1 (.inr rfl)
     ·rw [if_neg e1,if_neg (by omega)]
end Go.Proofs.YtogkkamlmklpkaaDoor.Ab
