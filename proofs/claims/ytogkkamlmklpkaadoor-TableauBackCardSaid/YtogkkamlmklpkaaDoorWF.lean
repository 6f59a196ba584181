/- Plain law: the entropy of a side is that of the other side. No condition: lemmas only. -/
import Derived.Test.YtogkkamlmklpkaaDoorWE
set_option maxRecDepth 100000
set_option linter.unusedVariables false
set_option linter.unusedSimpArgs false
namespace Go.Proofs.YtogkkamlmklpkaaDoor.Ab
open Go
theorem pair_eq {a b:Nat×Nat}(h1:a.1=b.1)(h2:a.2=b.2):a=b:=by
 obtain ⟨a1,a2⟩:=a
 obtain ⟨b1,b2⟩:=b
 simp only at h1 h2
 rw [h1,h2]
def sv (l:List Pl)(j:Nat):Nat×Nat:=vec (rowAt l j)
theorem sv_lt {N:Int}{n:Nat}{l:List Pl}(hN:N=n)(h:∀ i (h:i<l.length),one N l[i]=true){j:Nat}(hj:j<l.length):(sv l j).1<2 ^ n∧(sv l j).2<2 ^ n:=by
 unfold sv vec
 rw [rowAt_lt hj]
 obtain ⟨h1,h2,_⟩:=one_iff.1 (h j hj)
 obtain ⟨_,_,_,_,a,b⟩:=ok_iff.1 h2
 rw [h1,hN,Int.toNat_natCast] at a b
 exact ⟨a,b⟩
theorem Tab.om_ss {N:Int}{S D:List Pl}{n:Nat}(t:Tab N S D n){i j:Nat}(hi:i<n)(hj:j<n):omv (sv S i) (sv S j)=false:=by
 unfold sv
 rw [rowAt_lt (by rw [t.ls];exact hi),rowAt_lt (by rw [t.ls];exact hj),← part_vec]
 exact t.ss i j _ _
theorem Tab.om_dd {N:Int}{S D:List Pl}{n:Nat}(t:Tab N S D n){i j:Nat}(hi:i<n)(hj:j<n):omv (sv D i) (sv D j)=false:=by
 unfold sv
 rw [rowAt_lt (by rw [t.ld];exact hi),rowAt_lt (by rw [t.ld];exact hj),← part_vec]
 exact t.dd i j _ _
theorem Tab.om_ds {N:Int}{S D:List Pl}{n:Nat}(t:Tab N S D n){i j:Nat}(hi:i<n)(hj:j<n):omv (sv D i) (sv S j)=decide (i=j):=by
 unfold sv
 rw [rowAt_lt (by rw [t.ld];exact hi),rowAt_lt (by rw [t.ls];exact hj),← part_vec]
 exact t.ds i j _ _
theorem Tab.coef {N:Int}{S D:List Pl}{n:Nat}(t:Tab N S D n)(c:Nat→Bool){i:Nat}(hi:i<n):omv (cv (sv S) c n) (sv D i)=c i:=by
 rw [omv_cv,xo_congr (g:=fun j=>c j&&decide (j=i)) n (fun j hj=>by
  rw [omv_comm,t.om_ds hi hj]
  congr 1
  exact decide_eq_decide.2 ⟨Eq.symm,Eq.symm⟩),xo_one,decide_eq_true hi,Bool.true_and]
theorem Tab.orth {N:Int}{S D:List Pl}{n:Nat}(t:Tab N S D n){w:Nat×Nat}(h1:w.1<2 ^ n)(h2:w.2<2 ^ n):ind (allz (fun j=>omv w (sv S j)) n)=tot n (fun c=>ind (decide (cv (sv S) c n=w))):=by
 cases hz:allz (fun j=>omv w (sv S j)) n with
 |true=>
  have hz:=(allz_iff n).1 hz
  have hs:=span_stab (n:=n) (sx:=fun j=>(sv S j).1) (sz:=fun j=>(sv S j).2) (dx:=fun j=>(sv D j).1) (dz:=fun j=>(sv D j).2)
   (fun i hi=>(sv_lt t.eN t.oS (by rw [t.ls];exact hi)).1) (fun i hi=>(sv_lt t.eN t.oS (by rw [t.ls];exact hi)).2)
   (fun i hi=>(sv_lt t.eN t.oD (by rw [t.ld];exact hi)).1) (fun i hi=>(sv_lt t.eN t.oD (by rw [t.ld];exact hi)).2)
   (fun i j hi hj=>t.om_ss hi hj) (fun i j hi hj=>t.om_dd hi hj) (fun i j hi hj=>t.om_ds hi hj) h1 h2 (fun i hi=>by
    have:=hz i hi
    rw [omv_comm] at this;exact this)
  have hb:cv (sv S) (fun j=>omv (sv D j) w) n=w:=pair_eq hs.1 hs.2
  have e:(fun c=>ind (decide (cv (sv S) c n=w)))=fun c=>ind (allz (fun j=>c j ^^ omv (sv D j) w) n):=by
   funext c
   congr 1
   rw [Bool.eq_iff_iff,decide_eq_true_eq,allz_iff]
   constructor
   ·intro e j hj
    rw [← e,omv_comm,t.coef c hj];simp
   ·intro h
    have hc:∀ j,j<n→c j=omv (sv D j) w:=fun j hj=>by
     have:=h j hj
     cases hcj:c j<;>cases ho:omv (sv D j) w<;>simp [hcj,ho] at this ⊢
    rw [← hb]
    exact pair_eq (comb_congr n hc) (comb_congr n hc)
  rw [e,tot_point];rfl
 |false=>
  have e:(fun c=>ind (decide (cv (sv S) c n=w)))=fun _=>0:=by
   funext c
   rw [decide_eq_false];rfl
   intro e
   have:allz (fun j=>omv w (sv S j)) n=true:=(allz_iff n).2 fun j hj=>by
    rw [← e,omv_cv]
    exact xo_false n fun i hi=>by rw [t.om_ss hi hj,Bool.and_false]
   rw [hz] at this;cases this
  rw [e,tot_zero];rfl
def mb (m:BitVec 64)(n d:Nat):Bool:=m.toNat.testBit (if d<n then d else d-n)
theorem colb_cut (N:Int)(m:BitVec 64)(p:Pl)(n d:Nat):colb (cutR N m p) n d=(colb p n d&&mb m n d):=by
 unfold colb mb cutR
 split
 ·rw [BitVec.toNat_and,Nat.testBit_and]
 ·rw [BitVec.toNat_and,Nat.testBit_and]
theorem rowAt_cut {N:Int}{m:BitVec 64}{S:List Pl}{j:Nat}(hj:j<S.length):rowAt (S.map (cutR N m)) j=cutR N m (rowAt S j):=by
 rw [rowAt_lt (by rw [List.length_map];exact hj),rowAt_lt hj,List.getElem_map]
theorem even_cut {N:Int}{m:BitVec 64}{S:List Pl}{n:Nat}(hS:S.length=n)(u:Nat→Bool):evenB n (S.map (cutR N m)) u=allz (fun j=>omv (vecOf n fun d=>u d&&mb m n d) (sv S j)) n:=by
 unfold evenB
 rw [List.length_map,hS]
 have e:∀ j,j<n→pr n u (rowAt (S.map (cutR N m)) j)=omv (vecOf n fun d=>u d&&mb m n d) (sv S j):=fun j hj=>by
  rw [rowAt_cut (by rw [hS];exact hj)]
  unfold sv
  rw [← pr_omv]
  unfold pr
  refine xo_congr _ fun d _=>?_
  rw [colb_cut]
  show (u d&&(colb (rowAt S j) n d&&mb m n d))=((u d&&mb m n d)&&colb (rowAt S j) n d)
  cases u d<;>cases colb (rowAt S j) n d<;>cases mb m n d<;>rfl
 refine allz_congr n ⟨fun h j hj=>?_,fun h j hj=>?_⟩
 ·rw [← e j hj];exact h j hj
 ·rw [e j hj];exact h j hj
def wbit (n:Nat)(w:Nat×Nat)(d:Nat):Bool:=if d<n then w.2.testBit d else w.1.testBit (d-n)
theorem vecOf_eq {n:Nat}{w:Nat×Nat}(h1:w.1<2 ^ n)(h2:w.2<2 ^ n)(f:Nat→Bool):decide (w=vecOf n f)=allz (fun d=>f d ^^ wbit n w d) (2*n):=by
 rw [Bool.eq_iff_iff,decide_eq_true_eq,allz_iff]
 constructor
 ·intro e d hd
  unfold wbit
  rw [e]
  unfold vecOf
  split
  ·rename_i q;rw [num2_bit,decide_eq_true q,Bool.true_and,Bool.xor_self]
  ·rename_i q;rw [num2_bit,decide_eq_true (by omega:d-n<n),Bool.true_and,show n+(d-n)=d by omega,Bool.xor_self]
 ·intro h
  have hb:∀ d,d<2*n→f d=wbit n w d:=fun d hd=>by
   have:=h d hd
   cases hf:f d<;>cases hw:wbit n w d<;>simp [hf,hw] at this ⊢
  refine pair_eq (Nat.eq_of_testBit_eq fun i=>?_) (Nat.eq_of_testBit_eq fun i=>?_)
  ·unfold vecOf
   rw [num2_bit]
   by_cases q:i<n
   ·rw [decide_eq_true q,Bool.true_and,hb (n+i) (by omega)]
    unfold wbit
    rw [if_neg (by omega),show n+i-n=i by omega]
   ·rw [decide_eq_false q,Bool.false_and]
    exact Nat.testBit_lt_two_pow (Nat.lt_of_lt_of_le h1 (Nat.pow_le_pow_right (by omega) (by omega)))
  ·unfold vecOf
   rw [num2_bit]
   by_cases q:i<n
   ·rw [decide_eq_true q,Bool.true_and,hb i (by omega)]
    unfold wbit
    rw [if_pos q]
   ·rw [decide_eq_false q,Bool.false_and]
    exact Nat.testBit_lt_two_pow (Nat.lt_of_lt_of_le h2 (Nat.pow_le_pow_right (by omega) (by omega)))
def noneB (n:Nat)(l:List Pl)(c:Nat→Bool):Bool:=allz (fun d=>xo (fun j=>c j&&colb (rowAt l j) n d) n) (2*n)
theorem cv_lt {N:Int}{S D:List Pl}{n:Nat}(t:Tab N S D n)(c:Nat→Bool):(cv (sv S) c n).1<2 ^ n∧(cv (sv S) c n).2<2 ^ n:=
 ⟨comb_lt n (Nat.le_refl _) fun j hj=>(sv_lt t.eN t.oS (by rw [t.ls];exact hj)).1,comb_lt n (Nat.le_refl _) fun j hj=>(sv_lt t.eN t.oS (by rw [t.ls];exact hj)).2⟩
theorem cv_col {S:List Pl}{n:Nat}(c:Nat→Bool){d:Nat}:xo (fun j=>c j&&colb (rowAt S j) n d) n=if d<n then (cv (sv S) c n).1.testBit d else (cv (sv S) c n).2.testBit (d-n):=by
 unfold cv colb
 split
 ·rw [comb_bit];rfl
 ·rw [comb_bit];rfl
theorem noneB_cut {N:Int}{m:BitVec 64}{S:List Pl}{n:Nat}(hS:S.length=n)(c:Nat→Bool):noneB n (S.map (cutR N m)) c=allz (fun d=>mb m n d&&xo (fun j=>c j&&colb (rowAt S j) n d) n) (2*n):=by
 unfold noneB
 have e:∀ d,xo (fun j=>c j&&colb (rowAt (S.map (cutR N m)) j) n d) n=(mb m n d&&xo (fun j=>c j&&colb (rowAt S j) n d) n):=fun d=>by
  rw [← xo_and]
  refine xo_congr n fun j hj=>?_
  rw [rowAt_cut (by rw [hS];exact hj),colb_cut]
  cases c j<;>cases mb m n d<;>simp
 simp only [e]
def Other (n:Nat)(m m':BitVec 64):Prop:=∀ q,q<n→m'.toNat.testBit q = !m.toNat.testBit q
theorem Other.mb {n:Nat}{m m':BitVec 64}(h:Other n m m'){d:Nat}(hd:d<2*n):mb m' n d = !mb m n d:=by
 unfold Ab.mb
 split
 ·exact h d (by assumption)
 ·exact h (d-n) (by omega)
theorem Other.symm {n:Nat}{m m':BitVec 64}(h:Other n m m'):Other n m' m:=fun q hq=>by rw [h q hq,Bool.not_not]
theorem count_cut {N:Int}{S D:List Pl}{n:Nat}(t:Tab N S D n){m m':BitVec 64}(ho:Other n m m') :
  tot (2*n) (fun u=>ind (evenB n (S.map (cutR N m)) u))=2 ^ free (mb m n) (2*n)*tot n (fun c=>ind (noneB n (S.map (cutR N m')) c)):=by
 have e1:(fun u=>ind (evenB n (S.map (cutR N m)) u))=fun u=>tot n (fun c=>ind (decide (cv (sv S) c n=vecOf n fun d=>u d&&mb m n d))):=by
  funext u
  rw [even_cut t.ls,t.orth (num2_lt _ _) (num2_lt _ _)]
 rw [e1,← tot_swap,← tot_mul]
 congr 1
 funext c
 obtain ⟨l1,l2⟩:=cv_lt t c
 have e2:(fun u:Nat→Bool=>ind (decide (cv (sv S) c n=vecOf n fun d=>u d&&mb m n d)))=fun u=>ind (allz (fun d=>(u d&&mb m n d) ^^ wbit n (cv (sv S) c n) d) (2*n)):=by
  funext u
  rw [vecOf_eq l1 l2]
 rw [e2,tot_mask,noneB_cut t.ls]
 congr 2
 refine allz_congr _ ⟨fun h d hd=>?_,fun h d hd=>?_⟩
 ·rw [ho.mb hd,cv_col]
  by_cases q:d<n
  ·have:=h (n+d) (by omega)
   unfold wbit mb at this
   rw [if_neg (by omega),if_neg (by omega),show n+d-n=d by omega] at this
   unfold mb
   rw [if_pos q,if_pos q];exact this
  ·have:=h (d-n) (by omega)
   unfold wbit mb at this
   rw [if_pos (by omega),if_pos (by omega)] at this
   unfold mb
   rw [if_neg q,if_neg q];exact this
 ·by_cases q:d<n
  ·have:=h (n+d) (by omega)
   rw [ho.mb (by omega),cv_col] at this
   unfold mb at this
   rw [if_neg (by omega),if_neg (by omega),show n+d-n=d by omega] at this
   unfold wbit mb
   rw [if_pos q,if_pos q];exact this
  ·have:=h (d-n) (by omega)
   rw [ho.mb (by omega),cv_col] at this
   unfold mb at this
   rw [if_pos (by omega),if_pos (by omega)] at this
   unfold wbit mb
   rw [if_neg q,if_neg q];exact this
end Go.Proofs.YtogkkamlmklpkaaDoor.Ab
/- Plain law: the ranks of the two sides. No condition: lemmas only. -/
set_option maxRecDepth 100000
set_option linter.unusedVariables false
set_option linter.unusedSimpArgs false
namespace Go.Proofs.YtogkkamlmklpkaaDoor.Ab
open Go
theorem pow2_inj {a b:Nat}(h:(2:Int) ^ a=2 ^ b):a=b:=by
 have h':(2:Nat) ^ a=2 ^ b:=by exact_mod_cast h
 exact (Nat.pow_right_inj (by omega:1<2)).1 h'
theorem pow2_le {a b:Nat}(h:(2:Int) ^ a≤2 ^ b):a≤b:=by
 have h':(2:Nat) ^ a≤2 ^ b:=by exact_mod_cast h
 exact (Nat.pow_le_pow_iff_right (by omega)).1 h'
theorem pow2_pos (a:Nat):(0:Int)<2 ^ a:=by
 have:=Nat.two_pow_pos a
 exact_mod_cast this
theorem noneB_congr {n:Nat}{l:List Pl}{c c':Nat→Bool}(h:∀ j,j<n→c j=c' j):noneB n l c=noneB n l c':=by
 unfold noneB
 have e:∀ d,xo (fun j=>c j&&colb (rowAt l j) n d) n=xo (fun j=>c' j&&colb (rowAt l j) n d) n:=fun d=>xo_congr n fun j hj=>by rw [h j hj]
 simp only [e]
theorem count_none {N:Int}{S:List Pl}{n:Nat}(hS:S.length=n)(m:BitVec 64):2 ^ (form n (S.map (cutR N m))).1*tot n (fun c=>ind (noneB n (S.map (cutR N m)) c))=2 ^ n:=by
 have h1:=count_rank (n:=n) (l:=S.map (cutR N m))
 have h2:=count_both (fun d j=>colb (rowAt (S.map (cutR N m)) j) n d) (2*n) n
 have e:(fun u=>ind (allz (fun j=>xo (fun i=>u i&&colb (rowAt (S.map (cutR N m)) j) n i) (2*n)) n))=fun u=>ind (evenB n (S.map (cutR N m)) u):=by
  funext u
  unfold evenB
  rw [List.length_map,hS]
  rfl
 rw [e] at h2
 have h2:2 ^ (2*n)*tot n (fun c=>ind (noneB n (S.map (cutR N m)) c))=2 ^ n*tot (2*n) (fun u=>ind (evenB n (S.map (cutR N m)) u)):=h2
 generalize tot n (fun c=>ind (noneB n (S.map (cutR N m)) c))=Z at *
 generalize tot (2*n) (fun u=>ind (evenB n (S.map (cutR N m)) u))=K at *
 generalize (2:Int) ^ (form n (S.map (cutR N m))).1=R at *
 have hp:=pow2_pos (2*n)
 generalize (2:Int) ^ (2*n)=P at *
 generalize (2:Int) ^ n=Q at *
 have:P*(R*Z)=P*Q:=by
  rw [← Int.mul_assoc,Int.mul_comm P R,Int.mul_assoc,h2,← Int.mul_assoc,Int.mul_comm R Q,Int.mul_assoc,h1,Int.mul_comm]
 exact Int.eq_of_mul_eq_mul_left (by omega) this
theorem free_split (f:Nat→Bool)(k:Nat):∀ m,free f (k+m)=free f k+free (fun j=>f (k+j)) m
 |0=>rfl
 |m+1=>by
  show free f (k+m)+(bif f (k+m) then 0 else 1)=free f k+(free (fun j=>f (k+j)) m+(bif f (k+m) then 0 else 1))
  rw [free_split f k m,Nat.add_assoc]
theorem free_congr {f g:Nat→Bool}:∀ k,(∀ j,j<k→f j=g j)→free f k=free g k
 |0,_=>rfl
 |k+1,h=>by unfold free;rw [free_congr k (fun j hj=>h j (by omega)),h k (by omega)]
def out (n:Nat)(m:BitVec 64):Nat:=free (fun d=>m.toNat.testBit d) n
theorem free_mb (m:BitVec 64)(n:Nat):free (mb m n) (2*n)=2*out n m:=by
 rw [show 2*n=n+n by omega,free_split]
 have e1:free (mb m n) n=out n m:=free_congr n fun j hj=>by unfold mb;rw [if_pos hj]
 have e2:free (fun j=>mb m n (n+j)) n=out n m:=free_congr n fun j hj=>by unfold mb;rw [if_neg (by omega),show n+j-n=j by omega]
 rw [e1,e2];omega
theorem ranks {N:Int}{S D:List Pl}{n:Nat}(t:Tab N S D n){m m':BitVec 64}(ho:Other n m m') :
  (form n (S.map (cutR N m))).1+2*out n m=n+(form n (S.map (cutR N m'))).1:=by
 have h1:=count_rank (n:=n) (l:=S.map (cutR N m))
 rw [count_cut t ho,free_mb] at h1
 have h2:=count_none (N:=N) t.ls m'
 generalize tot n (fun c=>ind (noneB n (S.map (cutR N m')) c))=Z at *
 generalize (form n (S.map (cutR N m))).1=a at *
 generalize (form n (S.map (cutR N m'))).1=b at *
 generalize out n m=o at *
 have h3:(2:Int) ^ (a+2*o+n)=2 ^ (n+b+n):=by
  rw [Int.pow_add,← h2,Int.pow_add,show n+b+n=2*n+b by omega,Int.pow_add,← h1]
  generalize (2:Int) ^ a=A
  generalize (2:Int) ^ b=B
  generalize (2:Int) ^ (2*o)=C
  rw [Int.mul_assoc A C (B*Z),Int.mul_comm B Z,← Int.mul_assoc C Z B,← Int.mul_assoc A (C*Z) B]
 have:=pow2_inj h3
 omega
theorem both_le {N:Int}{S D:List Pl}{n:Nat}(t:Tab N S D n){m m':BitVec 64}(ho:Other n m m') :
  tot n (fun c=>ind (noneB n (S.map (cutR N m)) c))*tot n (fun c=>ind (noneB n (S.map (cutR N m')) c))≤2 ^ n:=by
 have uniq:∀ e f g:Nat→Bool,(noneB n (S.map (cutR N m)) f&&noneB n (S.map (cutR N m')) fun j=>f j ^^ e j)=true→(noneB n (S.map (cutR N m)) g&&noneB n (S.map (cutR N m')) fun j=>g j ^^ e j)=true→∀ j,j<n→f j=g j:=by
  intro e f g hf hg
  simp only [Bool.and_eq_true,noneB_cut t.ls,allz_iff] at hf hg
  have hx:∀ a b:Nat→Bool,∀ d,xo (fun j=>(a j ^^ b j)&&colb (rowAt S j) n d) n=(xo (fun j=>a j&&colb (rowAt S j) n d) n ^^ xo (fun j=>b j&&colb (rowAt S j) n d) n):=fun a b d=>by
   rw [← xo_xor]
   refine xo_congr n fun j _=>?_
   cases a j<;>cases b j<;>cases colb (rowAt S j) n d<;>rfl
  have hz:∀ d,d<2*n→xo (fun j=>(f j ^^ g j)&&colb (rowAt S j) n d) n=false:=fun d hd=>by
   have a1:=hf.1 d hd
   have a2:=hf.2 d hd
   have b1:=hg.1 d hd
   have b2:=hg.2 d hd
   rw [ho.mb hd,hx] at a2 b2
   rw [hx]
   cases hm:mb m n d
   ·rw [hm] at a2 b2
    simp only [Bool.not_false,Bool.true_and] at a2 b2
    cases h1:xo (fun j=>f j&&colb (rowAt S j) n d) n<;>cases h2:xo (fun j=>g j&&colb (rowAt S j) n d) n<;>cases h3:xo (fun j=>e j&&colb (rowAt S j) n d) n<;>simp [h1,h2,h3] at a2 b2 ⊢
   ·rw [hm,Bool.true_and] at a1 b1
    rw [a1,b1];rfl
  obtain ⟨l1,l2⟩:=cv_lt t (fun j=>f j ^^ g j)
  have c0:cv (sv S) (fun j=>f j ^^ g j) n=(0,0):=by
   refine pair_eq (Nat.eq_of_testBit_eq fun i=>?_) (Nat.eq_of_testBit_eq fun i=>?_)
   ·rw [Nat.zero_testBit]
    by_cases q:i<n
    ·have:=hz i (by omega)
     rw [cv_col,if_pos q] at this;exact this
    ·exact Nat.testBit_lt_two_pow (Nat.lt_of_lt_of_le l1 (Nat.pow_le_pow_right (by omega) (by omega)))
   ·rw [Nat.zero_testBit]
    by_cases q:i<n
    ·have:=hz (n+i) (by omega)
     rw [cv_col,if_neg (by omega),show n+i-n=i by omega] at this;exact this
    ·exact Nat.testBit_lt_two_pow (Nat.lt_of_lt_of_le l2 (Nat.pow_le_pow_right (by omega) (by omega)))
  intro j hj
  have:=t.coef (fun j=>f j ^^ g j) hj
  rw [c0,omv_comm] at this
  have h0:omv (sv D j) (0,0)=false:=om_zero _ _
  rw [h0] at this
  cases hf:f j<;>cases hg:g j<;>simp [hf,hg] at this ⊢
 let a:(Nat→Bool)→Int:=fun c=>ind (noneB n (S.map (cutR N m)) c)
 let b:(Nat→Bool)→Int:=fun c=>ind (noneB n (S.map (cutR N m')) c)
 let G:(Nat→Bool)→(Nat→Bool)→(Nat→Bool)→Int:=fun e c c'=>a c*(b c'*ind (allz (fun j=>e j ^^ (c j ^^ c' j)) n))
 have s1:tot n a*tot n b=tot n (fun c=>tot n (fun c'=>tot n (fun e=>G e c c'))):=by
  rw [Int.mul_comm,← tot_mul]
  congr 1;funext c
  rw [Int.mul_comm,← tot_mul]
  congr 1;funext c'
  show _=tot n (fun e=>a c*(b c'*ind (allz (fun j=>e j ^^ (c j ^^ c' j)) n)))
  rw [tot_mul,tot_mul,tot_point,Int.mul_one]
 have s2:tot n (fun c=>tot n (fun c'=>tot n (fun e=>G e c c')))=tot n (fun e=>tot n (fun c=>tot n (fun c'=>G e c c'))):=by
  rw [← tot_swap n n (fun c e=>tot n (fun c'=>G e c c'))]
  congr 1;funext c
  exact tot_swap n n (fun c' e=>G e c c')
 have s3:∀ e,tot n (fun c=>tot n (fun c'=>G e c c'))≤1:=fun e=>by
  have i1:∀ c,tot n (fun c'=>G e c c')=ind (noneB n (S.map (cutR N m)) c&&noneB n (S.map (cutR N m')) fun j=>c j ^^ e j):=fun c=>by
   have p:(fun c'=>G e c c')=fun c'=>(a c*b (fun j=>c j ^^ e j))*ind (allz (fun j=>c' j ^^ (c j ^^ e j)) n):=by
    funext c'
    show a c*(b c'*ind (allz (fun j=>e j ^^ (c j ^^ c' j)) n))=_
    have q:allz (fun j=>e j ^^ (c j ^^ c' j)) n=allz (fun j=>c' j ^^ (c j ^^ e j)) n:=by
     refine allz_congr n ⟨fun h j hj=>?_,fun h j hj=>?_⟩
     ·have:=h j hj
      cases h1:e j<;>cases h2:c j<;>cases h3:c' j<;>simp [h1,h2,h3] at this ⊢
     ·have:=h j hj
      cases h1:e j<;>cases h2:c j<;>cases h3:c' j<;>simp [h1,h2,h3] at this ⊢
    rw [q,Int.mul_assoc]
    cases hz:allz (fun j=>c' j ^^ (c j ^^ e j)) n with
    |false=>simp [ind]
    |true=>
     have hc:∀ j,j<n→c' j=(c j ^^ e j):=fun j hj=>by
      have:=(allz_iff n).1 hz j hj
      cases h1:e j<;>cases h2:c j<;>cases h3:c' j<;>simp [h1,h2,h3] at this ⊢
     have:b c'=b (fun j=>c j ^^ e j):=by
      show ind _=ind _
      rw [noneB_congr hc]
     rw [this]
   rw [p,tot_mul,tot_point,Int.mul_one,ind_and]
  have:(fun c=>tot n (fun c'=>G e c c'))=fun c=>ind (noneB n (S.map (cutR N m)) c&&noneB n (S.map (cutR N m')) fun j=>c j ^^ e j):=funext i1
  rw [this]
  exact tot_le_one (uniq e)
 show tot n a*tot n b≤2 ^ n
 rw [s1,s2,← tot_one n]
 exact tot_mono n s3
theorem ranks_le {N:Int}{S D:List Pl}{n:Nat}(t:Tab N S D n){m m':BitVec 64}(ho:Other n m m') :
  n≤(form n (S.map (cutR N m))).1+(form n (S.map (cutR N m'))).1:=by
 have h1:=count_none (N:=N) t.ls m
 have h2:=count_none (N:=N) t.ls m'
 have h3:=both_le t ho
 generalize tot n (fun c=>ind (noneB n (S.map (cutR N m)) c))=Z at *
 generalize tot n (fun c=>ind (noneB n (S.map (cutR N m')) c))=Z' at *
 generalize (form n (S.map (cutR N m))).1=a at *
 generalize (form n (S.map (cutR N m'))).1=b at *
 have h4:(2:Int) ^ (n+n)≤2 ^ (a+b+n):=by
  rw [Int.pow_add 2 n n]
  have e:(2:Int) ^ n*2 ^ n=2 ^ (a+b)*(Z*Z'):=by
   rw [Int.pow_add]
   generalize (2:Int) ^ a=A at *
   generalize (2:Int) ^ b=B at *
   have:A*B*(Z*Z')=(A*Z)*(B*Z'):=by
    rw [Int.mul_assoc,Int.mul_assoc,← Int.mul_assoc B Z Z',Int.mul_comm B Z,Int.mul_assoc Z B Z']
   rw [this,h1,h2]
  rw [e,Int.pow_add 2 (a+b) n]
  exact Int.mul_le_mul_of_nonneg_left h3 (Int.le_of_lt (pow2_pos _))
 have:=pow2_le h4
 omega
end Go.Proofs.YtogkkamlmklpkaaDoor.Ab
/- Plain law: a list of qubits, its mask, and the rest of the qubits. No condition: lemmas only. -/
set_option maxRecDepth 100000
set_option linter.unusedVariables false
set_option linter.unusedSimpArgs false
namespace Go.Proofs.YtogkkamlmklpkaaDoor.Ab
open Go
theorem bit_orx (m:BitVec 64){x q:Nat}(hx:x<64):(m ||| (1#64 <<< x)).toNat.testBit q=(m.toNat.testBit q||decide (q=x)):=by
 have e:(1#64 <<< x).toNat=2 ^ x:=by
  rw [BitVec.toNat_shiftLeft,Nat.shiftLeft_eq,show (1#64).toNat=1 from rfl,Nat.one_mul,Nat.mod_eq_of_lt (Nat.pow_lt_pow_right (by omega) hx)]
 rw [BitVec.toNat_or,Nat.testBit_or,e]
 congr 1
 by_cases h:q=x
 ·subst h;simp
 ·rw [Nat.testBit_two_pow_of_ne (Ne.symm h),decide_eq_false h]
theorem maskOf_bit {q:Nat}:∀ (l:List Int) (m:BitVec 64),(∀ x,x∈l→0≤x∧x<64)→(maskOf l m).toNat.testBit q=(m.toNat.testBit q||decide ((q:Int)∈l))
 | [],m,_=>by simp [maskOf]
 |x::l,m,h=>by
  obtain ⟨a,b⟩:=h x (List.mem_cons_self ..)
  unfold maskOf
  rw [maskOf_bit l _ (fun y hy=>h y (List.mem_cons_of_mem _ hy)),bit_orx m (by omega),Bool.or_assoc]
  congr 1
  rw [Bool.eq_iff_iff,Bool.or_eq_true,decide_eq_true_eq,decide_eq_true_eq,decide_eq_true_eq,List.mem_cons]
  constructor
  ·rintro (e|e)
   ·exact .inl (by omega)
   ·exact .inr e
  ·rintro (e|e)
   ·exact .inl (by omega)
   ·exact .inr e
theorem free_or {f:Nat→Bool}{x:Nat}(hf:f x=false):∀ n,free (fun d=>f d||decide (d=x)) n+(if x<n then 1 else 0)=free f n
 |0=>rfl
 |n+1=>by
  unfold free
  have ih:=free_or hf n
  by_cases h:n=x
  ·subst h
   rw [if_neg (Nat.lt_irrefl _)] at ih
   rw [if_pos (Nat.lt_succ_self _),hf]
   simp at ih ⊢
   omega
  ·rw [decide_eq_false h,Bool.or_false]
   by_cases q:x<n
   ·rw [if_pos q] at ih;rw [if_pos (by omega)];omega
   ·rw [if_neg q] at ih;rw [if_neg (by omega)];omega
theorem out_mask {n:Nat}(hn:n≤64):∀ (l:List Int) (m:BitVec 64),(∀ x,x∈l→0≤x∧x<n)→l.Nodup→(∀ x,x∈l→m.toNat.testBit x.toNat=false)→out n (maskOf l m)+l.length=out n m
 | [],m,_,_,_=>rfl
 |x::l,m,h,hd,hm=>by
  obtain ⟨a,b⟩:=h x (List.mem_cons_self ..)
  rw [List.nodup_cons] at hd
  have hx:=hm x (List.mem_cons_self ..)
  unfold maskOf
  have ih:=out_mask hn l (m ||| (1#64 <<< x.toNat)) (fun y hy=>h y (List.mem_cons_of_mem _ hy)) hd.2 (fun y hy=>by
   obtain ⟨c,d⟩:=h y (List.mem_cons_of_mem _ hy)
   rw [bit_orx m (by omega),hm y (List.mem_cons_of_mem _ hy),Bool.false_or]
   refine decide_eq_false fun e=>hd.1 ?_
   rw [show x=y by omega];exact hy)
  have e:out n (m ||| (1#64 <<< x.toNat))+1=out n m:=by
   have:=free_or (f:=fun d=>m.toNat.testBit d) (x:=x.toNat) hx n
   rw [if_pos (by omega)] at this
   show free (fun d=>(m ||| (1#64 <<< x.toNat)).toNat.testBit d) n+1=free (fun d=>m.toNat.testBit d) n
   rw [← this]
   congr 1
   exact free_congr n fun j _=>bit_orx m (by omega)
  rw [List.length_cons]
  omega
theorem out_zero (n:Nat):out n 0#64=n:=by
 unfold out
 induction n with
 |zero=>rfl
 |succ n ih=>
  unfold free
  rw [ih]
  simp
theorem apart_nodup {l:List Int}{n:Int}(h:apartB l n=true):l.Nodup:=by
 rw [List.nodup_iff_pairwise_ne,List.pairwise_iff_getElem]
 intro i j hi hj hij e
 obtain ⟨_,_,q⟩:=apart_at h hj
 apply q
 rw [← e]
 exact List.mem_take_iff_getElem.2 ⟨i,by omega,rfl⟩
theorem apart_in {l:List Int}{n:Int}(h:apartB l n=true):∀ x,x∈l→0≤x∧x<n:=by
 intro x hx
 obtain ⟨i,hi,rfl⟩:=List.getElem_of_mem hx
 obtain ⟨a,b,_⟩:=apart_at h hi
 exact ⟨a,b⟩
theorem apart_of {l:List Int}{n:Int}(h1:∀ x,x∈l→0≤x∧x<n)(h2:l.Nodup):apartB l n=true:=by
 unfold apartB
 refine allFrom_iff.2 fun i _ hi=>?_
 have hi:i<l.length:=by omega
 rw [okAt_lt hi]
 obtain ⟨a,b⟩:=h1 l[i] (List.getElem_mem hi)
 have c:¬ l[i]∈l.take i:=fun hm=>by
  obtain ⟨j,hj,e⟩:=List.mem_take_iff_getElem.1 hm
  rw [List.nodup_iff_pairwise_ne,List.pairwise_iff_getElem] at h2
  exact h2 j i (by omega) hi (by omega) e
 simp [a,b,c]
def restF (side:List Int):Nat→Nat→List Int
 |0,_=>[]
 |m+1,i=>bif decide ((i:Int)∈side) then restF side m (i+1) else (i:Int)::restF side m (i+1)
theorem restF_mem {side:List Int}{x:Int}:∀ m i,x∈restF side m i↔∃ q:Nat,x=q∧i≤q∧q<i+m∧¬ x∈side
 |0,i=>by
  constructor
  ·intro h;cases h
  ·rintro ⟨q,_,a,b,_⟩;omega
 |m+1,i=>by
  unfold restF
  cases hd:decide ((i:Int)∈side) with
  |true=>
   rw [cond_true,restF_mem m (i+1)]
   constructor
   ·rintro ⟨q,e,a,b,c⟩;exact ⟨q,e,by omega,by omega,c⟩
   ·rintro ⟨q,e,a,b,c⟩
    refine ⟨q,e,?_,by omega,c⟩
    rcases Nat.lt_or_ge i q with h|h
    ·exact h
    ·exfalso;apply c;rw [e,show q=i by omega];exact of_decide_eq_true hd
  |false=>
   rw [cond_false,List.mem_cons,restF_mem m (i+1)]
   constructor
   ·rintro (e|⟨q,e,a,b,c⟩)
    ·exact ⟨i,e,by omega,by omega,by rw [e];exact of_decide_eq_false hd⟩
    ·exact ⟨q,e,by omega,by omega,c⟩
   ·rintro ⟨q,e,a,b,c⟩
    rcases Nat.lt_or_ge i q with h|h
    ·exact .inr ⟨q,e,h,by omega,c⟩
    ·exact .inl (by rw [e,show q=i by omega])
theorem restF_nodup {side:List Int}:∀ m i,(restF side m i).Nodup
 |0,i=>List.nodup_nil
 |m+1,i=>by
  unfold restF
  cases hd:decide ((i:Int)∈side) with
  |true=>exact restF_nodup m (i+1)
  |false=>
   rw [cond_false,List.nodup_cons]
   refine ⟨fun h=>?_,restF_nodup m (i+1)⟩
   obtain ⟨q,e,a,_⟩:=(restF_mem m (i+1)).1 h
   omega
theorem rest_apart (side:List Int)(n:Nat):apartB (restF side n 0) (n:Int)=true:=
 apart_of (fun x hx=>by
  obtain ⟨q,e,a,b,c⟩:=(restF_mem n 0).1 hx
  omega) (restF_nodup n 0)
theorem rest_other {side:List Int}{n:Nat}(hn:n≤64)(h:apartB side (n:Int)=true):Other n (maskOf side 0#64) (maskOf (restF side n 0) 0#64):=by
 intro q hq
 have hi:=apart_in h
 have hr:=apart_in (rest_apart side n)
 rw [maskOf_bit _ _ (fun x hx=>by have:=hr x hx;omega),maskOf_bit _ _ (fun x hx=>by have:=hi x hx;omega)]
 rw [show (0#64).toNat=0 from rfl,Nat.zero_testBit,Bool.false_or,Bool.false_or,Bool.eq_iff_iff,decide_eq_true_eq,Bool.not_eq_true',decide_eq_false_iff_not,restF_mem]
 constructor
 ·rintro ⟨q',e,_,_,c⟩;exact c
 ·intro c;exact ⟨q,rfl,by omega,by omega,c⟩
theorem out_side {side:List Int}{n:Nat}(hn:n≤64)(h:apartB side (n:Int)=true):out n (maskOf side 0#64)+side.length=n:=by
 have:=out_mask hn side 0#64 (apart_in h) (apart_nodup h) (fun x _=>by rw [show (0#64).toNat=0 from rfl,Nat.zero_testBit])
 rw [out_zero] at this;exact this
theorem cut_back {N:Int}{S D:List Pl}{n:Nat}(t:Tab N S D n){side:List Int}(h:apartB side N=true) :
  apartB (restF side n 0) N=true∧cutF N S side n=cutF N S (restF side n 0) n∧0≤cutF N S side n∧cutF N S side n≤side.length∧cutF N S side n≤(restF side n 0).length:=by
 have eN:=t.eN
 subst eN
 have ho:=rest_other t.le h
 have o1:=out_side t.le h
 have o2:=out_side t.le (rest_apart side n)
 have r1:=ranks t ho
 have r2:=ranks t ho.symm
 have r3:=ranks_le t ho
 have b1:=(ech_row n (2*n) 0 0 (S.map (cutR n (maskOf side 0#64))) (Nat.zero_le _)).1
 have b2:=(ech_row n (2*n) 0 0 (S.map (cutR n (maskOf (restF side n 0) 0#64))) (Nat.zero_le _)).1
 rw [List.length_map,t.ls] at b1 b2
 have b1:(form n (S.map (cutR n (maskOf side 0#64)))).1≤n:=b1
 have b2:(form n (S.map (cutR n (maskOf (restF side n 0) 0#64)))).1≤n:=b2
 refine ⟨rest_apart side n,?_⟩
 unfold cutF
 refine ⟨?_,?_,?_,?_⟩<;>omega
end Go.Proofs.YtogkkamlmklpkaaDoor.Ab
/- Plain law: the loops of TableauBack that gather the rest of the qubits. No condition: lemmas only. -/
set_option maxRecDepth 100000
set_option linter.unusedVariables false
set_option linter.unusedSimpArgs false
namespace Go.Proofs.YtogkkamlmklpkaaDoor.Ab
open Go
theorem PB0 (side:List Int)(v1 v2 v3:Int)(i:Int)(v7:Int)(v8 v9:List Pl)(v10:Int)(v11 v12:List Pl)(v13:Int)(v14 v15:List Pl)(hl:side.length<4611686018427387904):∀ (f m j:Nat) (b:Bool),j+m=side.length→m<f→
  Plaw14_TableauBackL0 side v1 v2 v3 i v7 v8 v9 v10 v11 v12 v13 v14 v15 f b (j:Int)=some (b||decide (i∈side.drop j))
 |0,m,j,b,_,h=>by omega
 |f+1,m,j,b,e,h=>by
  unfold Plaw14_TableauBackL0
  cases m with
  |zero=>rw [if_neg (by omega),List.drop_of_length_le (by omega)];simp
  |succ m=>
   have hj:j<side.length:=by omega
   have ih:=fun b=>PB0 side v1 v2 v3 i v7 v8 v9 v10 v11 v12 v13 v14 v15 hl f m (j+1) b (by omega) (by omega)
   rw [if_pos (by omega),wrap_id (n:=(j:Int)+1) ⟨by omega,by omega⟩]
   rw [show ((j+1:Nat):Int)=(j:Int)+1 by omega] at ih
   cases b with
   |true=>rw [cond_true,ih];simp
   |false=>
    rw [cond_false,idxI hj]
    show Plaw14_TableauBackL0 side v1 v2 v3 i v7 v8 v9 v10 v11 v12 v13 v14 v15 f (decide (side[j]=i)) ((j:Int)+1)=_
    rw [ih,List.drop_eq_getElem_cons hj,Bool.false_or]
    congr 1
    rw [Bool.eq_iff_iff,Bool.or_eq_true,decide_eq_true_eq,decide_eq_true_eq,decide_eq_true_eq,List.mem_cons]
    exact ⟨fun h=>h.imp Eq.symm id,fun h=>h.imp Eq.symm id⟩
theorem PB1 (side:List Int)(v1 v2 v3:Int)(i:Int)(v7:Int)(v8 v9:List Pl)(v10:Int)(v11 v12:List Pl)(v13:Int)(v14 v15:List Pl)(v16:List Int)(hl:side.length<4611686018427387904):∀ (f m j:Nat) (b:Bool),j+m=side.length→m<f→
  Plaw14_TableauBackL1 side v1 v2 v3 i v7 v8 v9 v10 v11 v12 v13 v14 v15 v16 f b (j:Int)=some (b||decide (i∈side.drop j))
 |0,m,j,b,_,h=>by omega
 |f+1,m,j,b,e,h=>by
  unfold Plaw14_TableauBackL1
  cases m with
  |zero=>rw [if_neg (by omega),List.drop_of_length_le (by omega)];simp
  |succ m=>
   have hj:j<side.length:=by omega
   have ih:=fun b=>PB1 side v1 v2 v3 i v7 v8 v9 v10 v11 v12 v13 v14 v15 v16 hl f m (j+1) b (by omega) (by omega)
   rw [if_pos (by omega),wrap_id (n:=(j:Int)+1) ⟨by omega,by omega⟩]
   rw [show ((j+1:Nat):Int)=(j:Int)+1 by omega] at ih
   cases b with
   |true=>rw [cond_true,ih];simp
   |false=>
    rw [cond_false,idxI hj]
    show Plaw14_TableauBackL1 side v1 v2 v3 i v7 v8 v9 v10 v11 v12 v13 v14 v15 v16 f (decide (side[j]=i)) ((j:Int)+1)=_
    rw [ih,List.drop_eq_getElem_cons hj,Bool.false_or]
    congr 1
    rw [Bool.eq_iff_iff,Bool.or_eq_true,decide_eq_true_eq,decide_eq_true_eq,decide_eq_true_eq,List.mem_cons]
    exact ⟨fun h=>h.imp Eq.symm id,fun h=>h.imp Eq.symm id⟩
theorem PB2 (F:Nat)(side:List Int)(v1 v2 v3:Int)(n:Nat)(hn:n≤64)(v6 v7:List Pl)(v8:Int)(v9 v10:List Pl)(v11:Int)(v12 v13:List Pl)(hl:side.length<4611686018427387904)(hF:side.length<F):∀ (f m i:Nat) (acc:List Int),i+m=n→m<f→acc.length≤i→
  Plaw14_TableauBackL2 F f side v1 v2 v3 (i:Int) (n:Int) v6 v7 v8 v9 v10 v11 v12 v13 acc=some (.inr (side,v1,v2,v3,(n:Int),v6,v7,v8,v9,v10,v11,v12,v13,acc++restF side m i))
 |0,m,i,acc,_,h,_=>by omega
 |f+1,m,i,acc,e,h,ha=>by
  unfold Plaw14_TableauBackL2
  cases m with
  |zero=>rw [if_neg (by omega)];simp [restF]
  |succ m=>
   have ih:=fun acc h=>PB2 F side v1 v2 v3 n hn v6 v7 v8 v9 v10 v11 v12 v13 hl hF f m (i+1) acc (by omega) (by omega) h
   rw [show ((i+1:Nat):Int)=(i:Int)+1 by omega] at ih
   have hb:=PB1 side v1 v2 v3 (i:Int) (n:Int) v6 v7 v8 v9 v10 v11 v12 v13 acc hl F side.length 0 false (by omega) hF
   rw [show ((0:Nat):Int)=0 from rfl,List.drop_zero,Bool.false_or] at hb
   rw [if_pos (by omega),hb,wrap_id (n:=(i:Int)+1) ⟨by omega,by omega⟩]
   unfold restF
   cases hd:decide ((i:Int)∈side) with
   |true=>simp only [cond_true];exact ih acc (by omega)
   |false=>
    simp only [cond_false]
    rw [if_pos (by omega),ih _ (by rw [List.length_append,List.length_singleton];omega),List.append_assoc,List.singleton_append]
theorem PB3 (F:Nat)(side:List Int)(v1 v2 v3:Int)(n:Nat)(hn:n≤64)(v6 v7:List Pl)(v8:Int)(v9 v10:List Pl)(v11:Int)(v12 v13:List Pl)(hl:side.length<4611686018427387904)(hF:side.length<F):∀ (f m i:Nat),i+m=n→m<f→
  Plaw14_TableauBackL3 F f side v1 v2 v3 (i:Int) (n:Int) v6 v7 v8 v9 v10 v11 v12 v13=if restF side m i=[] then some (.inl (side,v1,v2,v3,(n:Int),v6,v7,v8,v9,v10,v11,v12,v13)) else some (.inr (side,v1,v2,v3,(n:Int),v6,v7,v8,v9,v10,v11,v12,v13,restF side m i))
 |0,m,i,_,h=>by omega
 |f+1,m,i,e,h=>by
  unfold Plaw14_TableauBackL3
  cases m with
  |zero=>rw [if_neg (by omega),if_pos (show restF side 0 i=[] from rfl)]
  |succ m=>
   have ih:=PB3 F side v1 v2 v3 n hn v6 v7 v8 v9 v10 v11 v12 v13 hl hF f m (i+1) (by omega) (by omega)
   rw [show ((i+1:Nat):Int)=(i:Int)+1 by omega] at ih
   have hb:=PB0 side v1 v2 v3 (i:Int) (n:Int) v6 v7 v8 v9 v10 v11 v12 v13 hl F side.length 0 false (by omega) hF
   rw [show ((0:Nat):Int)=0 from rfl,List.drop_zero,Bool.false_or] at hb
   rw [if_pos (by omega),hb,wrap_id (n:=(i:Int)+1) ⟨by omega,by omega⟩]
   unfold restF
   cases hd:decide ((i:Int)∈side) with
   |true=>simp only [cond_true];exact ih
   |false=>
    simp only [cond_false]
    have h2:=PB2 F side v1 v2 v3 n hn v6 v7 v8 v9 v10 v11 v12 v13 hl hF f m (i+1) [(i:Int)] (by omega) (by omega) (by rw [List.length_singleton];omega)
    rw [show ((i+1:Nat):Int)=(i:Int)+1 by omega] at h2
    rw [if_neg (by simp),h2,List.singleton_append]
end Go.Proofs.YtogkkamlmklpkaaDoor.Ab
/- Plain law: a product with a string that lies at one qubit; at two. No condition: lemmas only. -/
set_option maxRecDepth 100000
set_option linter.unusedVariables false
set_option linter.unusedSimpArgs false
namespace Go.Proofs.YtogkkamlmklpkaaDoor.Ab
open Go
theorem pw_nought (a b:Nat){c d:Nat}(h1:c % 2=0)(h2:d % 2=0):pw a b c d=0:=by
 unfold pw
 rw [if_pos (.inr (.inl ⟨h1,h2⟩))]
theorem ps_local:∀ (k q a b c d:Nat),q<k→(∀ i,i≠q→c.testBit i=false)→(∀ i,i≠q→d.testBit i=false)→ps k a b c d=pw (a / 2 ^ q) (b / 2 ^ q) (c / 2 ^ q) (d / 2 ^ q)
 |0,q,_,_,_,_,h,_,_=>by omega
 |k+1,q,a,b,c,d,h,hc,hd=>by
  unfold ps
  cases q with
  |zero=>
   have c0:c / 2=0:=by
    apply Nat.eq_of_testBit_eq
    intro i
    rw [Nat.testBit_div_two,Nat.zero_testBit];exact hc (i+1) (by omega)
   have d0:d / 2=0:=by
    apply Nat.eq_of_testBit_eq
    intro i
    rw [Nat.testBit_div_two,Nat.zero_testBit];exact hd (i+1) (by omega)
   rw [c0,d0,ps_zero_r]
   simp
  |succ q=>
   have c0:c % 2=0:=by
    have:=hc 0 (by omega)
    rw [Nat.testBit_zero,decide_eq_false_iff_not] at this;omega
   have d0:d % 2=0:=by
    have:=hd 0 (by omega)
    rw [Nat.testBit_zero,decide_eq_false_iff_not] at this;omega
   rw [pw_nought _ _ c0 d0,Nat.zero_add,ps_local k q (a / 2) (b / 2) (c / 2) (d / 2) (by omega) (fun i hi=>by
    rw [Nat.testBit_div_two];exact hc (i+1) (by omega)) (fun i hi=>by
    rw [Nat.testBit_div_two];exact hd (i+1) (by omega))]
   simp only [Nat.div_div_eq_div_mul,Nat.pow_succ,Nat.mul_comm 2]
def pb (x z c d:Bool):Nat:=pw x.toNat z.toNat c.toNat d.toNat
theorem pw_bits (a b c d q:Nat):pw (a / 2 ^ q) (b / 2 ^ q) (c / 2 ^ q) (d / 2 ^ q)=pb (a.testBit q) (b.testBit q) (c.testBit q) (d.testBit q):=by
 rw [pw_mod]
 unfold pb
 simp only [Nat.testBit_eq_decide_div_mod_eq]
 have h:∀ x:Nat,x % 2=(decide (x % 2=1)).toNat:=fun x=>by
  rcases Nat.mod_two_eq_zero_or_one x with e|e<;>rw [e]<;>rfl
 rw [← h,← h,← h,← h]
theorem bw_bit {b:Bool}{q i:Nat}(hq:q<64):(bw b q).toNat.testBit i=(b&&decide (i=q)):=by
 unfold bw
 cases b with
 |false=>simp
 |true=>
  rw [cond_true,tn_bit hq,Bool.true_and]
  by_cases h:i=q
  ·subst h;simp
  ·rw [Nat.testBit_two_pow_of_ne (Ne.symm h),decide_eq_false h]
theorem bw_xor (a b:Bool)(q:Nat):bw a q ^^^ bw b q=bw (a ^^ b) q:=by
 unfold bw
 cases a<;>cases b<;>simp
def loc1 (p:Pl)(q:Nat)(x z:Bool)(ph:Int):Pl:=⟨p.N,(p.X &&& ~~~(1#64 <<< q)) ^^^ bw x q,(p.Z &&& ~~~(1#64 <<< q)) ^^^ bw z q,ph⟩
theorem clr_bit (X:BitVec 64){q i:Nat}(hq:q<64):(X &&& ~~~(1#64 <<< q)).toNat.testBit i=(X.toNat.testBit i && !decide (i=q)):=by
 rw [BitVec.testBit_toNat,BitVec.testBit_toNat,BitVec.getLsbD_and,BitVec.getLsbD_not,BitVec.getLsbD_shiftLeft]
 by_cases h:i<64
 ·by_cases e:i=q
  ·subst e;simp [h]
  ·rcases Nat.lt_or_ge i q with l|l
   ·simp [h,e,l]
   ·have:(1#64).getLsbD (i-q)=false:=by
     rw [← BitVec.testBit_toNat]
     show (1:Nat).testBit (i-q)=false
     rw [show (1:Nat)=2 ^ 0 from rfl,Nat.testBit_two_pow_of_ne (by omega)]
    simp [h,e,this]
 ·rw [BitVec.getLsbD_of_ge X i (by omega)];rfl
theorem loc1_X {p:Pl}{q i:Nat}{x z:Bool}{ph:Int}(hq:q<64):(loc1 p q x z ph).X.toNat.testBit i=bif decide (i=q) then x else p.X.toNat.testBit i:=by
 unfold loc1
 rw [BitVec.toNat_xor,Nat.testBit_xor,clr_bit _ hq,bw_bit hq]
 cases decide (i=q)<;>cases x<;>simp
theorem loc1_Z {p:Pl}{q i:Nat}{x z:Bool}{ph:Int}(hq:q<64):(loc1 p q x z ph).Z.toNat.testBit i=bif decide (i=q) then z else p.Z.toNat.testBit i:=by
 unfold loc1
 rw [BitVec.toNat_xor,Nat.testBit_xor,clr_bit _ hq,bw_bit hq]
 cases decide (i=q)<;>cases z<;>simp
theorem mul_loc1 {p:Pl}{q:Nat}(hq:q<64){x z:Bool}{ph N:Int}{b c:UInt8} :
  mulP (loc1 p q x z ph) (on1 N q b c)=loc1 p q (x ^^ lx c) (z ^^ lz c) ((ph+sg b+(pb x z (lx c) (lz c):Nat)) % 4):=by
 have hp:ps 64 (loc1 p q x z ph).X.toNat (loc1 p q x z ph).Z.toNat (on1 N q b c).X.toNat (on1 N q b c).Z.toNat=pb x z (lx c) (lz c):=by
  rw [ps_local 64 q _ _ _ _ hq (fun i hi=>by show (bw (lx c) q).toNat.testBit i=false;rw [bw_bit hq,decide_eq_false hi,Bool.and_false]) (fun i hi=>by show (bw (lz c) q).toNat.testBit i=false;rw [bw_bit hq,decide_eq_false hi,Bool.and_false]),pw_bits,loc1_X hq,loc1_Z hq]
  show pb _ _ ((bw (lx c) q).toNat.testBit q) ((bw (lz c) q).toNat.testBit q)=_
  rw [bw_bit hq,bw_bit hq]
  simp
 unfold mulP
 rw [hp]
 unfold loc1 on1
 simp only [BitVec.xor_assoc,bw_xor]
def mul1 (b c:UInt8)(s:Bool×Bool×Int):Bool×Bool×Int:=(s.1 ^^ lx c,s.2.1 ^^ lz c,(s.2.2+sg b+(pb s.1 s.2.1 (lx c) (lz c):Nat)) % 4)
def tb1 (k:Int)(x z:Bool)(ph:Int):Bool×Bool×Int:=
 let s0:Bool×Bool×Int:=(false,false,bif x&&z then (ph+1) % 4 else ph)
 let s1:=bif x then mul1 (im1 k).1 (im1 k).2.1 s0 else s0
 bif z then mul1 (im1 k).2.2.1 (im1 k).2.2.2 s1 else s1
def locS (p:Pl)(q:Nat)(s:Bool×Bool×Int):Pl:=loc1 p q s.1 s.2.1 s.2.2
theorem clq_loc (p:Pl)(q:Nat):clq p q=loc1 p q false false p.Ph:=by
 unfold clq loc1 bw
 simp
theorem thr1_tb (k:Int)(p:Pl){q:Nat}(hq:q<64):thr1 k q p=locS p q (tb1 k (bX p q) (bZ p q) p.Ph):=by
 unfold thr1 tst
 rw [clq_loc]
 have h0:turn1 (bX p q&&bZ p q) (loc1 p q false false p.Ph)=locS p q (false,false,bif bX p q&&bZ p q then (p.Ph+1) % 4 else p.Ph):=by
  unfold turn1 locS
  cases bX p q&&bZ p q<;>rfl
 have hm:∀ (b c:UInt8) (e:Bool) (s:Bool×Bool×Int),tw (on1 p.N q b c) e (locS p q s)=locS p q (bif e then mul1 b c s else s):=fun b c e s=>by
  unfold tw
  cases e with
  |false=>rfl
  |true=>rw [cond_true,cond_true];exact mul_loc1 hq
 rw [h0]
 unfold iA1 iB1
 rw [hm,hm]
 rfl
theorem loc_self {p:Pl}{q:Nat}(hq:q<64):p=loc1 p q (bX p q) (bZ p q) p.Ph:=by
 have hX:p.X=(loc1 p q (bX p q) (bZ p q) p.Ph).X:=by
  apply BitVec.eq_of_toNat_eq
  apply Nat.eq_of_testBit_eq
  intro i
  rw [loc1_X hq]
  by_cases h:i=q
  ·subst h;rw [decide_eq_true rfl,cond_true];rfl
  ·rw [decide_eq_false h,cond_false]
 have hZ:p.Z=(loc1 p q (bX p q) (bZ p q) p.Ph).Z:=by
  apply BitVec.eq_of_toNat_eq
  apply Nat.eq_of_testBit_eq
  intro i
  rw [loc1_Z hq]
  by_cases h:i=q
  ·subst h;rw [decide_eq_true rfl,cond_true];rfl
  ·rw [decide_eq_false h,cond_false]
 have e:∀ a b:Pl,a.N=b.N→a.X=b.X→a.Z=b.Z→a.Ph=b.Ph→a=b:=fun a b h1 h2 h3 h4=>by
  obtain ⟨N,X,Z,Ph⟩:=a
  obtain ⟨N',X',Z',Ph'⟩:=b
  simp only at h1 h2 h3 h4
  rw [h1,h2,h3,h4]
 exact e _ _ rfl hX hZ rfl
theorem pl_ext {a b:Pl}(h1:a.N=b.N)(h2:∀ i,a.X.toNat.testBit i=b.X.toNat.testBit i)(h3:∀ i,a.Z.toNat.testBit i=b.Z.toNat.testBit i)(h4:a.Ph=b.Ph):a=b:=by
 have hX:a.X=b.X:=BitVec.eq_of_toNat_eq (Nat.eq_of_testBit_eq h2)
 have hZ:a.Z=b.Z:=BitVec.eq_of_toNat_eq (Nat.eq_of_testBit_eq h3)
 obtain ⟨N,X,Z,Ph⟩:=a
 obtain ⟨N',X',Z',Ph'⟩:=b
 simp only at h1 hX hZ h4
 rw [h1,hX,hZ,h4]
theorem loc1_loc1 {p:Pl}{q:Nat}(hq:q<64){x z x' z':Bool}{ph ph':Int}:loc1 (loc1 p q x z ph) q x' z' ph'=loc1 p q x' z' ph':=by
 refine pl_ext rfl (fun i=>?_) (fun i=>?_) rfl
 ·rw [loc1_X hq,loc1_X hq,loc1_X hq];cases decide (i=q)<;>rfl
 ·rw [loc1_Z hq,loc1_Z hq,loc1_Z hq];cases decide (i=q)<;>rfl
def invK (k:Int):Int:=if k=5 then 6 else if k=6 then 5 else if k=7 then 8 else if k=8 then 7 else if k=9 then 10 else if k=10 then 9 else if k=15 then 16 else if k=16 then 15 else k
theorem ph4 {ph:Int}(h1:0≤ph)(h2:ph≤3):ph=0∨ph=1∨ph=2∨ph=3:=by omega
theorem tb1_inv {k:Int}(h1:1≤k)(h2:k≤10)(x z:Bool){ph:Int}(p1:0≤ph)(p2:ph≤3):tb1 (invK k) (tb1 k x z ph).1 (tb1 k x z ph).2.1 (tb1 k x z ph).2.2=(x,z,ph):=by
 rcases k10 h1 h2 with rfl|rfl|rfl|rfl|rfl|rfl|rfl|rfl|rfl|rfl<;>cases x<;>cases z<;>rcases ph4 p1 p2 with rfl|rfl|rfl|rfl<;>rfl
theorem thr1_inv {k:Int}(h1:1≤k)(h2:k≤10){p:Pl}(hp:0≤p.Ph∧p.Ph≤3){q:Nat}(hq:q<64):thr1 (invK k) q (thr1 k q p)=p:=by
 rw [thr1_tb k p hq]
 generalize hs:tb1 k (bX p q) (bZ p q) p.Ph=s
 rw [thr1_tb _ _ hq]
 have e1:bX (locS p q s) q=s.1:=by unfold bX locS;rw [loc1_X hq,decide_eq_true rfl,cond_true]
 have e2:bZ (locS p q s) q=s.2.1:=by unfold bZ locS;rw [loc1_Z hq,decide_eq_true rfl,cond_true]
 have e3:(locS p q s).Ph=s.2.2:=rfl
 rw [e1,e2,e3,← hs,tb1_inv h1 h2 _ _ hp.1 hp.2]
 unfold locS
 rw [loc1_loc1 hq]
 exact (loc_self hq).symm
end Go.Proofs.YtogkkamlmklpkaaDoor.Ab
/- Plain law: a gate of two qubits and its inverse; a gate keeps what strings commute, and what is Hermitian. No condition: lemmas only. -/
set_option maxRecDepth 100000
set_option linter.unusedVariables false
set_option linter.unusedSimpArgs false
namespace Go.Proofs.YtogkkamlmklpkaaDoor.Ab
open Go
theorem loc1_swap {p:Pl}{q r:Nat}(hq:q<64)(hr:r<64)(hne:q≠r){x z u w:Bool}{a b c:Int}:loc1 (loc1 p q x z a) r u w b=loc1 (loc1 p r u w c) q x z b:=by
 refine pl_ext rfl (fun i=>?_) (fun i=>?_) rfl
 ·rw [loc1_X hr,loc1_X hq,loc1_X hq,loc1_X hr]
  by_cases h:i=q
  ·subst h;rw [decide_eq_false hne];rfl
  ·rw [decide_eq_false h];rfl
 ·rw [loc1_Z hr,loc1_Z hq,loc1_Z hq,loc1_Z hr]
  by_cases h:i=q
  ·subst h;rw [decide_eq_false hne];rfl
  ·rw [decide_eq_false h];rfl
def loc2 (p:Pl)(q r:Nat)(s:Bool×Bool×Bool×Bool×Int):Pl:=loc1 (loc1 p q s.1 s.2.1 s.2.2.2.2) r s.2.2.1 s.2.2.2.1 s.2.2.2.2
def mul2 (b c d:UInt8)(s:Bool×Bool×Bool×Bool×Int):Bool×Bool×Bool×Bool×Int:=
 (s.1 ^^ lx c,s.2.1 ^^ lz c,s.2.2.1 ^^ lx d,s.2.2.2.1 ^^ lz d,((s.2.2.2.2+sg b+(pb s.1 s.2.1 (lx c) (lz c):Nat)) % 4+sg 43+(pb s.2.2.1 s.2.2.2.1 (lx d) (lz d):Nat)) % 4)
theorem bw_or (a b:Bool){q r:Nat}(hq:q<64)(hr:r<64)(hne:q≠r):bw a q ||| bw b r=bw a q ^^^ bw b r:=by
 apply BitVec.eq_of_toNat_eq
 apply Nat.eq_of_testBit_eq
 intro i
 rw [BitVec.toNat_or,BitVec.toNat_xor,Nat.testBit_or,Nat.testBit_xor,bw_bit hq,bw_bit hr]
 by_cases h:i=q
 ·subst h;rw [decide_eq_false hne];simp
 ·rw [decide_eq_false h];simp
theorem on2_mul {N:Int}{q r:Nat}(hq:q<64)(hr:r<64)(hne:q≠r)(b c d:UInt8):on2 N q r b c d=mulP (on1 N q b c) (on1 N r 43 d):=by
 have hp:ps 64 (on1 N q b c).X.toNat (on1 N q b c).Z.toNat (on1 N r 43 d).X.toNat (on1 N r 43 d).Z.toNat=0:=by
  rw [ps_local 64 r _ _ _ _ hr (fun i hi=>by show (bw (lx d) r).toNat.testBit i=false;rw [bw_bit hr,decide_eq_false hi,Bool.and_false]) (fun i hi=>by show (bw (lz d) r).toNat.testBit i=false;rw [bw_bit hr,decide_eq_false hi,Bool.and_false]),pw_bits]
  show pb ((bw (lx c) q).toNat.testBit r) ((bw (lz c) q).toNat.testBit r) _ _=_
  rw [bw_bit hq,bw_bit hq,decide_eq_false (Ne.symm hne),Bool.and_false,Bool.and_false]
  unfold pb pw
  rw [if_pos (.inl ⟨rfl,rfl⟩)]
 unfold mulP
 rw [hp]
 unfold on1 on2
 rw [bw_or _ _ hq hr hne,bw_or _ _ hq hr hne]
 have:=sg_02 b
 have h4:sg 43=0:=rfl
 simp only [h4,Pl.mk.injEq,true_and]
 omega
theorem mul_loc2 {p:Pl}{q r:Nat}(hq:q<64)(hr:r<64)(hne:q≠r){N:Int}{b c d:UInt8}(s:Bool×Bool×Bool×Bool×Int) :
  mulP (loc2 p q r s) (on2 N q r b c d)=loc2 p q r (mul2 b c d s):=by
 rw [on2_mul hq hr hne,← mulP_assoc]
 unfold loc2
 rw [loc1_swap hq hr hne (c:=0),mul_loc1 hq,loc1_swap hr hq (Ne.symm hne) (c:=0),mul_loc1 hr,loc1_swap hq hr hne (c:=0),loc1_swap hq hr hne (c:=0)]
 rfl
def tb2 (k:Int)(x z u w:Bool)(ph:Int):Bool×Bool×Bool×Bool×Int:=
 let s0:Bool×Bool×Bool×Bool×Int:=(false,false,false,false,bif x&&z then (ph+1) % 4 else ph)
 let s1:=bif x then mul2 (im2 k).1.1 (im2 k).1.2.1 (im2 k).1.2.2 s0 else s0
 let s2:=bif z then mul2 (im2 k).2.1.1 (im2 k).2.1.2.1 (im2 k).2.1.2.2 s1 else s1
 let s3:Bool×Bool×Bool×Bool×Int:=(s2.1,s2.2.1,s2.2.2.1,s2.2.2.2.1,bif u&&w then (s2.2.2.2.2+1) % 4 else s2.2.2.2.2)
 let s4:=bif u then mul2 (im2 k).2.2.1.1 (im2 k).2.2.1.2.1 (im2 k).2.2.1.2.2 s3 else s3
 bif w then mul2 (im2 k).2.2.2.1 (im2 k).2.2.2.2.1 (im2 k).2.2.2.2.2 s4 else s4
theorem clq2_loc (p:Pl)(q r:Nat):clq (clq p q) r=loc2 p q r (false,false,false,false,p.Ph):=by
 rw [clq_loc p q,clq_loc]
 rfl
theorem thr2_tb (k:Int)(p:Pl){q r:Nat}(hq:q<64)(hr:r<64)(hne:q≠r):thr2 k q r p=loc2 p q r (tb2 k (bX p q) (bZ p q) (bX p r) (bZ p r) p.Ph):=by
 unfold thr2 tst
 rw [clq2_loc]
 have h0:∀ (b:Bool) (s:Bool×Bool×Bool×Bool×Int),turn1 b (loc2 p q r s)=loc2 p q r (s.1,s.2.1,s.2.2.1,s.2.2.2.1,bif b then (s.2.2.2.2+1) % 4 else s.2.2.2.2):=fun b s=>by
  unfold turn1
  cases b<;>rfl
 have hm:∀ (b c d:UInt8) (e:Bool) (s:Bool×Bool×Bool×Bool×Int),tw (on2 p.N q r b c d) e (loc2 p q r s)=loc2 p q r (bif e then mul2 b c d s else s):=fun b c d e s=>by
  unfold tw
  cases e with
  |false=>rfl
  |true=>rw [cond_true,cond_true];exact mul_loc2 hq hr hne s
 unfold iA2 iB2 iC2 iD2
 rw [h0,hm,hm,h0,hm,hm]
 rfl
theorem tb2_inv {k:Int}(h1:11≤k)(h2:k≤17)(x z u w:Bool){ph:Int}(p1:0≤ph)(p2:ph≤3) :
  tb2 (invK k) (tb2 k x z u w ph).1 (tb2 k x z u w ph).2.1 (tb2 k x z u w ph).2.2.1 (tb2 k x z u w ph).2.2.2.1 (tb2 k x z u w ph).2.2.2.2=(x,z,u,w,ph):=by
 rcases k17 h1 h2 with rfl|rfl|rfl|rfl|rfl|rfl|rfl<;>cases x<;>cases z<;>cases u<;>cases w<;>rcases ph4 p1 p2 with rfl|rfl|rfl|rfl<;>rfl
theorem loc2_X {p:Pl}{q r i:Nat}(hq:q<64)(hr:r<64){s:Bool×Bool×Bool×Bool×Int}:(loc2 p q r s).X.toNat.testBit i=bif decide (i=r) then s.2.2.1 else bif decide (i=q) then s.1 else p.X.toNat.testBit i:=by
 unfold loc2
 rw [loc1_X hr,loc1_X hq]
theorem loc2_Z {p:Pl}{q r i:Nat}(hq:q<64)(hr:r<64){s:Bool×Bool×Bool×Bool×Int}:(loc2 p q r s).Z.toNat.testBit i=bif decide (i=r) then s.2.2.2.1 else bif decide (i=q) then s.2.1 else p.Z.toNat.testBit i:=by
 unfold loc2
 rw [loc1_Z hr,loc1_Z hq]
theorem loc2_self {p:Pl}{q r:Nat}(hq:q<64)(hr:r<64):p=loc2 p q r (bX p q,bZ p q,bX p r,bZ p r,p.Ph):=by
 refine pl_ext rfl (fun i=>?_) (fun i=>?_) rfl
 ·rw [loc2_X hq hr]
  by_cases h:i=r
  ·subst h;rw [decide_eq_true rfl,cond_true];rfl
  ·rw [decide_eq_false h,cond_false]
   by_cases h:i=q
   ·subst h;rw [decide_eq_true rfl,cond_true];rfl
   ·rw [decide_eq_false h,cond_false]
 ·rw [loc2_Z hq hr]
  by_cases h:i=r
  ·subst h;rw [decide_eq_true rfl,cond_true];rfl
  ·rw [decide_eq_false h,cond_false]
   by_cases h:i=q
   ·subst h;rw [decide_eq_true rfl,cond_true];rfl
   ·rw [decide_eq_false h,cond_false]
theorem loc2_loc2 {p:Pl}{q r:Nat}(hq:q<64)(hr:r<64)(hne:q≠r){s s':Bool×Bool×Bool×Bool×Int}:loc2 (loc2 p q r s) q r s'=loc2 p q r s':=by
 refine pl_ext rfl (fun i=>?_) (fun i=>?_) rfl
 ·rw [loc2_X hq hr,loc2_X hq hr,loc2_X hq hr];cases decide (i=r)<;>cases decide (i=q)<;>rfl
 ·rw [loc2_Z hq hr,loc2_Z hq hr,loc2_Z hq hr];cases decide (i=r)<;>cases decide (i=q)<;>rfl
theorem loc2_bits {p:Pl}{q r:Nat}(hq:q<64)(hr:r<64)(hne:q≠r)(s:Bool×Bool×Bool×Bool×Int):bX (loc2 p q r s) q=s.1∧bZ (loc2 p q r s) q=s.2.1∧bX (loc2 p q r s) r=s.2.2.1∧bZ (loc2 p q r s) r=s.2.2.2.1:=by
 unfold bX bZ
 rw [loc2_X hq hr,loc2_Z hq hr,loc2_X hq hr,loc2_Z hq hr,decide_eq_false hne,decide_eq_true rfl,decide_eq_true rfl]
 exact ⟨rfl,rfl,rfl,rfl⟩
theorem thr2_inv {k:Int}(h1:11≤k)(h2:k≤17){p:Pl}(hp:0≤p.Ph∧p.Ph≤3){q r:Nat}(hq:q<64)(hr:r<64)(hne:q≠r):thr2 (invK k) q r (thr2 k q r p)=p:=by
 rw [thr2_tb k p hq hr hne]
 generalize hs:tb2 k (bX p q) (bZ p q) (bX p r) (bZ p r) p.Ph=s
 rw [thr2_tb _ _ hq hr hne]
 obtain ⟨e1,e2,e3,e4⟩:=loc2_bits (p:=p) hq hr hne s
 have e5:(loc2 p q r s).Ph=s.2.2.2.2:=rfl
 rw [e1,e2,e3,e4,e5,← hs,tb2_inv h1 h2 _ _ _ _ hp.1 hp.2,loc2_loc2 hq hr hne]
 exact (loc2_self hq hr).symm
theorem bitmul (t:Bool)(q i:Nat):(t.toNat*2 ^ q).testBit i=(t&&decide (i=q)):=by
 cases t with
 |false=>simp
 |true=>
  rw [Bool.toNat_true,Nat.one_mul,Nat.testBit_two_pow,Bool.true_and]
  exact decide_eq_decide.2 ⟨Eq.symm,Eq.symm⟩
theorem part_loc1 {p p':Pl}{q:Nat}(hq:q<64){x z x' z':Bool}{ph ph':Int}:part (loc1 p q x z ph) (loc1 p' q x' z' ph')=(part (clq p q) (clq p' q) ^^ ((x&&z') ^^ (z&&x'))):=by
 rw [clq_loc,clq_loc]
 unfold part om
 have e:((loc1 p q x z ph).X.toNat &&& (loc1 p' q x' z' ph').Z.toNat) ^^^ ((loc1 p q x z ph).Z.toNat &&& (loc1 p' q x' z' ph').X.toNat) =
   (((loc1 p q false false p.Ph).X.toNat &&& (loc1 p' q false false p'.Ph).Z.toNat) ^^^ ((loc1 p q false false p.Ph).Z.toNat &&& (loc1 p' q false false p'.Ph).X.toNat)) ^^^ (((x&&z') ^^ (z&&x')).toNat*2 ^ q):=by
  apply Nat.eq_of_testBit_eq
  intro i
  simp only [Nat.testBit_xor,Nat.testBit_and,loc1_X hq,loc1_Z hq,bitmul]
  cases decide (i=q)<;>simp
 rw [e]
 clear e
 generalize ((loc1 p q false false p.Ph).X.toNat &&& (loc1 p' q false false p'.Ph).Z.toNat) ^^^ ((loc1 p q false false p.Ph).Z.toNat &&& (loc1 p' q false false p'.Ph).X.toNat)=w
 have h:=pop_xor' w (((x&&z') ^^ (z&&x')).toNat*2 ^ q)
 rw [popN_bit] at h
 rw [h]
 clear h
 generalize ((x&&z') ^^ (z&&x'))=t
 cases t with
 |false=>simp
 |true=>
  have:=Nat.mod_two_eq_zero_or_one (popN w)
  rcases this with h|h
  ·rw [show (true:Bool).toNat=1 from rfl,Nat.add_mod,h];rfl
  ·rw [show (true:Bool).toNat=1 from rfl,Nat.add_mod,h];rfl
theorem clq_loc1 {p:Pl}{q r:Nat}(hq:q<64)(hr:r<64)(hne:q≠r){x z:Bool}{ph:Int}:clq (loc1 p q x z ph) r=loc1 (clq p r) q x z ph:=by
 rw [clq_loc (loc1 p q x z ph) r,clq_loc p r,loc1_swap hq hr hne (c:=p.Ph)]
 rfl
theorem part_loc2 {p p':Pl}{q r:Nat}(hq:q<64)(hr:r<64)(hne:q≠r){s s':Bool×Bool×Bool×Bool×Int}:part (loc2 p q r s) (loc2 p' q r s') =
  ((part (clq (clq p r) q) (clq (clq p' r) q) ^^ ((s.1&&s'.2.1) ^^ (s.2.1&&s'.1))) ^^ ((s.2.2.1&&s'.2.2.2.1) ^^ (s.2.2.2.1&&s'.2.2.1))):=by
 unfold loc2
 rw [part_loc1 hr,clq_loc1 hq hr hne,clq_loc1 hq hr hne,part_loc1 hq]
theorem tb1_om {k:Int}(h1:1≤k)(h2:k≤10)(x z x' z':Bool)(ph ph':Int):(((tb1 k x z ph).1&&(tb1 k x' z' ph').2.1) ^^ ((tb1 k x z ph).2.1&&(tb1 k x' z' ph').1))=((x&&z') ^^ (z&&x')):=by
 rcases k10 h1 h2 with rfl|rfl|rfl|rfl|rfl|rfl|rfl|rfl|rfl|rfl<;>cases x<;>cases z<;>cases x'<;>cases z'<;>rfl
theorem tb2_om {k:Int}(h1:11≤k)(h2:k≤17)(x z u w x' z' u' w':Bool)(ph ph':Int) :
  ((((tb2 k x z u w ph).1&&(tb2 k x' z' u' w' ph').2.1) ^^ ((tb2 k x z u w ph).2.1&&(tb2 k x' z' u' w' ph').1)) ^^ (((tb2 k x z u w ph).2.2.1&&(tb2 k x' z' u' w' ph').2.2.2.1) ^^ ((tb2 k x z u w ph).2.2.2.1&&(tb2 k x' z' u' w' ph').2.2.1))) =
   (((x&&z') ^^ (z&&x')) ^^ ((u&&w') ^^ (w&&u'))):=by
 rcases k17 h1 h2 with rfl|rfl|rfl|rfl|rfl|rfl|rfl<;>cases x<;>cases z<;>cases u<;>cases w<;>cases x'<;>cases z'<;>cases u'<;>cases w'<;>rfl
theorem thr1_part {k:Int}(h1:1≤k)(h2:k≤10)(p p':Pl){q:Nat}(hq:q<64):part (thr1 k q p) (thr1 k q p')=part p p':=by
 rw [thr1_tb k p hq,thr1_tb k p' hq]
 unfold locS
 rw [part_loc1 hq,tb1_om h1 h2]
 conv=>rhs;rw [loc_self (p:=p) hq,loc_self (p:=p') hq,part_loc1 hq]
theorem thr2_part {k:Int}(h1:11≤k)(h2:k≤17)(p p':Pl){q r:Nat}(hq:q<64)(hr:r<64)(hne:q≠r):part (thr2 k q r p) (thr2 k q r p')=part p p':=by
 rw [thr2_tb k p hq hr hne,thr2_tb k p' hq hr hne,part_loc2 hq hr hne,Bool.xor_assoc,tb2_om h1 h2]
 conv=>rhs;rw [loc2_self (p:=p) hq hr,loc2_self (p:=p') hq hr,part_loc2 hq hr hne]
 simp only [Bool.xor_assoc]
theorem tb1_even {k:Int}(h1:1≤k)(h2:k≤10)(x z:Bool){ph:Int}(p1:0≤ph)(p2:ph≤3)(he:ph % 2=0):(tb1 k x z ph).2.2 % 2=0:=by
 rcases (show ph=0∨ph=2 by omega) with rfl|rfl<;>rcases k10 h1 h2 with rfl|rfl|rfl|rfl|rfl|rfl|rfl|rfl|rfl|rfl<;>cases x<;>cases z<;>rfl
theorem tb2_even {k:Int}(h1:11≤k)(h2:k≤17)(x z u w:Bool){ph:Int}(p1:0≤ph)(p2:ph≤3)(he:ph % 2=0):(tb2 k x z u w ph).2.2.2.2 % 2=0:=by
 rcases (show ph=0∨ph=2 by omega) with rfl|rfl<;>rcases k17 h1 h2 with rfl|rfl|rfl|rfl|rfl|rfl|rfl<;>cases x<;>cases z<;>cases u<;>cases w<;>rfl
end Go.Proofs.YtogkkamlmklpkaaDoor.Ab
/- Plain law: a tableau carried through a gate is in order, and its inverse carries it back. No condition: lemmas only. -/
set_option maxRecDepth 100000
set_option linter.unusedVariables false
set_option linter.unusedSimpArgs false
namespace Go.Proofs.YtogkkamlmklpkaaDoor.Ab
open Go
theorem thr_inv {k N:Int}{n:Nat}{l:List Int}(hN:N=n)(hn:n≤64)(h1:1≤k)(h2:k≤17)(hg:gchk k l N=0){p:Pl}(hp:0≤p.Ph∧p.Ph≤3):thr (invK k) l (thr k l p)=p:=by
 rcases gate_qs h1 h2 hg with ⟨h10,q,rfl,hq⟩|⟨h11,q,r,rfl,hq,hr,hne⟩
 ·show thr1 (invK k) (q:Int).toNat (thr1 k (q:Int).toNat p)=p
  rw [Int.toNat_natCast]
  exact thr1_inv h1 h10 hp (by omega)
 ·show thr2 (invK k) (q:Int).toNat (r:Int).toNat (thr2 k (q:Int).toNat (r:Int).toNat p)=p
  rw [Int.toNat_natCast,Int.toNat_natCast]
  exact thr2_inv h11 h2 hp (by omega) (by omega) hne
theorem thr_part {k N:Int}{n:Nat}{l:List Int}(hN:N=n)(hn:n≤64)(h1:1≤k)(h2:k≤17)(hg:gchk k l N=0)(p p':Pl):part (thr k l p) (thr k l p')=part p p':=by
 rcases gate_qs h1 h2 hg with ⟨h10,q,rfl,hq⟩|⟨h11,q,r,rfl,hq,hr,hne⟩
 ·show part (thr1 k (q:Int).toNat p) (thr1 k (q:Int).toNat p')=_
  rw [Int.toNat_natCast]
  exact thr1_part h1 h10 p p' (by omega)
 ·show part (thr2 k (q:Int).toNat (r:Int).toNat p) (thr2 k (q:Int).toNat (r:Int).toNat p')=_
  rw [Int.toNat_natCast,Int.toNat_natCast]
  exact thr2_part h11 h2 p p' (by omega) (by omega) hne
theorem thr_one {k N:Int}{n:Nat}{l:List Int}(hN:N=n)(hn:n≤64)(h1:1≤k)(h2:k≤17)(hg:gchk k l N=0){p:Pl}(hp:one N p=true):one N (thr k l p)=true:=by
 obtain ⟨a,b,c⟩:=one_iff.1 hp
 obtain ⟨_,_,p0,p3,_,_⟩:=ok_iff.1 b
 obtain ⟨_,_,o1,o2⟩:=Through 66 (by omega) hN hn h1 h2 hg b a
 refine one_iff.2 ⟨o2,o1,?_⟩
 rcases gate_qs h1 h2 hg with ⟨h10,q,rfl,hq⟩|⟨h11,q,r,rfl,hq,hr,hne⟩
 ·show (thr1 k (q:Int).toNat p).Ph % 2=0
  rw [Int.toNat_natCast,thr1_tb k p (by omega)]
  exact tb1_even h1 h10 _ _ p0 p3 c
 ·show (thr2 k (q:Int).toNat (r:Int).toNat p).Ph % 2=0
  rw [Int.toNat_natCast,Int.toNat_natCast,thr2_tb k p (by omega) (by omega) hne]
  exact tb2_even h11 h2 _ _ _ _ p0 p3 c
theorem gate_tab {N:Int}{S D:List Pl}{n:Nat}(t:Tab N S D n){k:Int}{l:List Int}(h1:1≤k)(h2:k≤17)(hg:gchk k l N=0):Tab N (S.map (thr k l)) (D.map (thr k l)) n:=by
 have hN:=t.eN
 have hle:=t.le
 refine ⟨hN,hle,by rw [List.length_map];exact t.ls,by rw [List.length_map];exact t.ld,fun i h=>?_,fun i h=>?_,fun i j h h'=>?_,fun i j h h'=>?_,fun i j h h'=>?_⟩
 ·rw [List.getElem_map];exact thr_one hN hle h1 h2 hg (t.oS i (by simpa using h))
 ·rw [List.getElem_map];exact thr_one hN hle h1 h2 hg (t.oD i (by simpa using h))
 ·rw [List.getElem_map,List.getElem_map,thr_part hN hle h1 h2 hg];exact t.ss i j (by simpa using h) (by simpa using h')
 ·rw [List.getElem_map,List.getElem_map,thr_part hN hle h1 h2 hg];exact t.dd i j (by simpa using h) (by simpa using h')
 ·rw [List.getElem_map,List.getElem_map,thr_part hN hle h1 h2 hg];exact t.ds i j (by simpa using h) (by simpa using h')
theorem inv_facts {k:Int}(h1:1≤k)(h2:k≤17):1≤invK k∧invK k≤17∧arA (invK k)=arA k:=by
 have:k=1∨k=2∨k=3∨k=4∨k=5∨k=6∨k=7∨k=8∨k=9∨k=10∨k=11∨k=12∨k=13∨k=14∨k=15∨k=16∨k=17:=by omega
 rcases this with rfl|rfl|rfl|rfl|rfl|rfl|rfl|rfl|rfl|rfl|rfl|rfl|rfl|rfl|rfl|rfl|rfl<;>exact ⟨by decide,by decide,rfl⟩
theorem P_Inverse {k:Int}(h1:1≤k)(h2:k≤17):Pgate_Inverse k=some (invK k):=by
 have:k=1∨k=2∨k=3∨k=4∨k=5∨k=6∨k=7∨k=8∨k=9∨k=10∨k=11∨k=12∨k=13∨k=14∨k=15∨k=16∨k=17:=by omega
 rcases this with rfl|rfl|rfl|rfl|rfl|rfl|rfl|rfl|rfl|rfl|rfl|rfl|rfl|rfl|rfl|rfl|rfl<;>rfl
theorem gateA_cases (N:Int)(S D:List Pl)(k:Int)(l:List Int):(∃ n,Tab N S D n∧1≤k∧k≤17∧gchk k l N=0∧gateA N S D k l=(N,S.map (thr k l),D.map (thr k l),0))∨((gateA N S D k l).1=0∧(gateA N S D k l).2.1=[]∧(gateA N S D k l).2.2.2≠0):=by
 unfold gateA
 cases hc:chk N S D with
 |false=>exact .inr ⟨rfl,rfl,by show (140:Int)≠0;omega⟩
 |true=>
  obtain ⟨n,t⟩:=chk_tab hc
  simp only [if_true]
  by_cases hg:gchk k l N=0
  ·rw [if_pos hg]
   by_cases hk:1≤k∧k≤17
   ·rw [if_pos hk];exact .inl ⟨n,t,hk.1,hk.2,hg,rfl⟩
   ·rw [if_neg hk];exact .inr ⟨rfl,rfl,by show (141:Int)≠0;omega⟩
  ·rw [if_neg hg];exact .inr ⟨rfl,rfl,hg⟩
theorem gate_back {N:Int}{S D:List Pl}{n:Nat}(t:Tab N S D n){k:Int}{l:List Int}(h1:1≤k)(h2:k≤17)(hg:gchk k l N=0):gateA N (S.map (thr k l)) (D.map (thr k l)) (invK k) l=(N,S,D,0):=by
 obtain ⟨i1,i2,i3⟩:=inv_facts h1 h2
 have hN:=t.eN
 have hle:=t.le
 have hg':gchk (invK k) l N=0:=by unfold gchk at hg ⊢;rw [i3];exact hg
 unfold gateA
 rw [tab_chk (gate_tab t h1 h2 hg),if_pos rfl,if_pos hg',if_pos ⟨i1,i2⟩,List.map_map,List.map_map]
 have hm:∀ L:List Pl,(∀ i (h:i<L.length),one N L[i]=true)→L.map (thr (invK k) l ∘ thr k l)=L:=fun L hL=>by
  apply List.ext_getElem
  ·rw [List.length_map]
  ·intro i a b
   rw [List.getElem_map]
   obtain ⟨_,c,_⟩:=one_iff.1 (hL i b)
   obtain ⟨_,_,p0,p3,_,_⟩:=ok_iff.1 c
   exact thr_inv hN hle h1 h2 hg ⟨p0,p3⟩
 rw [hm S t.oS,hm D t.oD]
end Go.Proofs.YtogkkamlmklpkaaDoor.Ab
/- Plain law: TableauBack: whatever is handed in, the walk's word is true. No condition but what an address space holds. -/
set_option maxRecDepth 100000
set_option linter.unusedVariables false
set_option linter.unusedSimpArgs false
namespace Go.Proofs.YtogkkamlmklpkaaDoor.Ab
open Go
theorem restF_len (side:List Int):∀ m i,(restF side m i).length≤m
 |0,_=>Nat.le_refl 0
 |m+1,i=>by
  have:=restF_len side m (i+1)
  unfold restF
  cases decide ((i:Int)∈side) with
  |true=>exact Nat.le_succ_of_le this
  |false=>rw [cond_false,List.length_cons];omega
theorem law_tableauBack (F:Nat)(hF:266≤F)(N:Int)(S D:List Pl)(k:Int)(q side:List Int)(_:S.length*32≤140737488355328)(_:D.length*32≤140737488355328)(_:q.length*8≤140737488355328)(_:side.length*8≤140737488355328)(_:266+S.length+D.length+q.length+side.length≤F) :
  Plaw14_TableauBack F N S D k q side=some true:=by
 unfold Plaw14_TableauBack
 simp only [P_Gate F (by omega) _ _ _ _ q (by omega) (by omega)]
 rcases gateA_cases N S D k q with ⟨n,t,h1,h2,hg,he⟩|⟨e1,e2,e4⟩
 ·have hN:=t.eN
  have hle:=t.le
  have hs:=t.ls
  have hd:=t.ld
  have n0:Plaw14_num 0=0:=rfl
  rw [he]
  simp only [P_Inverse h1 h2,gate_back t h1 h2 hg,n0,if_true]
  rw [P_Cut F (by omega) N S D side (by omega) (by omega)]
  have hr:=PB3 F side 0 (cutA N S D side).1 (cutA N S D side).2 n hle S D N (S.map (thr k q)) (D.map (thr k q)) N S D (by omega) (by omega) F n 0 (by omega) (by omega)
  rw [show ((0:Nat):Int)=0 from rfl,← hN] at hr
  have ra:=rest_apart side n
  rw [← hN] at ra
  have rl:=restF_len side n 0
  have ck:=tab_chk t
  have cu:Ptb_Check F N (S.map (thr k q)) (D.map (thr k q))=some 0:=by
   rw [P_Check F (by omega),if_pos (tab_chk (gate_tab t h1 h2 hg))]
  have al:=R_Alike F N S D (by omega) (by omega) (by omega) (by omega)
  have cr:Ptb_Cut F N S D (restF side n 0)=some (cutF N S (restF side n 0) n,0):=by
   rw [P_Cut F (by omega) N S D _ (by omega) (by omega)]
   unfold cutA
   rw [if_pos ck,if_pos ra,hs]
  have cs:cutA N S D side=if apartB side N=true then (cutF N S side n,0) else (0,2):=by
   unfold cutA
   rw [if_pos ck,hs]
  by_cases hsd:apartB side N=true
  ·obtain ⟨_,c2,c3,c4,c5⟩:=cut_back t hsd
   rw [cs,if_pos hsd] at hr ⊢
   by_cases hz:restF side n 0=[]
   ·rw [if_pos hz] at hr
    simp only [hr]
    rw [hz] at cr c2 c5
    rw [List.length_nil] at c5
    simp only [cr,al,cu,n0,cond_true,if_true]
    rw [if_pos c2,if_pos c3,if_pos c4,if_pos (by omega)]
   ·rw [if_neg hz] at hr
    simp only [hr]
    simp only [cr,al,cu,n0,cond_true,if_true]
    rw [if_pos c2,if_pos c3,if_pos c4,if_pos c5]
  ·rw [cs,if_neg hsd] at hr ⊢
   by_cases hz:restF side n 0=[]
   ·rw [if_pos hz] at hr
    simp only [hr]
    rw [hz] at cr
    simp only [cr,al,cu,n0,cond_true,if_true]
    rw [if_neg (show ¬ Plaw14_num 2=0 by unfold Plaw14_num;omega)]
   ·rw [if_neg hz] at hr
    simp only [hr]
    simp only [cr,al,cu,n0,cond_true,if_true]
    rw [if_neg (show ¬ Plaw14_num 2=0 by unfold Plaw14_num;omega)]
 ·generalize gateA N S D k q=r at e1 e2 e4
  obtain ⟨r1,r2,r3,r4⟩:=r
  simp only at e1 e2 e4
  subst e1 e2
  show (if Plaw14_num r4=0 then _ else _)=_
  rw [if_neg (show ¬ Plaw14_num r4=0 from e4)]
  rfl
end Go.Proofs.YtogkkamlmklpkaaDoor.Ab
