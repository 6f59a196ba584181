/- Arguments that came in, told by contents: a slice of whole numbers, an action, a slice of actions. No condition: lemmas only. -/
import Derived.Test.YtogkkamlmklpkaaDoorFq
set_option maxRecDepth 100000
set_option linter.unusedVariables false
set_option linter.unusedSimpArgs false
namespace Go.Proofs.YtogkkamlmklpkaaDoor.Ab
open Go Go.RowKit Go.ChangeShapes Go.WideShapes Go.Deep Go.Joins
def cI (x:Int):List AV:=[.i .i64 x]
theorem enc_each {A:Type}{f:A→List AV}{k:Nat}(hk:∀ a,(f a).length=k){R:Nat→AV→Prop}:∀ (l:List A) (k0:Nat),(∀ i p,l[i]? = some p→∀ j v,(f p)[j]? = some v→R (k0+(i*k+j)) v)→∀ n v,(enc f l)[n]? = some v→R (k0+n) v
 | [],_,_,n,v,h=>by simp [enc] at h
 |p::l,k0,H,n,v,h=>by
  have e:enc f (p::l)=f p++enc f l:=rfl
  rw [e] at h
  by_cases hn:n<k
  ·rw [List.getElem?_append_left (by rw [hk];omega)] at h
   have:=H 0 p rfl n v h
   simpa using this
  ·rw [List.getElem?_append_right (by rw [hk];omega),hk] at h
   have:=enc_each hk l (k0+k) (fun i q hi j w hw=>by
    have:=H (i+1) q (by simpa using hi) j w hw
    rwa [show k0+((i+1)*k+j)=k0+k+(i*k+j) by rw [Nat.add_mul];omega] at this) (n-k) v h
   rwa [show k0+k+(n-k)=k0+n by omega] at this
theorem list_of' {A:Type}{Q:Nat→A→Prop}:∀ n,(∀ i,i<n→∃ p,Q i p)→∃ l:List A,l.length=n∧∀ i p,l[i]? = some p→Q i p
 |0,_=>⟨[],rfl,fun i p h=>by simp at h⟩
 |n+1,h=>by
  obtain ⟨l,h1,h2⟩:=list_of' n (fun i hi=>h i (by omega))
  obtain ⟨p,hp⟩:=h n (by omega)
  refine ⟨l++[p],by simp [h1],fun i q hq=>?_⟩
  by_cases hi:i<n
  ·rw [List.getElem?_append_left (by omega)] at hq;exact h2 i q hq
  ·rw [List.getElem?_append_right (by omega)] at hq
   have:i-l.length=0:=by
    rcases Nat.eq_zero_or_pos (i-l.length) with e|e
    ·exact e
    ·rw [List.getElem?_eq_none (by simp;omega)] at hq;cases hq
   rw [this] at hq
   simp at hq
   subst hq
   rwa [show i=n by omega]
def SlC (W:World)(c:Value)(len:Nat)(cs:List AV):Prop:=
 (c=.slice none 0 0∧len=0∧cs=[])∨∃ b o sp cap,c=.slice (some ⟨b,o,sp⟩) len cap∧(0<cap→sp=none)∧len≤cap∧∀ i v,cs[i]? = some v→∃ u,W.cell? ⟨b,o+i,none⟩=some u∧VRel (thW W) v u
theorem vals_ofT {W:World}{b:Nat}:∀ (cs:List AV) (o:Nat),(∀ i v,cs[i]? = some v→∃ u,W.cell? ⟨b,o+i,none⟩=some u∧VRel (thW W) v u)→∃ us:List Value,(∀ (i:Nat) (u:Value),us[i]? = some u→W.cell? ⟨b,o+i,none⟩=some u)∧VRels (thW W) cs us
 | [],o,_=>⟨[],fun i u e=>by simp at e,by unfold VRels;rfl⟩
 |v::cs,o,h=>by
  obtain ⟨u,h1,h2⟩:=h 0 v rfl
  obtain ⟨us,h3,h4⟩:=vals_ofT cs (o+1) (fun i w hw=>by
   have:=h (i+1) w (by simpa using hw)
   rwa [show o+(i+1)=o+1+i by omega] at this)
  refine ⟨u::us,fun i w hw=>?_,by unfold VRels;exact ⟨_,_,rfl,h2,h4⟩⟩
  match i,hw with
  |0,hw=>simp at hw;subst hw;exact h1
  |i+1,hw=>
   have:=h3 i w (by simpa using hw)
   rwa [show o+(i+1)=o+1+i by omega]
theorem SlC.vr {W:World}{c:Value}{len:Nat}{cs:List AV}(h:SlC W c len cs)(hn:AV.nors cs=true):VRel (thW W) (.vs len .unk cs) c:=by
 unfold VRel
 rcases h with ⟨rfl,rfl,rfl⟩|⟨b,o,sp,cap,rfl,hs,h1,h3⟩
 ·exact .inr ⟨rfl,rfl,rfl,trivial⟩
 ·obtain ⟨us,h4,h5⟩:=vals_ofT _ _ h3
  exact .inl ⟨b,o,sp,cap,us,rfl,hs,h1,trivial,h4,hn,h5⟩
def SlIntIn (W:World)(c:Value)(q:List Int):Prop:=SlC W c q.length (enc cI q)
theorem nors_cI (q:List Int):AV.nors (enc cI q)=true:=enc_nors (fun _=>rfl) q
theorem sl_vsI {W:World}{c:Value}{q:List Int}(h:SlIntIn W c q):VRel (thW W) (.vs q.length .unk (enc cI q)) c:=h.vr (nors_cI q)
theorem ints_cell {H:Type}{enc:TypeId×Value→H}{W:World}{n:Nat}{cs:List Value}{y:DataW H×List MemPlace}(h:DataW.trod enc Tryd.prog W 0 (fun _=>true) true n 44 cs=some y) :
  ∃ c q,cs=[c]∧SlIntIn W c q∧((DataW.weights Tryd.prog 44 y.1).all (·≤reachBytes)=true→q.length*8≤140737488355328):=by
 have hC:Tryd.prog.cellsOf 3=1:=by kernel_rfl
 rcases open_slice Tryd.underlying44 h with ⟨hc,_⟩|⟨a,len,cap,m,k,D,Pc,hc,_,hl,_,hm,hy,hi⟩
 ·exact ⟨_,[],hc,.inl ⟨rfl,rfl,rfl⟩,fun _=>by simp⟩
 ·obtain ⟨b,o,sp⟩:=a
  have hm':m=cap:=by simpa using hm
  subst hm'
  rw [hC] at hi
  have hsp:0<m→sp=none:=fun hp=>by
   obtain ⟨cs',hc',_⟩:=hi 0 hp
   obtain ⟨_,hcl,hat⟩:=World.cells?_some hc'
   have h0:=hat 0 (by omega)
   have hv:cs'[0]? = some (cs'[0]'(by omega)):=List.getElem?_eq_getElem (by omega)
   rw [hv] at h0
   exact World.cell?_spot h0
  obtain ⟨q,hq,hqq⟩:=list_of' (Q:=fun i p=>W.cell? ⟨b,o+i,none⟩=some (.int .i64 p)) len (fun i hil=>by
   have hn:=hsp (by omega)
   subst hn
   obtain ⟨cs',hc',ht⟩:=hi i (by omega)
   obtain ⟨p,e,_,_⟩:=DataW.trod_int Tryd.underlying3 ht
   obtain ⟨_,hcl,hat⟩:=World.cells?_some hc'
   have h0:=hat 0 (by omega)
   rw [e] at h0
   refine ⟨p,?_⟩
   have ad:((⟨b,o,none⟩:Addr).add (i*1)).add 0=⟨b,o+i,none⟩:=by rw [add_off,add_off];simp
   rw [ad] at h0
   exact h0)
  refine ⟨_,q,hc,.inr ⟨b,o,sp,m,by rw [hq],hsp,by omega,fun i v hv=>?_⟩,fun hw=>?_⟩
  ·have:=enc_each (f:=cI) (k:=1) (fun _=>rfl) (R:=fun k v=>∃ u,W.cell? ⟨b,o+k,none⟩=some u∧VRel (thW W) v u) q 0 (fun i p hp j v hv=>by
    match j,hv with
    |0,hv=>simp [cI] at hv;subst hv;exact ⟨_,by simpa using hqq i p hp,by simp only [VRel]⟩
    |j+1,hv=>simp [cI] at hv) i v hv
   simpa using this
  ·have hb:Tryd.prog.bytesOf 3=8:=by kernel_rfl
   rw [hy] at hw
   simp only [DataW.weights,Tryd.underlying44,List.all_cons,Bool.and_eq_true,decide_eq_true_eq,List.length_map,List.length_range,hb] at hw
   have h1:=hw.1
   have hr:reachBytes=140737488351232:=rfl
   rw [hr] at h1
   rw [hq]
   have h2:len*8≤(len+(m-len))*8:=Nat.mul_le_mul_right _ (Nat.le_add_right _ _)
   omega
theorem cells_sl {v c:Value}{a:Option Addr}{l k:Nat}(h:v.cells.toList=[c])(hv:∃ a l k,v=.slice a l k):v=c:=by
 obtain ⟨a,l,k,rfl⟩:=hv
 simpa [Value.cells] using h
theorem ints_read {H:Type}{enc:TypeId×Value→H}{W:World}{base:Nat}{v:Value}{d:DataW H}{p:List MemPlace}(hval:Value.okWide Tryd.prog W .any base 44 v)(h:DataW.Trod enc Tryd.prog W 0 (fun _=>true) true 44 v d p) :
  ∃ q,SlIntIn W v q∧((DataW.weights Tryd.prog 44 d).all (·≤reachBytes)=true→q.length*8≤140737488355328):=by
 obtain ⟨fuel,hf⟩:=h
 obtain ⟨c,q,e,h1,h2⟩:=ints_cell hf
 have hv:v=c:=by
  cases v<;>simp [Value.cells] at e<;>first|exact e|skip
  rename_i cs
  simp [Value.okWide,Cell.okWide,Cell.ok,Tryd.underlying44] at hval
 subst hv
 exact ⟨q,h1,h2⟩
structure ActV where
 K:Int
 G:Int
 Q:List Int
 V:Int
def ActV.cs (a:ActV):List AV:=[.i .i64 a.K,.i .i64 a.G,.vs a.Q.length .unk (enc cI a.Q),.i .i64 a.V]
theorem ActV.nor (a:ActV):AV.nors a.cs=true:=by simp only [ActV.cs,AV.nors,AV.nor,Bool.and_self,nors_cI]
theorem astruct:∃ f0 f1 f2 f3:Field,Tryd.prog.underlying 69=some (.struct #[f0,f1,f2,f3])∧oneCellFields Tryd.prog #[f0,f1,f2,f3]=true∧Tryd.prog.cellsOf 69=4∧
  Tryd.prog.underlying f0.type=some (.int .i64)∧Tryd.prog.underlying f1.type=some (.int .i64)∧f2.type=44∧Tryd.prog.underlying f3.type=some (.int .i64):=by
 exact ⟨_,_,_,_,Tryd.underlying69,by kernel_rfl,by kernel_rfl,by kernel_rfl,by kernel_rfl,rfl,by kernel_rfl⟩
theorem act_cells {H:Type}{enc:TypeId×Value→H}{W:World}{n:Nat}{cs:List Value}{y:DataW H×List MemPlace}(h:DataW.trod enc Tryd.prog W 0 (fun _=>true) true n 69 cs=some y) :
  ∃ (a:ActV) (v0 v1 v2 v3:Value),(cs.drop 0).take 1=[v0]∧(cs.drop 1).take 1=[v1]∧(cs.drop 2).take 1=[v2]∧(cs.drop 3).take 1=[v3]∧VRels (thW W) a.cs [v0,v1,v2,v3]∧((DataW.weights Tryd.prog 69 y.1).all (·≤reachBytes)=true→a.Q.length*8≤140737488355328):=by
 obtain ⟨f0,f1,f2,f3,p1,p2,p3,p4,p5,p6,p7⟩:=astruct
 obtain ⟨y0,y1,y2,y3,k,hx,_,h0,h1,h2,h3⟩:=trod_struct4 p1 h
 obtain ⟨o0,k0⟩:=hone_of p2 0 f0 rfl
 obtain ⟨o1,k1⟩:=hone_of p2 1 f1 rfl
 obtain ⟨o2,k2⟩:=hone_of p2 2 f2 rfl
 obtain ⟨o3,k3⟩:=hone_of p2 3 f3 rfl
 rw [o0,k0] at h0
 rw [o1,k1] at h1
 rw [o2,k2,p6] at h2
 rw [o3,k3] at h3
 obtain ⟨n0,e0,_,_⟩:=DataW.trod_int p4 h0
 obtain ⟨n1,e1,_,_⟩:=DataW.trod_int p5 h1
 obtain ⟨c2,q,e2,g2,w2⟩:=ints_cell h2
 obtain ⟨n3,e3,_,_⟩:=DataW.trod_int p7 h3
 refine ⟨⟨n0,n1,q,n3⟩,_,_,_,_,e0,e1,e2,e3,vr_cons (vr_int _ _ _) (vr_cons (vr_int _ _ _) (vr_cons (sl_vsI g2) (vr_cons (vr_int _ _ _) (vr_nil _)))),fun hw=>?_⟩
 subst hx
 simp only [DataW.weights,p1,List.map_cons,List.map_nil,DataW.weightsEach,p6,List.all_append,Bool.and_eq_true] at hw
 exact w2 hw.2.2.1
theorem act_read {H:Type}{enc:TypeId×Value→H}{W:World}{base:Nat}{v:Value}{d:DataW H}{p:List MemPlace}(hval:Value.okWide Tryd.prog W .any base 69 v)(h:DataW.Trod enc Tryd.prog W 0 (fun _=>true) true 69 v d p) :
  ∃ a:ActV,VRel (thW W) (.agg a.cs) v∧((DataW.weights Tryd.prog 69 d).all (·≤reachBytes)=true→a.Q.length*8≤140737488355328):=by
 obtain ⟨f0,f1,f2,f3,p1,p2,p3,p4,p5,p6,p7⟩:=astruct
 obtain ⟨cs,rfl,hsz⟩:=okWide_struct p1 hval
 obtain ⟨c0,c1,c2,c3,rfl⟩:=array4 (hsz.trans p3)
 obtain ⟨fuel,hf⟩:=h
 obtain ⟨a,v0,v1,v2,v3,e0,e1,e2,e3,hr,hw⟩:=act_cells hf
 simp [Value.cells] at e0 e1 e2 e3
 subst e0 e1 e2 e3
 exact ⟨a,vr_agg hr,hw⟩
def SlActIn (W:World)(c:Value)(l:List ActV):Prop:=SlC W c l.length (enc ActV.cs l)
theorem sl_vsA {W:World}{c:Value}{l:List ActV}(h:SlActIn W c l):VRel (thW W) (.vs l.length .unk (enc ActV.cs l)) c:=h.vr (enc_nors ActV.nor l)
theorem weightsAll_mem {H:Type}{P:Program}{e:TypeId}{f:Nat→Bool}:∀ {l:List (DataW H)},(DataW.weightsAll P e l).all f=true→∀ d,d∈l→(DataW.weights P e d).all f=true
 | [],_,d,hd=>by cases hd
 |x::l,h,d,hd=>by
  simp only [DataW.weightsAll,List.all_append,Bool.and_eq_true] at h
  rcases List.mem_cons.1 hd with rfl|hd
  ·exact h.1
  ·exact weightsAll_mem h.2 d hd
theorem acts_read {H:Type}{enc:TypeId×Value→H}{W:World}{base:Nat}{v:Value}{d:DataW H}{p:List MemPlace}(hval:Value.okWide Tryd.prog W .any base 65 v)(h:DataW.Trod enc Tryd.prog W 0 (fun _=>true) true 65 v d p) :
  ∃ l,SlActIn W v l∧((DataW.weights Tryd.prog 65 d).all (·≤reachBytes)=true→∀ a,a∈l→a.Q.length*8≤140737488355328):=by
 have hC:Tryd.prog.cellsOf 69=4:=by kernel_rfl
 obtain ⟨fuel,hf⟩:=h
 rcases open_slice Tryd.underlying65 hf with ⟨hc,_⟩|⟨a,len,cap,m,k,D,Pc,hc,_,hl,_,hm,hy,hi⟩
 ·have hv:v=.slice none 0 0:=by
   cases v<;>simp [Value.cells] at hc<;>first|simpa using hc|skip
   rename_i cs
   simp [Value.okWide,Cell.okWide,Cell.ok,Tryd.underlying65] at hval
  exact ⟨[],.inl ⟨hv,rfl,rfl⟩,fun _ a ha=>by cases ha⟩
 ·obtain ⟨b,o,sp⟩:=a
  have hm':m=cap:=by simpa using hm
  subst hm'
  rw [hC] at hi
  have hv:v=.slice (some ⟨b,o,sp⟩) len m:=by
   cases v<;>simp [Value.cells] at hc<;>first|simpa using hc|skip
   rename_i cs
   simp [Value.okWide,Cell.okWide,Cell.ok,Tryd.underlying65] at hval
  have hsp:0<m→sp=none:=fun hp=>by
   obtain ⟨cs',hc',_⟩:=hi 0 hp
   obtain ⟨_,hcl,hat⟩:=World.cells?_some hc'
   have h0:=hat 0 (by omega)
   have hv:cs'[0]? = some (cs'[0]'(by omega)):=List.getElem?_eq_getElem (by omega)
   rw [hv] at h0
   exact World.cell?_spot h0
  obtain ⟨l,hq,hqq⟩:=list_of' (Q:=fun i (p:ActV)=>(∀ j v,p.cs[j]? = some v→∃ u,W.cell? ⟨b,o+(i*4+j),none⟩=some u∧VRel (thW W) v u)∧((DataW.weights Tryd.prog 69 (D i)).all (·≤reachBytes)=true→p.Q.length*8≤140737488355328)) len (fun i hil=>by
   have hn:=hsp (by omega)
   subst hn
   obtain ⟨cs',hc',ht⟩:=hi i (by omega)
   obtain ⟨_,hcl,hat⟩:=World.cells?_some hc'
   obtain ⟨x0,x1,x2,x3,rfl⟩:∃ x0 x1 x2 x3,cs'=[x0,x1,x2,x3]:=by
    match cs',hcl with
    | [x0,x1,x2,x3],_=>exact ⟨_,_,_,_,rfl⟩
   obtain ⟨a,v0,v1,v2,v3,e0,e1,e2,e3,hr,hw⟩:=act_cells ht
   simp at e0 e1 e2 e3
   subst e0 e1 e2 e3
   refine ⟨a,fun j v hv=>?_,hw⟩
   have ad:∀ j,((⟨b,o,none⟩:Addr).add (i*4)).add j=⟨b,o+(i*4+j),none⟩:=fun j=>by rw [add_off,add_off,Nat.add_assoc]
   simp only [ActV.cs,VRels] at hr
   obtain ⟨_,_,z0,r0,_,_,z1,r1,_,_,z2,r2,_,_,z3,r3,_⟩:=hr
   cases z0;cases z1;cases z2;cases z3
   have g0:=hat 0 (by omega);have g1:=hat 1 (by omega);have g2:=hat 2 (by omega);have g3:=hat 3 (by omega)
   rw [ad] at g0 g1 g2 g3
   match j,hv with
   |0,hv=>simp [ActV.cs] at hv;subst hv;exact ⟨_,g0,r0⟩
   |1,hv=>simp [ActV.cs] at hv;subst hv;exact ⟨_,g1,r1⟩
   |2,hv=>simp [ActV.cs] at hv;subst hv;exact ⟨_,g2,r2⟩
   |3,hv=>simp [ActV.cs] at hv;subst hv;exact ⟨_,g3,r3⟩
   |j+4,hv=>simp [ActV.cs] at hv)
  refine ⟨l,.inr ⟨b,o,sp,m,by rw [hq,hv],hsp,by omega,fun i v hv=>?_⟩,fun hw a ha=>?_⟩
  ·have:=enc_each (f:=ActV.cs) (k:=4) (fun _=>rfl) (R:=fun k v=>∃ u,W.cell? ⟨b,o+k,none⟩=some u∧VRel (thW W) v u) l 0 (fun i p hp j v hv=>by
    rw [Nat.zero_add];exact (hqq i p hp).1 j v hv) i v hv
   simpa using this
  ·obtain ⟨i,hi⟩:=List.mem_iff_getElem?.1 ha
   refine (hqq i a hi).2 ?_
   have hil:i<len:=by
    rw [← hq];exact (List.getElem?_eq_some_iff.1 hi).1
   simp only [Prod.mk.injEq] at hy
   rw [hy.1] at hw
   simp only [DataW.weights,Tryd.underlying65,List.all_cons,List.all_append,Bool.and_eq_true] at hw
   exact weightsAll_mem hw.2.1 _ (List.mem_map.2 ⟨i,List.mem_range.2 hil,rfl⟩)
end Go.Proofs.YtogkkamlmklpkaaDoor.Ab
