/- Arguments that came in, told by contents: a slice of strings, a tableau. No condition: lemmas only. -/
import Derived.Test.YtchgkmdonhdfeaaGreatDoorFr
import Derived.Lib.SmallJoins
import Derived.Deep.Slices
import Derived.Deep.Fields
set_option maxRecDepth 100000
set_option linter.unusedVariables false
set_option linter.unusedSimpArgs false
namespace Go.Proofs.YtchgkmdonhdfeaaGreatDoor.Ab
open Go Go.RowKit Go.ChangeShapes Go.WideShapes Go.Deep Go.Joins
theorem cells_all {R:Nat→AV→Prop}:∀ (l:List Pl) (k0:Nat),(∀ i p,l[i]? = some p→∀ j v,p.cells[j]? = some v→R (k0+(i*4+j)) v)→∀ k v,(enc Pl.cells l)[k]? = some v→R (k0+k) v
 | [],_,_,k,v,h=>by simp [enc] at h
 |p::l,k0,H,k,v,h=>by
  have e:enc Pl.cells (p::l)=p.cells++enc Pl.cells l:=rfl
  rw [e] at h
  have l4:p.cells.length=4:=rfl
  by_cases hk:k<4
  ·rw [List.getElem?_append_left (by omega)] at h
   have:=H 0 p rfl k v h
   simpa using this
  ·rw [List.getElem?_append_right (by omega),l4] at h
   have:=cells_all l (k0+4) (fun i q hi j w hw=>by
    have:=H (i+1) q (by simpa using hi) j w hw
    rwa [show k0+((i+1)*4+j)=k0+4+(i*4+j) by omega] at this) (k-4) v h
   rwa [show k0+4+(k-4)=k0+k by omega] at this
theorem list_of {Q:Nat→Pl→Prop}:∀ n,(∀ i,i<n→∃ p,Q i p)→∃ l:List Pl,l.length=n∧∀ i p,l[i]? = some p→Q i p
 |0,_=>⟨[],rfl,fun i p h=>by simp at h⟩
 |n+1,h=>by
  obtain ⟨l,h1,h2⟩:=list_of n (fun i hi=>h i (by omega))
  obtain ⟨p,hp⟩:=h n (by omega)
  refine ⟨l++[p],by simp [h1],fun i q hq=>?_⟩
  by_cases hi:i<n
  ·rw [List.getElem?_append_left (by omega)] at hq;exact h2 i q hq
  ·rw [List.getElem?_append_right (by omega)] at hq
   have:i-l.length=0:=by
    rcases Nat.eq_zero_or_pos (i-l.length) with e|e
    ·exact e
    ·rw [List.getElem?_eq_none (by simp;omega)] at hq;cases hq
   rw [this] at hq
   simp at hq
   subst hq
   rwa [show i=n by omega]
theorem u64_of {n:Int}(h:(Lit.int .u64 n).wf=true):∃ x:BitVec 64,n=U x:=by
 have:0≤n∧n≤18446744073709551615:=by
  simp [Lit.wf,IntKind.min,IntKind.max,IntKind.signed,IntKind.bits] at h
  exact h
 refine ⟨BitVec.ofNat 64 n.toNat,?_⟩
 unfold U
 rw [BitVec.toNat_ofNat,Nat.mod_eq_of_lt (by omega)]
 omega
theorem pstruct:∃ f0 f1 f2 f3:Field,Tryz.prog.underlying 71=some (.struct #[f0,f1,f2,f3])∧oneCellFields Tryz.prog #[f0,f1,f2,f3]=true∧Tryz.prog.cellsOf 71=4∧
  Tryz.prog.underlying f0.type=some (.int .i64)∧Tryz.prog.underlying f1.type=some (.int .u64)∧Tryz.prog.underlying f2.type=some (.int .u64)∧Tryz.prog.underlying f3.type=some (.int .i64):=by
 exact ⟨_,_,_,_,Tryz.underlying71,by kernel_rfl,by kernel_rfl,by kernel_rfl,by kernel_rfl,by kernel_rfl,by kernel_rfl⟩
theorem open_slice_fields {H:Type}{enc:TypeId×Value→H}{P:Program}{w:World}{base:Nat}{spare:Nat→Bool}{held:Bool}{t e:TypeId}{fs:Array Field}{fuel:Nat}{cs:List Value}{x:DataW H×List MemPlace}(ht:P.underlying t=some (.slice e))(he:P.underlying e=some (.struct fs))
  (hone:oneCellFields P fs=true) (hC:P.cellsOf e=fs.size) (h:DataW.trod enc P w base spare held fuel t cs=some x) :
  cs=[.slice none 0 0]∨
  ∃ (a:Addr) (len cap m:Nat),cs=[.slice (some a) len cap]∧len≤cap∧m=(if spare a.block then cap else len)∧
   ∀ i,i<m→∃ (ys:List (DataW H×List MemPlace)) (n:Nat),ys.length=fs.size∧
    ∀ (j:Nat) (f:Field),fs[j]? = some f→∃ (v:Value) (y:DataW H×List MemPlace),w.cell? (a.add (i*fs.size+j))=some v∧ys[j]? = some y∧DataW.trod enc P w base spare held n f.type [v]=some y:=by
 rcases open_slice ht h with h0|⟨a,len,cap,m,n,D,Pl,hcs,hb,hl,hm,hmm,hx,hi⟩
 ·exact .inl h0.1
 ·refine .inr ⟨a,len,cap,m,hcs,hl,hmm,fun i him=>?_⟩
  obtain ⟨cs',hc,ht'⟩:=hi i him
  rw [hC] at hc
  obtain ⟨ys,n',hn',hy,hlen,hyl,hf⟩:=DataW.trod_struct he ht'
  obtain ⟨_,hcl,hat⟩:=World.cells?_some hc
  refine ⟨ys,n',hyl,fun j f hj=>?_⟩
  obtain ⟨ho,hk⟩:=hone_of hone j f hj
  have hjl:j<fs.size:=(Array.getElem?_eq_some_iff.1 hj).1
  have hcell:=hat j hjl
  have hv:cs'[j]? = some (cs'[j]'(by omega)):=List.getElem?_eq_getElem (by omega)
  have h1:=hf j f hj
  rw [ho,hk] at h1
  have hone':(cs'.drop j).take 1=[cs'[j]'(by omega)]:=by
   rw [List.drop_eq_getElem_cons (by omega)]
   rfl
  rw [hone'] at h1
  have hys:ys[j]? = some (ys[j]'(by omega)):=List.getElem?_eq_getElem (by omega)
  refine ⟨_,_,?_,hys,h1.trans hys⟩
  rw [← Go.Deep.add_add,hcell,hv]
def SlIn (W:World)(c:Value)(l:List Pl):Prop:=
 (c=.slice none 0 0∧l=[])∨∃ b o cap,c=.slice (some ⟨b,o,none⟩) l.length cap∧l.length≤cap∧b<W.heap.size∧∀ i v,(enc Pl.cells l)[i]? = some v→∃ u,W.cell? ⟨b,o+i,none⟩=some u∧∀ θ,VRel θ v u
theorem sl_read {H:Type}{enc:TypeId×Value→H}{W:World}{base n:Nat}{c:Value}{y:DataW H×List MemPlace}(hok:Cell.okWide Tryz.prog W .any base 22 c)(h:DataW.trod enc Tryz.prog W 0 (fun _=>true) true n 22 [c]=some y):∃ l,SlIn W c l:=by
 obtain ⟨f0,f1,f2,f3,p1,p2,p3,p4,p5,p6,p7⟩:=pstruct
 rcases open_slice_fields Tryz.underlying22 p1 p2 p3 h with h0|⟨a,len,cap,m,hc,hl,hm,hi⟩
 ·simp only [List.cons.injEq,and_true] at h0
  exact ⟨[],.inl ⟨h0,rfl⟩⟩
 ·simp only [List.cons.injEq,and_true] at hc
  subst hc
  simp only [Cell.okWide,Cell.ok,Tryz.underlying22] at hok
  obtain ⟨_,_,_,hs,row,cells,hsh,_⟩:=hok
  obtain ⟨b,o,sp⟩:=a
  simp only at hs hsh
  subst hs
  have hb:b<W.heap.size:=by
   cases hh:W.heap[b]? with
   |none=>simp [World.shape?,hh] at hsh
   |some x=>exact (Array.getElem?_eq_some_iff.1 hh).1
  have hm':m=cap:=by simpa using hm
  subst hm'
  obtain ⟨l,hll,hq⟩:=list_of (Q:=fun i p=>∀ j v,p.cells[j]? = some v→∃ u,W.cell? ⟨b,o+(i*4+j),none⟩=some u∧∀ θ,VRel θ v u) len (fun i hil=>by
   obtain ⟨ys,n',hyl,hf⟩:=hi i (by omega)
   obtain ⟨v0,y0,c0,_,t0⟩:=hf 0 f0 rfl
   obtain ⟨v1,y1,c1,_,t1⟩:=hf 1 f1 rfl
   obtain ⟨v2,y2,c2,_,t2⟩:=hf 2 f2 rfl
   obtain ⟨v3,y3,c3,_,t3⟩:=hf 3 f3 rfl
   obtain ⟨n0,e0,_,_⟩:=DataW.trod_int p4 t0
   obtain ⟨n1,e1,_,w1⟩:=DataW.trod_int p5 t1
   obtain ⟨n2,e2,_,w2⟩:=DataW.trod_int p6 t2
   obtain ⟨n3,e3,_,_⟩:=DataW.trod_int p7 t3
   simp only [List.cons.injEq,and_true] at e0 e1 e2 e3
   subst e0 e1 e2 e3
   obtain ⟨x,rfl⟩:=u64_of w1
   obtain ⟨z,rfl⟩:=u64_of w2
   have hsz:(#[f0,f1,f2,f3]:Array Field).size=4:=rfl
   rw [hsz] at c0 c1 c2 c3
   have ad:∀ k,(⟨b,o,none⟩:Addr).add k=⟨b,o+k,none⟩:=fun k=>add_off b o k
   rw [ad] at c0 c1 c2 c3
   refine ⟨⟨n0,x,z,n3⟩,fun j v hv=>?_⟩
   match j,hv with
   |0,hv=>simp [Pl.cells] at hv;subst hv;exact ⟨_,c0,fun θ=>by simp only [VRel]⟩
   |1,hv=>simp [Pl.cells] at hv;subst hv;exact ⟨_,c1,fun θ=>by simp only [VRel]⟩
   |2,hv=>simp [Pl.cells] at hv;subst hv;exact ⟨_,c2,fun θ=>by simp only [VRel]⟩
   |3,hv=>simp [Pl.cells] at hv;subst hv;exact ⟨_,c3,fun θ=>by simp only [VRel]⟩
   |j+4,hv=>simp [Pl.cells] at hv)
  refine ⟨l,.inr ⟨b,o,m,by rw [hll],by omega,hb,fun k v hk=>?_⟩⟩
  have:=cells_all (R:=fun k v=>∃ u,W.cell? ⟨b,o+k,none⟩=some u∧∀ θ,VRel θ v u) l 0 (fun i p hp j v hv=>by
   rw [Nat.zero_add];exact hq i p hp j v hv) k v hk
  rwa [Nat.zero_add] at this
theorem vals_of {θ:Th}{W:World}{b:Nat}:∀ (cs:List AV) (o:Nat),(∀ i v,cs[i]? = some v→∃ u,W.cell? ⟨b,o+i,none⟩=some u∧∀ θ,VRel θ v u)→∃ us:List Value,(∀ (i:Nat) (u:Value),us[i]? = some u→W.cell? ⟨b,o+i,none⟩=some u)∧VRels θ cs us
 | [],o,_=>⟨[],fun i u e=>by simp at e,by unfold VRels;rfl⟩
 |v::cs,o,h=>by
  obtain ⟨u,h1,h2⟩:=h 0 v rfl
  obtain ⟨us,h3,h4⟩:=vals_of (θ:=θ) cs (o+1) (fun i w hw=>by
   have:=h (i+1) w (by simpa using hw)
   rwa [show o+(i+1)=o+1+i by omega] at this)
  refine ⟨u::us,fun i w hw=>?_,by unfold VRels;exact ⟨_,_,rfl,h2 θ,h4⟩⟩
  match i,hw with
  |0,hw=>simp at hw;subst hw;exact h1
  |i+1,hw=>
   have:=h3 i w (by simpa using hw)
   rwa [show o+(i+1)=o+1+i by omega]
theorem sl_vs {W:World}{c:Value}{l:List Pl}(h:SlIn W c l):VRel (thW W) (.vs l.length .unk (enc Pl.cells l)) c:=by
 unfold VRel
 rcases h with ⟨rfl,rfl⟩|⟨b,o,cap,rfl,h1,h2,h3⟩
 ·exact .inr ⟨rfl,rfl,rfl,trivial⟩
 ·obtain ⟨us,h4,h5⟩:=vals_of (θ:=thW W) _ _ h3
  exact .inl ⟨b,o,none,cap,us,rfl,(fun _=>rfl),h1,trivial,(fun i u hu=>wcell_of (h4 i u hu) (h5.nif hu)),(enc_nors (fun _=>rfl) l),h5⟩
theorem vr_nil (θ:Th):VRels θ [] []:=by unfold VRels;rfl
theorem vr_cons {θ:Th}{a:AV}{v:Value}{xs:List AV}{vs:List Value}(h1:VRel θ a v)(h2:VRels θ xs vs):VRels θ (a::xs) (v::vs):=by
 unfold VRels
 exact ⟨_,_,rfl,h1,h2⟩
theorem vr_agg {θ:Th}{xs:List AV}{vs:Array Value}(h:VRels θ xs vs.toList):VRel θ (.agg xs) (.agg vs):=by
 unfold VRel
 exact ⟨_,rfl,h⟩
theorem vr_int (θ:Th)(k:IntKind)(n:Int):VRel θ (.i k n) (.int k n):=by unfold VRel;rfl
theorem sl_weight {H:Type}{enc:TypeId×Value→H}{W:World}{n:Nat}{c:Value}{y:DataW H×List MemPlace}{l:List Pl}(h:DataW.trod enc Tryz.prog W 0 (fun _=>true) true n 22 [c]=some y)(hl:SlIn W c l)
  (hw:(DataW.weights Tryz.prog 22 y.1).all (·≤reachBytes)=true):l.length*32≤140737488355328:=by
 rcases open_slice Tryz.underlying22 h with ⟨hc,_⟩|⟨a,len,cap,m,k,D,Pc,hc,_,_,_,_,hy,_⟩
 ·simp only [List.cons.injEq,and_true] at hc
  rcases hl with ⟨_,rfl⟩|⟨b,o,cap,e,_⟩
  ·simp
  ·rw [hc] at e;cases e
 ·simp only [List.cons.injEq,and_true] at hc
  rcases hl with ⟨e,_⟩|⟨b,o,cap',e,_⟩
  ·rw [hc] at e;cases e
  ·rw [hc] at e
   have hlen:len=l.length:=by injection e
   have hb:Tryz.prog.bytesOf 71=32:=by kernel_rfl
   rw [hy] at hw
   simp only [DataW.weights,Tryz.underlying22,List.all_cons,Bool.and_eq_true,decide_eq_true_eq,List.length_map,List.length_range,hb] at hw
   have h1:=hw.1
   have hr:reachBytes=140737488351232:=rfl
   rw [hr] at h1
   rw [← hlen]
   have h2:len*32≤(len+(m-len))*32:=Nat.mul_le_mul_right _ (Nat.le_add_right _ _)
   omega
theorem tstruct:∃ f0 f1 f2:Field,Tryz.prog.underlying 24=some (.struct #[f0,f1,f2])∧oneCellFields Tryz.prog #[f0,f1,f2]=true∧Tryz.prog.cellsOf 24=3∧f0.type=3∧f1.type=22∧f2.type=22:=
 ⟨_,_,_,Tryz.underlying24,by kernel_rfl,by kernel_rfl,rfl,rfl,rfl⟩
theorem tcells:Tryz.prog.cellTypes Tryz.prog.depth 24=some [3,22,22]:=by kernel_rfl
theorem tab_read {H:Type}{enc:TypeId×Value→H}{W:World}{base:Nat}{v:Value}{d:DataW H}{p:List MemPlace}(hval:Value.okWide Tryz.prog W .any base 24 v)(h:DataW.Trod enc Tryz.prog W 0 (fun _=>true) true 24 v d p) :
  ∃ N c1 c2 S D,v=.agg #[.int .i64 N,c1,c2]∧SlIn W c1 S∧SlIn W c2 D∧((DataW.weights Tryz.prog 24 d).all (·≤reachBytes)=true→S.length*32≤140737488355328∧D.length*32≤140737488355328):=by
 obtain ⟨f0,f1,f2,q1,q2,q3,q4,q5,q6⟩:=tstruct
 have hv:=hval
 obtain ⟨v0,v1,v2,y0,y1,y2,n,rfl,rfl,rfl,t0,t1,t2⟩:=open_agg3 q1 q2 q3 hval h
 rw [q4] at t0
 rw [q5] at t1
 rw [q6] at t2
 obtain ⟨N,e0,_,_⟩:=DataW.trod_int Tryz.underlying3 t0
 simp only [List.cons.injEq,and_true] at e0
 subst e0
 simp only [Value.okWide,q1] at hv
 obtain ⟨cs,e,_,ts,e2,_,hall⟩:=hv
 rw [tcells] at e2
 cases e2
 cases e
 obtain ⟨u1,g1,o1⟩:=hall 1 v1 rfl
 obtain ⟨u2,g2,o2⟩:=hall 2 v2 rfl
 cases g1
 cases g2
 obtain ⟨S,hS⟩:=sl_read o1 t1
 obtain ⟨D,hD⟩:=sl_read o2 t2
 refine ⟨N,v1,v2,S,D,rfl,hS,hD,fun hw=>?_⟩
 simp only [DataW.weights,q1,List.map_cons,List.map_nil,DataW.weightsEach,q4,q5,q6,List.all_append,Bool.and_eq_true] at hw
 exact ⟨sl_weight t1 hS hw.2.1,sl_weight t2 hD hw.2.2.1⟩
theorem pl_read {H:Type}{enc:TypeId×Value→H}{W:World}{base:Nat}{v:Value}{d:DataW H}{p:List MemPlace}(hval:Value.okWide Tryz.prog W .any base 71 v)(h:DataW.Trod enc Tryz.prog W 0 (fun _=>true) true 71 v d p) :
  ∃ z:Pl,∀ θ,VRel θ (.agg z.cells) v:=by
 obtain ⟨f0,f1,f2,f3,p1,p2,p3,p4,p5,p6,p7⟩:=pstruct
 obtain ⟨v0,v1,v2,v3,y0,y1,y2,y3,n,rfl,rfl,rfl,t0,t1,t2,t3⟩:=open_agg4 p1 p2 p3 hval h
 obtain ⟨n0,e0,_,_⟩:=DataW.trod_int p4 t0
 obtain ⟨n1,e1,_,w1⟩:=DataW.trod_int p5 t1
 obtain ⟨n2,e2,_,w2⟩:=DataW.trod_int p6 t2
 obtain ⟨n3,e3,_,_⟩:=DataW.trod_int p7 t3
 simp only [List.cons.injEq,and_true] at e0 e1 e2 e3
 subst e0 e1 e2 e3
 obtain ⟨x,rfl⟩:=u64_of w1
 obtain ⟨z,rfl⟩:=u64_of w2
 exact ⟨⟨n0,x,z,n3⟩,fun θ=>vr_agg (vr_cons (vr_int θ _ _) (vr_cons (vr_int θ _ _) (vr_cons (vr_int θ _ _) (vr_cons (vr_int θ _ _) (vr_nil θ)))))⟩
end Go.Proofs.YtchgkmdonhdfeaaGreatDoor.Ab
