/- Arguments that came in, told by contents: a slice of operations, a circuit. No condition: lemmas only. -/
import Derived.Test.YtbbikmfjnanpmaaDoorFi
set_option maxRecDepth 100000
set_option linter.unusedVariables false
set_option linter.unusedSimpArgs false
namespace Go.Proofs.YtbbikmfjnanpmaaDoor.Ab
open Go Go.RowKit Go.ChangeShapes Go.WideShapes Go.Deep Go.Joins
theorem six_of {α:Type}{l:List α}(h:l.length=6):∃ x0 x1 x2 x3 x4 x5,l=[x0,x1,x2,x3,x4,x5]:=by
 match l,h with
 | [x0,x1,x2,x3,x4,x5],_=>exact ⟨_,_,_,_,_,_,rfl⟩
theorem trod_struct6 {H:Type}{P:Program}{enc:TypeId×Value→H}{w:World}{base:Nat}{spare:Nat→Bool}{held:Bool}{t:TypeId}{f0 f1 f2 f3 f4 f5:Field}{fuel:Nat}{cs:List Value}{x:DataW H×List MemPlace}(ht:P.underlying t=some (.struct #[f0,f1,f2,f3,f4,f5]))(h:DataW.trod enc P w base spare held fuel t cs=some x) :
  ∃ y0 y1 y2 y3 y4 y5 n,x=(.agg [y0.1,y1.1,y2.1,y3.1,y4.1,y5.1],y0.2++(y1.2++(y2.2++(y3.2++(y4.2++y5.2)))))∧cs.length=P.cellsOf t∧DataW.trod enc P w base spare held n f0.type ((cs.drop f0.offset).take (P.cellsOf f0.type))=some y0∧
   DataW.trod enc P w base spare held n f1.type ((cs.drop f1.offset).take (P.cellsOf f1.type))=some y1∧DataW.trod enc P w base spare held n f2.type ((cs.drop f2.offset).take (P.cellsOf f2.type))=some y2∧
   DataW.trod enc P w base spare held n f3.type ((cs.drop f3.offset).take (P.cellsOf f3.type))=some y3∧DataW.trod enc P w base spare held n f4.type ((cs.drop f4.offset).take (P.cellsOf f4.type))=some y4∧DataW.trod enc P w base spare held n f5.type ((cs.drop f5.offset).take (P.cellsOf f5.type))=some y5:=by
 obtain ⟨xs,n,_,rfl,hl,hlen,hf⟩:=DataW.trod_struct ht h
 match xs,hlen with
 | [y0,y1,y2,y3,y4,y5],_=>exact ⟨y0,y1,y2,y3,y4,y5,n,by simp,hl,by simpa using hf 0 f0 rfl,by simpa using hf 1 f1 rfl,by simpa using hf 2 f2 rfl,by simpa using hf 3 f3 rfl,by simpa using hf 4 f4 rfl,by simpa using hf 5 f5 rfl⟩
structure OpV where
 K:Int
 G:Int
 Q:List Int
 B:Int
 I:Int
 W:Int
def OpV.cs (a:OpV):List AV:=[.i .i64 a.K,.i .i64 a.G,.vs a.Q.length .unk (enc cI a.Q),.i .i64 a.B,.i .i64 a.I,.i .i64 a.W]
theorem OpV.nor (a:OpV):AV.nors a.cs=true:=by simp only [OpV.cs,AV.nors,AV.nor,Bool.and_self,nors_cI]
theorem ostruct:∃ f0 f1 f2 f3 f4 f5:Field,Tryd.prog.underlying 40=some (.struct #[f0,f1,f2,f3,f4,f5])∧oneCellFields Tryd.prog #[f0,f1,f2,f3,f4,f5]=true∧Tryd.prog.cellsOf 40=6∧
  Tryd.prog.underlying f0.type=some (.int .i64)∧Tryd.prog.underlying f1.type=some (.int .i64)∧f2.type=38∧Tryd.prog.underlying f3.type=some (.int .i64)∧Tryd.prog.underlying f4.type=some (.int .i64)∧Tryd.prog.underlying f5.type=some (.int .i64):=by
 exact ⟨_,_,_,_,_,_,Tryd.underlying40,by kernel_rfl,by kernel_rfl,by kernel_rfl,by kernel_rfl,rfl,by kernel_rfl,by kernel_rfl,by kernel_rfl⟩
theorem op_cells {H:Type}{enc:TypeId×Value→H}{W:World}{n:Nat}{cs:List Value}{y:DataW H×List MemPlace}(h:DataW.trod enc Tryd.prog W 0 (fun _=>true) true n 40 cs=some y) :
  ∃ (a:OpV) (v0 v1 v2 v3 v4 v5:Value),(cs.drop 0).take 1=[v0]∧(cs.drop 1).take 1=[v1]∧(cs.drop 2).take 1=[v2]∧(cs.drop 3).take 1=[v3]∧(cs.drop 4).take 1=[v4]∧(cs.drop 5).take 1=[v5]∧VRels (thW W) a.cs [v0,v1,v2,v3,v4,v5]∧((DataW.weights Tryd.prog 40 y.1).all (·≤reachBytes)=true→a.Q.length*8≤140737488355328):=by
 obtain ⟨f0,f1,f2,f3,f4,f5,p1,p2,p3,p4,p5,p6,p7,p8,p9⟩:=ostruct
 obtain ⟨y0,y1,y2,y3,y4,y5,k,hx,_,h0,h1,h2,h3,h4,h5⟩:=trod_struct6 p1 h
 obtain ⟨o0,k0⟩:=hone_of p2 0 f0 rfl
 obtain ⟨o1,k1⟩:=hone_of p2 1 f1 rfl
 obtain ⟨o2,k2⟩:=hone_of p2 2 f2 rfl
 obtain ⟨o3,k3⟩:=hone_of p2 3 f3 rfl
 obtain ⟨o4,k4⟩:=hone_of p2 4 f4 rfl
 obtain ⟨o5,k5⟩:=hone_of p2 5 f5 rfl
 rw [o0,k0] at h0
 rw [o1,k1] at h1
 rw [o2,k2,p6] at h2
 rw [o3,k3] at h3
 rw [o4,k4] at h4
 rw [o5,k5] at h5
 obtain ⟨n0,e0,_,_⟩:=DataW.trod_int p4 h0
 obtain ⟨n1,e1,_,_⟩:=DataW.trod_int p5 h1
 obtain ⟨c2,q,e2,g2,w2⟩:=ints_cell h2
 obtain ⟨n3,e3,_,_⟩:=DataW.trod_int p7 h3
 obtain ⟨n4,e4,_,_⟩:=DataW.trod_int p8 h4
 obtain ⟨n5,e5,_,_⟩:=DataW.trod_int p9 h5
 refine ⟨⟨n0,n1,q,n3,n4,n5⟩,_,_,_,_,_,_,e0,e1,e2,e3,e4,e5,vr_cons (vr_int _ _ _) (vr_cons (vr_int _ _ _) (vr_cons (sl_vsI g2) (vr_cons (vr_int _ _ _) (vr_cons (vr_int _ _ _) (vr_cons (vr_int _ _ _) (vr_nil _)))))),fun hw=>?_⟩
 subst hx
 simp only [DataW.weights,p1,List.map_cons,List.map_nil,DataW.weightsEach,p6,List.all_append,Bool.and_eq_true] at hw
 exact w2 hw.2.2.1
def SlOpIn (W:World)(c:Value)(l:List OpV):Prop:=SlC W c l.length (enc OpV.cs l)
theorem sl_vsO {W:World}{c:Value}{l:List OpV}(h:SlOpIn W c l):VRel (thW W) (.vs l.length .unk (enc OpV.cs l)) c:=h.vr (enc_nors OpV.nor l)
theorem ops_cell {H:Type}{enc:TypeId×Value→H}{W:World}{n:Nat}{cs:List Value}{y:DataW H×List MemPlace}(h:DataW.trod enc Tryd.prog W 0 (fun _=>true) true n 22 cs=some y) :
  ∃ c l,cs=[c]∧SlOpIn W c l∧((DataW.weights Tryd.prog 22 y.1).all (·≤reachBytes)=true→l.length*64≤140737488355328∧∀ a,a∈l→a.Q.length*8≤140737488355328):=by
 have hC:Tryd.prog.cellsOf 40=6:=by kernel_rfl
 rcases open_slice Tryd.underlying22 h with ⟨hc,_⟩|⟨a,len,cap,m,k,D,Pc,hc,_,hl,_,hm,hy,hi⟩
 ·exact ⟨_,[],hc,.inl ⟨rfl,rfl,rfl⟩,fun _=>⟨by simp,fun a ha=>by cases ha⟩⟩
 ·obtain ⟨b,o,sp⟩:=a
  have hm':m=cap:=by simpa using hm
  subst hm'
  rw [hC] at hi
  have hsp:0<m→sp=none:=fun hp=>by
   obtain ⟨cs',hc',_⟩:=hi 0 hp
   obtain ⟨_,hcl,hat⟩:=World.cells?_some hc'
   have h0:=hat 0 (by omega)
   have hv:cs'[0]? = some (cs'[0]'(by omega)):=List.getElem?_eq_getElem (by omega)
   rw [hv] at h0
   exact World.cell?_spot h0
  obtain ⟨l,hq,hqq⟩:=list_of' (Q:=fun i (p:OpV)=>(∀ j v,p.cs[j]? = some v→∃ u,W.cell? ⟨b,o+(i*6+j),none⟩=some u∧VRel (thW W) v u)∧((DataW.weights Tryd.prog 40 (D i)).all (·≤reachBytes)=true→p.Q.length*8≤140737488355328)) len (fun i hil=>by
   have hn:=hsp (by omega)
   subst hn
   obtain ⟨cs',hc',ht⟩:=hi i (by omega)
   obtain ⟨_,hcl,hat⟩:=World.cells?_some hc'
   obtain ⟨x0,x1,x2,x3,x4,x5,rfl⟩:=six_of hcl
   obtain ⟨a,v0,v1,v2,v3,v4,v5,e0,e1,e2,e3,e4,e5,hr,hw⟩:=op_cells ht
   simp at e0 e1 e2 e3 e4 e5
   subst e0 e1 e2 e3 e4 e5
   refine ⟨a,fun j v hv=>?_,hw⟩
   have ad:∀ j,((⟨b,o,none⟩:Addr).add (i*6)).add j=⟨b,o+(i*6+j),none⟩:=fun j=>by rw [add_off,add_off,Nat.add_assoc]
   simp only [OpV.cs,VRels] at hr
   obtain ⟨_,_,z0,r0,_,_,z1,r1,_,_,z2,r2,_,_,z3,r3,_,_,z4,r4,_,_,z5,r5,_⟩:=hr
   cases z0;cases z1;cases z2;cases z3;cases z4;cases z5
   have g0:=hat 0 (by omega);have g1:=hat 1 (by omega);have g2:=hat 2 (by omega);have g3:=hat 3 (by omega);have g4:=hat 4 (by omega);have g5:=hat 5 (by omega)
   rw [ad] at g0 g1 g2 g3 g4 g5
   match j,hv with
   |0,hv=>simp [OpV.cs] at hv;subst hv;exact ⟨_,g0,r0⟩
   |1,hv=>simp [OpV.cs] at hv;subst hv;exact ⟨_,g1,r1⟩
   |2,hv=>simp [OpV.cs] at hv;subst hv;exact ⟨_,g2,r2⟩
   |3,hv=>simp [OpV.cs] at hv;subst hv;exact ⟨_,g3,r3⟩
   |4,hv=>simp [OpV.cs] at hv;subst hv;exact ⟨_,g4,r4⟩
   |5,hv=>simp [OpV.cs] at hv;subst hv;exact ⟨_,g5,r5⟩
   |j+6,hv=>simp [OpV.cs] at hv)
  refine ⟨_,l,hc,.inr ⟨b,o,sp,m,by rw [hq],hsp,by omega,fun i v hv=>?_⟩,fun hw=>?_⟩
  ·have:=enc_each (f:=OpV.cs) (k:=6) (fun _=>rfl) (R:=fun k v=>∃ u,W.cell? ⟨b,o+k,none⟩=some u∧VRel (thW W) v u) l 0 (fun i p hp j v hv=>by
    rw [Nat.zero_add];exact (hqq i p hp).1 j v hv) i v hv
   simpa using this
  ·have hb:Tryd.prog.bytesOf 40=64:=by kernel_rfl
   rw [hy] at hw
   simp only [DataW.weights,Tryd.underlying22,List.all_cons,List.all_append,Bool.and_eq_true,decide_eq_true_eq,List.length_map,List.length_range,hb] at hw
   constructor
   ·have h1:=hw.1
    have hr:reachBytes=140737488351232:=rfl
    rw [hr] at h1
    rw [hq]
    have h2:len*64≤(len+(m-len))*64:=Nat.mul_le_mul_right _ (Nat.le_add_right _ _)
    omega
   ·intro a ha
    obtain ⟨i,hi⟩:=List.mem_iff_getElem?.1 ha
    refine (hqq i a hi).2 ?_
    have hil:i<len:=by
     rw [← hq];exact (List.getElem?_eq_some_iff.1 hi).1
    exact weightsAll_mem hw.2.1 _ (List.mem_map.2 ⟨i,List.mem_range.2 hil,rfl⟩)
theorem cstruct:∃ f0 f1 f2:Field,Tryd.prog.underlying 24=some (.struct #[f0,f1,f2])∧oneCellFields Tryd.prog #[f0,f1,f2]=true∧Tryd.prog.cellsOf 24=3∧
  Tryd.prog.underlying f0.type=some (.int .i64)∧Tryd.prog.underlying f1.type=some (.int .i64)∧f2.type=22:=by
 exact ⟨_,_,_,Tryd.underlying24,by kernel_rfl,by kernel_rfl,by kernel_rfl,by kernel_rfl,rfl⟩
theorem circ_read {H:Type}{enc:TypeId×Value→H}{W:World}{base:Nat}{v:Value}{d:DataW H}{p:List MemPlace}(hval:Value.okWide Tryd.prog W .any base 24 v)(h:DataW.Trod enc Tryd.prog W 0 (fun _=>true) true 24 v d p) :
  ∃ (n b:Int) (c:Value) (l:List OpV),v=.agg #[.int .i64 n,.int .i64 b,c]∧SlOpIn W c l∧((DataW.weights Tryd.prog 24 d).all (·≤reachBytes)=true→l.length*64≤140737488355328∧∀ a,a∈l→a.Q.length*8≤140737488355328):=by
 obtain ⟨f0,f1,f2,p1,p2,p3,p4,p5,p6⟩:=cstruct
 obtain ⟨cs,rfl,hsz⟩:=okWide_struct p1 hval
 obtain ⟨c0,c1,c2,rfl⟩:=array3 (hsz.trans p3)
 obtain ⟨fuel,hf⟩:=h
 obtain ⟨y0,y1,y2,k,hx,_,h0,h1,h2⟩:=trod_struct3 p1 hf
 obtain ⟨o0,k0⟩:=hone_of p2 0 f0 rfl
 obtain ⟨o1,k1⟩:=hone_of p2 1 f1 rfl
 obtain ⟨o2,k2⟩:=hone_of p2 2 f2 rfl
 rw [o0,k0] at h0
 rw [o1,k1] at h1
 rw [o2,k2,p6] at h2
 obtain ⟨n0,e0,_,_⟩:=DataW.trod_int p4 h0
 obtain ⟨n1,e1,_,_⟩:=DataW.trod_int p5 h1
 obtain ⟨c,l,e2,g2,w2⟩:=ops_cell h2
 simp [Value.cells] at e0 e1 e2
 subst e0 e1 e2
 refine ⟨n0,n1,_,l,rfl,g2,fun hw=>?_⟩
 simp only [Prod.mk.injEq] at hx
 rw [hx.1] at hw
 simp only [DataW.weights,p1,List.map_cons,List.map_nil,DataW.weightsEach,p6,List.all_append,Bool.and_eq_true] at hw
 exact w2 hw.2.2.1
end Go.Proofs.YtbbikmfjnanpmaaDoor.Ab
