/- Arguments that came in, told by contents: a slice of errors. No condition: lemmas only. -/
import Derived.Test.YtbbikmfjnanpmaaDoorFp
import Derived.Test.YtbbikmfjnanpmaaDoorFj
set_option maxRecDepth 100000
set_option linter.unusedVariables false
set_option linter.unusedSimpArgs false
namespace Go.Proofs.YtbbikmfjnanpmaaDoor.Ab
open Go Go.RowKit Go.ChangeShapes Go.WideShapes Go.Deep Go.Joins
theorem five_of {α:Type}{l:List α}(h:l.length=5):∃ x0 x1 x2 x3 x4,l=[x0,x1,x2,x3,x4]:=by
 match l,h with
 | [x0,x1,x2,x3,x4],_=>exact ⟨_,_,_,_,_,rfl⟩
structure SlipV where
 A:Int
 N:Int
 X:BitVec 64
 Z:BitVec 64
 P:Int
def SlipV.cs (a:SlipV):List AV:=[.i .i64 a.A,.i .i64 a.N,.i .u64 (U a.X),.i .u64 (U a.Z),.i .i64 a.P]
theorem sstruct:∃ f0 f1:Field,Tryd.prog.underlying 53=some (.struct #[f0,f1])∧Tryd.prog.cellsOf 53=5∧f0.offset=0∧f1.offset=1∧Tryd.prog.cellsOf f0.type=1∧Tryd.prog.cellsOf f1.type=4∧
  Tryd.prog.underlying f0.type=some (.int .i64)∧f1.type=51:=by
 exact ⟨_,_,Tryd.underlying53,by kernel_rfl,by kernel_rfl,by kernel_rfl,by kernel_rfl,by kernel_rfl,by kernel_rfl,rfl⟩
theorem slip_cells {H:Type}{enc:TypeId×Value→H}{W:World}{n:Nat}{x0 x1 x2 x3 x4:Value}{y:DataW H×List MemPlace}(h:DataW.trod enc Tryd.prog W 0 (fun _=>true) true n 53 [x0,x1,x2,x3,x4]=some y) :
  ∃ a:SlipV,∀ θ,VRels θ a.cs [x0,x1,x2,x3,x4]:=by
 obtain ⟨f0,f1,p1,_,o0,o1,k0,k1,p2,p3⟩:=sstruct
 obtain ⟨ys,m,_,_,_,hyl,hf⟩:=DataW.trod_struct p1 h
 have h0:=hf 0 f0 rfl
 have h1:=hf 1 f1 rfl
 rw [o0,k0] at h0
 rw [o1,k1,p3] at h1
 have hys0:ys[0]? = some (ys[0]'(by rw [hyl];simp)):=List.getElem?_eq_getElem _
 have hys1:ys[1]? = some (ys[1]'(by rw [hyl];simp)):=List.getElem?_eq_getElem _
 rw [hys0] at h0
 rw [hys1] at h1
 obtain ⟨n0,e0,_,_⟩:=DataW.trod_int p2 h0
 obtain ⟨g0,g1,g2,g3,q1,q2,q3,q4,q5,q6,q7⟩:=pstruct
 obtain ⟨zs,m',_,_,_,hzl,hg⟩:=DataW.trod_struct q1 h1
 obtain ⟨r0,s0⟩:=hone_of q2 0 g0 rfl
 obtain ⟨r1,s1⟩:=hone_of q2 1 g1 rfl
 obtain ⟨r2,s2⟩:=hone_of q2 2 g2 rfl
 obtain ⟨r3,s3⟩:=hone_of q2 3 g3 rfl
 have t0:=hg 0 g0 rfl
 have t1:=hg 1 g1 rfl
 have t2:=hg 2 g2 rfl
 have t3:=hg 3 g3 rfl
 rw [r0,s0,List.getElem?_eq_getElem (by rw [hzl];simp)] at t0
 rw [r1,s1,List.getElem?_eq_getElem (by rw [hzl];simp)] at t1
 rw [r2,s2,List.getElem?_eq_getElem (by rw [hzl];simp)] at t2
 rw [r3,s3,List.getElem?_eq_getElem (by rw [hzl];simp)] at t3
 obtain ⟨n1,e1,_,_⟩:=DataW.trod_int q4 t0
 obtain ⟨n2,e2,_,w2⟩:=DataW.trod_int q5 t1
 obtain ⟨n3,e3,_,w3⟩:=DataW.trod_int q6 t2
 obtain ⟨n4,e4,_,_⟩:=DataW.trod_int q7 t3
 simp at e0 e1 e2 e3 e4
 subst e0 e1 e2 e3 e4
 obtain ⟨x,rfl⟩:=u64_of w2
 obtain ⟨z,rfl⟩:=u64_of w3
 exact ⟨⟨n0,n1,x,z,n4⟩,fun θ=>vr_cons (vr_int _ _ _) (vr_cons (vr_int _ _ _) (vr_cons (vr_int _ _ _) (vr_cons (vr_int _ _ _) (vr_cons (vr_int _ _ _) (vr_nil _)))))⟩
def SlSlipIn (W:World)(c:Value)(l:List SlipV):Prop:=SlC W c l.length (enc SlipV.cs l)
theorem nors_slips (l:List SlipV):AV.nors (enc SlipV.cs l)=true:=enc_nors (fun _=>rfl) l
theorem sl_vsS {W:World}{c:Value}{l:List SlipV}(h:SlSlipIn W c l):VRel (thW W) (.vs l.length .unk (enc SlipV.cs l)) c:=h.vr (nors_slips l)
theorem slips_cell {H:Type}{enc:TypeId×Value→H}{W:World}{n:Nat}{cs:List Value}{y:DataW H×List MemPlace}(h:DataW.trod enc Tryd.prog W 0 (fun _=>true) true n 25 cs=some y) :
  ∃ c l,cs=[c]∧SlSlipIn W c l∧((DataW.weights Tryd.prog 25 y.1).all (·≤reachBytes)=true→l.length*40≤140737488355328):=by
 have hC:Tryd.prog.cellsOf 53=5:=by kernel_rfl
 rcases open_slice Tryd.underlying25 h with ⟨hc,_⟩|⟨a,len,cap,m,k,D,Pc,hc,_,hl,_,hm,hy,hi⟩
 ·exact ⟨_,[],hc,.inl ⟨rfl,rfl,rfl⟩,fun _=>by simp⟩
 ·obtain ⟨b,o,sp⟩:=a
  have hm':m=cap:=by simpa using hm
  subst hm'
  rw [hC] at hi
  have hsp:0<m→sp=none:=fun hp=>by
   obtain ⟨cs',hc',_⟩:=hi 0 hp
   obtain ⟨_,hcl,hat⟩:=World.cells?_some hc'
   have h0:=hat 0 (by omega)
   have hv:cs'[0]? = some (cs'[0]'(by omega)):=List.getElem?_eq_getElem (by omega)
   rw [hv] at h0
   exact World.cell?_spot h0
  obtain ⟨l,hq,hqq⟩:=list_of' (Q:=fun i (p:SlipV)=>∀ j v,p.cs[j]? = some v→∃ u,W.cell? ⟨b,o+(i*5+j),none⟩=some u∧VRel (thW W) v u) len (fun i hil=>by
   have hn:=hsp (by omega)
   subst hn
   obtain ⟨cs',hc',ht⟩:=hi i (by omega)
   obtain ⟨_,hcl,hat⟩:=World.cells?_some hc'
   obtain ⟨x0,x1,x2,x3,x4,rfl⟩:=five_of hcl
   obtain ⟨a,hr⟩:=slip_cells ht
   refine ⟨a,fun j v hv=>?_⟩
   have ad:∀ j,((⟨b,o,none⟩:Addr).add (i*5)).add j=⟨b,o+(i*5+j),none⟩:=fun j=>by rw [add_off,add_off,Nat.add_assoc]
   have hr:=hr (thW W)
   simp only [SlipV.cs,VRels] at hr
   obtain ⟨_,_,z0,r0,_,_,z1,r1,_,_,z2,r2,_,_,z3,r3,_,_,z4,r4,_⟩:=hr
   cases z0;cases z1;cases z2;cases z3;cases z4
   have g0:=hat 0 (by omega);have g1:=hat 1 (by omega);have g2:=hat 2 (by omega);have g3:=hat 3 (by omega);have g4:=hat 4 (by omega)
   rw [ad] at g0 g1 g2 g3 g4
   match j,hv with
   |0,hv=>simp [SlipV.cs] at hv;subst hv;exact ⟨_,g0,r0⟩
   |1,hv=>simp [SlipV.cs] at hv;subst hv;exact ⟨_,g1,r1⟩
   |2,hv=>simp [SlipV.cs] at hv;subst hv;exact ⟨_,g2,r2⟩
   |3,hv=>simp [SlipV.cs] at hv;subst hv;exact ⟨_,g3,r3⟩
   |4,hv=>simp [SlipV.cs] at hv;subst hv;exact ⟨_,g4,r4⟩
   |j+5,hv=>simp [SlipV.cs] at hv)
  refine ⟨_,l,hc,.inr ⟨b,o,sp,m,by rw [hq],hsp,by omega,fun i v hv=>?_⟩,fun hw=>?_⟩
  ·have:=enc_each (f:=SlipV.cs) (k:=5) (fun _=>rfl) (R:=fun k v=>∃ u,W.cell? ⟨b,o+k,none⟩=some u∧VRel (thW W) v u) l 0 (fun i p hp j v hv=>by
    rw [Nat.zero_add];exact hqq i p hp j v hv) i v hv
   simpa using this
  ·have hb:Tryd.prog.bytesOf 53=40:=by kernel_rfl
   rw [hy] at hw
   simp only [DataW.weights,Tryd.underlying25,List.all_cons,List.all_append,Bool.and_eq_true,decide_eq_true_eq,List.length_map,List.length_range,hb] at hw
   have h1:=hw.1
   have hr:reachBytes=140737488351232:=rfl
   rw [hr] at h1
   rw [hq]
   have h2:len*40≤(len+(m-len))*40:=Nat.mul_le_mul_right _ (Nat.le_add_right _ _)
   omega
theorem slips_read {H:Type}{enc:TypeId×Value→H}{W:World}{base:Nat}{v:Value}{d:DataW H}{p:List MemPlace}(hval:Value.okWide Tryd.prog W .any base 25 v)(h:DataW.Trod enc Tryd.prog W 0 (fun _=>true) true 25 v d p) :
  ∃ q,SlSlipIn W v q∧((DataW.weights Tryd.prog 25 d).all (·≤reachBytes)=true→q.length*40≤140737488355328):=by
 obtain ⟨fuel,hf⟩:=h
 obtain ⟨c,q,e,h1,h2⟩:=slips_cell hf
 have hv:v=c:=by
  cases v<;>simp [Value.cells] at e<;>first|exact e|skip
  rename_i cs
  simp [Value.okWide,Cell.okWide,Cell.ok,Tryd.underlying25] at hval
 subst hv
 exact ⟨q,h1,h2⟩
end Go.Proofs.YtbbikmfjnanpmaaDoor.Ab
