/- Arguments that came in, told by contents: a string. No condition: lemmas only. -/
import Derived.Test.YtbbikmfjnanpmaaDoorFg
set_option maxRecDepth 100000
set_option linter.unusedVariables false
set_option linter.unusedSimpArgs false
namespace Go.Proofs.YtbbikmfjnanpmaaDoor.Ab
open Go Go.RowKit Go.ChangeShapes Go.WideShapes Go.Deep Go.Joins
theorem pstruct:∃ f0 f1 f2 f3:Field,Tryd.prog.underlying 51=some (.struct #[f0,f1,f2,f3])∧oneCellFields Tryd.prog #[f0,f1,f2,f3]=true∧Tryd.prog.cellsOf 51=4∧
  Tryd.prog.underlying f0.type=some (.int .i64)∧Tryd.prog.underlying f1.type=some (.int .u64)∧Tryd.prog.underlying f2.type=some (.int .u64)∧Tryd.prog.underlying f3.type=some (.int .i64):=by
 exact ⟨_,_,_,_,Tryd.underlying51,by kernel_rfl,by kernel_rfl,by kernel_rfl,by kernel_rfl,by kernel_rfl,by kernel_rfl⟩
theorem pl_read {H:Type}{enc:TypeId×Value→H}{W:World}{base:Nat}{v:Value}{d:DataW H}{p:List MemPlace}(hval:Value.okWide Tryd.prog W .any base 51 v)(h:DataW.Trod enc Tryd.prog W 0 (fun _=>true) true 51 v d p) :
  ∃ z:Pl,∀ θ,VRel θ (.agg z.cells) v:=by
 obtain ⟨f0,f1,f2,f3,p1,p2,p3,p4,p5,p6,p7⟩:=pstruct
 obtain ⟨v0,v1,v2,v3,y0,y1,y2,y3,n,rfl,rfl,rfl,t0,t1,t2,t3⟩:=open_agg4 p1 p2 p3 hval h
 obtain ⟨n0,e0,_,_⟩:=DataW.trod_int p4 t0
 obtain ⟨n1,e1,_,w1⟩:=DataW.trod_int p5 t1
 obtain ⟨n2,e2,_,w2⟩:=DataW.trod_int p6 t2
 obtain ⟨n3,e3,_,_⟩:=DataW.trod_int p7 t3
 simp only [List.cons.injEq,and_true] at e0 e1 e2 e3
 subst e0 e1 e2 e3
 obtain ⟨x,rfl⟩:=u64_of w1
 obtain ⟨z,rfl⟩:=u64_of w2
 exact ⟨⟨n0,x,z,n3⟩,fun θ=>vr_agg (vr_cons (vr_int θ _ _) (vr_cons (vr_int θ _ _) (vr_cons (vr_int θ _ _) (vr_cons (vr_int θ _ _) (vr_nil θ)))))⟩
end Go.Proofs.YtbbikmfjnanpmaaDoor.Ab
