/- The statement 'TableauBack' holds, as a tied card: whatever is handed in, the Go function phasorlaw14.TableauBack returns true and leaves memory as it was; the table math/bits.deBruijn64tab is tied to the program's text. -/
import Derived.Test.YtogkkamlmklpkaaDoorFq
import Derived.Test.YtogkkamlmklpkaaDoorFi
import Derived.Test.YtogkkamlmklpkaaDoorWF
import Derived.Test.YtogkkamlmklpkaaDoorH2
import Derived.Test.YtogkkamlmklpkaaDoorCards
import Derived.Test.YtogkkamlmklpkaaDoorTie
import Derived.SevenTiedAt
import Derived.Carry
set_option linter.unusedVariables false
set_option linter.unusedSimpArgs false
set_option maxRecDepth 100000
namespace Go.Proofs.YtogkkamlmklpkaaDoor.tableauBack
open Go Go.RowKit Go.ChangeShapes Go.WideShapes Go.Deep Go.Joins Go.Proofs.YtogkkamlmklpkaaDoor.Ab
def tabV (N:Int)(S D:List Pl):AV:=.agg [.i .i64 N,.vs S.length .unk (enc Pl.cells S),.vs D.length .unk (enc Pl.cells D)]
theorem law_eval (N0:Int)(S0 D0:List Pl)(n1:Int)(q2:List Int)(q3:List Int)(l0:S0.length*32≤140737488355328)(m0:D0.length*32≤140737488355328)(l2:q2.length*8≤140737488355328)(l3:q3.length*8≤140737488355328) :
  ∃ F E,OV F E 5 [tabV N0 S0 D0,.i .i64 n1,.vs q2.length .unk (enc cI q2),.vs q3.length .unk (enc cI q3)] G0 2 (2+1)=some (.b true,none):=by
 refine ⟨266+S0.length+D0.length+q2.length+q3.length,200+1,?_⟩
 generalize hF:266+S0.length+D0.length+q2.length+q3.length=F
 have e:=elaw14_TableauBack 200 (by omega) F N0 S0 D0 n1 q2 q3 true
 rw [law_tableauBack F (by omega) N0 S0 D0 n1 q2 q3 l0 m0 l2 l3 (by omega)] at e
 have h1:AV.nors [tabV N0 S0 D0,.i .i64 n1,.vs q2.length .unk (enc cI q2),.vs q3.length .unk (enc cI q3)]=true:=by simp only [encnors_Pl_cells,nors_cI,tabV,AV.nors,AV.nor,Bool.and_self]
 have h2:frzs (frz true 0 [] 8) [tabV N0 S0 D0,.i .i64 n1,.vs q2.length .unk (enc cI q2),.vs q3.length .unk (enc cI q3)]=some [tabV N0 S0 D0,.i .i64 n1,.vs q2.length .unk (enc cI q2),.vs q3.length .unk (enc cI q3)]:=by simp only [tabV,frzs,frz,cond_true]
 have h3:hglb G0 2=G0:=rfl
 rw [vlaw14_TableauBack,h1,cond_true,h2,h3]
 exact e
theorem walk (N0:Int)(S0 D0:List Pl)(n1:Int)(q2:List Int)(q3:List Int)(c0 e0:Value)(c2:Value)(c3:Value)(W:World)(hL:laidMetH Tryd.prog theLaid W)(h0:SlIn W c0 S0)(k0:SlIn W e0 D0)(h2:SlIntIn W c2 q2)(h3:SlIntIn W c3 q3)(l0:S0.length*32≤140737488355328)(m0:D0.length*32≤140737488355328)(l2:q2.length*8≤140737488355328)(l3:q3.length*8≤140737488355328) :
  Calls Tryd.prog 5 #[.agg #[.int .i64 N0,c0,e0],.int .i64 n1,c2,c3] W fun e W'=>e=.returned (.bool true)∧Chg (fun _=>False) W W':=by
 obtain ⟨F,E,hev⟩:=law_eval N0 S0 D0 n1 q2 q3 l0 m0 l2 l3
 exact calls_law hL hev (vr_cons (vr_agg (vr_cons (vr_int _ _ N0) (vr_cons (sl_vs h0) (vr_cons (sl_vs k0) (vr_nil _))))) (vr_cons (vr_int _ _ n1) (vr_cons (sl_vsI h2) (vr_cons (sl_vsI h3) (vr_nil _)))))
theorem lifted (os:Os)(started:os.Started)(H:Type)(enc:TypeId×Value→H) :
  ReturnsInHanded {} Tryd.checked os 5 .any (fun w args=>(Rows.tableauBackSpec.pre enc Tryd.prog Tryd.f5 [] false w args∧laidMetH Tryd.prog theLaid w)∧sizedMet enc Tryd.prog Tryd.f5 (OpenSpec.ofChange Rows.tableauBackSpec) false w args)
   (Rows.tableauBackSpec.post enc Tryd.prog Tryd.f5 false true false false):=by
 refine returnsInHanded_of_change_and (C:=Tryd.checked) (X:=fun w _=>laidMetH Tryd.prog theLaid w) (fun _ _ _ hh h=>h.of_heap hh) own started (by kernel_rfl) Tryd.func5
  (ChangeSpec.witness_shaped (enc:=enc) (C:=Tryd.checked) (os:=os) (X:=fun w _=>laidMetH Tryd.prog theLaid w) false (World.doorLaid Tryd.prog 400 os) #[.agg #[.int .i64 0,.slice none 0 0,.slice none 0 0],.int .i64 0,.slice none 0 0,.slice none 0 0] 8 rfl (World.shaped_of_RefB (by kernel_rfl) (by kernel_rfl)) (by kernel_rfl) (by kernel_rfl) (by kernel_rfl) (door_met os _)) ?_
 intro W base args ds gs before hval0 hW _ hsz0 hL _
 have hval:∀ (j:Nat) t v,Tryd.f5.params[j]? = some t→args[j]? = some v→Value.okWide Tryd.prog W .any base t v:=hval0
 have hsz:(DataW.weightsEach Tryd.prog (Tryd.f5.params.toList++Rows.tableauBackSpec.plain.varTypes Tryd.prog) (ds++gs)).all (·≤reachBytes)=true:=hsz0
 clear hsz0
 have hW':=hW
 obtain ⟨p,q,hA0,hV,rfl,hfz,hnd⟩:=hW
 have hA:DataW.TrodAll enc Tryd.prog W 0 (fun _=>true) true Tryd.f5.params.toList args.toList ds p:=hA0
 rw [Tryd.params5] at hA hval hsz
 obtain ⟨w0,ws0,d0,ds0,p0,ps0,hargs,rfl,rfl,h0,hA0⟩:=trodAll_cons hA
 obtain ⟨w1,ws1,d1,ds1,p1,ps1,rfl,rfl,rfl,h1,hA1⟩:=trodAll_cons hA0
 obtain ⟨w2,ws2,d2,ds2,p2,ps2,rfl,rfl,rfl,h2,hA2⟩:=trodAll_cons hA1
 obtain ⟨w3,ws3,d3,ds3,p3,ps3,rfl,rfl,rfl,h3,hA3⟩:=trodAll_cons hA2
 obtain ⟨rfl,rfl,rfl⟩:=trodAll_nil hA3
 obtain rfl:args = #[w0,w1,w2,w3]:=by cases args;simp_all
 obtain ⟨rfl,rfl⟩:=trodVars_none hV
 simp only [List.cons_append,List.nil_append,DataW.weightsEach,List.all_append,Bool.and_eq_true] at hsz
 obtain ⟨N0,c0,e0,S0,D0,rfl,hS0,hD0,hw0⟩:=tab_read (hval 0 _ _ rfl rfl) h0
 obtain ⟨l0,m0⟩:=hw0 hsz.1
 obtain ⟨n1,rfl,rfl,rfl,_⟩:=open_int Tryd.underlying43 (hval 1 _ _ rfl rfl) h1
 obtain ⟨q2,hq2,hw2⟩:=ints_read (hval 2 _ _ rfl rfl) h2
 have l2:=hw2 hsz.2.2.1
 obtain ⟨q3,hq3,hw3⟩:=ints_read (hval 3 _ _ rfl rfl) h3
 have l3:=hw3 hsz.2.2.2.1
 refine (walk N0 S0 D0 n1 q2 q3 c0 e0 w2 w3 W hL hS0 hD0 hq2 hq3 l0 m0 l2 l3).mono fun e W' ⟨he,hc⟩=>?_
 subst he
 exact ⟨_,rfl,post_true (t:=4) laidOutP (by kernel_rfl) (by kernel_rfl) Tryd.underlying4 rfl rfl hW' hc⟩
theorem facts:joinedFacts Tryd.pinned.checked.prog 5 Tryd.f5 Rows.tableauBackSpec Rows.tableauBackRow=true:=by kernel_rfl
theorem nm:Tryd.pinned.checked.prog.funcNamed Rows.tableauBackRow.func=some 5:=by kernel_rfl
theorem holds:Rows.TableauBackSaid:=
 OpenClaim.holds_of_wide 5 Tryd.f5 rfl rfl rfl rfl rfl rfl rfl ⟨rfl,rfl,rfl,rfl,rfl⟩ rfl rfl rfl rfl rfl nm Tryd.func5 facts
  (of_decide_eq_true (by kernel_rfl)) (by unfold Func.isWrapper;rw [if_neg (by decide +kernel)];exact ⟨rfl,rfl⟩)
  (fun os started H enc _=>lifted os started H enc)
theorem wf:Rows.tableauBackRow.wfByText (OpenSpec.ofChange Rows.tableauBackSpec)=true:=by kernel_rfl
theorem mainIs:Tryd.pinned.checked.prog.mainIs=some (true,"87407f31f697ee641de07323422a65e494f6bbeb9e2307b60245f240e9e7441b".toList):=by kernel_rfl
theorem looks:false=Tryd.pinned.checked.prog.looks []:=by kernel_rfl
theorem goes:false=Rows.tableauBackRow.goesBy Tryd.pinned.checked.prog:=by kernel_rfl
theorem wants:([24,43,44,44].all fun u=>!Tryd.pinned.checked.prog.wantsStandIn u)=true:=by kernel_rfl
theorem wants_at (f:FuncId)(fn:Func)(hf:Tryd.pinned.checked.prog.funcNamed Rows.tableauBackRow.func=some f)(hfn:Tryd.pinned.checked.prog.funcs[f]? = some fn) :
  false=Tryd.pinned.checked.prog.looks []∧∀ (j:Nat) t,fn.params[j]? = some t→Tryd.pinned.checked.prog.wantsStandIn t=false:=by
 obtain rfl:f=5:=(Option.some.inj (nm.symm.trans hf)).symm
 obtain rfl:fn=Tryd.f5:=(Option.some.inj (Tryd.func5.symm.trans hfn)).symm
 refine ⟨looks,fun j t ht=>?_⟩
 rw [Tryd.params5] at ht
 have hm:t∈[24,43,44,44]:=by simpa using Array.mem_of_getElem? ht
 have:=List.all_eq_true.1 wants t hm
 simpa using this
theorem proved:Rows.TableauBackCardSaid:=by
 unfold Rows.TableauBackCardSaid Rows.tableauBackCard
 exact Claim7.holds_tied_plain_at .later [] [.data] true (true,"87407f31f697ee641de07323422a65e494f6bbeb9e2307b60245f240e9e7441b") false holds (fun _ h=>by cases h) wf (fun _ h=>by cases h) tableauBack_row_tie rfl ⟨rfl,rfl⟩ mainIs rfl wants_at goes
#print axioms proved
end Go.Proofs.YtogkkamlmklpkaaDoor.tableauBack
