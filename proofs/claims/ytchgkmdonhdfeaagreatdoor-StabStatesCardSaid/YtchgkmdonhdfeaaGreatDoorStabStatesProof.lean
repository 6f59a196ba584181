/- The statement 'StabStates' holds, as a tied card: whatever is handed in, the Go function phasorlaw15.StabStates returns true and leaves memory as it was; the table math/bits.deBruijn64tab is tied to the program's text. -/
import Derived.Test.YtchgkmdonhdfeaaGreatDoorFq
import Derived.Test.YtchgkmdonhdfeaaGreatDoorXA
import Derived.Test.YtchgkmdonhdfeaaGreatDoorH1
import Derived.Test.YtchgkmdonhdfeaaGreatDoorCards
import Derived.Test.YtchgkmdonhdfeaaGreatDoorTie
import Derived.SevenTiedAt
import Derived.Carry
set_option linter.unusedVariables false
set_option linter.unusedSimpArgs false
set_option maxRecDepth 100000
namespace Go.Proofs.YtchgkmdonhdfeaaGreatDoor.stabStates
open Go Go.RowKit Go.ChangeShapes Go.WideShapes Go.Deep Go.Joins Go.Proofs.YtchgkmdonhdfeaaGreatDoor.Ab
def tabV (N:Int)(S D:List Pl):AV:=.agg [.i .i64 N,.vs S.length .unk (enc Pl.cells S),.vs D.length .unk (enc Pl.cells D)]
theorem law_eval (N0:Int)(S0 D0:List Pl)(l0:S0.length*32≤140737488355328)(m0:D0.length*32≤140737488355328) :
  ∃ F E,OV F E 3 [tabV N0 S0 D0] G0 3 (3+1)=some (.b true,none):=by
 refine ⟨4200+S0.length+D0.length,200+1,?_⟩
 generalize hF:4200+S0.length+D0.length=F
 have e:=elaw15_StabStates 200 (by omega) F (by omega) N0 S0 D0 true
 rw [law_stabStates F (by omega) N0 S0 D0 l0 m0 (by omega)] at e
 have h1:AV.nors [tabV N0 S0 D0]=true:=by simp only [encnors_Pl_cells,tabV,AV.nors,AV.nor,Bool.and_self]
 have h2:frzs (frz true 0 [] 8) [tabV N0 S0 D0]=some [tabV N0 S0 D0]:=by simp only [tabV,frzs,frz,cond_true]
 have h3:hglb G0 3=G0:=rfl
 rw [vlaw15_StabStates,h1,cond_true,h2,h3]
 exact e
theorem walk (N0:Int)(S0 D0:List Pl)(c0 e0:Value)(W:World)(hL:laidMetH Tryz.prog theLaid W)(h0:SlIn W c0 S0)(k0:SlIn W e0 D0)(l0:S0.length*32≤140737488355328)(m0:D0.length*32≤140737488355328) :
  Calls Tryz.prog 3 #[.agg #[.int .i64 N0,c0,e0]] W fun e W'=>e=.returned (.bool true)∧Chg (fun _=>False) W W':=by
 obtain ⟨F,E,hev⟩:=law_eval N0 S0 D0 l0 m0
 exact calls_law hL hev (vr_cons (vr_agg (vr_cons (vr_int _ _ N0) (vr_cons (sl_vs h0) (vr_cons (sl_vs k0) (vr_nil _))))) (vr_nil _))
theorem lifted (os:Os)(started:os.Started)(H:Type)(enc:TypeId×Value→H) :
  ReturnsInHanded {} Tryz.checked os 3 .any (fun w args=>(Rows.stabStatesSpec.pre enc Tryz.prog Tryz.f3 [] false w args∧laidMetH Tryz.prog theLaid w)∧sizedMet enc Tryz.prog Tryz.f3 (OpenSpec.ofChange Rows.stabStatesSpec) false w args)
   (Rows.stabStatesSpec.post enc Tryz.prog Tryz.f3 false true false false):=by
 refine returnsInHanded_of_change_and (C:=Tryz.checked) (X:=fun w _=>laidMetH Tryz.prog theLaid w) (fun _ _ _ hh h=>h.of_heap hh) own started (by kernel_rfl) Tryz.func3
  (ChangeSpec.witness_shaped (enc:=enc) (C:=Tryz.checked) (os:=os) (X:=fun w _=>laidMetH Tryz.prog theLaid w) false (World.doorLaid Tryz.prog 400 os) #[.agg #[.int .i64 0,.slice none 0 0,.slice none 0 0]] 8 rfl (World.shaped_of_RefB (by kernel_rfl) (by kernel_rfl)) (by kernel_rfl) (by kernel_rfl) (by kernel_rfl) (door_met os _)) ?_
 intro W base args ds gs before hval0 hW _ hsz0 hL _
 have hval:∀ (j:Nat) t v,Tryz.f3.params[j]? = some t→args[j]? = some v→Value.okWide Tryz.prog W .any base t v:=hval0
 have hsz:(DataW.weightsEach Tryz.prog (Tryz.f3.params.toList++Rows.stabStatesSpec.plain.varTypes Tryz.prog) (ds++gs)).all (·≤reachBytes)=true:=hsz0
 clear hsz0
 have hW':=hW
 obtain ⟨p,q,hA0,hV,rfl,hfz,hnd⟩:=hW
 have hA:DataW.TrodAll enc Tryz.prog W 0 (fun _=>true) true Tryz.f3.params.toList args.toList ds p:=hA0
 rw [Tryz.params3] at hA hval hsz
 obtain ⟨w0,ws0,d0,ds0,p0,ps0,hargs,rfl,rfl,h0,hA0⟩:=trodAll_cons hA
 obtain ⟨rfl,rfl,rfl⟩:=trodAll_nil hA0
 obtain rfl:args = #[w0]:=by cases args;simp_all
 obtain ⟨rfl,rfl⟩:=trodVars_none hV
 simp only [List.cons_append,List.nil_append,DataW.weightsEach,List.all_append,Bool.and_eq_true] at hsz
 obtain ⟨N0,c0,e0,S0,D0,rfl,hS0,hD0,hw0⟩:=tab_read (hval 0 _ _ rfl rfl) h0
 obtain ⟨l0,m0⟩:=hw0 hsz.1
 refine (walk N0 S0 D0 c0 e0 W hL hS0 hD0 l0 m0).mono fun e W' ⟨he,hc⟩=>?_
 subst he
 exact ⟨_,rfl,post_true (t:=4) laidOutP (by kernel_rfl) (by kernel_rfl) Tryz.underlying4 rfl rfl hW' hc⟩
theorem facts:joinedFacts Tryz.pinned.checked.prog 3 Tryz.f3 Rows.stabStatesSpec Rows.stabStatesRow=true:=by kernel_rfl
theorem nm:Tryz.pinned.checked.prog.funcNamed Rows.stabStatesRow.func=some 3:=by kernel_rfl
theorem holds:Rows.StabStatesSaid:=
 OpenClaim.holds_of_wide 3 Tryz.f3 rfl rfl rfl rfl rfl rfl rfl ⟨rfl,rfl,rfl,rfl,rfl⟩ rfl rfl rfl rfl rfl nm Tryz.func3 facts
  (of_decide_eq_true (by kernel_rfl)) (by unfold Func.isWrapper;rw [if_neg (by decide +kernel)];exact ⟨rfl,rfl⟩)
  (fun os started H enc _=>lifted os started H enc)
theorem wf:Rows.stabStatesRow.wfByText (OpenSpec.ofChange Rows.stabStatesSpec)=true:=by kernel_rfl
theorem mainIs:Tryz.pinned.checked.prog.mainIs=some (true,"f4842fdd7e5b252000feaa2152bd1b86e34d53e2d1922c831771916dab8d8a7c".toList):=by kernel_rfl
theorem looks:false=Tryz.pinned.checked.prog.looks []:=by kernel_rfl
theorem goes:false=Rows.stabStatesRow.goesBy Tryz.pinned.checked.prog:=by kernel_rfl
theorem wants:([24].all fun u=>!Tryz.pinned.checked.prog.wantsStandIn u)=true:=by kernel_rfl
theorem wants_at (f:FuncId)(fn:Func)(hf:Tryz.pinned.checked.prog.funcNamed Rows.stabStatesRow.func=some f)(hfn:Tryz.pinned.checked.prog.funcs[f]? = some fn) :
  false=Tryz.pinned.checked.prog.looks []∧∀ (j:Nat) t,fn.params[j]? = some t→Tryz.pinned.checked.prog.wantsStandIn t=false:=by
 obtain rfl:f=3:=(Option.some.inj (nm.symm.trans hf)).symm
 obtain rfl:fn=Tryz.f3:=(Option.some.inj (Tryz.func3.symm.trans hfn)).symm
 refine ⟨looks,fun j t ht=>?_⟩
 rw [Tryz.params3] at ht
 have hm:t∈[24]:=by simpa using Array.mem_of_getElem? ht
 have:=List.all_eq_true.1 wants t hm
 simpa using this
theorem proved:Rows.StabStatesCardSaid:=by
 unfold Rows.StabStatesCardSaid Rows.stabStatesCard
 exact Claim7.holds_tied_plain_at .later [] [.data] true (true,"f4842fdd7e5b252000feaa2152bd1b86e34d53e2d1922c831771916dab8d8a7c") false holds (fun _ h=>by cases h) wf (fun _ h=>by cases h) stabStates_row_tie rfl ⟨rfl,rfl⟩ mainIs rfl wants_at goes
#print axioms proved
end Go.Proofs.YtchgkmdonhdfeaaGreatDoor.stabStates
