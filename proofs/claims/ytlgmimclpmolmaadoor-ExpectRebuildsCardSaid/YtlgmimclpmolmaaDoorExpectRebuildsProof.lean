/- The statement 'ExpectRebuilds' holds, as a tied card: whatever is handed in, the Go function phasorlaw22.ExpectRebuilds returns true and leaves memory as it was; the table math/bits.deBruijn64tab is tied to the program's text. -/
import Derived.Test.YtlgmimclpmolmaaDoorFg
import Derived.Test.YtlgmimclpmolmaaDoorFf
import Derived.Test.YtlgmimclpmolmaaDoorXA
import Derived.Test.YtlgmimclpmolmaaDoorH2
import Derived.Test.YtlgmimclpmolmaaDoorCards
import Derived.Test.YtlgmimclpmolmaaDoorTie
import Derived.SevenTiedAt
import Derived.Carry
set_option linter.unusedVariables false
set_option linter.unusedSimpArgs false
set_option maxRecDepth 100000
namespace Go.Proofs.YtlgmimclpmolmaaDoor.expectRebuilds
open Go Go.RowKit Go.ChangeShapes Go.WideShapes Go.Deep Go.Joins Go.Proofs.YtlgmimclpmolmaaDoor.Ab
theorem law_eval (q0:List (BitVec 64))(l0:q0.length*8≤140737488355328) :
  ∃ F E,OV F E 3 [.vs q0.length .unk (enc cF q0)] G0 3 (3+1)=some (.b true,none):=by
 refine ⟨1566+q0.length,200+1,?_⟩
 generalize hF:1566+q0.length=F
 have e:=elaw22_ExpectRebuilds 200 (by omega) F q0 true
 rw [law_expectRebuilds F (by omega) q0 l0 (by omega)] at e
 have h1:AV.nors [.vs q0.length .unk (enc cF q0)]=true:=by simp only [nors_cF,AV.nors,AV.nor,Bool.and_self]
 have h2:frzs (frz true 0 [] 8) [.vs q0.length .unk (enc cF q0)]=some [.vs q0.length .unk (enc cF q0)]:=by simp only [frzs,frz,cond_true]
 have h3:hglb G0 3=G0:=rfl
 rw [vlaw22_ExpectRebuilds,h1,cond_true,h2,h3]
 exact e
theorem walk (q0:List (BitVec 64))(c0:Value)(W:World)(hL:laidMetH Tryd.prog theLaid W)(h0:SlFlIn W c0 q0)(l0:q0.length*8≤140737488355328) :
  Calls Tryd.prog 3 #[c0] W fun e W'=>e=.returned (.bool true)∧Chg (fun _=>False) W W':=by
 obtain ⟨F,E,hev⟩:=law_eval q0 l0
 exact calls_law hL hev (vr_cons (sl_vsF h0) (vr_nil _))
theorem lifted (os:Os)(started:os.Started)(H:Type)(enc:TypeId×Value→H) :
  ReturnsInHanded {} Tryd.checked os 3 .any (fun w args=>(Rows.expectRebuildsSpec.pre enc Tryd.prog Tryd.f3 [] false w args∧laidMetH Tryd.prog theLaid w)∧sizedMet enc Tryd.prog Tryd.f3 (OpenSpec.ofChange Rows.expectRebuildsSpec) false w args)
   (Rows.expectRebuildsSpec.post enc Tryd.prog Tryd.f3 false true false false):=by
 refine returnsInHanded_of_change_and (C:=Tryd.checked) (X:=fun w _=>laidMetH Tryd.prog theLaid w) (fun _ _ _ hh h=>h.of_heap hh) own started (by kernel_rfl) Tryd.func3
  (ChangeSpec.witness_shaped (enc:=enc) (C:=Tryd.checked) (os:=os) (X:=fun w _=>laidMetH Tryd.prog theLaid w) false (World.doorLaid Tryd.prog 400 os) #[.slice none 0 0] 8 rfl (World.shaped_of_RefB (by kernel_rfl) (by kernel_rfl)) (by kernel_rfl) (by kernel_rfl) (by kernel_rfl) (door_met os _)) ?_
 intro W base args ds gs before hval0 hW _ hsz0 hL _
 have hval:∀ (j:Nat) t v,Tryd.f3.params[j]? = some t→args[j]? = some v→Value.okWide Tryd.prog W .any base t v:=hval0
 have hsz:(DataW.weightsEach Tryd.prog (Tryd.f3.params.toList++Rows.expectRebuildsSpec.plain.varTypes Tryd.prog) (ds++gs)).all (·≤reachBytes)=true:=hsz0
 clear hsz0
 have hW':=hW
 obtain ⟨p,q,hA0,hV,rfl,hfz,hnd⟩:=hW
 have hA:DataW.TrodAll enc Tryd.prog W 0 (fun _=>true) true Tryd.f3.params.toList args.toList ds p:=hA0
 rw [Tryd.params3] at hA hval hsz
 obtain ⟨w0,ws0,d0,ds0,p0,ps0,hargs,rfl,rfl,h0,hA0⟩:=trodAll_cons hA
 obtain ⟨rfl,rfl,rfl⟩:=trodAll_nil hA0
 obtain rfl:args = #[w0]:=by cases args;simp_all
 obtain ⟨rfl,rfl⟩:=trodVars_none hV
 simp only [List.cons_append,List.nil_append,DataW.weightsEach,List.all_append,Bool.and_eq_true] at hsz
 obtain ⟨q0,hq0,hw0⟩:=floats_read (hval 0 _ _ rfl rfl) h0
 have l0:=hw0 hsz.1
 refine (walk q0 w0 W hL hq0 l0).mono fun e W' ⟨he,hc⟩=>?_
 subst he
 exact ⟨_,rfl,post_true (t:=4) laidOutP (by kernel_rfl) (by kernel_rfl) Tryd.underlying4 rfl rfl hW' hc⟩
theorem facts:joinedFacts Tryd.pinned.checked.prog 3 Tryd.f3 Rows.expectRebuildsSpec Rows.expectRebuildsRow=true:=by kernel_rfl
theorem nm:Tryd.pinned.checked.prog.funcNamed Rows.expectRebuildsRow.func=some 3:=by kernel_rfl
theorem holds:Rows.ExpectRebuildsSaid:=
 OpenClaim.holds_of_wide 3 Tryd.f3 rfl rfl rfl rfl rfl rfl rfl ⟨rfl,rfl,rfl,rfl,rfl⟩ rfl rfl rfl rfl rfl nm Tryd.func3 facts
  (of_decide_eq_true (by kernel_rfl)) (by unfold Func.isWrapper;rw [if_neg (by decide +kernel)];exact ⟨rfl,rfl⟩)
  (fun os started H enc _=>lifted os started H enc)
theorem wf:Rows.expectRebuildsRow.wfByText (OpenSpec.ofChange Rows.expectRebuildsSpec)=true:=by kernel_rfl
theorem mainIs:Tryd.pinned.checked.prog.mainIs=some (true,"f3971c2f36760d1d23b33eda8b053ea8319cda0f343e6447a8486723d077c3e0".toList):=by kernel_rfl
theorem looks:false=Tryd.pinned.checked.prog.looks []:=by kernel_rfl
theorem goes:false=Rows.expectRebuildsRow.goesBy Tryd.pinned.checked.prog:=by kernel_rfl
theorem wants:([22].all fun u=>!Tryd.pinned.checked.prog.wantsStandIn u)=true:=by kernel_rfl
theorem wants_at (f:FuncId)(fn:Func)(hf:Tryd.pinned.checked.prog.funcNamed Rows.expectRebuildsRow.func=some f)(hfn:Tryd.pinned.checked.prog.funcs[f]? = some fn) :
  false=Tryd.pinned.checked.prog.looks []∧∀ (j:Nat) t,fn.params[j]? = some t→Tryd.pinned.checked.prog.wantsStandIn t=false:=by
 obtain rfl:f=3:=(Option.some.inj (nm.symm.trans hf)).symm
 obtain rfl:fn=Tryd.f3:=(Option.some.inj (Tryd.func3.symm.trans hfn)).symm
 refine ⟨looks,fun j t ht=>?_⟩
 rw [Tryd.params3] at ht
 have hm:t∈[22]:=by simpa using Array.mem_of_getElem? ht
 have:=List.all_eq_true.1 wants t hm
 simpa using this
theorem proved:Rows.ExpectRebuildsCardSaid:=by
 unfold Rows.ExpectRebuildsCardSaid Rows.expectRebuildsCard
 exact Claim7.holds_tied_plain_at .later [] [.data] true (true,"f3971c2f36760d1d23b33eda8b053ea8319cda0f343e6447a8486723d077c3e0") false holds (fun _ h=>by cases h) wf (fun _ h=>by cases h) expectRebuilds_row_tie rfl ⟨rfl,rfl⟩ mainIs rfl wants_at goes
#print axioms proved
end Go.Proofs.YtlgmimclpmolmaaDoor.expectRebuilds
