/- The statement 'TableauPlays' holds, as a tied card: whatever is handed in, the Go function phasorlaw14.TableauPlays returns true and leaves memory as it was; the table math/bits.deBruijn64tab is tied to the program's text. -/
import Derived.Test.YtogkkamlmklpkaaDoorFq
import Derived.Test.YtogkkamlmklpkaaDoorFi
import Derived.Test.YtogkkamlmklpkaaDoorWE
import Derived.Test.YtogkkamlmklpkaaDoorH7
import Derived.Test.YtogkkamlmklpkaaDoorCards
import Derived.Test.YtogkkamlmklpkaaDoorTie
import Derived.SevenTiedAt
import Derived.Carry
set_option linter.unusedVariables false
set_option linter.unusedSimpArgs false
set_option maxRecDepth 100000
namespace Go.Proofs.YtogkkamlmklpkaaDoor.tableauPlays
open Go Go.RowKit Go.ChangeShapes Go.WideShapes Go.Deep Go.Joins Go.Proofs.YtogkkamlmklpkaaDoor.Ab
def toS (a:ActV):S69:=⟨a.K,a.G,a.Q,a.V⟩
theorem enc_toS:∀ l:List ActV,enc S69.cs (l.map toS)=enc ActV.cs l
 | []=>rfl
 |a::l=>by
  show S69.cs (toS a)++enc S69.cs (l.map toS)=a.cs++enc ActV.cs l
  rw [enc_toS l]
  rfl
theorem nors_acts (l:List ActV):AV.nors (enc ActV.cs l)=true:=enc_nors ActV.nor l
theorem sum_ge {b:ActV}:∀ {l:List ActV},b∈l→(toS b).f_Q.length≤(l.map fun a=>a.Q.length).sum
 |x::l,h=>by
  rcases List.mem_cons.1 h with rfl|h
  ·exact Nat.le_add_right _ _
  ·exact Nat.le_trans (sum_ge h) (Nat.le_add_left _ _)
theorem law_eval (n0:Int)(a1:List ActV)(z2:Pl)(q3:List Int)(l1:∀ a,a∈a1→a.Q.length*8≤140737488355328)(l3:q3.length*8≤140737488355328) :
  ∃ F E,OV F E 8 [.i .i64 n0,.vs a1.length .unk (enc ActV.cs a1),.agg z2.cells,.vs q3.length .unk (enc cI q3)] G0 2 (2+1)=some (.b true,none):=by
 refine ⟨567+(a1.map fun a=>a.Q.length).sum+q3.length,200+1,?_⟩
 generalize hF:567+(a1.map fun a=>a.Q.length).sum+q3.length=F
 have e:=elaw14_TableauPlays 200 (by omega) F n0 (a1.map toS) z2.N z2.X z2.Z z2.Ph q3 true
 rw [law_tableauPlays F (by omega) n0 (a1.map toS) z2 q3 l3 (fun a ha=>by obtain ⟨b,hb,rfl⟩:=List.mem_map.1 ha;exact ⟨l1 b hb,Nat.lt_of_le_of_lt (sum_ge hb) (by omega)⟩) (by omega),List.length_map,enc_toS] at e
 have h1:AV.nors [.i .i64 n0,.vs a1.length .unk (enc ActV.cs a1),.agg z2.cells,.vs q3.length .unk (enc cI q3)]=true:=by simp only [Pl.cells,nors_acts,nors_cI,AV.nors,AV.nor,Bool.and_self]
 have h2:frzs (frz true 0 [] 8) [.i .i64 n0,.vs a1.length .unk (enc ActV.cs a1),.agg z2.cells,.vs q3.length .unk (enc cI q3)]=some [.i .i64 n0,.vs a1.length .unk (enc ActV.cs a1),.agg z2.cells,.vs q3.length .unk (enc cI q3)]:=by simp only [Pl.cells,frzs,frz,cond_true]
 have h3:hglb G0 2=G0:=rfl
 rw [vlaw14_TableauPlays,h1,cond_true,h2,h3]
 exact e
theorem walk (n0:Int)(a1:List ActV)(z2:Pl)(q3:List Int)(c1:Value)(v2:Value)(c3:Value)(W:World)(hL:laidMetH Tryd.prog theLaid W)(h1:SlActIn W c1 a1)(h2:∀ θ,VRel θ (.agg z2.cells) v2)(h3:SlIntIn W c3 q3)(l1:∀ a,a∈a1→a.Q.length*8≤140737488355328)(l3:q3.length*8≤140737488355328) :
  Calls Tryd.prog 8 #[.int .i64 n0,c1,v2,c3] W fun e W'=>e=.returned (.bool true)∧Chg (fun _=>False) W W':=by
 obtain ⟨F,E,hev⟩:=law_eval n0 a1 z2 q3 l1 l3
 exact calls_law hL hev (vr_cons (vr_int _ _ n0) (vr_cons (sl_vsA h1) (vr_cons (h2 _) (vr_cons (sl_vsI h3) (vr_nil _)))))
theorem lifted (os:Os)(started:os.Started)(H:Type)(enc:TypeId×Value→H) :
  ReturnsInHanded {} Tryd.checked os 8 .any (fun w args=>(Rows.tableauPlaysSpec.pre enc Tryd.prog Tryd.f8 [] false w args∧laidMetH Tryd.prog theLaid w)∧sizedMet enc Tryd.prog Tryd.f8 (OpenSpec.ofChange Rows.tableauPlaysSpec) false w args)
   (Rows.tableauPlaysSpec.post enc Tryd.prog Tryd.f8 false true false false):=by
 refine returnsInHanded_of_change_and (C:=Tryd.checked) (X:=fun w _=>laidMetH Tryd.prog theLaid w) (fun _ _ _ hh h=>h.of_heap hh) own started (by kernel_rfl) Tryd.func8
  (ChangeSpec.witness_shaped (enc:=enc) (C:=Tryd.checked) (os:=os) (X:=fun w _=>laidMetH Tryd.prog theLaid w) false (World.doorLaid Tryd.prog 400 os) #[.int .i64 0,.slice none 0 0,.agg #[.int .i64 0,.int .u64 0,.int .u64 0,.int .i64 0],.slice none 0 0] 8 rfl (World.shaped_of_RefB (by kernel_rfl) (by kernel_rfl)) (by kernel_rfl) (by kernel_rfl) (by kernel_rfl) (door_met os _)) ?_
 intro W base args ds gs before hval0 hW _ hsz0 hL _
 have hval:∀ (j:Nat) t v,Tryd.f8.params[j]? = some t→args[j]? = some v→Value.okWide Tryd.prog W .any base t v:=hval0
 have hsz:(DataW.weightsEach Tryd.prog (Tryd.f8.params.toList++Rows.tableauPlaysSpec.plain.varTypes Tryd.prog) (ds++gs)).all (·≤reachBytes)=true:=hsz0
 clear hsz0
 have hW':=hW
 obtain ⟨p,q,hA0,hV,rfl,hfz,hnd⟩:=hW
 have hA:DataW.TrodAll enc Tryd.prog W 0 (fun _=>true) true Tryd.f8.params.toList args.toList ds p:=hA0
 rw [Tryd.params8] at hA hval hsz
 obtain ⟨w0,ws0,d0,ds0,p0,ps0,hargs,rfl,rfl,h0,hA0⟩:=trodAll_cons hA
 obtain ⟨w1,ws1,d1,ds1,p1,ps1,rfl,rfl,rfl,h1,hA1⟩:=trodAll_cons hA0
 obtain ⟨w2,ws2,d2,ds2,p2,ps2,rfl,rfl,rfl,h2,hA2⟩:=trodAll_cons hA1
 obtain ⟨w3,ws3,d3,ds3,p3,ps3,rfl,rfl,rfl,h3,hA3⟩:=trodAll_cons hA2
 obtain ⟨rfl,rfl,rfl⟩:=trodAll_nil hA3
 obtain rfl:args = #[w0,w1,w2,w3]:=by cases args;simp_all
 obtain ⟨rfl,rfl⟩:=trodVars_none hV
 simp only [List.cons_append,List.nil_append,DataW.weightsEach,List.all_append,Bool.and_eq_true] at hsz
 obtain ⟨n0,rfl,rfl,rfl,_⟩:=open_int Tryd.underlying3 (hval 0 _ _ rfl rfl) h0
 obtain ⟨a1,ha1,hw1⟩:=acts_read (hval 1 _ _ rfl rfl) h1
 have l1:=hw1 hsz.2.1
 obtain ⟨z2,hz2⟩:=pl_read (hval 2 _ _ rfl rfl) h2
 obtain ⟨q3,hq3,hw3⟩:=ints_read (hval 3 _ _ rfl rfl) h3
 have l3:=hw3 hsz.2.2.2.1
 refine (walk n0 a1 z2 q3 w1 w2 w3 W hL ha1 hz2 hq3 l1 l3).mono fun e W' ⟨he,hc⟩=>?_
 subst he
 exact ⟨_,rfl,post_true (t:=4) laidOutP (by kernel_rfl) (by kernel_rfl) Tryd.underlying4 rfl rfl hW' hc⟩
theorem facts:joinedFacts Tryd.pinned.checked.prog 8 Tryd.f8 Rows.tableauPlaysSpec Rows.tableauPlaysRow=true:=by kernel_rfl
theorem nm:Tryd.pinned.checked.prog.funcNamed Rows.tableauPlaysRow.func=some 8:=by kernel_rfl
theorem holds:Rows.TableauPlaysSaid:=
 OpenClaim.holds_of_wide 8 Tryd.f8 rfl rfl rfl rfl rfl rfl rfl ⟨rfl,rfl,rfl,rfl,rfl⟩ rfl rfl rfl rfl rfl nm Tryd.func8 facts
  (of_decide_eq_true (by kernel_rfl)) (by unfold Func.isWrapper;rw [if_neg (by decide +kernel)];exact ⟨rfl,rfl⟩)
  (fun os started H enc _=>lifted os started H enc)
theorem wf:Rows.tableauPlaysRow.wfByText (OpenSpec.ofChange Rows.tableauPlaysSpec)=true:=by kernel_rfl
theorem mainIs:Tryd.pinned.checked.prog.mainIs=some (true,"87407f31f697ee641de07323422a65e494f6bbeb9e2307b60245f240e9e7441b".toList):=by kernel_rfl
theorem looks:false=Tryd.pinned.checked.prog.looks []:=by kernel_rfl
theorem goes:false=Rows.tableauPlaysRow.goesBy Tryd.pinned.checked.prog:=by kernel_rfl
theorem wants:([3,65,39,44].all fun u=>!Tryd.pinned.checked.prog.wantsStandIn u)=true:=by kernel_rfl
theorem wants_at (f:FuncId)(fn:Func)(hf:Tryd.pinned.checked.prog.funcNamed Rows.tableauPlaysRow.func=some f)(hfn:Tryd.pinned.checked.prog.funcs[f]? = some fn) :
  false=Tryd.pinned.checked.prog.looks []∧∀ (j:Nat) t,fn.params[j]? = some t→Tryd.pinned.checked.prog.wantsStandIn t=false:=by
 obtain rfl:f=8:=(Option.some.inj (nm.symm.trans hf)).symm
 obtain rfl:fn=Tryd.f8:=(Option.some.inj (Tryd.func8.symm.trans hfn)).symm
 refine ⟨looks,fun j t ht=>?_⟩
 rw [Tryd.params8] at ht
 have hm:t∈[3,65,39,44]:=by simpa using Array.mem_of_getElem? ht
 have:=List.all_eq_true.1 wants t hm
 simpa using this
theorem proved:Rows.TableauPlaysCardSaid:=by
 unfold Rows.TableauPlaysCardSaid Rows.tableauPlaysCard
 exact Claim7.holds_tied_plain_at .later [] [.data] true (true,"87407f31f697ee641de07323422a65e494f6bbeb9e2307b60245f240e9e7441b") false holds (fun _ h=>by cases h) wf (fun _ h=>by cases h) tableauPlays_row_tie rfl ⟨rfl,rfl⟩ mainIs rfl wants_at goes
#print axioms proved
end Go.Proofs.YtogkkamlmklpkaaDoor.tableauPlays
