/- The statement 'ExpectCarries' holds, as a tied card: whatever is handed in, the Go function phasorlaw22.ExpectCarries returns true and leaves memory as it was; the table math/bits.deBruijn64tab is tied to the program's text. -/
import Derived.Test.YtlgmimclpmolmaaGreatDoorFq
import Derived.Test.YtlgmimclpmolmaaGreatDoorFj
import Derived.Test.YtlgmimclpmolmaaGreatDoorXA
import Derived.Test.YtlgmimclpmolmaaGreatDoorH2
import Derived.Test.YtlgmimclpmolmaaGreatDoorCards
import Derived.Test.YtlgmimclpmolmaaGreatDoorTie
import Derived.SevenTiedAt
import Derived.Carry
set_option linter.unusedVariables false
set_option linter.unusedSimpArgs false
set_option maxRecDepth 100000
namespace Go.Proofs.YtlgmimclpmolmaaGreatDoor.expectCarries
open Go Go.RowKit Go.ChangeShapes Go.WideShapes Go.Deep Go.Joins Go.Proofs.YtlgmimclpmolmaaGreatDoor.Ab
def tabV (N:Int)(S D:List Pl):AV:=.agg [.i .i64 N,.vs S.length .unk (enc Pl.cells S),.vs D.length .unk (enc Pl.cells D)]
def toO (a:OpV):S49:=⟨a.K,a.G,a.Q,a.B,a.I,a.W⟩
theorem enc_toO:∀ l:List OpV,enc S49.cs (l.map toO)=enc OpV.cs l
 | []=>rfl
 |a::l=>by
  show S49.cs (toO a)++enc S49.cs (l.map toO)=a.cs++enc OpV.cs l
  rw [enc_toO l]
  rfl
theorem nors_ops (l:List OpV):AV.nors (enc OpV.cs l)=true:=enc_nors OpV.nor l
theorem sumO_ge {b:OpV}:∀ {l:List OpV},b∈l→(toO b).f_Qubits.length≤(l.map fun a=>a.Q.length).sum
 |x::l,h=>by
  rcases List.mem_cons.1 h with rfl|h
  ·exact Nat.le_add_right _ _
  ·exact Nat.le_trans (sumO_ge h) (Nat.le_add_left _ _)
theorem law_eval (N0 B0:Int)(o0:List OpV)(z1:Pl)(N2:Int)(S2 D2:List Pl)(l0:o0.length*64≤140737488355328)(m0:∀ a,a∈o0→a.Q.length*8≤140737488355328)(l2:S2.length*32≤140737488355328)(m2:D2.length*32≤140737488355328) :
  ∃ F E,OV F E 3 [.agg [.i .i64 N0,.i .i64 B0,.vs o0.length .unk (enc OpV.cs o0)],.agg z1.cells,tabV N2 S2 D2] G0 3 (3+1)=some (.b true,none):=by
 refine ⟨266+o0.length+(o0.map fun a=>a.Q.length).sum+S2.length+D2.length,200+1,?_⟩
 generalize hF:266+o0.length+(o0.map fun a=>a.Q.length).sum+S2.length+D2.length=F
 have e:=elaw22_ExpectCarries 200 (by omega) F N0 B0 (o0.map toO) z1.N z1.X z1.Z z1.Ph N2 S2 D2 true
 rw [law_expectCarries F (by omega) N0 B0 (o0.map toO) z1 N2 S2 D2 l2 m2 (by rw [List.length_map];exact l0) (fun a ha=>by obtain ⟨b,hb,rfl⟩:=List.mem_map.1 ha;exact ⟨m0 b hb,Nat.lt_of_le_of_lt (sumO_ge hb) (by omega)⟩) (by first|omega|(rw [List.length_map];omega)),List.length_map,enc_toO] at e
 have h1:AV.nors [.agg [.i .i64 N0,.i .i64 B0,.vs o0.length .unk (enc OpV.cs o0)],.agg z1.cells,tabV N2 S2 D2]=true:=by simp only [Pl.cells,encnors_Pl_cells,nors_ops,tabV,AV.nors,AV.nor,Bool.and_self]
 have h2:frzs (frz true 0 [] 8) [.agg [.i .i64 N0,.i .i64 B0,.vs o0.length .unk (enc OpV.cs o0)],.agg z1.cells,tabV N2 S2 D2]=some [.agg [.i .i64 N0,.i .i64 B0,.vs o0.length .unk (enc OpV.cs o0)],.agg z1.cells,tabV N2 S2 D2]:=by simp only [Pl.cells,tabV,frzs,frz,cond_true]
 have h3:hglb G0 3=G0:=rfl
 rw [vlaw22_ExpectCarries,h1,cond_true,h2,h3]
 exact e
theorem walk (N0 B0:Int)(o0:List OpV)(z1:Pl)(N2:Int)(S2 D2:List Pl)(c0:Value)(v1:Value)(c2 e2:Value)(W:World)(hL:laidMetH Tryz.prog theLaid W)(h0:SlOpIn W c0 o0)(h1:∀ θ,VRel θ (.agg z1.cells) v1)(h2:SlIn W c2 S2)(k2:SlIn W e2 D2)(l0:o0.length*64≤140737488355328)(m0:∀ a,a∈o0→a.Q.length*8≤140737488355328)(l2:S2.length*32≤140737488355328)(m2:D2.length*32≤140737488355328) :
  Calls Tryz.prog 3 #[.agg #[.int .i64 N0,.int .i64 B0,c0],v1,.agg #[.int .i64 N2,c2,e2]] W fun e W'=>e=.returned (.bool true)∧Chg (fun _=>False) W W':=by
 obtain ⟨F,E,hev⟩:=law_eval N0 B0 o0 z1 N2 S2 D2 l0 m0 l2 m2
 exact calls_law hL hev (vr_cons (vr_agg (vr_cons (vr_int _ _ N0) (vr_cons (vr_int _ _ B0) (vr_cons (sl_vsO h0) (vr_nil _))))) (vr_cons (h1 _) (vr_cons (vr_agg (vr_cons (vr_int _ _ N2) (vr_cons (sl_vs h2) (vr_cons (sl_vs k2) (vr_nil _))))) (vr_nil _))))
theorem lifted (os:Os)(started:os.Started)(H:Type)(enc:TypeId×Value→H) :
  ReturnsInHanded {} Tryz.checked os 3 .any (fun w args=>(Rows.expectCarriesSpec.pre enc Tryz.prog Tryz.f3 [] false w args∧laidMetH Tryz.prog theLaid w)∧sizedMet enc Tryz.prog Tryz.f3 (OpenSpec.ofChange Rows.expectCarriesSpec) false w args)
   (Rows.expectCarriesSpec.post enc Tryz.prog Tryz.f3 false true false false):=by
 refine returnsInHanded_of_change_and (C:=Tryz.checked) (X:=fun w _=>laidMetH Tryz.prog theLaid w) (fun _ _ _ hh h=>h.of_heap hh) own started (by kernel_rfl) Tryz.func3
  (ChangeSpec.witness_shaped (enc:=enc) (C:=Tryz.checked) (os:=os) (X:=fun w _=>laidMetH Tryz.prog theLaid w) false (World.doorLaid Tryz.prog 400 os) #[.agg #[.int .i64 0,.int .i64 0,.slice none 0 0],.agg #[.int .i64 0,.int .u64 0,.int .u64 0,.int .i64 0],.agg #[.int .i64 0,.slice none 0 0,.slice none 0 0]] 8 rfl (World.shaped_of_RefB (by kernel_rfl) (by kernel_rfl)) (by kernel_rfl) (by kernel_rfl) (by kernel_rfl) (door_met os _)) ?_
 intro W base args ds gs before hval0 hW _ hsz0 hL _
 have hval:∀ (j:Nat) t v,Tryz.f3.params[j]? = some t→args[j]? = some v→Value.okWide Tryz.prog W .any base t v:=hval0
 have hsz:(DataW.weightsEach Tryz.prog (Tryz.f3.params.toList++Rows.expectCarriesSpec.plain.varTypes Tryz.prog) (ds++gs)).all (·≤reachBytes)=true:=hsz0
 clear hsz0
 have hW':=hW
 obtain ⟨p,q,hA0,hV,rfl,hfz,hnd⟩:=hW
 have hA:DataW.TrodAll enc Tryz.prog W 0 (fun _=>true) true Tryz.f3.params.toList args.toList ds p:=hA0
 rw [Tryz.params3] at hA hval hsz
 obtain ⟨w0,ws0,d0,ds0,p0,ps0,hargs,rfl,rfl,h0,hA0⟩:=trodAll_cons hA
 obtain ⟨w1,ws1,d1,ds1,p1,ps1,rfl,rfl,rfl,h1,hA1⟩:=trodAll_cons hA0
 obtain ⟨w2,ws2,d2,ds2,p2,ps2,rfl,rfl,rfl,h2,hA2⟩:=trodAll_cons hA1
 obtain ⟨rfl,rfl,rfl⟩:=trodAll_nil hA2
 obtain rfl:args = #[w0,w1,w2]:=by cases args;simp_all
 obtain ⟨rfl,rfl⟩:=trodVars_none hV
 simp only [List.cons_append,List.nil_append,DataW.weightsEach,List.all_append,Bool.and_eq_true] at hsz
 obtain ⟨N0,B0,c0,o0,rfl,ho0,hw0⟩:=circ_read (hval 0 _ _ rfl rfl) h0
 obtain ⟨l0,m0⟩:=hw0 hsz.1
 obtain ⟨z1,hz1⟩:=pl_read (hval 1 _ _ rfl rfl) h1
 obtain ⟨N2,c2,e2,S2,D2,rfl,hS2,hD2,hw2⟩:=tab_read (hval 2 _ _ rfl rfl) h2
 obtain ⟨l2,m2⟩:=hw2 hsz.2.2.1
 refine (walk N0 B0 o0 z1 N2 S2 D2 c0 w1 c2 e2 W hL ho0 hz1 hS2 hD2 l0 m0 l2 m2).mono fun e W' ⟨he,hc⟩=>?_
 subst he
 exact ⟨_,rfl,post_true (t:=4) laidOutP (by kernel_rfl) (by kernel_rfl) Tryz.underlying4 rfl rfl hW' hc⟩
theorem facts:joinedFacts Tryz.pinned.checked.prog 3 Tryz.f3 Rows.expectCarriesSpec Rows.expectCarriesRow=true:=by kernel_rfl
theorem nm:Tryz.pinned.checked.prog.funcNamed Rows.expectCarriesRow.func=some 3:=by kernel_rfl
theorem holds:Rows.ExpectCarriesSaid:=
 OpenClaim.holds_of_wide 3 Tryz.f3 rfl rfl rfl rfl rfl rfl rfl ⟨rfl,rfl,rfl,rfl,rfl⟩ rfl rfl rfl rfl rfl nm Tryz.func3 facts
  (of_decide_eq_true (by kernel_rfl)) (by unfold Func.isWrapper;rw [if_neg (by decide +kernel)];exact ⟨rfl,rfl⟩)
  (fun os started H enc _=>lifted os started H enc)
theorem wf:Rows.expectCarriesRow.wfByText (OpenSpec.ofChange Rows.expectCarriesSpec)=true:=by kernel_rfl
theorem mainIs:Tryz.pinned.checked.prog.mainIs=some (true,"8019980d64dd7c26deeb6e9fe0074bc67627cddfcff67381567ab4a75711ac23".toList):=by kernel_rfl
theorem looks:false=Tryz.pinned.checked.prog.looks []:=by kernel_rfl
theorem goes:false=Rows.expectCarriesRow.goesBy Tryz.pinned.checked.prog:=by kernel_rfl
theorem wants:([24,27,30].all fun u=>!Tryz.pinned.checked.prog.wantsStandIn u)=true:=by kernel_rfl
theorem wants_at (f:FuncId)(fn:Func)(hf:Tryz.pinned.checked.prog.funcNamed Rows.expectCarriesRow.func=some f)(hfn:Tryz.pinned.checked.prog.funcs[f]? = some fn) :
  false=Tryz.pinned.checked.prog.looks []∧∀ (j:Nat) t,fn.params[j]? = some t→Tryz.pinned.checked.prog.wantsStandIn t=false:=by
 obtain rfl:f=3:=(Option.some.inj (nm.symm.trans hf)).symm
 obtain rfl:fn=Tryz.f3:=(Option.some.inj (Tryz.func3.symm.trans hfn)).symm
 refine ⟨looks,fun j t ht=>?_⟩
 rw [Tryz.params3] at ht
 have hm:t∈[24,27,30]:=by simpa using Array.mem_of_getElem? ht
 have:=List.all_eq_true.1 wants t hm
 simpa using this
theorem proved:Rows.ExpectCarriesCardSaid:=by
 unfold Rows.ExpectCarriesCardSaid Rows.expectCarriesCard
 exact Claim7.holds_tied_plain_at .later [] [.data] true (true,"8019980d64dd7c26deeb6e9fe0074bc67627cddfcff67381567ab4a75711ac23") false holds (fun _ h=>by cases h) wf (fun _ h=>by cases h) expectCarries_row_tie rfl ⟨rfl,rfl⟩ mainIs rfl wants_at goes
#print axioms proved
end Go.Proofs.YtlgmimclpmolmaaGreatDoor.expectCarries
