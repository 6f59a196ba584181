/- The statement 'NoiseDraws' holds, as a tied card: whatever is handed in, the Go function phasorlaw24.NoiseDraws returns true and leaves memory as it was; the table math/bits.deBruijn64tab is tied to the program's text. -/
import Derived.Test.YtbbikmfjnanpmaaDoorFg
import Derived.Test.YtbbikmfjnanpmaaDoorFf
import Derived.Test.YtbbikmfjnanpmaaDoorFi
import Derived.Test.YtbbikmfjnanpmaaDoorFj
import Derived.Test.YtbbikmfjnanpmaaDoorXA
import Derived.Test.YtbbikmfjnanpmaaDoorH1
import Derived.Test.YtbbikmfjnanpmaaDoorCards
import Derived.Test.YtbbikmfjnanpmaaDoorTie
import Derived.SevenTiedAt
import Derived.Carry
set_option linter.unusedVariables false
set_option linter.unusedSimpArgs false
set_option maxRecDepth 100000
namespace Go.Proofs.YtbbikmfjnanpmaaDoor.noiseDraws
open Go Go.RowKit Go.ChangeShapes Go.WideShapes Go.Deep Go.Joins Go.Proofs.YtbbikmfjnanpmaaDoor.Ab
def toO (a:OpV):S40:=⟨a.K,a.G,a.Q,a.B,a.I,a.W⟩
theorem enc_toO:∀ l:List OpV,enc S40.cs (l.map toO)=enc OpV.cs l
 | []=>rfl
 |a::l=>by
  show S40.cs (toO a)++enc S40.cs (l.map toO)=a.cs++enc OpV.cs l
  rw [enc_toO l]
  rfl
theorem nors_ops (l:List OpV):AV.nors (enc OpV.cs l)=true:=enc_nors OpV.nor l
theorem sumO_ge {b:OpV}:∀ {l:List OpV},b∈l→(toO b).f_Qubits.length≤(l.map fun a=>a.Q.length).sum
 |x::l,h=>by
  rcases List.mem_cons.1 h with rfl|h
  ·exact Nat.le_add_right _ _
  ·exact Nat.le_trans (sumO_ge h) (Nat.le_add_left _ _)
theorem law_eval (N0 B0:Int)(o0:List OpV)(x1:BitVec 64)(q2:List (BitVec 64))(q3:List Int)(l0:o0.length*64≤140737488355328)(m0:∀ a,a∈o0→a.Q.length*8≤140737488355328)(l2:q2.length*8≤140737488355328)(l3:q3.length*8≤140737488355328) :
  ∃ F E,OV F E 4 [.agg [.i .i64 N0,.i .i64 B0,.vs o0.length .unk (enc OpV.cs o0)],.f .f64 x1.toNat,.vs q2.length .unk (enc cF q2),.vs q3.length .unk (enc cI q3)] G0 3 (3+1)=some (.b true,none):=by
 refine ⟨12700+o0.length+(o0.map fun a=>a.Q.length).sum+q2.length+q3.length,200+1,?_⟩
 generalize hF:12700+o0.length+(o0.map fun a=>a.Q.length).sum+q2.length+q3.length=F
 have e:=elaw24_NoiseDraws 200 (by omega) F N0 B0 (o0.map toO) x1 q2 q3 true
 rw [law_noiseDraws F (by omega) N0 B0 (o0.map toO) x1 q2 q3 l2 l3 (by rw [List.length_map];exact l0) (fun a ha=>by obtain ⟨b,hb,rfl⟩:=List.mem_map.1 ha;exact ⟨m0 b hb,Nat.lt_of_le_of_lt (sumO_ge hb) (by omega)⟩) (by first|omega|(simp only [List.length_map];omega)),List.length_map,enc_toO] at e
 have h1:AV.nors [.agg [.i .i64 N0,.i .i64 B0,.vs o0.length .unk (enc OpV.cs o0)],.f .f64 x1.toNat,.vs q2.length .unk (enc cF q2),.vs q3.length .unk (enc cI q3)]=true:=by simp only [nors_cF,nors_cI,nors_ops,AV.nors,AV.nor,Bool.and_self]
 have h2:frzs (frz true 0 [] 8) [.agg [.i .i64 N0,.i .i64 B0,.vs o0.length .unk (enc OpV.cs o0)],.f .f64 x1.toNat,.vs q2.length .unk (enc cF q2),.vs q3.length .unk (enc cI q3)]=some [.agg [.i .i64 N0,.i .i64 B0,.vs o0.length .unk (enc OpV.cs o0)],.f .f64 x1.toNat,.vs q2.length .unk (enc cF q2),.vs q3.length .unk (enc cI q3)]:=by simp only [frzs,frz,cond_true]
 have h3:hglb G0 3=G0:=rfl
 rw [vlaw24_NoiseDraws,h1,cond_true,h2,h3]
 exact e
theorem walk (N0 B0:Int)(o0:List OpV)(x1:BitVec 64)(q2:List (BitVec 64))(q3:List Int)(c0:Value)(c2:Value)(c3:Value)(W:World)(hL:laidMetH Tryd.prog theLaid W)(h0:SlOpIn W c0 o0)(h2:SlFlIn W c2 q2)(h3:SlIntIn W c3 q3)(l0:o0.length*64≤140737488355328)(m0:∀ a,a∈o0→a.Q.length*8≤140737488355328)(l2:q2.length*8≤140737488355328)(l3:q3.length*8≤140737488355328) :
  Calls Tryd.prog 4 #[.agg #[.int .i64 N0,.int .i64 B0,c0],.float .f64 x1.toNat,c2,c3] W fun e W'=>e=.returned (.bool true)∧Chg (fun _=>False) W W':=by
 obtain ⟨F,E,hev⟩:=law_eval N0 B0 o0 x1 q2 q3 l0 m0 l2 l3
 exact calls_law hL hev (vr_cons (vr_agg (vr_cons (vr_int _ _ N0) (vr_cons (vr_int _ _ B0) (vr_cons (sl_vsO h0) (vr_nil _))))) (vr_cons (vr_float _ x1) (vr_cons (sl_vsF h2) (vr_cons (sl_vsI h3) (vr_nil _)))))
theorem lifted (os:Os)(started:os.Started)(H:Type)(enc:TypeId×Value→H) :
  ReturnsInHanded {} Tryd.checked os 4 .any (fun w args=>(Rows.noiseDrawsSpec.pre enc Tryd.prog Tryd.f4 [] false w args∧laidMetH Tryd.prog theLaid w)∧sizedMet enc Tryd.prog Tryd.f4 (OpenSpec.ofChange Rows.noiseDrawsSpec) false w args)
   (Rows.noiseDrawsSpec.post enc Tryd.prog Tryd.f4 false true false false):=by
 refine returnsInHanded_of_change_and (C:=Tryd.checked) (X:=fun w _=>laidMetH Tryd.prog theLaid w) (fun _ _ _ hh h=>h.of_heap hh) own started (by kernel_rfl) Tryd.func4
  (ChangeSpec.witness_shaped (enc:=enc) (C:=Tryd.checked) (os:=os) (X:=fun w _=>laidMetH Tryd.prog theLaid w) false (World.doorLaid Tryd.prog 400 os) #[.agg #[.int .i64 0,.int .i64 0,.slice none 0 0],.float .f64 0,.slice none 0 0,.slice none 0 0] 8 rfl (World.shaped_of_RefB (by kernel_rfl) (by kernel_rfl)) (by kernel_rfl) (by kernel_rfl) (by kernel_rfl) (door_met os _)) ?_
 intro W base args ds gs before hval0 hW _ hsz0 hL _
 have hval:∀ (j:Nat) t v,Tryd.f4.params[j]? = some t→args[j]? = some v→Value.okWide Tryd.prog W .any base t v:=hval0
 have hsz:(DataW.weightsEach Tryd.prog (Tryd.f4.params.toList++Rows.noiseDrawsSpec.plain.varTypes Tryd.prog) (ds++gs)).all (·≤reachBytes)=true:=hsz0
 clear hsz0
 have hW':=hW
 obtain ⟨p,q,hA0,hV,rfl,hfz,hnd⟩:=hW
 have hA:DataW.TrodAll enc Tryd.prog W 0 (fun _=>true) true Tryd.f4.params.toList args.toList ds p:=hA0
 rw [Tryd.params4] at hA hval hsz
 obtain ⟨w0,ws0,d0,ds0,p0,ps0,hargs,rfl,rfl,h0,hA0⟩:=trodAll_cons hA
 obtain ⟨w1,ws1,d1,ds1,p1,ps1,rfl,rfl,rfl,h1,hA1⟩:=trodAll_cons hA0
 obtain ⟨w2,ws2,d2,ds2,p2,ps2,rfl,rfl,rfl,h2,hA2⟩:=trodAll_cons hA1
 obtain ⟨w3,ws3,d3,ds3,p3,ps3,rfl,rfl,rfl,h3,hA3⟩:=trodAll_cons hA2
 obtain ⟨rfl,rfl,rfl⟩:=trodAll_nil hA3
 obtain rfl:args = #[w0,w1,w2,w3]:=by cases args;simp_all
 obtain ⟨rfl,rfl⟩:=trodVars_none hV
 simp only [List.cons_append,List.nil_append,DataW.weightsEach,List.all_append,Bool.and_eq_true] at hsz
 obtain ⟨N0,B0,c0,o0,rfl,ho0,hw0⟩:=circ_read (hval 0 _ _ rfl rfl) h0
 obtain ⟨l0,m0⟩:=hw0 hsz.1
 obtain ⟨x1,rfl⟩:=flt_read (hval 1 _ _ rfl rfl) h1
 obtain ⟨q2,hq2,hw2⟩:=floats_read (hval 2 _ _ rfl rfl) h2
 have l2:=hw2 hsz.2.2.1
 obtain ⟨q3,hq3,hw3⟩:=ints_read (hval 3 _ _ rfl rfl) h3
 have l3:=hw3 hsz.2.2.2.1
 refine (walk N0 B0 o0 x1 q2 q3 c0 w2 w3 W hL ho0 hq2 hq3 l0 m0 l2 l3).mono fun e W' ⟨he,hc⟩=>?_
 subst he
 exact ⟨_,rfl,post_true (t:=4) laidOutP (by kernel_rfl) (by kernel_rfl) Tryd.underlying4 rfl rfl hW' hc⟩
theorem facts:joinedFacts Tryd.pinned.checked.prog 4 Tryd.f4 Rows.noiseDrawsSpec Rows.noiseDrawsRow=true:=by kernel_rfl
theorem nm:Tryd.pinned.checked.prog.funcNamed Rows.noiseDrawsRow.func=some 4:=by kernel_rfl
theorem holds:Rows.NoiseDrawsSaid:=
 OpenClaim.holds_of_wide 4 Tryd.f4 rfl rfl rfl rfl rfl rfl rfl ⟨rfl,rfl,rfl,rfl,rfl⟩ rfl rfl rfl rfl rfl nm Tryd.func4 facts
  (of_decide_eq_true (by kernel_rfl)) (by unfold Func.isWrapper;rw [if_neg (by decide +kernel)];exact ⟨rfl,rfl⟩)
  (fun os started H enc _=>lifted os started H enc)
theorem wf:Rows.noiseDrawsRow.wfByText (OpenSpec.ofChange Rows.noiseDrawsSpec)=true:=by kernel_rfl
theorem mainIs:Tryd.pinned.checked.prog.mainIs=some (true,"6680c7ea8588ef8ebac4e99b14b7bc3b6038399a6c19bf911a88f29581f9ca86".toList):=by kernel_rfl
theorem looks:false=Tryd.pinned.checked.prog.looks []:=by kernel_rfl
theorem goes:false=Rows.noiseDrawsRow.goesBy Tryd.pinned.checked.prog:=by kernel_rfl
theorem wants:([24,43,44,38].all fun u=>!Tryd.pinned.checked.prog.wantsStandIn u)=true:=by kernel_rfl
theorem wants_at (f:FuncId)(fn:Func)(hf:Tryd.pinned.checked.prog.funcNamed Rows.noiseDrawsRow.func=some f)(hfn:Tryd.pinned.checked.prog.funcs[f]? = some fn) :
  false=Tryd.pinned.checked.prog.looks []∧∀ (j:Nat) t,fn.params[j]? = some t→Tryd.pinned.checked.prog.wantsStandIn t=false:=by
 obtain rfl:f=4:=(Option.some.inj (nm.symm.trans hf)).symm
 obtain rfl:fn=Tryd.f4:=(Option.some.inj (Tryd.func4.symm.trans hfn)).symm
 refine ⟨looks,fun j t ht=>?_⟩
 rw [Tryd.params4] at ht
 have hm:t∈[24,43,44,38]:=by simpa using Array.mem_of_getElem? ht
 have:=List.all_eq_true.1 wants t hm
 simpa using this
theorem proved:Rows.NoiseDrawsCardSaid:=by
 unfold Rows.NoiseDrawsCardSaid Rows.noiseDrawsCard
 exact Claim7.holds_tied_plain_at .later [] [.data] true (true,"6680c7ea8588ef8ebac4e99b14b7bc3b6038399a6c19bf911a88f29581f9ca86") false holds (fun _ h=>by cases h) wf (fun _ h=>by cases h) noiseDraws_row_tie rfl ⟨rfl,rfl⟩ mainIs rfl wants_at goes
#print axioms proved
end Go.Proofs.YtbbikmfjnanpmaaDoor.noiseDraws
