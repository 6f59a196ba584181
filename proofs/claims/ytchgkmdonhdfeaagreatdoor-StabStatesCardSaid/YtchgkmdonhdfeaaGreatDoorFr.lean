/- From an evaluation of the abstract machine to a row's frame: what is common to all laws of the seat. No condition: lemmas only. -/
import Derived.Test.YtchgkmdonhdfeaaGreatDoorC2
import Derived.Test.YtchgkmdonhdfeaaGreatDoorRows
import Derived.ProofKit
import Derived.LaidMore
import Derived.OpenShut
import Derived.Stop.Joined
import Derived.Lib.LaidTab
set_option linter.unusedSimpArgs false
set_option linter.unusedVariables false
set_option maxRecDepth 100000
namespace Go.Proofs.YtchgkmdonhdfeaaGreatDoor.Ab
open Go Go.RowKit Go.ChangeShapes Go.WideShapes
theorem Chg.below {w w':World}(h:Chg (fun _=>False) w w'):Below w.heap.size w w':=⟨h.os,h.tape,h.output,h.size,fun k hk=>h.block k hk (fun f=>f)⟩
theorem Below.kept {w w':World}(h:Below w.heap.size w w')(may:MemPlace→Prop):w.keptBut w' may:=by
 refine ⟨h.os,h.output,fun i hi=>?_⟩
 rw [h.block i hi]
 cases w.heap[i]? with
 |none=>rfl
 |some o=>cases o<;>first|rfl|exact ⟨rfl,rfl,rfl,fun _ _=>rfl⟩|exact .inr ⟨rfl,rfl⟩
def rowed (P:Program)(ts:List TypeId):Bool:=ts.all fun t=>P.readableRec t&&decide (t<P.types.size)
theorem trodAll_below {H:Type}{enc:TypeId×Value→H}{P:Program}(hl:laidOutB P=true){W W':World}(hb:Below W.heap.size W W') :
  ∀ {ts:List TypeId} {vs:List Value} {ds:List (DataW H)} {ps:List MemPlace},rowed P ts=true→DataW.TrodAll enc P W 0 (fun _=>true) true ts vs ds ps→(∀ x∈ps,x.block<W.heap.size)→
   DataW.TrodAll enc P W' 0 (fun b=>decide (b<W.heap.size)) true ts vs ds ps
 | [],[],[],ps,_,h,_=>h
 |t::ts,v::vs,d::ds,ps,hr,h,hlt=>by
  simp only [rowed,List.all_cons,Bool.and_eq_true,decide_eq_true_eq] at hr
  obtain ⟨p,q,h1,h2,rfl⟩:=h
  exact ⟨p,q,Below.trod hl hr.1.1 hr.1.2 h1 hb (fun x hx=>hlt x (List.mem_append_left _ hx)),
   trodAll_below hl hb (by simpa [rowed] using hr.2) h2 (fun x hx=>hlt x (List.mem_append_right _ hx)),rfl⟩
 | [],[],_::_,_,_,h,_=>by cases h
 | [],_::_,_,_,_,h,_=>by cases h
 |_::_,[],_,_,_,h,_=>by cases h
 |_::_,_::_,[],_,_,h,_=>by cases h
theorem laid_eq:(Rows.laid_math_bits_deBruijn64tab:DataW Unit)=Lib.tabData .u8 zs64:=rfl
theorem gTab:Tryz.prog.globalNamed "math/bits.deBruijn64tab" = some 1:=by kernel_rfl
theorem tTab:(Tryz.prog.globals[1]?).map (·.type)=some 193:=by kernel_rfl
theorem cTab:Tryz.prog.cellsOf 193=64:=by kernel_rfl
theorem cU8:Tryz.prog.cellsOf 5=1:=by kernel_rfl
abbrev theLaid:List (String×DataW Unit):=[("math/bits.deBruijn64tab",Rows.laid_math_bits_deBruijn64tab)]
theorem of_laid {W:World}(h:laidMetH Tryz.prog theLaid W)(i:Nat)(z:Int)(hz:zs64[i]? = some z):W.cell? ⟨1,i,none⟩=some (.int .u8 z):=by
 rw [MakeChecks.laidMetH_plain _ _ _ (by kernel_rfl)] at h
 obtain ⟨ps,⟨g,t,cs,fuel,p,q,hg,ht,hvar,hd,_,_⟩,_⟩:=h
 obtain rfl:=Option.some.inj (gTab.symm.trans hg)
 obtain rfl:=Option.some.inj (tTab.symm.trans ht)
 rw [laid_eq] at hd
 have hcs:=Lib.cells_of_tab Tryz.underlying193 Tryz.underlying5 cU8 cTab hd
 rw [World.var?_cell hg hvar i,← Array.getElem?_toList,hcs]
 simp [hz]
noncomputable def thW (W:World):Th:=⟨fun id=>if id<3 then some (id,0,0) else none,fun b o=>wcell W b o⟩
theorem tab_rel {θ:Th}(hθ:θ 1=some (1,0,0)){W:World}(h:laidMetH Tryz.prog theLaid W):∃ b o c,θ 1=some (b,o,c)∧b<W.heap.size∧BRel Tryz.prog θ tab64 b o c W:=by
 refine ⟨1,0,0,hθ,?_,?_⟩
 ·exact World.block_lt_of_cell? W _ (of_laid h 0 0 rfl)
 ·unfold BRel
  rw [if_neg (by simp [tab64])]
  intro i v hv
  rw [tab64_eq,List.getElem?_map] at hv
  obtain ⟨z,hz,rfl⟩:=Option.map_eq_some_iff.1 hv
  exact ⟨_,by rw [Nat.zero_add];exact of_laid h i z hz,by simp only [VRel]⟩
theorem G0_get {id:Nat}{x:ABlk}(e:hget G0 id=some x):id=1∧x=tab64:=by
 unfold G0 at e
 rw [hget_cons] at e
 split at e
 ·rename_i e1;cases e;exact ⟨e1.symm,rfl⟩
 ·cases e
theorem calls_law {F D g:Nat}{args:List AV}{W:World}{cargs:Array Value}(hL:laidMetH Tryz.prog theLaid W)(hev:OV F D g args G0 3 (3+1)=some (.b true,none))(hv:VRels (thW W) args cargs.toList) :
  Calls Tryz.prog g cargs W fun e W'=>e=.returned (.bool true)∧Chg (fun _=>False) W W':=by
 obtain ⟨_,hs⟩:=OV_sound F D g args G0 3 (3+1) _ _ hev
 have hb:HB G0 3:=fun id x e=>by obtain ⟨rfl,_⟩:=G0_get e;decide
 obtain ⟨_,hc⟩:=hs hb
 have hm:Mem Tryz.prog 3 (thW W) G0 W:=by
  refine ⟨fun g hg=>by simp [thW,hg],⟨3,fun id hid=>by simp only [thW];rw [if_neg (by omega)]⟩,fun id x e=>?_,fun id id' x x' b o c o' c' e1 e2=>?_,fun b o u e=>e,fun id x b o c o' u e1 e2=>?_⟩
  ·obtain ⟨rfl,rfl⟩:=G0_get e
   exact tab_rel (by simp [thW]) hL
  ·obtain ⟨_,rfl⟩:=G0_get e1;cases e2
  ·obtain ⟨_,rfl⟩:=G0_get e1;cases e2
 refine (hc (thW W) W cargs hm hv trivial).mono fun e W' hd=>?_
 obtain ⟨u,rfl,φ,_,_,h1,h2⟩:=hd
 simp only [VRel] at h1
 exact ⟨by rw [h1],h2⟩
theorem post_true {H:Type}{enc:TypeId×Value→H}{fn:Func}{s:ChangeSpec}{W W':World}{args:Array Value}{ds:List (DataW H)}{before:List MemPlace}{t:TypeId}(hl:laidOutB Tryz.prog=true)(hr:rowed Tryz.prog fn.params.toList=true)
  (hrt:fn.resultTypes = #[t]) (ht:Tryz.prog.underlying t=some .bool) (hvars:s.vars=[]) (hs:s.fn H ds = { results:=[.lit (.bool true)],args:=ds })
  (hW:DataW.Whole enc Tryz.prog fn.params.toList s.vars false W args.toList ds [] before) (hc:Chg (fun _=>False) W W'):s.post enc Tryz.prog fn false true false false W args (.bool true) W':=by
 have hW':=hW
 obtain ⟨p,q,hA,hV,rfl,hfz,hnd⟩:=hW
 have hlt:∀ x∈p,x.block<W.heap.size:=fun x hx=>by simpa using hW'.lt x (List.mem_append_left _ hx)
 have hb:=hc.below
 have hq:q=[]:=by rw [hvars] at hV;exact hV
 subst hq
 have hv0:∀ sp,DataW.TrodVars enc Tryz.prog W' sp s.vars [] []:=fun sp=>by rw [hvars];rfl
 refine ⟨ds,[],_,[],p,[],hW',?_,?_,?_,Below.kept hb _,fun h=>by cases h⟩
 ·rw [List.append_nil,hs,hrt];exact trodAll_mk1 (shut_bool ht true)
 ·rw [List.append_nil,hs];exact trodAll_below hl hb hr hA hlt
 ·rw [List.append_nil,hs];exact hv0 _
theorem door_met (os:Os)(args:Array Value):laidMetH Tryz.prog theLaid ((World.doorLaid Tryz.prog 400 os).forCall (fun _ _=>0) ⟨#[],args,[]⟩).memory:=
 laidMetH_of_parts3 (fuel:=8) (laidMet_of_run' 8 (by kernel_rfl) (by kernel_rfl)) (by kernel_rfl) (by kernel_rfl)
theorem laidOutP:laidOutB Tryz.prog=true:=by kernel_rfl
theorem own:ownKnob Tryz.prog.godebug=none:=by kernel_rfl
end Go.Proofs.YtchgkmdonhdfeaaGreatDoor.Ab
